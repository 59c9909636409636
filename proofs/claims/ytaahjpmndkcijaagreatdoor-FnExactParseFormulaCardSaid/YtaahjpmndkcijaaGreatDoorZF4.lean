/-
  Texts joined in one file: PfV, PfW, PfX, PfY, PfZ, PfE0, PfEb, PfEc, RegV, PfEd, PfEe, PfEh, PfEf.
-/
import Derived.Test.YtaahjpmndkcijaaGreatDoorZF1
import Derived.Test.YtaahjpmndkcijaaGreatDoorZF2
import Derived.Test.YtaahjpmndkcijaaGreatDoorZF3
import Derived.Deep.RegionHeld3
/-
  Formulas parsed: the reference reads a simple formula that begins with no word.
-/
namespace Go.Proofs.YtaahjpmndkcijaaGreatDoor
open Go.RowKit

/-- what the reference's readers return: items and where they end, or the first error. -/
def FmS (n : Nat) (r : Except Nat (Fm × Nat)) (w : World) (e : Ending) (w' : World) : Prop :=
  (match r with
  | .ok (fm, p) => ∃ (v : Value) (L : List Itm), e = .returned (.tuple #[v, .int .i64 p, .bool true]) ∧ NwI w w' v L ∧ ItF fm L ∧ L.length ≤ p - n
  | .error a => e = .returned (.tuple #[.slice none 0 0, .int .i64 a, .bool false])) ∧ Upd [] w w'
theorem sim_end {s : List UInt8} {k n : Nat} (h : skR s n = s.length) : simF s (k + 1) n = .error s.length := by
  have hw : wordE s s.length = s.length := by have := wordE_le (s := s) (n := s.length) (Nat.le_refl _); omega
  have hb : ∀ c, isB s s.length c = false := fun c => by unfold isB; rw [List.getElem?_eq_none (by omega)]; rfl
  rw [simF, h, hb, hb, hb, hw, show cutS s s.length s.length = [] by simp [cutS], show vrF s s.length = none by unfold vrF; rw [hb]; rfl]
  simp [wTrue, wFalse, wMu, wNu]

set_option maxRecDepth 20000 in
set_option maxHeartbeats 4000000 in
theorem sendS (k : Nat) (w : World) (s : List UInt8) (n : Nat) (hs : s.length ≤ 400) (hn : n ≤ s.length) (he : skR s n = s.length) :
    Calls Tryz.prog 52 #[es s, .int .i64 n] w (FmS n (simF s (k + 1) n) w) := by
  have K0 := l04SkipS s n w (by omega) hn
  rw [show skF s n = skR s n from rfl, he] at K0
  rw [sim_end he]
  have HK0 := Lib.hid K0
  clear K0
  go_enter Tryz.func52, Tryz.ntmps52
  go_wp2_with fail
  refine HK0.out.mono ?_
  rintro e w1 ⟨rfl, hww⟩
  subst hww
  clear HK0
  go_wp2_with fail
  go_ret3
  exact ⟨rfl, Upd.refl _ _⟩

set_option maxRecDepth 20000 in
set_option maxHeartbeats 8000000 in
theorem sparS (k : Nat) (w : World) (s : List UInt8) (n : Nat)  (hs : s.length ≤ 400) (hn : n ≤ s.length)
    (h40 : isB s (skR s n) 40 = true)
    (hO : ∀ W n', n < n' → n' ≤ s.length → Calls Tryz.prog 33 #[es s, .int .i64 n'] W (FmS n' (orF s k n') W)) :
    Calls Tryz.prog 52 #[es s, .int .i64 n] w (FmS n (simF s (k + 1) n) w) := by
  have hpos := skR_le hn
  have K0 := l04SkipS s n w (by omega) hn
  rw [show skF s n = skR s n from rfl] at K0
  have HX := Lib.hid (sim_par (k := k) h40)
  have hlt := isB_lt h40
  have HO := Lib.hid hO
  clear hO
  generalize simF s (k + 1) n = A at *
  generalize skR s n = m at *
  have hm1 := hpos.1
  have HK0 := Lib.hid K0
  clear K0 hpos
  obtain ⟨b, hb⟩ : ∃ b, s[m] = b := ⟨_, rfl⟩
  have hix : (⟨s.toArray⟩ : ByteArray)[m]'(by simpa [ByteArray.size] using hlt) = b := by rw [← hb]; simp [ByteArray.getElem_eq_getElem_data]
  have hkl : (m : Int) < (s.length : Int) := by omega
  have hne : ¬ (m : Int) = (s.length : Int) := by omega
  have hneb : ((m : Int) == (s.length : Int)) = false := by simpa using hne
  have q40 := byteU b 40 (by omega)
  rw [show UInt8.ofNat 40 = 40 from rfl, ← hb, ← isB_at hlt, h40, hb, show ((40 : Nat) : Int) = 40 from rfl] at q40
  have O1 := HO.out w (m + 1) (by omega) (by omega)
  clear hb h40 HO
  cases ho : orF s k (m + 1) with
  | error a =>
    rw [ho] at O1
    have HO1 := Lib.hid O1
    have HZ := Lib.hid (show A = .error a from by rw [HX.out, ho])
    clear O1 ho HX
    go_enter Tryz.func52, Tryz.ntmps52
    go_wp2_with fail
    refine HK0.out.mono ?_
    rintro e w1 ⟨rfl, hww⟩
    subst hww
    clear HK0
    go_wp2_with fail
    refine HO1.out.mono ?_
    rintro e w3 ⟨rfl, hu3⟩
    have HU3 := Lib.hid hu3
    clear HO1 hu3
    go_wp2_with fail
    go_ret3
    rw [HZ.out]
    exact ⟨rfl, HU3.out⟩
  | ok r =>
    obtain ⟨fm, p⟩ := r
    rw [ho] at O1
    have hp := orF_pos k _ fm p (by omega) ho
    have hp1 := hp.1
    have hp2 := hp.2.1
    have HO1 := Lib.hid O1
    have HY := Lib.hid (show A = (if isB s p 41 then .ok (fm, p + 1) else .error p) from by rw [HX.out, ho])
    have I2 := Lib.hid (fun W => isBS s p 41 41 rfl W (by omega) hp2)
    clear O1 ho HX hp
    go_enter Tryz.func52, Tryz.ntmps52
    go_wp2_with fail
    refine HK0.out.mono ?_
    rintro e w1 ⟨rfl, hww⟩
    subst hww
    clear HK0
    go_wp2_with fail
    refine HO1.out.mono ?_
    rintro e w3 ⟨⟨v, L, rfl, hn3, hi3, hl3⟩, hu3⟩
    obtain ⟨av, cv, rfl⟩ := hn3.form
    have HN := Lib.hid hn3
    have HI := Lib.hid hi3
    have HU3 := Lib.hid hu3
    clear HO1 hn3 hi3 hu3
    cases hq : isB s p 41 with
    | false =>
      rw [hq] at I2
      have HZ := Lib.hid (show A = .error p from by rw [HY.out, hq]; rfl)
      clear HY hq
      go_wp2_with fail
      refine (I2.out _).mono ?_
      rintro e w4 ⟨rfl, hww⟩
      subst hww
      clear I2
      go_wp2_with fail
      go_ret3
      rw [HZ.out]
      exact ⟨rfl, HU3.out⟩
    | true =>
      have hlt2 := isB_lt hq
      rw [hq] at I2
      have HZ := Lib.hid (show A = .ok (fm, p + 1) from by rw [HY.out, hq]; rfl)
      clear HY hq
      go_wp2_with fail
      refine (I2.out _).mono ?_
      rintro e w4 ⟨rfl, hww⟩
      subst hww
      clear I2
      go_wp2_with fail
      go_ret3
      rw [HZ.out]
      exact ⟨⟨_, L, rfl, HN.out, HI.out, by omega⟩, HU3.out⟩

set_option maxRecDepth 20000 in
set_option maxHeartbeats 8000000 in
theorem sdiaS (k : Nat) (w : World) (s : List UInt8) (n : Nat)  (hs : s.length ≤ 400) (hn : n ≤ s.length)
    (h40 : isB s (skR s n) 40 = false) (h60 : isB s (skR s n) 60 = true) (h91 : isB s (skR s n) 91 = false)
    (hI : ∀ W n', n < n' → n' ≤ s.length → Calls Tryz.prog 52 #[es s, .int .i64 n'] W (FmS n' (simF s k n') W)) :
    Calls Tryz.prog 52 #[es s, .int .i64 n] w (FmS n (simF s (k + 1) n) w) := by
  have hpos := skR_le hn
  have K0 := l04SkipS s n w (by omega) hn
  rw [show skF s n = skR s n from rfl] at K0
  have HX := Lib.hid (sim_dia (k := k) h40 h60 h91)
  have hlt := isB_lt h60
  obtain ⟨i0, hi, hz0, hz1, hz2⟩ := info_parts Tryz.infoIt
  have HI := Lib.hid hI
  clear hI
  generalize simF s (k + 1) n = A at *
  generalize skR s n = m at *
  have hm1 := hpos.1
  have HK0 := Lib.hid K0
  clear K0 hpos
  obtain ⟨b, hb⟩ : ∃ b, s[m] = b := ⟨_, rfl⟩
  have hix : (⟨s.toArray⟩ : ByteArray)[m]'(by simpa [ByteArray.size] using hlt) = b := by rw [← hb]; simp [ByteArray.getElem_eq_getElem_data]
  have hkl : (m : Int) < (s.length : Int) := by omega
  have hne : ¬ (m : Int) = (s.length : Int) := by omega
  have hneb : ((m : Int) == (s.length : Int)) = false := by simpa using hne
  have q40 := byteU b 40 (by omega)
  rw [show UInt8.ofNat 40 = 40 from rfl, ← hb, ← isB_at hlt, h40, hb, show ((40 : Nat) : Int) = 40 from rfl] at q40
  have q60 := byteU b 60 (by omega)
  rw [show UInt8.ofNat 60 = 60 from rfl, ← hb, ← isB_at hlt, h60, hb, show ((60 : Nat) : Int) = 60 from rfl] at q60
  have q91 := byteU b 91 (by omega)
  rw [show UInt8.ofNat 91 = 91 from rfl, ← hb, ← isB_at hlt, h91, hb, show ((91 : Nat) : Int) = 91 from rfl] at q91
  obtain ⟨T, hT⟩ : ∃ T, w.heap.size = T := ⟨_, rfl⟩
  have r0 : RowAt (w.alloc (.cells #[ei 4, ei 0, es [], .bool false, .slice none 0 0, ei m] 82)) T 82 [ei 4, ei 0, es [], .bool false, .slice none 0 0, ei m] := by rw [← hT]; exact RowAt.new w _ _
  have u0 : Upd [] w (w.alloc (.cells #[ei 4, ei 0, es [], .bool false, .slice none 0 0, ei m] 82)) := (Upd.refl _ _).alloc _
  obtain ⟨w2, hw2⟩ : ∃ w2, (w.alloc (.cells #[ei 4, ei 0, es [], .bool false, .slice none 0 0, ei m] 82)) = w2 := ⟨_, rfl⟩
  rw [hw2] at r0 u0
  have R1 := ((specR s (by omega) (3 * s.length + 3) (m + 1) w2 (by omega)).2.2 (by omega))
  rw [show eitherF s (3 * s.length + 3) (m + 1) = regP s (m + 1) from rfl] at R1
  have HR0 := Lib.hid (show RowAt w2 T 82 [ei 4, ei 0, es [], .bool false, .slice none 0 0, ei m] from r0)
  have HU0 := Lib.hid u0
  have HR1 := Lib.hid R1
  clear hb r0 u0 R1
  go_enter Tryz.func52, Tryz.ntmps52
  go_wp2_with fail
  refine HK0.out.mono ?_
  rintro e w1 ⟨rfl, hww⟩
  subst hww
  clear HK0
  go_wp2_with fail
  have HT := Lib.hid hT
  clear hw2 hT
  cases hp : regP s (m + 1) with
  | error a =>
    rw [hp] at HR1
    have HZ := Lib.hid (show A = .error a from by rw [HX.out, mdP, hp])
    clear HX hp HI HR0
    refine HR1.out.mono ?_
    rintro e w3 ⟨rfl, hu3⟩
    have HU3 := Lib.hid (HU0.out.trans hu3)
    clear HR1 hu3
    go_wp2_with fail
    go_ret3
    rw [HZ.out]
    exact ⟨rfl, HU3.out⟩
  | ok r =>
    obtain ⟨x, p⟩ := r
    rw [hp] at HR1
    have hpp := eitherF_pos _ (m + 1) x p (by omega) hp
    have hp1 := hpp.1
    have hp2 := hpp.2.1
    have HY := Lib.hid (show A = (if isB s p 62 then (match simF s k (p + 1) with | .error e => .error e | .ok (f, q) => .ok (.modal false x m f, q)) else .error p) from by rw [HX.out, mdP, hp]; rfl)
    have I2 := Lib.hid (fun W => isBS s p 62 62 rfl W (by omega) hp2)
    clear HX hp hpp
    refine HR1.out.mono ?_
    rintro e w3 ⟨⟨⟨v, rfl, hn3⟩, -, -⟩, hu3⟩
    obtain ⟨av, cv, rfl⟩ := hn3.form
    have r3 := HR0.out.upd hu3 (by simp)
    have HU3 := Lib.hid (HU0.out.trans hu3)
    have hTl : T < w2.heap.size := HR0.out.lt
    clear HR1 hu3
    cases hq : isB s p 62 with
    | false =>
      rw [hq] at I2
      have HZ := Lib.hid (show A = .error p from by rw [HY.out, hq]; rfl)
      clear HY hq hn3 HI r3 HR0
      go_wp2_with fail
      refine (I2.out _).mono ?_
      rintro e w4 ⟨rfl, hww⟩
      subst hww
      clear I2
      go_wp2_with fail
      go_ret3
      rw [HZ.out]
      exact ⟨rfl, HU3.out⟩
    | true =>
      have hlt2 := isB_lt hq
      rw [hq] at I2
      have HY2 := Lib.hid (show A = (match simF s k (p + 1) with | .error e => .error e | .ok (f, q) => .ok (.modal false x m f, q)) from by rw [HY.out, hq]; rfl)
      have c4 := r3.cell 4 _ rfl
      have f4 := r3.fz 4
      obtain ⟨fp, g1, g2, g3⟩ := hn3
      have hv4 : Upd [T] w3 (w3.setCell ⟨T, 4, none⟩ (.slice av (flatT x).length cv)) := (Upd.refl [T] w3).setCell (Or.inr (by simp)) _
      have g4 := R_G1k.upd g1 hv4 (fun b hb hm => by have := g3 b hb; have : b = T := by simpa using hm
                                                     omega)
      have r4 := r3.store 4 (.slice av (flatT x).length cv)
      have hu4 : Upd [] w (w3.setCell ⟨T, 4, none⟩ (.slice av (flatT x).length cv)) := HU3.out.setCell (Or.inl (by rw [HT.out]; exact Nat.le_refl _)) _
      obtain ⟨w4, hw4⟩ : ∃ w4, w3.setCell ⟨T, 4, none⟩ (.slice av (flatT x).length cv) = w4 := ⟨_, rfl⟩
      rw [hw4] at g4 r4 hu4
      have I3 := HI.out w4 (p + 1) (by omega) (by omega)
      have HG4 := Lib.hid g4
      have HG3 := Lib.hid (show ∀ b ∈ fp, w.heap.size ≤ b from fun b hb => Nat.le_trans HU0.out.size (g3 b hb))
      have HR4 := Lib.hid (show RowAt w4 T 82 [ei 4, ei 0, es [], .bool false, .slice av (flatT x).length cv, ei m] from r4)
      have HU4 := Lib.hid hu4
      clear HY hq HI r3 HR0 HU3 hv4 g1 g2 g3 g4 r4 hu4
      go_wp2_with fail
      refine (I2.out _).mono ?_
      rintro e wx ⟨rfl, hww⟩
      subst hww
      clear I2
      cases hsm : simF s k (p + 1) with
      | error a =>
        rw [hsm] at I3
        have HZ := Lib.hid (show A = .error a from by rw [HY2.out, hsm])
        have HI3 := Lib.hid I3
        clear I3 hsm HY2
        go_wp2_with fail
        refine HI3.out.mono ?_
        rintro e w5 ⟨rfl, hu5⟩
        have HU5 := Lib.hid (HU4.out.trans hu5)
        clear HI3 hu5 hw4
        go_wp2_with fail
        go_ret3
        rw [HZ.out]
        exact ⟨rfl, HU5.out⟩
      | ok r =>
        obtain ⟨fm, q⟩ := r
        rw [hsm] at I3
        have hq2 := simF_pos k _ fm q (by omega) hsm
        have hq3 := hq2.1
        have hq4 := hq2.2
        have HZ := Lib.hid (show A = .ok (.modal false x m fm, q) from by rw [HY2.out, hsm])
        have HI3 := Lib.hid I3
        clear I3 hsm HY2 hq2
        go_wp2_with fail
        refine HI3.out.mono ?_
        rintro e w5 ⟨⟨v5, L, rfl, hn5, hf5, hl5⟩, hu5⟩
        obtain ⟨a5, c5, rfl⟩ := hn5.form
        have r5 := HR4.out.upd hu5 (by simp)
        have d0 := r5.cell 0 _ rfl
        have d1 := r5.cell 1 _ rfl
        have d2 := r5.cell 2 _ rfl
        have d3 := r5.cell 3 _ rfl
        have d4 := r5.cell 4 _ rfl
        have d5 := r5.cell 5 _ rfl
        have hown : (w5.alloc (.cells #[ei 4, ei 0, es [], .bool false, .slice av (flatT x).length cv, ei m] 82)).ownsRow w5.heap.size 82 6 (.slice (some ⟨w5.heap.size, 0, none⟩) 1 1) 1 [ei 4, ei 0, es [], .bool false, .slice av (flatT x).length cv, ei m] :=
          World.ownsRow_lit (base := w5.heap.size) (e := 82) (size := 6) w5 #[ei 4, ei 0, es [], .bool false, .slice av (flatT x).length cv, ei m] 1 (Nat.le_refl _) (by simp [maxLen]) (by simp)
        obtain ⟨us, hr5, hc5⟩ := hn5
        have hal := (Upd.refl [] w5).alloc (.cells #[ei 4, ei 0, es [], .bool false, .slice av (flatT x).length cv, ei m] 82)
        have hr6 := ownsRow_upd hr5 hal
        obtain ⟨f6, hf6, -⟩ := Flat.ofOwns hr6
        have HOW := Lib.hid hown
        have HC5 := Lib.hid hc5
        have HF6 := Lib.hid hf6
        have HF5 := Lib.hid hf5
        have hu46 := hu5.alloc (.cells #[ei 4, ei 0, es [], .bool false, .slice av (flatT x).length cv, ei m] 82)
        have HU46 := Lib.hid hu46
        have hs45 := hu5.size
        have hs04 := HU4.out.size
        have HAL := Lib.hid hal
        clear HI3 hf5 hu5 r5 hown hr5 hr6 hc5 hf6 hu46 hw4 hal
        go_wp2_with (first
          | (at_builtin; refine wpList_append_flat rfl _ _ 70 rfl w5.heap.size 82 i0 (.agg #[.int .i64 0, .int .i64 0, .string ⟨#[]⟩, .bool false, .slice none 0 0, .int .i64 0]) 6 72 Tryz.underlying70 hi hz0 hz1 hz2 rfl (by decide) _ _ _ rfl HOW.out _ L.length us rfl _ HF6.out (ItC.one _ _ HC5.out) (by unfold maxLen; omega) (by omega) (by simp) ?_)
          | fail)
        intro v7 w7 hown7 hg7 ht7
        obtain ⟨a7, k7, rfl⟩ := ownsRow_form hown7
        have hu47 := HU46.out.grown hg7 (fun k hk => Or.inl (by have := (HOW.out.lt k hk).1; omega))
        have hc7 := ItC.upd (HAL.out.grown hg7 (fun k hk => Or.inl (HOW.out.lt k hk).1)) _ _ HC5.out
        have hg77 := R_G1k.upd HG4.out hu47 (by simp)
        have hcc : ItC (fun b => w.heap.size ≤ b) w7 (⟨ndK 4, flatT x, m⟩ :: L) ([ei 4, ei 0, es [], .bool false, .slice av (flatT x).length cv, ei m] ++ us) := ⟨_, us, rfl, ⟨fp, hg77, HG3.out⟩, ItC.mono (fun b _ h => Nat.le_trans hs04 h) _ _ hc7⟩
        have HN7 := Lib.hid (show NwI w w7 (.slice a7 (1 + L.length) k7) (⟨ndK 4, flatT x, m⟩ :: L) from ⟨_, by rw [show (⟨ndK 4, flatT x, m⟩ :: L : List Itm).length = 1 + L.length by simp; omega]; exact row_base hown7 (by omega), hcc⟩)
        have HU7 := Lib.hid (HU4.out.trans hu47)
        clear hown7 hg7 ht7 hu47 hc7 hg77 hcc HOW HF6 HC5 HG4 HU4 HU46 HAL
        go_wp2_with fail
        go_ret3
        rw [HZ.out]
        exact ⟨⟨_, _, rfl, HN7.out, ⟨L, rfl, HF5.out⟩, by simp only [List.length_cons]; omega⟩, HU7.out⟩

set_option maxRecDepth 20000 in
set_option maxHeartbeats 8000000 in
theorem sboxS (k : Nat) (w : World) (s : List UInt8) (n : Nat)  (hs : s.length ≤ 400) (hn : n ≤ s.length)
    (h40 : isB s (skR s n) 40 = false) (h60 : isB s (skR s n) 60 = false) (h91 : isB s (skR s n) 91 = true)
    (hI : ∀ W n', n < n' → n' ≤ s.length → Calls Tryz.prog 52 #[es s, .int .i64 n'] W (FmS n' (simF s k n') W)) :
    Calls Tryz.prog 52 #[es s, .int .i64 n] w (FmS n (simF s (k + 1) n) w) := by
  have hpos := skR_le hn
  have K0 := l04SkipS s n w (by omega) hn
  rw [show skF s n = skR s n from rfl] at K0
  have HX := Lib.hid (sim_box (k := k) h40 h91)
  have hlt := isB_lt h91
  obtain ⟨i0, hi, hz0, hz1, hz2⟩ := info_parts Tryz.infoIt
  have HI := Lib.hid hI
  clear hI
  generalize simF s (k + 1) n = A at *
  generalize skR s n = m at *
  have hm1 := hpos.1
  have HK0 := Lib.hid K0
  clear K0 hpos
  obtain ⟨b, hb⟩ : ∃ b, s[m] = b := ⟨_, rfl⟩
  have hix : (⟨s.toArray⟩ : ByteArray)[m]'(by simpa [ByteArray.size] using hlt) = b := by rw [← hb]; simp [ByteArray.getElem_eq_getElem_data]
  have hkl : (m : Int) < (s.length : Int) := by omega
  have hne : ¬ (m : Int) = (s.length : Int) := by omega
  have hneb : ((m : Int) == (s.length : Int)) = false := by simpa using hne
  have q40 := byteU b 40 (by omega)
  rw [show UInt8.ofNat 40 = 40 from rfl, ← hb, ← isB_at hlt, h40, hb, show ((40 : Nat) : Int) = 40 from rfl] at q40
  have q60 := byteU b 60 (by omega)
  rw [show UInt8.ofNat 60 = 60 from rfl, ← hb, ← isB_at hlt, h60, hb, show ((60 : Nat) : Int) = 60 from rfl] at q60
  have q91 := byteU b 91 (by omega)
  rw [show UInt8.ofNat 91 = 91 from rfl, ← hb, ← isB_at hlt, h91, hb, show ((91 : Nat) : Int) = 91 from rfl] at q91
  obtain ⟨T, hT⟩ : ∃ T, w.heap.size = T := ⟨_, rfl⟩
  have r0 : RowAt (w.alloc (.cells #[ei 4, ei 0, es [], .bool false, .slice none 0 0, ei m] 82)) T 82 [ei 4, ei 0, es [], .bool false, .slice none 0 0, ei m] := by rw [← hT]; exact RowAt.new w _ _
  have u0 : Upd [] w (w.alloc (.cells #[ei 4, ei 0, es [], .bool false, .slice none 0 0, ei m] 82)) := (Upd.refl _ _).alloc _
  have r0c := r0.cell 0 _ rfl
  have r0f := r0.fz 0
  have r0 := r0.store 0 (ei 5)
  have u0 := u0.setCell (p := ⟨T, 0, none⟩) (Or.inl (by simp; omega)) (ei 5)
  obtain ⟨w2, hw2⟩ : ∃ w2, (w.alloc (.cells #[ei 4, ei 0, es [], .bool false, .slice none 0 0, ei m] 82)).setCell ⟨T, 0, none⟩ (ei 5) = w2 := ⟨_, rfl⟩
  rw [hw2] at r0 u0
  have R1 := ((specR s (by omega) (3 * s.length + 3) (m + 1) w2 (by omega)).2.2 (by omega))
  rw [show eitherF s (3 * s.length + 3) (m + 1) = regP s (m + 1) from rfl] at R1
  have HR0 := Lib.hid (show RowAt w2 T 82 [ei 5, ei 0, es [], .bool false, .slice none 0 0, ei m] from r0)
  have HU0 := Lib.hid u0
  have HR1 := Lib.hid R1
  clear hb r0 u0 R1
  go_enter Tryz.func52, Tryz.ntmps52
  go_wp2_with fail
  refine HK0.out.mono ?_
  rintro e w1 ⟨rfl, hww⟩
  subst hww
  clear HK0
  go_wp2_with fail
  have HT := Lib.hid hT
  clear hw2 hT
  cases hp : regP s (m + 1) with
  | error a =>
    rw [hp] at HR1
    have HZ := Lib.hid (show A = .error a from by rw [HX.out, mdP, hp])
    clear HX hp HI HR0
    refine HR1.out.mono ?_
    rintro e w3 ⟨rfl, hu3⟩
    have HU3 := Lib.hid (HU0.out.trans hu3)
    clear HR1 hu3
    go_wp2_with fail
    go_ret3
    rw [HZ.out]
    exact ⟨rfl, HU3.out⟩
  | ok r =>
    obtain ⟨x, p⟩ := r
    rw [hp] at HR1
    have hpp := eitherF_pos _ (m + 1) x p (by omega) hp
    have hp1 := hpp.1
    have hp2 := hpp.2.1
    have HY := Lib.hid (show A = (if isB s p 93 then (match simF s k (p + 1) with | .error e => .error e | .ok (f, q) => .ok (.modal true x m f, q)) else .error p) from by rw [HX.out, mdP, hp]; rfl)
    have I2 := Lib.hid (fun W => isBS s p 93 93 rfl W (by omega) hp2)
    clear HX hp hpp
    refine HR1.out.mono ?_
    rintro e w3 ⟨⟨⟨v, rfl, hn3⟩, -, -⟩, hu3⟩
    obtain ⟨av, cv, rfl⟩ := hn3.form
    have r3 := HR0.out.upd hu3 (by simp)
    have HU3 := Lib.hid (HU0.out.trans hu3)
    have hTl : T < w2.heap.size := HR0.out.lt
    clear HR1 hu3
    cases hq : isB s p 93 with
    | false =>
      rw [hq] at I2
      have HZ := Lib.hid (show A = .error p from by rw [HY.out, hq]; rfl)
      clear HY hq hn3 HI r3 HR0
      go_wp2_with fail
      refine (I2.out _).mono ?_
      rintro e w4 ⟨rfl, hww⟩
      subst hww
      clear I2
      go_wp2_with fail
      go_ret3
      rw [HZ.out]
      exact ⟨rfl, HU3.out⟩
    | true =>
      have hlt2 := isB_lt hq
      rw [hq] at I2
      have HY2 := Lib.hid (show A = (match simF s k (p + 1) with | .error e => .error e | .ok (f, q) => .ok (.modal true x m f, q)) from by rw [HY.out, hq]; rfl)
      have c4 := r3.cell 4 _ rfl
      have f4 := r3.fz 4
      obtain ⟨fp, g1, g2, g3⟩ := hn3
      have hv4 : Upd [T] w3 (w3.setCell ⟨T, 4, none⟩ (.slice av (flatT x).length cv)) := (Upd.refl [T] w3).setCell (Or.inr (by simp)) _
      have g4 := R_G1k.upd g1 hv4 (fun b hb hm => by have := g3 b hb; have : b = T := by simpa using hm
                                                     omega)
      have r4 := r3.store 4 (.slice av (flatT x).length cv)
      have hu4 : Upd [] w (w3.setCell ⟨T, 4, none⟩ (.slice av (flatT x).length cv)) := HU3.out.setCell (Or.inl (by rw [HT.out]; exact Nat.le_refl _)) _
      obtain ⟨w4, hw4⟩ : ∃ w4, w3.setCell ⟨T, 4, none⟩ (.slice av (flatT x).length cv) = w4 := ⟨_, rfl⟩
      rw [hw4] at g4 r4 hu4
      have I3 := HI.out w4 (p + 1) (by omega) (by omega)
      have HG4 := Lib.hid g4
      have HG3 := Lib.hid (show ∀ b ∈ fp, w.heap.size ≤ b from fun b hb => Nat.le_trans HU0.out.size (g3 b hb))
      have HR4 := Lib.hid (show RowAt w4 T 82 [ei 5, ei 0, es [], .bool false, .slice av (flatT x).length cv, ei m] from r4)
      have HU4 := Lib.hid hu4
      clear HY hq HI r3 HR0 HU3 hv4 g1 g2 g3 g4 r4 hu4
      go_wp2_with fail
      refine (I2.out _).mono ?_
      rintro e wx ⟨rfl, hww⟩
      subst hww
      clear I2
      cases hsm : simF s k (p + 1) with
      | error a =>
        rw [hsm] at I3
        have HZ := Lib.hid (show A = .error a from by rw [HY2.out, hsm])
        have HI3 := Lib.hid I3
        clear I3 hsm HY2
        go_wp2_with fail
        refine HI3.out.mono ?_
        rintro e w5 ⟨rfl, hu5⟩
        have HU5 := Lib.hid (HU4.out.trans hu5)
        clear HI3 hu5 hw4
        go_wp2_with fail
        go_ret3
        rw [HZ.out]
        exact ⟨rfl, HU5.out⟩
      | ok r =>
        obtain ⟨fm, q⟩ := r
        rw [hsm] at I3
        have hq2 := simF_pos k _ fm q (by omega) hsm
        have hq3 := hq2.1
        have hq4 := hq2.2
        have HZ := Lib.hid (show A = .ok (.modal true x m fm, q) from by rw [HY2.out, hsm])
        have HI3 := Lib.hid I3
        clear I3 hsm HY2 hq2
        go_wp2_with fail
        refine HI3.out.mono ?_
        rintro e w5 ⟨⟨v5, L, rfl, hn5, hf5, hl5⟩, hu5⟩
        obtain ⟨a5, c5, rfl⟩ := hn5.form
        have r5 := HR4.out.upd hu5 (by simp)
        have d0 := r5.cell 0 _ rfl
        have d1 := r5.cell 1 _ rfl
        have d2 := r5.cell 2 _ rfl
        have d3 := r5.cell 3 _ rfl
        have d4 := r5.cell 4 _ rfl
        have d5 := r5.cell 5 _ rfl
        have hown : (w5.alloc (.cells #[ei 5, ei 0, es [], .bool false, .slice av (flatT x).length cv, ei m] 82)).ownsRow w5.heap.size 82 6 (.slice (some ⟨w5.heap.size, 0, none⟩) 1 1) 1 [ei 5, ei 0, es [], .bool false, .slice av (flatT x).length cv, ei m] :=
          World.ownsRow_lit (base := w5.heap.size) (e := 82) (size := 6) w5 #[ei 5, ei 0, es [], .bool false, .slice av (flatT x).length cv, ei m] 1 (Nat.le_refl _) (by simp [maxLen]) (by simp)
        obtain ⟨us, hr5, hc5⟩ := hn5
        have hal := (Upd.refl [] w5).alloc (.cells #[ei 5, ei 0, es [], .bool false, .slice av (flatT x).length cv, ei m] 82)
        have hr6 := ownsRow_upd hr5 hal
        obtain ⟨f6, hf6, -⟩ := Flat.ofOwns hr6
        have HOW := Lib.hid hown
        have HC5 := Lib.hid hc5
        have HF6 := Lib.hid hf6
        have HF5 := Lib.hid hf5
        have hu46 := hu5.alloc (.cells #[ei 5, ei 0, es [], .bool false, .slice av (flatT x).length cv, ei m] 82)
        have HU46 := Lib.hid hu46
        have hs45 := hu5.size
        have hs04 := HU4.out.size
        have HAL := Lib.hid hal
        clear HI3 hf5 hu5 r5 hown hr5 hr6 hc5 hf6 hu46 hw4 hal
        go_wp2_with (first
          | (at_builtin; refine wpList_append_flat rfl _ _ 70 rfl w5.heap.size 82 i0 (.agg #[.int .i64 0, .int .i64 0, .string ⟨#[]⟩, .bool false, .slice none 0 0, .int .i64 0]) 6 72 Tryz.underlying70 hi hz0 hz1 hz2 rfl (by decide) _ _ _ rfl HOW.out _ L.length us rfl _ HF6.out (ItC.one _ _ HC5.out) (by unfold maxLen; omega) (by omega) (by simp) ?_)
          | fail)
        intro v7 w7 hown7 hg7 ht7
        obtain ⟨a7, k7, rfl⟩ := ownsRow_form hown7
        have hu47 := HU46.out.grown hg7 (fun k hk => Or.inl (by have := (HOW.out.lt k hk).1; omega))
        have hc7 := ItC.upd (HAL.out.grown hg7 (fun k hk => Or.inl (HOW.out.lt k hk).1)) _ _ HC5.out
        have hg77 := R_G1k.upd HG4.out hu47 (by simp)
        have hcc : ItC (fun b => w.heap.size ≤ b) w7 (⟨ndK 5, flatT x, m⟩ :: L) ([ei 5, ei 0, es [], .bool false, .slice av (flatT x).length cv, ei m] ++ us) := ⟨_, us, rfl, ⟨fp, hg77, HG3.out⟩, ItC.mono (fun b _ h => Nat.le_trans hs04 h) _ _ hc7⟩
        have HN7 := Lib.hid (show NwI w w7 (.slice a7 (1 + L.length) k7) (⟨ndK 5, flatT x, m⟩ :: L) from ⟨_, by rw [show (⟨ndK 5, flatT x, m⟩ :: L : List Itm).length = 1 + L.length by simp; omega]; exact row_base hown7 (by omega), hcc⟩)
        have HU7 := Lib.hid (HU4.out.trans hu47)
        clear hown7 hg7 ht7 hu47 hc7 hg77 hcc HOW HF6 HC5 HG4 HU4 HU46 HAL
        go_wp2_with fail
        go_ret3
        rw [HZ.out]
        exact ⟨⟨_, _, rfl, HN7.out, ⟨L, rfl, HF5.out⟩, by simp only [List.length_cons]; omega⟩, HU7.out⟩

end Go.Proofs.YtaahjpmndkcijaaGreatDoor

/-
  Formulas parsed: the reference reads a simple formula that begins with a word or a variable.
-/
namespace Go.Proofs.YtaahjpmndkcijaaGreatDoor
open Go.RowKit

set_option maxRecDepth 20000 in
set_option maxHeartbeats 8000000 in
theorem svarS (k : Nat) (w : World) (s : List UInt8) (n : Nat) (v : Int) (e0 : Nat) (hs : s.length ≤ 400) (hn : n ≤ s.length)
    (h40 : isB s (skR s n) 40 = false) (h60 : isB s (skR s n) 60 = false) (h91 : isB s (skR s n) 91 = false) (hlt : skR s n < s.length)
    (t1 : cutS s (skR s n) (wordE s (skR s n)) ≠ wTrue) (t2 : cutS s (skR s n) (wordE s (skR s n)) ≠ wFalse) (t3 : cutS s (skR s n) (wordE s (skR s n)) ≠ wMu) (t4 : cutS s (skR s n) (wordE s (skR s n)) ≠ wNu)
    (hv : vrF s (skR s n) = some (v, e0)) :
    Calls Tryz.prog 52 #[es s, .int .i64 n] w (FmS n (simF s (k + 1) n) w) := by
  have hpos := skR_le hn
  have K0 := l04SkipS s n w (by omega) hn
  rw [show skF s n = skR s n from rfl] at K0
  have HX := Lib.hid (sim_var (k := k) h40 h60 h91 t1 t2 t3 t4)
  clear t1 t2 t3 t4
  generalize simF s (k + 1) n = A at *
  generalize skR s n = m at *
  have hm1 := hpos.1
  have HK0 := Lib.hid K0
  clear K0 hpos
  obtain ⟨b, hb⟩ : ∃ b, s[m] = b := ⟨_, rfl⟩
  have hix : (⟨s.toArray⟩ : ByteArray)[m]'(by simpa [ByteArray.size] using hlt) = b := by rw [← hb]; simp [ByteArray.getElem_eq_getElem_data]
  have hkl : (m : Int) < (s.length : Int) := by omega
  have hne : ¬ (m : Int) = (s.length : Int) := by omega
  have hneb : ((m : Int) == (s.length : Int)) = false := by simpa using hne
  have q40 := byteU b 40 (by omega)
  rw [show UInt8.ofNat 40 = 40 from rfl, ← hb, ← isB_at hlt, h40, hb, show ((40 : Nat) : Int) = 40 from rfl] at q40
  have q60 := byteU b 60 (by omega)
  rw [show UInt8.ofNat 60 = 60 from rfl, ← hb, ← isB_at hlt, h60, hb, show ((60 : Nat) : Int) = 60 from rfl] at q60
  have q91 := byteU b 91 (by omega)
  rw [show UInt8.ofNat 91 = 91 from rfl, ← hb, ← isB_at hlt, h91, hb, show ((91 : Nat) : Int) = 91 from rfl] at q91
  have V1 := varS s m w (by omega) (by omega)
  rw [hv] at V1
  have HV1 := Lib.hid (show Calls Tryz.prog 66 #[es s, .int .i64 m] w fun e w' => e = .returned (.tuple #[.int .i64 v, .int .i64 e0]) ∧ w = w' from V1)
  have HZ := Lib.hid (show A = .ok (.var v m, e0) from by rw [HX.out, hv])
  have hvl := vrF_lt hv
  have hvp := vrF_pos hv
  have hv0 := hvl.1
  have hv1 := hvl.2
  have hown : (w.alloc (.cells #[ei 6, ei v, es [], .bool false, .slice none 0 0, ei m] 82)).ownsRow w.heap.size 82 6 (.slice (some ⟨w.heap.size, 0, none⟩) 1 1) 1 [ei 6, ei v, es [], .bool false, .slice none 0 0, ei m] :=
    World.ownsRow_lit (base := w.heap.size) (e := 82) (size := 6) w #[ei 6, ei v, es [], .bool false, .slice none 0 0, ei m] 1 (Nat.le_refl _) (by simp [maxLen]) (by simp)
  have HN := Lib.hid (show NwI w (w.alloc (.cells #[ei 6, ei v, es [], .bool false, .slice none 0 0, ei m] 82)) (.slice (some ⟨w.heap.size, 0, none⟩) 1 1) [⟨ndV 6 v, [], m⟩] from ⟨_, hown, ⟨_, [], rfl, nilG _ _, rfl⟩⟩)
  have HU := Lib.hid (show Upd [] w (w.alloc (.cells #[ei 6, ei v, es [], .bool false, .slice none 0 0, ei m] 82)) from (Upd.refl _ _).alloc _)
  clear hb HX V1 hv hvl hown
  go_enter Tryz.func52, Tryz.ntmps52
  go_wp2_with fail
  refine HK0.out.mono ?_
  rintro e w1 ⟨rfl, hww⟩
  subst hww
  clear HK0
  go_wp2_with fail
  refine HV1.out.mono ?_
  rintro e w1 ⟨rfl, hww⟩
  subst hww
  clear HV1
  go_wp2_with fail
  go_ret3
  rw [HZ.out]
  exact ⟨⟨_, _, rfl, HN.out, rfl, by simp; omega⟩, HU.out⟩

set_option maxRecDepth 20000 in
set_option maxHeartbeats 8000000 in
theorem sothS (k : Nat) (w : World) (s : List UInt8) (n : Nat)  (hs : s.length ≤ 400) (hn : n ≤ s.length)
    (h40 : isB s (skR s n) 40 = false) (h60 : isB s (skR s n) 60 = false) (h91 : isB s (skR s n) 91 = false) (hlt : skR s n < s.length)
    (t1 : cutS s (skR s n) (wordE s (skR s n)) ≠ wTrue) (t2 : cutS s (skR s n) (wordE s (skR s n)) ≠ wFalse) (t3 : cutS s (skR s n) (wordE s (skR s n)) ≠ wMu) (t4 : cutS s (skR s n) (wordE s (skR s n)) ≠ wNu)
    (hv : vrF s (skR s n) = none) :
    Calls Tryz.prog 52 #[es s, .int .i64 n] w (FmS n (simF s (k + 1) n) w) := by
  have hpos := skR_le hn
  have K0 := l04SkipS s n w (by omega) hn
  rw [show skF s n = skR s n from rfl] at K0
  have HX := Lib.hid (sim_var (k := k) h40 h60 h91 t1 t2 t3 t4)
  generalize simF s (k + 1) n = A at *
  generalize skR s n = m at *
  have hm1 := hpos.1
  have HK0 := Lib.hid K0
  clear K0 hpos
  obtain ⟨b, hb⟩ : ∃ b, s[m] = b := ⟨_, rfl⟩
  have hix : (⟨s.toArray⟩ : ByteArray)[m]'(by simpa [ByteArray.size] using hlt) = b := by rw [← hb]; simp [ByteArray.getElem_eq_getElem_data]
  have hkl : (m : Int) < (s.length : Int) := by omega
  have hne : ¬ (m : Int) = (s.length : Int) := by omega
  have hneb : ((m : Int) == (s.length : Int)) = false := by simpa using hne
  have q40 := byteU b 40 (by omega)
  rw [show UInt8.ofNat 40 = 40 from rfl, ← hb, ← isB_at hlt, h40, hb, show ((40 : Nat) : Int) = 40 from rfl] at q40
  have q60 := byteU b 60 (by omega)
  rw [show UInt8.ofNat 60 = 60 from rfl, ← hb, ← isB_at hlt, h60, hb, show ((60 : Nat) : Int) = 60 from rfl] at q60
  have q91 := byteU b 91 (by omega)
  rw [show UInt8.ofNat 91 = 91 from rfl, ← hb, ← isB_at hlt, h91, hb, show ((91 : Nat) : Int) = 91 from rfl] at q91
  have HZ := Lib.hid (show A = .error m from by rw [HX.out, hv])
  clear HX
  have hwl := wordE_le (s := s) (n := m) (by omega)
  obtain ⟨Z, hZ⟩ : ∃ Z, wordE s m = Z := ⟨_, rfl⟩
  have HZE := Lib.hid (show wE s m m = Z by unfold wE; rw [if_pos rfl, hZ])
  rw [hZ] at hwl
  have hz1 := hwl.1
  have hz2 := hwl.2
  have HST := Lib.hid (fun k (h : k < s.length) (hm : m ≤ k) => wE_at h hm)
  have HEN := Lib.hid (wE_end (s := s) (m := m))
  have HD := Lib.hid digitS
  have HSM := Lib.hid smallS
  have hext : (⟨s.toArray⟩ : ByteArray).extract m Z = ⟨(cutS s m Z).toArray⟩ := extract_list s m Z
  have V1 := varS s m w (by omega) (by omega)
  rw [hv] at V1
  have HV1 := Lib.hid (show Calls Tryz.prog 66 #[es s, .int .i64 m] w fun e w' => e = .returned (.tuple #[.int .i64 (-1), .int .i64 m]) ∧ w = w' from V1)
  clear V1 hv hwl hb
  rw [hZ] at t1 t2 t3 t4
  have g1 : (cutS s m Z == [116, 114, 117, 101]) = false := by simpa [wTrue] using t1
  have g2 : (cutS s m Z == [102, 97, 108, 115, 101]) = false := by simpa [wFalse] using t2
  have g3 : (cutS s m Z == [109, 117]) = false := by simpa [wMu] using t3
  have g4 : (cutS s m Z == [110, 117]) = false := by simpa [wNu] using t4
  generalize cutS s m Z = t at *
  clear t1 t2 t3 t4 hZ
  go_enter Tryz.func52, Tryz.ntmps52
  go_wp2_with fail
  refine HK0.out.mono ?_
  rintro e w1 ⟨rfl, hww⟩
  subst hww
  clear HK0
  go_wp2_with fail
  refine HV1.out.mono ?_
  rintro e w1 ⟨rfl, hww⟩
  subst hww
  clear HV1
  go_upto_block 0 with (fail)
  go_cut [19] (fun s3 wx => s3 = .int .i64 Z ∧ wx = w)
  case first =>
    go_wp2_with fail
    go_loopw [19] (fun iv wr => ∃ k : Nat, m ≤ k ∧ k ≤ s.length ∧ iv = .int .i64 k ∧ Hid (wE s m k = Z) ∧ wr = w) (fun iv _ => s.length - (intOf iv).toNat)
    case atStart => exact ⟨m, Nat.le_refl _, Nat.le_of_lt hlt, rfl, HZE, rfl⟩
    case round =>
      clear HZE hix
      obtain ⟨wo, rfl⟩ : ∃ wo : World, wo = wr := ⟨_, rfl⟩
      obtain ⟨k, hmk, hk, rfl, HZE, hww⟩ := hrel
      subst hww
      by_cases hlk : k < s.length
      · obtain ⟨b2, hb2⟩ : ∃ b, s[k] = b := ⟨_, rfl⟩
        have hix2 : (⟨s.toArray⟩ : ByteArray)[k]'(by simpa [ByteArray.size] using hlk) = b2 := by rw [← hb2]; simp [ByteArray.getElem_eq_getElem_data]
        have hkl2 : (k : Int) < (s.length : Int) := by omega
        have h1 := HST.out k hlk hmk
        rw [hb2, HZE.out] at h1
        have D1 := Lib.hid (HD.out b2 wo)
        have D2 := Lib.hid (HSM.out b2 wo)
        have HX1 := Lib.hid (show (sml b2 || (decide (m < k) && isDig b2)) = true → wE s m (k + 1) = Z from fun h => by rw [h1, if_pos h])
        have HX0 := Lib.hid (show (sml b2 || (decide (m < k) && isDig b2)) = false → Z = k from fun h => by rw [h1, if_neg (by rw [h]; decide)])
        clear h1 hb2 HST HEN HZE
        generalize sml b2 = q1 at *
        generalize isDig b2 = q2 at *
        cases q1 with
        | true =>
          have HXX := Lib.hid (HX1.out rfl)
          clear HX1 HX0 D1
          go_wp2_with (go_at_call 62; refine D2.out.mono ?_; rintro e w5 ⟨rfl, rfl⟩)
          go_roundw
          case rel => exact ⟨k + 1, by omega, by omega, by go_num, HXX, by first | rfl | trivial⟩
          case measure => simp [intOf]; omega
        | false =>
          rw [Bool.false_or] at HX1 HX0
          by_cases hmk2 : m = k
          · subst hmk2
            have HXX := Lib.hid (HX0.out (by simp))
            clear HX1 HX0 D1
            go_wp2_with (go_at_call 62; refine D2.out.mono ?_; rintro e w5 ⟨rfl, rfl⟩)
            go_meet
            exact ⟨by rw [HXX.out], rfl⟩
          · have hmk3 : (m : Int) < (k : Int) := by omega
            have hd : decide (m < k) = true := decide_eq_true (by omega)
            rw [hd, Bool.true_and] at HX1 HX0
            clear hd
            cases q2 with
            | true =>
              have HXX := Lib.hid (HX1.out rfl)
              clear HX1 HX0
              go_wp2_with (first | (go_at_call 62; refine D2.out.mono ?_; rintro e w5 ⟨rfl, rfl⟩) | (go_at_call 63; refine D1.out.mono ?_; rintro e w5 ⟨rfl, rfl⟩))
              go_roundw
              case rel => exact ⟨k + 1, by omega, by omega, by go_num, HXX, by first | rfl | trivial⟩
              case measure => simp [intOf]; omega
            | false =>
              have HXX := Lib.hid (HX0.out rfl)
              clear HX1 HX0
              go_wp2_with (first | (go_at_call 62; refine D2.out.mono ?_; rintro e w5 ⟨rfl, rfl⟩) | (go_at_call 63; refine D1.out.mono ?_; rintro e w5 ⟨rfl, rfl⟩))
              go_meet
              exact ⟨by rw [HXX.out], rfl⟩
      · have hke : k = s.length := by omega
        subst hke
        have HXX := Lib.hid (show Z = s.length from by rw [← HZE.out]; exact HEN.out)
        clear HZE HST HEN
        go_wp2_with fail
        go_meet
        exact ⟨by rw [HXX.out], rfl⟩
  case rest =>
    obtain ⟨rfl, hww⟩ := hcut
    replace hww := hww.symm
    subst hww
    clear HST HEN HZE HD HSM
    have hmZ : (m : Int) ≤ (Z : Int) := by omega
    have hZl : (Z : Int) ≤ (s.length : Int) := by omega
    go_wp2_with fail
    go_ret3
    rw [HZ.out]
    exact ⟨rfl, (Upd.refl _ _).alloc _⟩

end Go.Proofs.YtaahjpmndkcijaaGreatDoor

/-
  Formulas parsed: the reference reads a simple formula that begins with one of the four words.
-/
namespace Go.Proofs.YtaahjpmndkcijaaGreatDoor
open Go.RowKit

set_option maxRecDepth 20000 in
set_option maxHeartbeats 8000000 in
theorem strueS (k : Nat) (w : World) (s : List UInt8) (n : Nat)  (hs : s.length ≤ 400) (hn : n ≤ s.length)
    (hw : cutS s (skR s n) (wordE s (skR s n)) = wTrue) :
    Calls Tryz.prog 52 #[es s, .int .i64 n] w (FmS n (simF s (k + 1) n) w) := by
  have hpos := skR_le hn
  have K0 := l04SkipS s n w (by omega) hn
  rw [show skF s n = skR s n from rfl] at K0
  have HX := Lib.hid (sim_leaf (k := k) false hw)
  have ht : wTrue ≠ [] := by decide
  have h40 := word_not hw ht 40 (by decide)
  have h60 := word_not hw ht 60 (by decide)
  have h91 := word_not hw ht 91 (by decide)
  have hv := vr_word hw ht
  obtain ⟨hlt, -⟩ := word_first hw ht
  clear ht
  generalize simF s (k + 1) n = A at *
  generalize skR s n = m at *
  have hm1 := hpos.1
  have HK0 := Lib.hid K0
  clear K0 hpos
  obtain ⟨b, hb⟩ : ∃ b, s[m] = b := ⟨_, rfl⟩
  have hix : (⟨s.toArray⟩ : ByteArray)[m]'(by simpa [ByteArray.size] using hlt) = b := by rw [← hb]; simp [ByteArray.getElem_eq_getElem_data]
  have hkl : (m : Int) < (s.length : Int) := by omega
  have hne : ¬ (m : Int) = (s.length : Int) := by omega
  have hneb : ((m : Int) == (s.length : Int)) = false := by simpa using hne
  have q40 := byteU b 40 (by omega)
  rw [show UInt8.ofNat 40 = 40 from rfl, ← hb, ← isB_at hlt, h40, hb, show ((40 : Nat) : Int) = 40 from rfl] at q40
  have q60 := byteU b 60 (by omega)
  rw [show UInt8.ofNat 60 = 60 from rfl, ← hb, ← isB_at hlt, h60, hb, show ((60 : Nat) : Int) = 60 from rfl] at q60
  have q91 := byteU b 91 (by omega)
  rw [show UInt8.ofNat 91 = 91 from rfl, ← hb, ← isB_at hlt, h91, hb, show ((91 : Nat) : Int) = 91 from rfl] at q91
  have hwl := wordE_le (s := s) (n := m) (by omega)
  obtain ⟨Z, hZ⟩ : ∃ Z, wordE s m = Z := ⟨_, rfl⟩
  have HZE := Lib.hid (show wE s m m = Z by unfold wE; rw [if_pos rfl, hZ])
  rw [hZ] at hwl
  have hz1 := hwl.1
  have hz2 := hwl.2
  have HST := Lib.hid (fun k (h : k < s.length) (hm : m ≤ k) => wE_at h hm)
  have HEN := Lib.hid (wE_end (s := s) (m := m))
  have HD := Lib.hid digitS
  have HSM := Lib.hid smallS
  have hext : (⟨s.toArray⟩ : ByteArray).extract m Z = ⟨(cutS s m Z).toArray⟩ := extract_list s m Z
  have V1 := varS s m w (by omega) (by omega)
  rw [hv] at V1
  have HV1 := Lib.hid (show Calls Tryz.prog 66 #[es s, .int .i64 m] w fun e w' => e = .returned (.tuple #[.int .i64 (-1), .int .i64 m]) ∧ w = w' from V1)
  clear V1 hv hwl hb
  have HZ := Lib.hid (show A = .ok (.leaf 0, Z) from by rw [HX.out, hZ]; rfl)
  have hmZl := wordE_len (by omega) hw
  rw [hZ, show (wTrue).length = 4 from rfl] at hmZl
  have hmZ2 : m < Z := by omega
  clear hmZl
  rw [hZ] at hw
  have g0 : (cutS s m Z == [116, 114, 117, 101]) = true := by rw [hw]; decide
  have g1 : (cutS s m Z == [102, 97, 108, 115, 101]) = false := by rw [hw]; decide
  have g2 : (cutS s m Z == [109, 117]) = false := by rw [hw]; decide
  have g3 : (cutS s m Z == [110, 117]) = false := by rw [hw]; decide
  clear hw
  generalize cutS s m Z = t at *
  clear HX hZ
  go_enter Tryz.func52, Tryz.ntmps52
  go_wp2_with fail
  refine HK0.out.mono ?_
  rintro e w1 ⟨rfl, hww⟩
  subst hww
  clear HK0
  go_wp2_with fail
  refine HV1.out.mono ?_
  rintro e w1 ⟨rfl, hww⟩
  subst hww
  clear HV1
  go_upto_block 0 with (fail)
  go_cut [19] (fun s3 wx => s3 = .int .i64 Z ∧ wx = w)
  case first =>
    go_wp2_with fail
    go_loopw [19] (fun iv wr => ∃ k : Nat, m ≤ k ∧ k ≤ s.length ∧ iv = .int .i64 k ∧ Hid (wE s m k = Z) ∧ wr = w) (fun iv _ => s.length - (intOf iv).toNat)
    case atStart => exact ⟨m, Nat.le_refl _, Nat.le_of_lt hlt, rfl, HZE, rfl⟩
    case round =>
      clear HZE hix
      obtain ⟨wo, rfl⟩ : ∃ wo : World, wo = wr := ⟨_, rfl⟩
      obtain ⟨k, hmk, hk, rfl, HZE, hww⟩ := hrel
      subst hww
      by_cases hlk : k < s.length
      · obtain ⟨b2, hb2⟩ : ∃ b, s[k] = b := ⟨_, rfl⟩
        have hix2 : (⟨s.toArray⟩ : ByteArray)[k]'(by simpa [ByteArray.size] using hlk) = b2 := by rw [← hb2]; simp [ByteArray.getElem_eq_getElem_data]
        have hkl2 : (k : Int) < (s.length : Int) := by omega
        have h1 := HST.out k hlk hmk
        rw [hb2, HZE.out] at h1
        have D1 := Lib.hid (HD.out b2 wo)
        have D2 := Lib.hid (HSM.out b2 wo)
        have HX1 := Lib.hid (show (sml b2 || (decide (m < k) && isDig b2)) = true → wE s m (k + 1) = Z from fun h => by rw [h1, if_pos h])
        have HX0 := Lib.hid (show (sml b2 || (decide (m < k) && isDig b2)) = false → Z = k from fun h => by rw [h1, if_neg (by rw [h]; decide)])
        clear h1 hb2 HST HEN HZE
        generalize sml b2 = q1 at *
        generalize isDig b2 = q2 at *
        cases q1 with
        | true =>
          have HXX := Lib.hid (HX1.out rfl)
          clear HX1 HX0 D1
          go_wp2_with (go_at_call 62; refine D2.out.mono ?_; rintro e w5 ⟨rfl, rfl⟩)
          go_roundw
          case rel => exact ⟨k + 1, by omega, by omega, by go_num, HXX, by first | rfl | trivial⟩
          case measure => simp [intOf]; omega
        | false =>
          rw [Bool.false_or] at HX1 HX0
          by_cases hmk2 : m = k
          · subst hmk2
            have HXX := Lib.hid (HX0.out (by simp))
            clear HX1 HX0 D1
            go_wp2_with (go_at_call 62; refine D2.out.mono ?_; rintro e w5 ⟨rfl, rfl⟩)
            go_meet
            exact ⟨by rw [HXX.out], rfl⟩
          · have hmk3 : (m : Int) < (k : Int) := by omega
            have hd : decide (m < k) = true := decide_eq_true (by omega)
            rw [hd, Bool.true_and] at HX1 HX0
            clear hd
            cases q2 with
            | true =>
              have HXX := Lib.hid (HX1.out rfl)
              clear HX1 HX0
              go_wp2_with (first | (go_at_call 62; refine D2.out.mono ?_; rintro e w5 ⟨rfl, rfl⟩) | (go_at_call 63; refine D1.out.mono ?_; rintro e w5 ⟨rfl, rfl⟩))
              go_roundw
              case rel => exact ⟨k + 1, by omega, by omega, by go_num, HXX, by first | rfl | trivial⟩
              case measure => simp [intOf]; omega
            | false =>
              have HXX := Lib.hid (HX0.out rfl)
              clear HX1 HX0
              go_wp2_with (first | (go_at_call 62; refine D2.out.mono ?_; rintro e w5 ⟨rfl, rfl⟩) | (go_at_call 63; refine D1.out.mono ?_; rintro e w5 ⟨rfl, rfl⟩))
              go_meet
              exact ⟨by rw [HXX.out], rfl⟩
      · have hke : k = s.length := by omega
        subst hke
        have HXX := Lib.hid (show Z = s.length from by rw [← HZE.out]; exact HEN.out)
        clear HZE HST HEN
        go_wp2_with fail
        go_meet
        exact ⟨by rw [HXX.out], rfl⟩
  case rest =>
    obtain ⟨rfl, hww⟩ := hcut
    replace hww := hww.symm
    subst hww
    clear HST HEN HZE HD HSM
    have hmZ : (m : Int) ≤ (Z : Int) := by omega
    have hZl : (Z : Int) ≤ (s.length : Int) := by omega
    obtain ⟨T, hT⟩ : ∃ T, w.heap.size = T := ⟨_, rfl⟩
    have r0 : RowAt (w.alloc (.cells #[ei 0, ei 0, es [], .bool false, .slice none 0 0, ei m] 82)) T 82 [ei 0, ei 0, es [], .bool false, .slice none 0 0, ei m] := by rw [← hT]; exact RowAt.new w _ _
    have u0 : Upd [] w (w.alloc (.cells #[ei 0, ei 0, es [], .bool false, .slice none 0 0, ei m] 82)) := (Upd.refl _ _).alloc _
    obtain ⟨w2, hw2⟩ : ∃ w2, (w.alloc (.cells #[ei 0, ei 0, es [], .bool false, .slice none 0 0, ei m] 82)) = w2 := ⟨_, rfl⟩
    rw [hw2] at r0 u0
    have r2 : RowAt w2 T 82 [ei 0, ei 0, es [], .bool false, .slice none 0 0, ei m] := r0
    have HU2 := Lib.hid u0
    have HTT := Lib.hid hT
    clear r0 u0
    have d0 := r2.cell 0 _ rfl
    have d1 := r2.cell 1 _ rfl
    have d2 := r2.cell 2 _ rfl
    have d3 := r2.cell 3 _ rfl
    have d4 := r2.cell 4 _ rfl
    have d5 := r2.cell 5 _ rfl
    have hown : (w2.alloc (.cells #[ei 0, ei 0, es [], .bool false, .slice none 0 0, ei m] 82)).ownsRow w2.heap.size 82 6 (.slice (some ⟨w2.heap.size, 0, none⟩) 1 1) 1 [ei 0, ei 0, es [], .bool false, .slice none 0 0, ei m] :=
      World.ownsRow_lit (base := w2.heap.size) (e := 82) (size := 6) w2 #[ei 0, ei 0, es [], .bool false, .slice none 0 0, ei m] 1 (Nat.le_refl _) (by simp [maxLen]) (by simp)
    have HN := Lib.hid (show NwI w (w2.alloc (.cells #[ei 0, ei 0, es [], .bool false, .slice none 0 0, ei m] 82)) (.slice (some ⟨w2.heap.size, 0, none⟩) 1 1) [⟨ndK 0, [], m⟩] from ⟨_, row_base hown HU2.out.size, ⟨_, [], rfl, nilG _ _, rfl⟩⟩)
    have HU3 := Lib.hid (HU2.out.alloc (.cells #[ei 0, ei 0, es [], .bool false, .slice none 0 0, ei m] 82))
    clear r2 hown HU2
    go_wp2_with fail
    go_ret3
    rw [HZ.out]
    exact ⟨⟨_, _, rfl, HN.out, ⟨m, rfl⟩, by simp; omega⟩, HU3.out⟩

set_option maxRecDepth 20000 in
set_option maxHeartbeats 8000000 in
theorem sfalseS (k : Nat) (w : World) (s : List UInt8) (n : Nat)  (hs : s.length ≤ 400) (hn : n ≤ s.length)
    (hw : cutS s (skR s n) (wordE s (skR s n)) = wFalse) :
    Calls Tryz.prog 52 #[es s, .int .i64 n] w (FmS n (simF s (k + 1) n) w) := by
  have hpos := skR_le hn
  have K0 := l04SkipS s n w (by omega) hn
  rw [show skF s n = skR s n from rfl] at K0
  have HX := Lib.hid (sim_leaf (k := k) true hw)
  have ht : wFalse ≠ [] := by decide
  have h40 := word_not hw ht 40 (by decide)
  have h60 := word_not hw ht 60 (by decide)
  have h91 := word_not hw ht 91 (by decide)
  have hv := vr_word hw ht
  obtain ⟨hlt, -⟩ := word_first hw ht
  clear ht
  generalize simF s (k + 1) n = A at *
  generalize skR s n = m at *
  have hm1 := hpos.1
  have HK0 := Lib.hid K0
  clear K0 hpos
  obtain ⟨b, hb⟩ : ∃ b, s[m] = b := ⟨_, rfl⟩
  have hix : (⟨s.toArray⟩ : ByteArray)[m]'(by simpa [ByteArray.size] using hlt) = b := by rw [← hb]; simp [ByteArray.getElem_eq_getElem_data]
  have hkl : (m : Int) < (s.length : Int) := by omega
  have hne : ¬ (m : Int) = (s.length : Int) := by omega
  have hneb : ((m : Int) == (s.length : Int)) = false := by simpa using hne
  have q40 := byteU b 40 (by omega)
  rw [show UInt8.ofNat 40 = 40 from rfl, ← hb, ← isB_at hlt, h40, hb, show ((40 : Nat) : Int) = 40 from rfl] at q40
  have q60 := byteU b 60 (by omega)
  rw [show UInt8.ofNat 60 = 60 from rfl, ← hb, ← isB_at hlt, h60, hb, show ((60 : Nat) : Int) = 60 from rfl] at q60
  have q91 := byteU b 91 (by omega)
  rw [show UInt8.ofNat 91 = 91 from rfl, ← hb, ← isB_at hlt, h91, hb, show ((91 : Nat) : Int) = 91 from rfl] at q91
  have hwl := wordE_le (s := s) (n := m) (by omega)
  obtain ⟨Z, hZ⟩ : ∃ Z, wordE s m = Z := ⟨_, rfl⟩
  have HZE := Lib.hid (show wE s m m = Z by unfold wE; rw [if_pos rfl, hZ])
  rw [hZ] at hwl
  have hz1 := hwl.1
  have hz2 := hwl.2
  have HST := Lib.hid (fun k (h : k < s.length) (hm : m ≤ k) => wE_at h hm)
  have HEN := Lib.hid (wE_end (s := s) (m := m))
  have HD := Lib.hid digitS
  have HSM := Lib.hid smallS
  have hext : (⟨s.toArray⟩ : ByteArray).extract m Z = ⟨(cutS s m Z).toArray⟩ := extract_list s m Z
  have V1 := varS s m w (by omega) (by omega)
  rw [hv] at V1
  have HV1 := Lib.hid (show Calls Tryz.prog 66 #[es s, .int .i64 m] w fun e w' => e = .returned (.tuple #[.int .i64 (-1), .int .i64 m]) ∧ w = w' from V1)
  clear V1 hv hwl hb
  have HZ := Lib.hid (show A = .ok (.leaf 1, Z) from by rw [HX.out, hZ]; rfl)
  have hmZl := wordE_len (by omega) hw
  rw [hZ, show (wFalse).length = 5 from rfl] at hmZl
  have hmZ2 : m < Z := by omega
  clear hmZl
  rw [hZ] at hw
  have g0 : (cutS s m Z == [116, 114, 117, 101]) = false := by rw [hw]; decide
  have g1 : (cutS s m Z == [102, 97, 108, 115, 101]) = true := by rw [hw]; decide
  have g2 : (cutS s m Z == [109, 117]) = false := by rw [hw]; decide
  have g3 : (cutS s m Z == [110, 117]) = false := by rw [hw]; decide
  clear hw
  generalize cutS s m Z = t at *
  clear HX hZ
  go_enter Tryz.func52, Tryz.ntmps52
  go_wp2_with fail
  refine HK0.out.mono ?_
  rintro e w1 ⟨rfl, hww⟩
  subst hww
  clear HK0
  go_wp2_with fail
  refine HV1.out.mono ?_
  rintro e w1 ⟨rfl, hww⟩
  subst hww
  clear HV1
  go_upto_block 0 with (fail)
  go_cut [19] (fun s3 wx => s3 = .int .i64 Z ∧ wx = w)
  case first =>
    go_wp2_with fail
    go_loopw [19] (fun iv wr => ∃ k : Nat, m ≤ k ∧ k ≤ s.length ∧ iv = .int .i64 k ∧ Hid (wE s m k = Z) ∧ wr = w) (fun iv _ => s.length - (intOf iv).toNat)
    case atStart => exact ⟨m, Nat.le_refl _, Nat.le_of_lt hlt, rfl, HZE, rfl⟩
    case round =>
      clear HZE hix
      obtain ⟨wo, rfl⟩ : ∃ wo : World, wo = wr := ⟨_, rfl⟩
      obtain ⟨k, hmk, hk, rfl, HZE, hww⟩ := hrel
      subst hww
      by_cases hlk : k < s.length
      · obtain ⟨b2, hb2⟩ : ∃ b, s[k] = b := ⟨_, rfl⟩
        have hix2 : (⟨s.toArray⟩ : ByteArray)[k]'(by simpa [ByteArray.size] using hlk) = b2 := by rw [← hb2]; simp [ByteArray.getElem_eq_getElem_data]
        have hkl2 : (k : Int) < (s.length : Int) := by omega
        have h1 := HST.out k hlk hmk
        rw [hb2, HZE.out] at h1
        have D1 := Lib.hid (HD.out b2 wo)
        have D2 := Lib.hid (HSM.out b2 wo)
        have HX1 := Lib.hid (show (sml b2 || (decide (m < k) && isDig b2)) = true → wE s m (k + 1) = Z from fun h => by rw [h1, if_pos h])
        have HX0 := Lib.hid (show (sml b2 || (decide (m < k) && isDig b2)) = false → Z = k from fun h => by rw [h1, if_neg (by rw [h]; decide)])
        clear h1 hb2 HST HEN HZE
        generalize sml b2 = q1 at *
        generalize isDig b2 = q2 at *
        cases q1 with
        | true =>
          have HXX := Lib.hid (HX1.out rfl)
          clear HX1 HX0 D1
          go_wp2_with (go_at_call 62; refine D2.out.mono ?_; rintro e w5 ⟨rfl, rfl⟩)
          go_roundw
          case rel => exact ⟨k + 1, by omega, by omega, by go_num, HXX, by first | rfl | trivial⟩
          case measure => simp [intOf]; omega
        | false =>
          rw [Bool.false_or] at HX1 HX0
          by_cases hmk2 : m = k
          · subst hmk2
            have HXX := Lib.hid (HX0.out (by simp))
            clear HX1 HX0 D1
            go_wp2_with (go_at_call 62; refine D2.out.mono ?_; rintro e w5 ⟨rfl, rfl⟩)
            go_meet
            exact ⟨by rw [HXX.out], rfl⟩
          · have hmk3 : (m : Int) < (k : Int) := by omega
            have hd : decide (m < k) = true := decide_eq_true (by omega)
            rw [hd, Bool.true_and] at HX1 HX0
            clear hd
            cases q2 with
            | true =>
              have HXX := Lib.hid (HX1.out rfl)
              clear HX1 HX0
              go_wp2_with (first | (go_at_call 62; refine D2.out.mono ?_; rintro e w5 ⟨rfl, rfl⟩) | (go_at_call 63; refine D1.out.mono ?_; rintro e w5 ⟨rfl, rfl⟩))
              go_roundw
              case rel => exact ⟨k + 1, by omega, by omega, by go_num, HXX, by first | rfl | trivial⟩
              case measure => simp [intOf]; omega
            | false =>
              have HXX := Lib.hid (HX0.out rfl)
              clear HX1 HX0
              go_wp2_with (first | (go_at_call 62; refine D2.out.mono ?_; rintro e w5 ⟨rfl, rfl⟩) | (go_at_call 63; refine D1.out.mono ?_; rintro e w5 ⟨rfl, rfl⟩))
              go_meet
              exact ⟨by rw [HXX.out], rfl⟩
      · have hke : k = s.length := by omega
        subst hke
        have HXX := Lib.hid (show Z = s.length from by rw [← HZE.out]; exact HEN.out)
        clear HZE HST HEN
        go_wp2_with fail
        go_meet
        exact ⟨by rw [HXX.out], rfl⟩
  case rest =>
    obtain ⟨rfl, hww⟩ := hcut
    replace hww := hww.symm
    subst hww
    clear HST HEN HZE HD HSM
    have hmZ : (m : Int) ≤ (Z : Int) := by omega
    have hZl : (Z : Int) ≤ (s.length : Int) := by omega
    obtain ⟨T, hT⟩ : ∃ T, w.heap.size = T := ⟨_, rfl⟩
    have r0 : RowAt (w.alloc (.cells #[ei 0, ei 0, es [], .bool false, .slice none 0 0, ei m] 82)) T 82 [ei 0, ei 0, es [], .bool false, .slice none 0 0, ei m] := by rw [← hT]; exact RowAt.new w _ _
    have u0 : Upd [] w (w.alloc (.cells #[ei 0, ei 0, es [], .bool false, .slice none 0 0, ei m] 82)) := (Upd.refl _ _).alloc _
    have r0c := r0.cell 0 _ rfl
    have r0f := r0.fz 0
    have r0 := r0.store 0 (ei 1)
    have u0 := u0.setCell (p := ⟨T, 0, none⟩) (Or.inl (by simp; omega)) (ei 1)
    obtain ⟨w2, hw2⟩ : ∃ w2, (w.alloc (.cells #[ei 0, ei 0, es [], .bool false, .slice none 0 0, ei m] 82)).setCell ⟨T, 0, none⟩ (ei 1) = w2 := ⟨_, rfl⟩
    rw [hw2] at r0 u0
    have r2 : RowAt w2 T 82 [ei 1, ei 0, es [], .bool false, .slice none 0 0, ei m] := r0
    have HU2 := Lib.hid u0
    have HTT := Lib.hid hT
    clear r0 u0
    have d0 := r2.cell 0 _ rfl
    have d1 := r2.cell 1 _ rfl
    have d2 := r2.cell 2 _ rfl
    have d3 := r2.cell 3 _ rfl
    have d4 := r2.cell 4 _ rfl
    have d5 := r2.cell 5 _ rfl
    have hown : (w2.alloc (.cells #[ei 1, ei 0, es [], .bool false, .slice none 0 0, ei m] 82)).ownsRow w2.heap.size 82 6 (.slice (some ⟨w2.heap.size, 0, none⟩) 1 1) 1 [ei 1, ei 0, es [], .bool false, .slice none 0 0, ei m] :=
      World.ownsRow_lit (base := w2.heap.size) (e := 82) (size := 6) w2 #[ei 1, ei 0, es [], .bool false, .slice none 0 0, ei m] 1 (Nat.le_refl _) (by simp [maxLen]) (by simp)
    have HN := Lib.hid (show NwI w (w2.alloc (.cells #[ei 1, ei 0, es [], .bool false, .slice none 0 0, ei m] 82)) (.slice (some ⟨w2.heap.size, 0, none⟩) 1 1) [⟨ndK 1, [], m⟩] from ⟨_, row_base hown HU2.out.size, ⟨_, [], rfl, nilG _ _, rfl⟩⟩)
    have HU3 := Lib.hid (HU2.out.alloc (.cells #[ei 1, ei 0, es [], .bool false, .slice none 0 0, ei m] 82))
    clear r2 hown HU2
    go_wp2_with fail
    go_ret3
    rw [HZ.out]
    exact ⟨⟨_, _, rfl, HN.out, ⟨m, rfl⟩, by simp; omega⟩, HU3.out⟩

set_option maxRecDepth 20000 in
set_option maxHeartbeats 8000000 in
theorem smuS (k : Nat) (w : World) (s : List UInt8) (n : Nat)  (hs : s.length ≤ 400) (hn : n ≤ s.length)
    (hw : cutS s (skR s n) (wordE s (skR s n)) = wMu)
    (hI : ∀ W n', n < n' → n' ≤ s.length → Calls Tryz.prog 52 #[es s, .int .i64 n'] W (FmS n' (simF s k n') W)) :
    Calls Tryz.prog 52 #[es s, .int .i64 n] w (FmS n (simF s (k + 1) n) w) := by
  have hpos := skR_le hn
  have K0 := l04SkipS s n w (by omega) hn
  rw [show skF s n = skR s n from rfl] at K0
  obtain ⟨i0, hi, jz0, jz1, jz2⟩ := info_parts Tryz.infoIt
  have HI := Lib.hid hI
  clear hI
  have HX := Lib.hid (sim_fix (k := k) false hw)
  have ht : wMu ≠ [] := by decide
  have h40 := word_not hw ht 40 (by decide)
  have h60 := word_not hw ht 60 (by decide)
  have h91 := word_not hw ht 91 (by decide)
  have hv := vr_word hw ht
  obtain ⟨hlt, -⟩ := word_first hw ht
  clear ht
  generalize simF s (k + 1) n = A at *
  generalize skR s n = m at *
  have hm1 := hpos.1
  have HK0 := Lib.hid K0
  clear K0 hpos
  obtain ⟨b, hb⟩ : ∃ b, s[m] = b := ⟨_, rfl⟩
  have hix : (⟨s.toArray⟩ : ByteArray)[m]'(by simpa [ByteArray.size] using hlt) = b := by rw [← hb]; simp [ByteArray.getElem_eq_getElem_data]
  have hkl : (m : Int) < (s.length : Int) := by omega
  have hne : ¬ (m : Int) = (s.length : Int) := by omega
  have hneb : ((m : Int) == (s.length : Int)) = false := by simpa using hne
  have q40 := byteU b 40 (by omega)
  rw [show UInt8.ofNat 40 = 40 from rfl, ← hb, ← isB_at hlt, h40, hb, show ((40 : Nat) : Int) = 40 from rfl] at q40
  have q60 := byteU b 60 (by omega)
  rw [show UInt8.ofNat 60 = 60 from rfl, ← hb, ← isB_at hlt, h60, hb, show ((60 : Nat) : Int) = 60 from rfl] at q60
  have q91 := byteU b 91 (by omega)
  rw [show UInt8.ofNat 91 = 91 from rfl, ← hb, ← isB_at hlt, h91, hb, show ((91 : Nat) : Int) = 91 from rfl] at q91
  have hwl := wordE_le (s := s) (n := m) (by omega)
  obtain ⟨Z, hZ⟩ : ∃ Z, wordE s m = Z := ⟨_, rfl⟩
  have HZE := Lib.hid (show wE s m m = Z by unfold wE; rw [if_pos rfl, hZ])
  rw [hZ] at hwl
  have hz1 := hwl.1
  have hz2 := hwl.2
  have HST := Lib.hid (fun k (h : k < s.length) (hm : m ≤ k) => wE_at h hm)
  have HEN := Lib.hid (wE_end (s := s) (m := m))
  have HD := Lib.hid digitS
  have HSM := Lib.hid smallS
  have hext : (⟨s.toArray⟩ : ByteArray).extract m Z = ⟨(cutS s m Z).toArray⟩ := extract_list s m Z
  have V1 := varS s m w (by omega) (by omega)
  rw [hv] at V1
  have HV1 := Lib.hid (show Calls Tryz.prog 66 #[es s, .int .i64 m] w fun e w' => e = .returned (.tuple #[.int .i64 (-1), .int .i64 m]) ∧ w = w' from V1)
  clear V1 hv hwl hb
  have hmZl := wordE_len (by omega) hw
  rw [hZ, show (wMu).length = 2 from rfl] at hmZl
  have hmZ2 : m < Z := by omega
  clear hmZl
  rw [hZ] at HX
  have K2 := Lib.hid (fun W => l04SkipS s Z W (by omega) hz2)
  have hk2 := skR_le (s := s) hz2
  rw [show skF s Z = skR s Z from rfl] at K2
  rw [hZ] at hw
  have g0 : (cutS s m Z == [116, 114, 117, 101]) = false := by rw [hw]; decide
  have g1 : (cutS s m Z == [102, 97, 108, 115, 101]) = false := by rw [hw]; decide
  have g2 : (cutS s m Z == [109, 117]) = true := by rw [hw]; decide
  have g3 : (cutS s m Z == [110, 117]) = false := by rw [hw]; decide
  clear hw
  generalize cutS s m Z = t at *
  clear hZ
  go_enter Tryz.func52, Tryz.ntmps52
  go_wp2_with fail
  refine HK0.out.mono ?_
  rintro e w1 ⟨rfl, hww⟩
  subst hww
  clear HK0
  go_wp2_with fail
  refine HV1.out.mono ?_
  rintro e w1 ⟨rfl, hww⟩
  subst hww
  clear HV1
  go_upto_block 0 with (fail)
  go_cut [19] (fun s3 wx => s3 = .int .i64 Z ∧ wx = w)
  case first =>
    go_wp2_with fail
    go_loopw [19] (fun iv wr => ∃ k : Nat, m ≤ k ∧ k ≤ s.length ∧ iv = .int .i64 k ∧ Hid (wE s m k = Z) ∧ wr = w) (fun iv _ => s.length - (intOf iv).toNat)
    case atStart => exact ⟨m, Nat.le_refl _, Nat.le_of_lt hlt, rfl, HZE, rfl⟩
    case round =>
      clear HZE hix
      obtain ⟨wo, rfl⟩ : ∃ wo : World, wo = wr := ⟨_, rfl⟩
      obtain ⟨k, hmk, hk, rfl, HZE, hww⟩ := hrel
      subst hww
      by_cases hlk : k < s.length
      · obtain ⟨b2, hb2⟩ : ∃ b, s[k] = b := ⟨_, rfl⟩
        have hix2 : (⟨s.toArray⟩ : ByteArray)[k]'(by simpa [ByteArray.size] using hlk) = b2 := by rw [← hb2]; simp [ByteArray.getElem_eq_getElem_data]
        have hkl2 : (k : Int) < (s.length : Int) := by omega
        have h1 := HST.out k hlk hmk
        rw [hb2, HZE.out] at h1
        have D1 := Lib.hid (HD.out b2 wo)
        have D2 := Lib.hid (HSM.out b2 wo)
        have HX1 := Lib.hid (show (sml b2 || (decide (m < k) && isDig b2)) = true → wE s m (k + 1) = Z from fun h => by rw [h1, if_pos h])
        have HX0 := Lib.hid (show (sml b2 || (decide (m < k) && isDig b2)) = false → Z = k from fun h => by rw [h1, if_neg (by rw [h]; decide)])
        clear h1 hb2 HST HEN HZE
        generalize sml b2 = q1 at *
        generalize isDig b2 = q2 at *
        cases q1 with
        | true =>
          have HXX := Lib.hid (HX1.out rfl)
          clear HX1 HX0 D1
          go_wp2_with (go_at_call 62; refine D2.out.mono ?_; rintro e w5 ⟨rfl, rfl⟩)
          go_roundw
          case rel => exact ⟨k + 1, by omega, by omega, by go_num, HXX, by first | rfl | trivial⟩
          case measure => simp [intOf]; omega
        | false =>
          rw [Bool.false_or] at HX1 HX0
          by_cases hmk2 : m = k
          · subst hmk2
            have HXX := Lib.hid (HX0.out (by simp))
            clear HX1 HX0 D1
            go_wp2_with (go_at_call 62; refine D2.out.mono ?_; rintro e w5 ⟨rfl, rfl⟩)
            go_meet
            exact ⟨by rw [HXX.out], rfl⟩
          · have hmk3 : (m : Int) < (k : Int) := by omega
            have hd : decide (m < k) = true := decide_eq_true (by omega)
            rw [hd, Bool.true_and] at HX1 HX0
            clear hd
            cases q2 with
            | true =>
              have HXX := Lib.hid (HX1.out rfl)
              clear HX1 HX0
              go_wp2_with (first | (go_at_call 62; refine D2.out.mono ?_; rintro e w5 ⟨rfl, rfl⟩) | (go_at_call 63; refine D1.out.mono ?_; rintro e w5 ⟨rfl, rfl⟩))
              go_roundw
              case rel => exact ⟨k + 1, by omega, by omega, by go_num, HXX, by first | rfl | trivial⟩
              case measure => simp [intOf]; omega
            | false =>
              have HXX := Lib.hid (HX0.out rfl)
              clear HX1 HX0
              go_wp2_with (first | (go_at_call 62; refine D2.out.mono ?_; rintro e w5 ⟨rfl, rfl⟩) | (go_at_call 63; refine D1.out.mono ?_; rintro e w5 ⟨rfl, rfl⟩))
              go_meet
              exact ⟨by rw [HXX.out], rfl⟩
      · have hke : k = s.length := by omega
        subst hke
        have HXX := Lib.hid (show Z = s.length from by rw [← HZE.out]; exact HEN.out)
        clear HZE HST HEN
        go_wp2_with fail
        go_meet
        exact ⟨by rw [HXX.out], rfl⟩
  case rest =>
    obtain ⟨rfl, hww⟩ := hcut
    replace hww := hww.symm
    subst hww
    clear HST HEN HZE HD HSM
    have hmZ : (m : Int) ≤ (Z : Int) := by omega
    have hZl : (Z : Int) ≤ (s.length : Int) := by omega
    obtain ⟨T, hT⟩ : ∃ T, w.heap.size = T := ⟨_, rfl⟩
    have r0 : RowAt (w.alloc (.cells #[ei 0, ei 0, es [], .bool false, .slice none 0 0, ei m] 82)) T 82 [ei 0, ei 0, es [], .bool false, .slice none 0 0, ei m] := by rw [← hT]; exact RowAt.new w _ _
    have u0 : Upd [] w (w.alloc (.cells #[ei 0, ei 0, es [], .bool false, .slice none 0 0, ei m] 82)) := (Upd.refl _ _).alloc _
    have r0c := r0.cell 0 _ rfl
    have r0f := r0.fz 0
    have r0 := r0.store 0 (ei 7)
    have u0 := u0.setCell (p := ⟨T, 0, none⟩) (Or.inl (by simp; omega)) (ei 7)
    obtain ⟨w2, hw2⟩ : ∃ w2, (w.alloc (.cells #[ei 0, ei 0, es [], .bool false, .slice none 0 0, ei m] 82)).setCell ⟨T, 0, none⟩ (ei 7) = w2 := ⟨_, rfl⟩
    rw [hw2] at r0 u0
    have r2 : RowAt w2 T 82 [ei 7, ei 0, es [], .bool false, .slice none 0 0, ei m] := r0
    have HU2 := Lib.hid u0
    have HTT := Lib.hid hT
    clear r0 u0
    generalize skR s Z = m2 at *
    have hm2 := hk2.1
    have hm3 := hk2.2
    have V2 := varS s m2 w2 (by omega) hm3
    have HR2 := Lib.hid r2
    clear r2 hk2
    go_wp2_with fail
    refine (K2.out _).mono ?_
    rintro e wx ⟨rfl, hww⟩
    subst hww
    clear K2 hT
    cases hv2 : vrF s m2 with
    | none =>
      rw [hv2] at V2
      have HV2 := Lib.hid (show Calls Tryz.prog 66 #[es s, .int .i64 m2] w2 fun e w' => e = .returned (.tuple #[.int .i64 (-1), .int .i64 m2]) ∧ w2 = w' from V2)
      have HZ := Lib.hid (show A = .error m2 from by rw [HX.out, hv2])
      clear V2 hv2 HX HI hw2
      go_wp2_with fail
      refine HV2.out.mono ?_
      rintro e wx ⟨rfl, hww⟩
      subst hww
      clear HV2
      go_wp2_with fail
      go_ret3
      rw [HZ.out]
      exact ⟨rfl, HU2.out⟩
    | some r =>
      obtain ⟨v, e0⟩ := r
      rw [hv2] at V2
      have HV2 := Lib.hid (show Calls Tryz.prog 66 #[es s, .int .i64 m2] w2 fun e w' => e = .returned (.tuple #[.int .i64 v, .int .i64 e0]) ∧ w2 = w' from V2)
      have hvl := vrF_lt hv2
      have hvp := vrF_pos hv2
      have hv0 := hvl.1
      have hv1 := hvl.2
      have hvp1 := hvp.1
      have hvp2 := hvp.2
      have HY := Lib.hid (show A = (if isB s (skR s e0) 46 then (match simF s k (skR s e0 + 1) with | .error e => .error e | .ok (f, q) => .ok (.fix 7 v f, q)) else .error (skR s e0)) from by rw [HX.out, hv2]; rfl)
      have K3 := Lib.hid (fun W => l04SkipS s e0 W (by omega) hvp2)
      have hk3 := skR_le (s := s) hvp2
      rw [show skF s e0 = skR s e0 from rfl] at K3
      generalize skR s e0 = m3 at *
      have hm4 := hk3.1
      have hm5 := hk3.2
      have c1 := HR2.out.cell 1 _ rfl
      have f1 := HR2.out.fz 1
      have r3 := HR2.out.store 1 (ei v)
      have hu3 : Upd [] w (w2.setCell ⟨T, 1, none⟩ (ei v)) := HU2.out.setCell (Or.inl (by rw [HTT.out]; exact Nat.le_refl _)) _
      obtain ⟨w3, hw3⟩ : ∃ w3, w2.setCell ⟨T, 1, none⟩ (ei v) = w3 := ⟨_, rfl⟩
      rw [hw3] at r3 hu3
      have HR3 := Lib.hid (show RowAt w3 T 82 [ei 7, ei v, es [], .bool false, .slice none 0 0, ei m] from r3)
      have HU3 := Lib.hid hu3
      have I2 := Lib.hid (fun W => isBS s m3 46 46 rfl W (by omega) hm5)
      clear V2 hv2 HX hw2 hvl hvp hk3 r3 hu3 HR2 HU2
      go_wp2_with fail
      refine HV2.out.mono ?_
      rintro e wx ⟨rfl, hww⟩
      subst hww
      clear HV2
      go_wp2_with fail
      refine (K3.out _).mono ?_
      rintro e wx ⟨rfl, hww⟩
      subst hww
      clear K3
      cases hq : isB s m3 46 with
      | false =>
        rw [hq] at I2
        have HZ := Lib.hid (show A = .error m3 from by rw [HY.out, hq]; rfl)
        clear HY hq HI hw3
        go_wp2_with fail
        refine (I2.out _).mono ?_
        rintro e wx ⟨rfl, hww⟩
        subst hww
        clear I2
        go_wp2_with fail
        go_ret3
        rw [HZ.out]
        exact ⟨rfl, HU3.out⟩
      | true =>
        have hlt2 := isB_lt hq
        rw [hq] at I2
        have HY2 := Lib.hid (show A = (match simF s k (m3 + 1) with | .error e => .error e | .ok (f, q) => .ok (.fix 7 v f, q)) from by rw [HY.out, hq]; rfl)
        have I3 := HI.out w3 (m3 + 1) (by omega) (by omega)
        clear HY hq HI hw3
        go_wp2_with fail
        refine (I2.out _).mono ?_
        rintro e wx ⟨rfl, hww⟩
        subst hww
        clear I2
        cases hsm : simF s k (m3 + 1) with
        | error a =>
          rw [hsm] at I3
          have HZ := Lib.hid (show A = .error a from by rw [HY2.out, hsm])
          have HI3 := Lib.hid I3
          clear I3 hsm HY2
          go_wp2_with fail
          refine HI3.out.mono ?_
          rintro e w5 ⟨rfl, hu5⟩
          have HU5 := Lib.hid (HU3.out.trans hu5)
          clear HI3 hu5
          go_wp2_with fail
          go_ret3
          rw [HZ.out]
          exact ⟨rfl, HU5.out⟩
        | ok r =>
          obtain ⟨fm, q⟩ := r
          rw [hsm] at I3
          have hq2 := simF_pos k _ fm q (by omega) hsm
          have hq3 := hq2.1
          have hq4 := hq2.2
          have HZ := Lib.hid (show A = .ok (.fix 7 v fm, q) from by rw [HY2.out, hsm])
          have HI3 := Lib.hid I3
          clear I3 hsm HY2 hq2
          go_wp2_with fail
          refine HI3.out.mono ?_
          rintro e w5 ⟨⟨v5, L, rfl, hn5, hf5, hl5⟩, hu5⟩
          obtain ⟨a5, c5, rfl⟩ := hn5.form
          have r5 := HR3.out.upd hu5 (by simp)
          have d0 := r5.cell 0 _ rfl
          have d1 := r5.cell 1 _ rfl
          have d2 := r5.cell 2 _ rfl
          have d3 := r5.cell 3 _ rfl
          have d4 := r5.cell 4 _ rfl
          have d5 := r5.cell 5 _ rfl
          have hown : (w5.alloc (.cells #[ei 7, ei v, es [], .bool false, .slice none 0 0, ei m] 82)).ownsRow w5.heap.size 82 6 (.slice (some ⟨w5.heap.size, 0, none⟩) 1 1) 1 [ei 7, ei v, es [], .bool false, .slice none 0 0, ei m] :=
            World.ownsRow_lit (base := w5.heap.size) (e := 82) (size := 6) w5 #[ei 7, ei v, es [], .bool false, .slice none 0 0, ei m] 1 (Nat.le_refl _) (by simp [maxLen]) (by simp)
          obtain ⟨us, hr5, hc5⟩ := hn5
          have hal := (Upd.refl [] w5).alloc (.cells #[ei 7, ei v, es [], .bool false, .slice none 0 0, ei m] 82)
          have hr6 := ownsRow_upd hr5 hal
          obtain ⟨f6, hf6, -⟩ := Flat.ofOwns hr6
          have HOW := Lib.hid hown
          have HC5 := Lib.hid hc5
          have HF6 := Lib.hid hf6
          have HF5 := Lib.hid hf5
          have HU46 := Lib.hid ((HU3.out.trans hu5).alloc (.cells #[ei 7, ei v, es [], .bool false, .slice none 0 0, ei m] 82))
          have hs45 := (HU3.out.trans hu5).size
          have HAL := Lib.hid hal
          clear HI3 hf5 hu5 r5 hown hr5 hr6 hc5 hf6 hal
          go_wp2_with (first
            | (at_builtin; refine wpList_append_flat rfl _ _ 70 rfl w5.heap.size 82 i0 (.agg #[.int .i64 0, .int .i64 0, .string ⟨#[]⟩, .bool false, .slice none 0 0, .int .i64 0]) 6 72 Tryz.underlying70 hi jz0 jz1 jz2 rfl (by decide) _ _ _ rfl HOW.out _ L.length us rfl _ HF6.out (ItC.one _ _ HC5.out) (by unfold maxLen; omega) (by omega) (by simp) ?_)
            | fail)
          intro v7 w7 hown7 hg7 ht7
          obtain ⟨a7, k7, rfl⟩ := ownsRow_form hown7
          have hu47 := HU46.out.grown hg7 (fun k hk => Or.inl (by have := (HOW.out.lt k hk).1; omega))
          have hc7 := ItC.upd (HAL.out.grown hg7 (fun k hk => Or.inl (HOW.out.lt k hk).1)) _ _ HC5.out
          have hcc : ItC (fun b => w.heap.size ≤ b) w7 (⟨ndV 7 v, [], m⟩ :: L) ([ei 7, ei v, es [], .bool false, .slice none 0 0, ei m] ++ us) := ⟨_, us, rfl, nilG _ _, ItC.mono (fun b _ h => Nat.le_trans HU3.out.size h) _ _ hc7⟩
          have HN7 := Lib.hid (show NwI w w7 (.slice a7 (1 + L.length) k7) (⟨ndV 7 v, [], m⟩ :: L) from ⟨_, by rw [show (⟨ndV 7 v, [], m⟩ :: L : List Itm).length = 1 + L.length by simp; omega]; exact row_base hown7 (by omega), hcc⟩)
          have HU7 := Lib.hid hu47
          clear hown7 hg7 ht7 hu47 hc7 hcc HOW HF6 HC5 HU46 HAL
          go_wp2_with fail
          go_ret3
          rw [HZ.out]
          exact ⟨⟨_, _, rfl, HN7.out, ⟨L, m, rfl, HF5.out⟩, by simp only [List.length_cons]; omega⟩, HU7.out⟩

set_option maxRecDepth 20000 in
set_option maxHeartbeats 8000000 in
theorem snuS (k : Nat) (w : World) (s : List UInt8) (n : Nat)  (hs : s.length ≤ 400) (hn : n ≤ s.length)
    (hw : cutS s (skR s n) (wordE s (skR s n)) = wNu)
    (hI : ∀ W n', n < n' → n' ≤ s.length → Calls Tryz.prog 52 #[es s, .int .i64 n'] W (FmS n' (simF s k n') W)) :
    Calls Tryz.prog 52 #[es s, .int .i64 n] w (FmS n (simF s (k + 1) n) w) := by
  have hpos := skR_le hn
  have K0 := l04SkipS s n w (by omega) hn
  rw [show skF s n = skR s n from rfl] at K0
  obtain ⟨i0, hi, jz0, jz1, jz2⟩ := info_parts Tryz.infoIt
  have HI := Lib.hid hI
  clear hI
  have HX := Lib.hid (sim_fix (k := k) true hw)
  have ht : wNu ≠ [] := by decide
  have h40 := word_not hw ht 40 (by decide)
  have h60 := word_not hw ht 60 (by decide)
  have h91 := word_not hw ht 91 (by decide)
  have hv := vr_word hw ht
  obtain ⟨hlt, -⟩ := word_first hw ht
  clear ht
  generalize simF s (k + 1) n = A at *
  generalize skR s n = m at *
  have hm1 := hpos.1
  have HK0 := Lib.hid K0
  clear K0 hpos
  obtain ⟨b, hb⟩ : ∃ b, s[m] = b := ⟨_, rfl⟩
  have hix : (⟨s.toArray⟩ : ByteArray)[m]'(by simpa [ByteArray.size] using hlt) = b := by rw [← hb]; simp [ByteArray.getElem_eq_getElem_data]
  have hkl : (m : Int) < (s.length : Int) := by omega
  have hne : ¬ (m : Int) = (s.length : Int) := by omega
  have hneb : ((m : Int) == (s.length : Int)) = false := by simpa using hne
  have q40 := byteU b 40 (by omega)
  rw [show UInt8.ofNat 40 = 40 from rfl, ← hb, ← isB_at hlt, h40, hb, show ((40 : Nat) : Int) = 40 from rfl] at q40
  have q60 := byteU b 60 (by omega)
  rw [show UInt8.ofNat 60 = 60 from rfl, ← hb, ← isB_at hlt, h60, hb, show ((60 : Nat) : Int) = 60 from rfl] at q60
  have q91 := byteU b 91 (by omega)
  rw [show UInt8.ofNat 91 = 91 from rfl, ← hb, ← isB_at hlt, h91, hb, show ((91 : Nat) : Int) = 91 from rfl] at q91
  have hwl := wordE_le (s := s) (n := m) (by omega)
  obtain ⟨Z, hZ⟩ : ∃ Z, wordE s m = Z := ⟨_, rfl⟩
  have HZE := Lib.hid (show wE s m m = Z by unfold wE; rw [if_pos rfl, hZ])
  rw [hZ] at hwl
  have hz1 := hwl.1
  have hz2 := hwl.2
  have HST := Lib.hid (fun k (h : k < s.length) (hm : m ≤ k) => wE_at h hm)
  have HEN := Lib.hid (wE_end (s := s) (m := m))
  have HD := Lib.hid digitS
  have HSM := Lib.hid smallS
  have hext : (⟨s.toArray⟩ : ByteArray).extract m Z = ⟨(cutS s m Z).toArray⟩ := extract_list s m Z
  have V1 := varS s m w (by omega) (by omega)
  rw [hv] at V1
  have HV1 := Lib.hid (show Calls Tryz.prog 66 #[es s, .int .i64 m] w fun e w' => e = .returned (.tuple #[.int .i64 (-1), .int .i64 m]) ∧ w = w' from V1)
  clear V1 hv hwl hb
  have hmZl := wordE_len (by omega) hw
  rw [hZ, show (wNu).length = 2 from rfl] at hmZl
  have hmZ2 : m < Z := by omega
  clear hmZl
  rw [hZ] at HX
  have K2 := Lib.hid (fun W => l04SkipS s Z W (by omega) hz2)
  have hk2 := skR_le (s := s) hz2
  rw [show skF s Z = skR s Z from rfl] at K2
  rw [hZ] at hw
  have g0 : (cutS s m Z == [116, 114, 117, 101]) = false := by rw [hw]; decide
  have g1 : (cutS s m Z == [102, 97, 108, 115, 101]) = false := by rw [hw]; decide
  have g2 : (cutS s m Z == [109, 117]) = false := by rw [hw]; decide
  have g3 : (cutS s m Z == [110, 117]) = true := by rw [hw]; decide
  clear hw
  generalize cutS s m Z = t at *
  clear hZ
  go_enter Tryz.func52, Tryz.ntmps52
  go_wp2_with fail
  refine HK0.out.mono ?_
  rintro e w1 ⟨rfl, hww⟩
  subst hww
  clear HK0
  go_wp2_with fail
  refine HV1.out.mono ?_
  rintro e w1 ⟨rfl, hww⟩
  subst hww
  clear HV1
  go_upto_block 0 with (fail)
  go_cut [19] (fun s3 wx => s3 = .int .i64 Z ∧ wx = w)
  case first =>
    go_wp2_with fail
    go_loopw [19] (fun iv wr => ∃ k : Nat, m ≤ k ∧ k ≤ s.length ∧ iv = .int .i64 k ∧ Hid (wE s m k = Z) ∧ wr = w) (fun iv _ => s.length - (intOf iv).toNat)
    case atStart => exact ⟨m, Nat.le_refl _, Nat.le_of_lt hlt, rfl, HZE, rfl⟩
    case round =>
      clear HZE hix
      obtain ⟨wo, rfl⟩ : ∃ wo : World, wo = wr := ⟨_, rfl⟩
      obtain ⟨k, hmk, hk, rfl, HZE, hww⟩ := hrel
      subst hww
      by_cases hlk : k < s.length
      · obtain ⟨b2, hb2⟩ : ∃ b, s[k] = b := ⟨_, rfl⟩
        have hix2 : (⟨s.toArray⟩ : ByteArray)[k]'(by simpa [ByteArray.size] using hlk) = b2 := by rw [← hb2]; simp [ByteArray.getElem_eq_getElem_data]
        have hkl2 : (k : Int) < (s.length : Int) := by omega
        have h1 := HST.out k hlk hmk
        rw [hb2, HZE.out] at h1
        have D1 := Lib.hid (HD.out b2 wo)
        have D2 := Lib.hid (HSM.out b2 wo)
        have HX1 := Lib.hid (show (sml b2 || (decide (m < k) && isDig b2)) = true → wE s m (k + 1) = Z from fun h => by rw [h1, if_pos h])
        have HX0 := Lib.hid (show (sml b2 || (decide (m < k) && isDig b2)) = false → Z = k from fun h => by rw [h1, if_neg (by rw [h]; decide)])
        clear h1 hb2 HST HEN HZE
        generalize sml b2 = q1 at *
        generalize isDig b2 = q2 at *
        cases q1 with
        | true =>
          have HXX := Lib.hid (HX1.out rfl)
          clear HX1 HX0 D1
          go_wp2_with (go_at_call 62; refine D2.out.mono ?_; rintro e w5 ⟨rfl, rfl⟩)
          go_roundw
          case rel => exact ⟨k + 1, by omega, by omega, by go_num, HXX, by first | rfl | trivial⟩
          case measure => simp [intOf]; omega
        | false =>
          rw [Bool.false_or] at HX1 HX0
          by_cases hmk2 : m = k
          · subst hmk2
            have HXX := Lib.hid (HX0.out (by simp))
            clear HX1 HX0 D1
            go_wp2_with (go_at_call 62; refine D2.out.mono ?_; rintro e w5 ⟨rfl, rfl⟩)
            go_meet
            exact ⟨by rw [HXX.out], rfl⟩
          · have hmk3 : (m : Int) < (k : Int) := by omega
            have hd : decide (m < k) = true := decide_eq_true (by omega)
            rw [hd, Bool.true_and] at HX1 HX0
            clear hd
            cases q2 with
            | true =>
              have HXX := Lib.hid (HX1.out rfl)
              clear HX1 HX0
              go_wp2_with (first | (go_at_call 62; refine D2.out.mono ?_; rintro e w5 ⟨rfl, rfl⟩) | (go_at_call 63; refine D1.out.mono ?_; rintro e w5 ⟨rfl, rfl⟩))
              go_roundw
              case rel => exact ⟨k + 1, by omega, by omega, by go_num, HXX, by first | rfl | trivial⟩
              case measure => simp [intOf]; omega
            | false =>
              have HXX := Lib.hid (HX0.out rfl)
              clear HX1 HX0
              go_wp2_with (first | (go_at_call 62; refine D2.out.mono ?_; rintro e w5 ⟨rfl, rfl⟩) | (go_at_call 63; refine D1.out.mono ?_; rintro e w5 ⟨rfl, rfl⟩))
              go_meet
              exact ⟨by rw [HXX.out], rfl⟩
      · have hke : k = s.length := by omega
        subst hke
        have HXX := Lib.hid (show Z = s.length from by rw [← HZE.out]; exact HEN.out)
        clear HZE HST HEN
        go_wp2_with fail
        go_meet
        exact ⟨by rw [HXX.out], rfl⟩
  case rest =>
    obtain ⟨rfl, hww⟩ := hcut
    replace hww := hww.symm
    subst hww
    clear HST HEN HZE HD HSM
    have hmZ : (m : Int) ≤ (Z : Int) := by omega
    have hZl : (Z : Int) ≤ (s.length : Int) := by omega
    obtain ⟨T, hT⟩ : ∃ T, w.heap.size = T := ⟨_, rfl⟩
    have r0 : RowAt (w.alloc (.cells #[ei 0, ei 0, es [], .bool false, .slice none 0 0, ei m] 82)) T 82 [ei 0, ei 0, es [], .bool false, .slice none 0 0, ei m] := by rw [← hT]; exact RowAt.new w _ _
    have u0 : Upd [] w (w.alloc (.cells #[ei 0, ei 0, es [], .bool false, .slice none 0 0, ei m] 82)) := (Upd.refl _ _).alloc _
    have r0c := r0.cell 0 _ rfl
    have r0f := r0.fz 0
    have r0 := r0.store 0 (ei 8)
    have u0 := u0.setCell (p := ⟨T, 0, none⟩) (Or.inl (by simp; omega)) (ei 8)
    obtain ⟨w2, hw2⟩ : ∃ w2, (w.alloc (.cells #[ei 0, ei 0, es [], .bool false, .slice none 0 0, ei m] 82)).setCell ⟨T, 0, none⟩ (ei 8) = w2 := ⟨_, rfl⟩
    rw [hw2] at r0 u0
    have r2 : RowAt w2 T 82 [ei 8, ei 0, es [], .bool false, .slice none 0 0, ei m] := r0
    have HU2 := Lib.hid u0
    have HTT := Lib.hid hT
    clear r0 u0
    generalize skR s Z = m2 at *
    have hm2 := hk2.1
    have hm3 := hk2.2
    have V2 := varS s m2 w2 (by omega) hm3
    have HR2 := Lib.hid r2
    clear r2 hk2
    go_wp2_with fail
    refine (K2.out _).mono ?_
    rintro e wx ⟨rfl, hww⟩
    subst hww
    clear K2 hT
    cases hv2 : vrF s m2 with
    | none =>
      rw [hv2] at V2
      have HV2 := Lib.hid (show Calls Tryz.prog 66 #[es s, .int .i64 m2] w2 fun e w' => e = .returned (.tuple #[.int .i64 (-1), .int .i64 m2]) ∧ w2 = w' from V2)
      have HZ := Lib.hid (show A = .error m2 from by rw [HX.out, hv2])
      clear V2 hv2 HX HI hw2
      go_wp2_with fail
      refine HV2.out.mono ?_
      rintro e wx ⟨rfl, hww⟩
      subst hww
      clear HV2
      go_wp2_with fail
      go_ret3
      rw [HZ.out]
      exact ⟨rfl, HU2.out⟩
    | some r =>
      obtain ⟨v, e0⟩ := r
      rw [hv2] at V2
      have HV2 := Lib.hid (show Calls Tryz.prog 66 #[es s, .int .i64 m2] w2 fun e w' => e = .returned (.tuple #[.int .i64 v, .int .i64 e0]) ∧ w2 = w' from V2)
      have hvl := vrF_lt hv2
      have hvp := vrF_pos hv2
      have hv0 := hvl.1
      have hv1 := hvl.2
      have hvp1 := hvp.1
      have hvp2 := hvp.2
      have HY := Lib.hid (show A = (if isB s (skR s e0) 46 then (match simF s k (skR s e0 + 1) with | .error e => .error e | .ok (f, q) => .ok (.fix 8 v f, q)) else .error (skR s e0)) from by rw [HX.out, hv2]; rfl)
      have K3 := Lib.hid (fun W => l04SkipS s e0 W (by omega) hvp2)
      have hk3 := skR_le (s := s) hvp2
      rw [show skF s e0 = skR s e0 from rfl] at K3
      generalize skR s e0 = m3 at *
      have hm4 := hk3.1
      have hm5 := hk3.2
      have c1 := HR2.out.cell 1 _ rfl
      have f1 := HR2.out.fz 1
      have r3 := HR2.out.store 1 (ei v)
      have hu3 : Upd [] w (w2.setCell ⟨T, 1, none⟩ (ei v)) := HU2.out.setCell (Or.inl (by rw [HTT.out]; exact Nat.le_refl _)) _
      obtain ⟨w3, hw3⟩ : ∃ w3, w2.setCell ⟨T, 1, none⟩ (ei v) = w3 := ⟨_, rfl⟩
      rw [hw3] at r3 hu3
      have HR3 := Lib.hid (show RowAt w3 T 82 [ei 8, ei v, es [], .bool false, .slice none 0 0, ei m] from r3)
      have HU3 := Lib.hid hu3
      have I2 := Lib.hid (fun W => isBS s m3 46 46 rfl W (by omega) hm5)
      clear V2 hv2 HX hw2 hvl hvp hk3 r3 hu3 HR2 HU2
      go_wp2_with fail
      refine HV2.out.mono ?_
      rintro e wx ⟨rfl, hww⟩
      subst hww
      clear HV2
      go_wp2_with fail
      refine (K3.out _).mono ?_
      rintro e wx ⟨rfl, hww⟩
      subst hww
      clear K3
      cases hq : isB s m3 46 with
      | false =>
        rw [hq] at I2
        have HZ := Lib.hid (show A = .error m3 from by rw [HY.out, hq]; rfl)
        clear HY hq HI hw3
        go_wp2_with fail
        refine (I2.out _).mono ?_
        rintro e wx ⟨rfl, hww⟩
        subst hww
        clear I2
        go_wp2_with fail
        go_ret3
        rw [HZ.out]
        exact ⟨rfl, HU3.out⟩
      | true =>
        have hlt2 := isB_lt hq
        rw [hq] at I2
        have HY2 := Lib.hid (show A = (match simF s k (m3 + 1) with | .error e => .error e | .ok (f, q) => .ok (.fix 8 v f, q)) from by rw [HY.out, hq]; rfl)
        have I3 := HI.out w3 (m3 + 1) (by omega) (by omega)
        clear HY hq HI hw3
        go_wp2_with fail
        refine (I2.out _).mono ?_
        rintro e wx ⟨rfl, hww⟩
        subst hww
        clear I2
        cases hsm : simF s k (m3 + 1) with
        | error a =>
          rw [hsm] at I3
          have HZ := Lib.hid (show A = .error a from by rw [HY2.out, hsm])
          have HI3 := Lib.hid I3
          clear I3 hsm HY2
          go_wp2_with fail
          refine HI3.out.mono ?_
          rintro e w5 ⟨rfl, hu5⟩
          have HU5 := Lib.hid (HU3.out.trans hu5)
          clear HI3 hu5
          go_wp2_with fail
          go_ret3
          rw [HZ.out]
          exact ⟨rfl, HU5.out⟩
        | ok r =>
          obtain ⟨fm, q⟩ := r
          rw [hsm] at I3
          have hq2 := simF_pos k _ fm q (by omega) hsm
          have hq3 := hq2.1
          have hq4 := hq2.2
          have HZ := Lib.hid (show A = .ok (.fix 8 v fm, q) from by rw [HY2.out, hsm])
          have HI3 := Lib.hid I3
          clear I3 hsm HY2 hq2
          go_wp2_with fail
          refine HI3.out.mono ?_
          rintro e w5 ⟨⟨v5, L, rfl, hn5, hf5, hl5⟩, hu5⟩
          obtain ⟨a5, c5, rfl⟩ := hn5.form
          have r5 := HR3.out.upd hu5 (by simp)
          have d0 := r5.cell 0 _ rfl
          have d1 := r5.cell 1 _ rfl
          have d2 := r5.cell 2 _ rfl
          have d3 := r5.cell 3 _ rfl
          have d4 := r5.cell 4 _ rfl
          have d5 := r5.cell 5 _ rfl
          have hown : (w5.alloc (.cells #[ei 8, ei v, es [], .bool false, .slice none 0 0, ei m] 82)).ownsRow w5.heap.size 82 6 (.slice (some ⟨w5.heap.size, 0, none⟩) 1 1) 1 [ei 8, ei v, es [], .bool false, .slice none 0 0, ei m] :=
            World.ownsRow_lit (base := w5.heap.size) (e := 82) (size := 6) w5 #[ei 8, ei v, es [], .bool false, .slice none 0 0, ei m] 1 (Nat.le_refl _) (by simp [maxLen]) (by simp)
          obtain ⟨us, hr5, hc5⟩ := hn5
          have hal := (Upd.refl [] w5).alloc (.cells #[ei 8, ei v, es [], .bool false, .slice none 0 0, ei m] 82)
          have hr6 := ownsRow_upd hr5 hal
          obtain ⟨f6, hf6, -⟩ := Flat.ofOwns hr6
          have HOW := Lib.hid hown
          have HC5 := Lib.hid hc5
          have HF6 := Lib.hid hf6
          have HF5 := Lib.hid hf5
          have HU46 := Lib.hid ((HU3.out.trans hu5).alloc (.cells #[ei 8, ei v, es [], .bool false, .slice none 0 0, ei m] 82))
          have hs45 := (HU3.out.trans hu5).size
          have HAL := Lib.hid hal
          clear HI3 hf5 hu5 r5 hown hr5 hr6 hc5 hf6 hal
          go_wp2_with (first
            | (at_builtin; refine wpList_append_flat rfl _ _ 70 rfl w5.heap.size 82 i0 (.agg #[.int .i64 0, .int .i64 0, .string ⟨#[]⟩, .bool false, .slice none 0 0, .int .i64 0]) 6 72 Tryz.underlying70 hi jz0 jz1 jz2 rfl (by decide) _ _ _ rfl HOW.out _ L.length us rfl _ HF6.out (ItC.one _ _ HC5.out) (by unfold maxLen; omega) (by omega) (by simp) ?_)
            | fail)
          intro v7 w7 hown7 hg7 ht7
          obtain ⟨a7, k7, rfl⟩ := ownsRow_form hown7
          have hu47 := HU46.out.grown hg7 (fun k hk => Or.inl (by have := (HOW.out.lt k hk).1; omega))
          have hc7 := ItC.upd (HAL.out.grown hg7 (fun k hk => Or.inl (HOW.out.lt k hk).1)) _ _ HC5.out
          have hcc : ItC (fun b => w.heap.size ≤ b) w7 (⟨ndV 8 v, [], m⟩ :: L) ([ei 8, ei v, es [], .bool false, .slice none 0 0, ei m] ++ us) := ⟨_, us, rfl, nilG _ _, ItC.mono (fun b _ h => Nat.le_trans HU3.out.size h) _ _ hc7⟩
          have HN7 := Lib.hid (show NwI w w7 (.slice a7 (1 + L.length) k7) (⟨ndV 8 v, [], m⟩ :: L) from ⟨_, by rw [show (⟨ndV 8 v, [], m⟩ :: L : List Itm).length = 1 + L.length by simp; omega]; exact row_base hown7 (by omega), hcc⟩)
          have HU7 := Lib.hid hu47
          clear hown7 hg7 ht7 hu47 hc7 hcc HOW HF6 HC5 HU46 HAL
          go_wp2_with fail
          go_ret3
          rw [HZ.out]
          exact ⟨⟨_, _, rfl, HN7.out, ⟨L, m, rfl, HF5.out⟩, by simp only [List.length_cons]; omega⟩, HU7.out⟩

end Go.Proofs.YtaahjpmndkcijaaGreatDoor

/-
  Formulas parsed: the reference reads a simple formula.
-/
namespace Go.Proofs.YtaahjpmndkcijaaGreatDoor
open Go.RowKit

set_option maxHeartbeats 1000000 in
theorem oneFmS (k : Nat) (w : World) (s : List UInt8) (n : Nat) (hs : s.length ≤ 400) (hn : n ≤ s.length)
    (hI : ∀ W n', n < n' → n' ≤ s.length → Calls Tryz.prog 52 #[es s, .int .i64 n'] W (FmS n' (simF s k n') W))
    (hO : ∀ W n', n < n' → n' ≤ s.length → Calls Tryz.prog 33 #[es s, .int .i64 n'] W (FmS n' (orF s k n') W)) :
    Calls Tryz.prog 52 #[es s, .int .i64 n] w (FmS n (simF s (k + 1) n) w) := by
  by_cases he : skR s n = s.length
  · exact sendS k w s n hs hn he
  have hlt : skR s n < s.length := by have := (skR_le hn).2; omega
  by_cases t1 : cutS s (skR s n) (wordE s (skR s n)) = wTrue
  · exact strueS k w s n hs hn t1
  by_cases t2 : cutS s (skR s n) (wordE s (skR s n)) = wFalse
  · exact sfalseS k w s n hs hn t2
  by_cases t3 : cutS s (skR s n) (wordE s (skR s n)) = wMu
  · exact smuS k w s n hs hn t3 hI
  by_cases t4 : cutS s (skR s n) (wordE s (skR s n)) = wNu
  · exact snuS k w s n hs hn t4 hI
  cases h40 : isB s (skR s n) 40 with
  | true => exact sparS k w s n hs hn h40 hO
  | false =>
    cases h91 : isB s (skR s n) 91 with
    | true =>
      have h60 : isB s (skR s n) 60 = false := by
        rw [isB_at hlt] at h91 ⊢
        have : s[skR s n] = 91 := by simpa using h91
        rw [this]; decide
      exact sboxS k w s n hs hn h40 h60 h91 hI
    | false =>
      cases h60 : isB s (skR s n) 60 with
      | true => exact sdiaS k w s n hs hn h40 h60 h91 hI
      | false =>
        cases hv : vrF s (skR s n) with
        | none => exact sothS k w s n hs hn h40 h60 h91 hlt t1 t2 t3 t4 hv
        | some r =>
          obtain ⟨v, e0⟩ := r
          exact svarS k w s n v e0 hs hn h40 h60 h91 hlt t1 t2 t3 t4 hv

end Go.Proofs.YtaahjpmndkcijaaGreatDoor

/-
  Formulas parsed: parts that an operator joins.
-/
namespace Go.Proofs.YtaahjpmndkcijaaGreatDoor
open Go.RowKit

/-- parts before a reading's result, joined by an operator. -/
def jnF (kd : Int) : List Fm → Except Nat (Fm × Nat) → Except Nat (Fm × Nat)
  | [], r => r
  | f :: P, r => match jnF kd P r with | .error e => .error e | .ok (g, p) => .ok (.two kd f g, p)
theorem jnF_snoc (kd : Int) (f : Fm) (r : Except Nat (Fm × Nat)) : ∀ P : List Fm, jnF kd (P ++ [f]) r = jnF kd P (match r with | .error e => .error e | .ok (g, p) => .ok (.two kd f g, p))
  | [] => rfl
  | x :: P => by rw [List.cons_append, jnF, jnF, jnF_snoc kd f r P]
theorem jnF_err (kd : Int) (a : Nat) : ∀ P : List Fm, jnF kd P (.error a) = .error a
  | [] => rfl
  | x :: P => by rw [jnF, jnF_err kd a P]
/-- the formula that parts and a last one make. -/
def jnL (kd : Int) : List Fm → Fm → Fm
  | [], g => g
  | f :: P, g => .two kd f (jnL kd P g)
theorem jnF_ok (kd : Int) (g : Fm) (p : Nat) : ∀ P : List Fm, jnF kd P (.ok (g, p)) = .ok (jnL kd P g, p)
  | [] => rfl
  | x :: P => by rw [jnF, jnF_ok kd g p P]; rfl
/-- the items of parts, each followed by the operator's item but the last. -/
def jnI (hd : Itm) : List (List Itm) → List Itm
  | [] => []
  | [L] => L
  | L :: M :: Ls => hd :: (L ++ jnI hd (M :: Ls))
/-- items of parts. -/
def ItP : List Fm → List (List Itm) → Prop
  | [], Ls => Ls = []
  | f :: P, Ls => ∃ L M, Ls = L :: M ∧ ItF f L ∧ ItP P M
theorem ItP.snoc {f : Fm} {L : List Itm} (h : ItF f L) : ∀ (P : List Fm) (Ls : List (List Itm)), ItP P Ls → ItP (P ++ [f]) (Ls ++ [L])
  | [], Ls, h2 => by cases h2; exact ⟨L, [], rfl, h, rfl⟩
  | x :: P, Ls, ⟨A, M, h1, h2, h3⟩ => by subst h1; exact ⟨A, M ++ [L], rfl, h2, ItP.snoc h P M h3⟩
theorem ItP.join {kd : Int} {g : Fm} {G : List Itm} (hg : ItF g G) : ∀ (P : List Fm) (Ls : List (List Itm)), ItP P Ls → ItF (jnL kd P g) (jnI ⟨ndK kd, [], 0⟩ (Ls ++ [G]))
  | [], Ls, h => by cases h; exact hg
  | x :: P, Ls, ⟨A, M, h1, h2, h3⟩ => by
    subst h1
    have ih := ItP.join (kd := kd) hg P M h3
    have e : jnI ⟨ndK kd, [], 0⟩ ((A :: M) ++ [G]) = ⟨ndK kd, [], 0⟩ :: (A ++ jnI ⟨ndK kd, [], 0⟩ (M ++ [G])) := by
      cases M with
      | nil => rfl
      | cons B M => rfl
    rw [e]
    exact ⟨A, _, rfl, h2, ih⟩
theorem jnI_len2 (hd : Itm) (L : List Itm) : ∀ Ls : List (List Itm), (jnI hd (Ls ++ [L])).length = ((Ls ++ [L]).map List.length).sum + Ls.length
  | [] => by simp [jnI]
  | [A] => by simp [jnI]
  | A :: M :: Ls => by
    have := jnI_len2 hd L (M :: Ls)
    simp [jnI] at this ⊢
    omega
theorem jnI_drop (hd : Itm) (Ls : List (List Itm)) (k : Nat) (h : k < Ls.length) : jnI hd (Ls.drop k) = (if k + 1 < Ls.length then [hd] else []) ++ (Ls[k] ++ jnI hd (Ls.drop (k + 1))) := by
  rw [List.drop_eq_getElem_cons h]
  by_cases h1 : k + 1 < Ls.length
  · rw [if_pos h1, List.drop_eq_getElem_cons h1]; rfl
  · rw [if_neg h1, List.drop_of_length_le (by omega)]; simp [jnI]
/-- the cells of rows of items; all that is read lies where Z says. -/
def PtC (Z : Nat → Prop) (w : World) : List (List Itm) → List Value → Prop
  | [], us => us = []
  | L :: Ls, us => ∃ (v : Value) (us' : List Value), us = v :: us' ∧ (∃ fp vs, Flat fp w v 6 L.length vs ∧ (∀ b ∈ fp, Z b) ∧ ItC Z w L vs) ∧ PtC Z w Ls us'
theorem PtC.updS {Z : Nat → Prop} {S : List Nat} {w w' : World} (hu : Upd S w w') (hS : ∀ b, Z b → b ∉ S) : ∀ (Ls : List (List Itm)) (us : List Value), PtC Z w Ls us → PtC Z w' Ls us
  | [], us, h => h
  | L :: Ls, us, ⟨v, us', h1, ⟨fp, vs, h2, h3, h4⟩, h5⟩ => ⟨v, us', h1, ⟨fp, vs, h2.upd hu (fun b hb => hS b (h3 b hb)), h3, ItC.updS hu hS _ _ h4⟩, PtC.updS hu hS Ls us' h5⟩
theorem PtC.upd {Z : Nat → Prop} {w w' : World} (hu : Upd [] w w') (Ls : List (List Itm)) (us : List Value) (h : PtC Z w Ls us) : PtC Z w' Ls us := PtC.updS hu (by simp) Ls us h
theorem PtC.mono {Z Z' : Nat → Prop} {w : World} (hZ : ∀ b, b < w.heap.size → Z b → Z' b) : ∀ (Ls : List (List Itm)) (us : List Value), PtC Z w Ls us → PtC Z' w Ls us
  | [], us, h => h
  | L :: Ls, us, ⟨v, us', h1, ⟨fp, vs, h2, h3, h4⟩, h5⟩ => ⟨v, us', h1, ⟨fp, vs, h2, fun b hb => hZ b (h2.lt b hb) (h3 b hb), ItC.mono hZ _ _ h4⟩, PtC.mono hZ Ls us' h5⟩
theorem PtC.snoc {Z : Nat → Prop} {w : World} {L : List Itm} {v : Value} (hv : ∃ fp vs, Flat fp w v 6 L.length vs ∧ (∀ b ∈ fp, Z b) ∧ ItC Z w L vs) : ∀ (Ls : List (List Itm)) (us : List Value), PtC Z w Ls us → PtC Z w (Ls ++ [L]) (us ++ [v])
  | [], us, h => by cases h; exact ⟨v, [], rfl, hv, rfl⟩
  | A :: Ls, us, ⟨x, us', h1, h2, h3⟩ => by subst h1; exact ⟨x, us' ++ [v], rfl, h2, PtC.snoc hv Ls us' h3⟩
theorem PtC.len {Z : Nat → Prop} {w : World} : ∀ (Ls : List (List Itm)) (us : List Value), PtC Z w Ls us → us.length = Ls.length
  | [], us, h => by cases h; rfl
  | A :: Ls, us, ⟨x, us', h1, h2, h3⟩ => by subst h1; simp [PtC.len Ls us' h3]
theorem PtC.get {Z : Nat → Prop} {w : World} : ∀ (Ls : List (List Itm)) (us : List Value), PtC Z w Ls us → ∀ (i : Nat) (h : i < Ls.length), ∃ (v : Value) (fp : List Nat) (vs : List Value), us[i]? = some v ∧ Flat fp w v 6 Ls[i].length vs ∧ (∀ b ∈ fp, Z b) ∧ ItC Z w Ls[i] vs
  | A :: Ls, us, ⟨x, us', h1, ⟨fp, vs, h2, h3, h4⟩, h5⟩, 0, h => by subst h1; exact ⟨x, fp, vs, rfl, h2, h3, h4⟩
  | A :: Ls, us, ⟨x, us', h1, h2, h3⟩, i + 1, h => by
    subst h1
    obtain ⟨v, fp, vs, g⟩ := PtC.get Ls us' h3 i (by simpa using h)
    exact ⟨v, fp, vs, g⟩
/-- a new row of items as a part. -/
theorem NwI.part {w0 w : World} {v : Value} {L : List Itm} (h : NwI w0 w v L) : ∃ fp vs, Flat fp w v 6 L.length vs ∧ (∀ b ∈ fp, w0.heap.size ≤ b) ∧ ItC (fun b => w0.heap.size ≤ b) w L vs := by
  obtain ⟨us, h1, h2⟩ := h
  obtain ⟨fp, q1, -, q3, -⟩ := Flat.ofOwns h1
  exact ⟨fp, us, q1, q3, h2⟩

end Go.Proofs.YtaahjpmndkcijaaGreatDoor

/-
  Formulas parsed, plainly: readings are well formed; where the formula that begins at an item ends; the first variable that nothing binds.
-/
namespace Go.Proofs.YtaahjpmndkcijaaGreatDoor
open Go.RowKit

/-- formulas with the kinds that a reading gives. -/
def okF : Fm → Prop
  | .leaf k => k = 0 ∨ k = 1
  | .var _ _ => True
  | .two k a b => (k = 2 ∨ k = 3) ∧ okF a ∧ okF b
  | .fix k v a => (k = 7 ∨ k = 8) ∧ (0 ≤ v ∧ v < 3) ∧ okF a
  | .modal _ r _ a => TOk r ∧ okF a
mutual
theorem simF_okF {s : List UInt8} : ∀ (k n : Nat) (f : Fm) (p : Nat), simF s k n = .ok (f, p) → okF f
  | 0, n, f, p, h => by simp [simF] at h
  | k + 1, n, f, p, h => by
    rw [simF] at h
    generalize skR s n = m at *
    split at h
    · cases he : orF s k (m + 1) with
      | error e => rw [he] at h; cases h
      | ok r =>
        obtain ⟨g, q⟩ := r
        rw [he] at h
        have hq := orF_okF k _ g q he
        simp only at h
        split at h
        · cases h; exact hq
        · cases h
    · split at h
      · cases he : regP s (m + 1) with
        | error e => rw [he] at h; cases h
        | ok r =>
          obtain ⟨x, q⟩ := r
          rw [he] at h
          have hq := eitherF_ok _ _ x q he
          simp only at h
          generalize (if isB s m 91 then (93 : UInt8) else 62) = cb at h
          split at h
          · cases h2 : simF s k (q + 1) with
            | error e => rw [h2] at h; cases h
            | ok r2 =>
              obtain ⟨g, q2⟩ := r2
              rw [h2] at h
              have hq2 := simF_okF k _ g q2 h2
              cases h
              exact ⟨hq, hq2⟩
          · cases h
      · cases hv : vrF s m with
        | some r =>
          obtain ⟨v, e⟩ := r
          rw [hv] at h
          cases h; exact trivial
        | none =>
          rw [hv] at h
          simp only at h
          split at h
          · cases h; exact Or.inl rfl
          · split at h
            · cases h; exact Or.inr rfl
            · split at h
              · cases hv2 : vrF s (skR s (wordE s m)) with
                | none => rw [hv2] at h; cases h
                | some r =>
                  obtain ⟨v, e⟩ := r
                  rw [hv2] at h
                  simp only at h
                  split at h
                  · cases h2 : simF s k (skR s e + 1) with
                    | error e => rw [h2] at h; cases h
                    | ok r2 =>
                      obtain ⟨g, q2⟩ := r2
                      rw [h2] at h
                      have hq2 := simF_okF k _ g q2 h2
                      generalize hkk : (if cutS s m (wordE s m) = wNu then (8 : Int) else 7) = kk at h
                      cases h
                      refine ⟨?_, vrF_lt hv2, hq2⟩
                      rw [← hkk]
                      split <;> simp
                  · cases h
              · cases h
theorem andF_okF {s : List UInt8} : ∀ (k n : Nat) (f : Fm) (p : Nat), andF s k n = .ok (f, p) → okF f
  | 0, n, f, p, h => by simp [andF] at h
  | k + 1, n, f, p, h => by
    rw [andF] at h
    cases he : simF s k n with
    | error e => rw [he] at h; cases h
    | ok r =>
      obtain ⟨y, q⟩ := r
      rw [he] at h
      have hq := simF_okF k n y q he
      simp only at h
      split at h
      · cases h2 : andF s k (skR s q + 1) with
        | error e => rw [h2] at h; cases h
        | ok r2 =>
          obtain ⟨y2, q2⟩ := r2
          rw [h2] at h
          have hq2 := andF_okF k _ y2 q2 h2
          cases h
          exact ⟨Or.inl rfl, hq, hq2⟩
      · cases h; exact hq
theorem orF_okF {s : List UInt8} : ∀ (k n : Nat) (f : Fm) (p : Nat), orF s k n = .ok (f, p) → okF f
  | 0, n, f, p, h => by simp [orF] at h
  | k + 1, n, f, p, h => by
    rw [orF] at h
    cases he : andF s k n with
    | error e => rw [he] at h; cases h
    | ok r =>
      obtain ⟨y, q⟩ := r
      rw [he] at h
      have hq := andF_okF k n y q he
      simp only at h
      split at h
      · cases h2 : orF s k (q + 1) with
        | error e => rw [h2] at h; cases h
        | ok r2 =>
          obtain ⟨y2, q2⟩ := r2
          rw [h2] at h
          have hq2 := orF_okF k _ y2 q2 h2
          cases h
          exact ⟨Or.inr rfl, hq, hq2⟩
      · cases h; exact hq
end

theorem ItP.app {fs : List Fm} {Bs : List (List Itm)} {gs : List Fm} (hb : ItP gs Bs) : ∀ {As : List (List Itm)}, ItP fs As → ItP (fs ++ gs) (As ++ Bs) := by
  induction fs with
  | nil => intro As h; cases h; exact hb
  | cons f fs ih =>
    intro As h
    obtain ⟨A, M, rfl, h1, h2⟩ := h
    exact ⟨A, M ++ Bs, rfl, h1, ih h2⟩
theorem ItF.step {f : Fm} {A : List Itm} (h : ItF f A) (ho : okF f) : ∃ (hd : Itm) (fs : List Fm) (As : List (List Itm)), A = hd :: As.flatten ∧ ItP fs As ∧ arS hd.nd.kd = fs.length ∧ ∀ g ∈ fs, okF g := by
  cases f with
  | leaf k => obtain ⟨a, rfl⟩ := h; exact ⟨_, [], [], rfl, rfl, by rcases ho with rfl | rfl <;> rfl, by simp⟩
  | var v p => cases h; exact ⟨_, [], [], rfl, rfl, rfl, by simp⟩
  | two k f g =>
    obtain ⟨A, B, rfl, h1, h2⟩ := h
    exact ⟨⟨ndK k, [], 0⟩, [f, g], [A, B], by simp, ⟨A, [B], rfl, h1, B, [], rfl, h2, rfl⟩, by rcases ho.1 with rfl | rfl <;> rfl, by simpa using ho.2⟩
  | fix k v f =>
    obtain ⟨A, a, rfl, h1⟩ := h
    exact ⟨⟨ndV k v, [], a⟩, [f], [A], by simp, ⟨A, [], rfl, h1, rfl⟩, by rcases ho.1 with rfl | rfl <;> rfl, by simpa using ho.2.2⟩
  | modal box r p f =>
    obtain ⟨A, rfl, h1⟩ := h
    exact ⟨⟨ndK (if box then 5 else 4), flatT r, p⟩, [f], [A], by simp, ⟨A, [], rfl, h1, rfl⟩, by cases box <;> rfl, by simpa using ho.2⟩

/-- how many items n formulas take. -/
def endN : List Itm → Nat → Nat
  | _, 0 => 0
  | [], _ + 1 => 0
  | x :: xs, n + 1 => 1 + endN xs (n + (arS x.nd.kd).toNat)
theorem endN_items : ∀ (N : Nat) (fs : List Fm) (As : List (List Itm)) (rest : List Itm), As.flatten.length ≤ N → ItP fs As → (∀ g ∈ fs, okF g) → endN (As.flatten ++ rest) fs.length = As.flatten.length := by
  intro N
  induction N with
  | zero =>
    intro fs As rest hN h ho
    cases fs with
    | nil => cases h; cases rest <;> rfl
    | cons f fs =>
      obtain ⟨A, M, rfl, h1, h2⟩ := h
      obtain ⟨hd, gs, Bs, rfl, -⟩ := h1.step (ho f (by simp))
      simp at hN
  | succ N ih =>
    intro fs As rest hN h ho
    cases fs with
    | nil => cases h; cases rest <;> rfl
    | cons f fs =>
      obtain ⟨A, M, rfl, h1, h2⟩ := h
      obtain ⟨hd, gs, Bs, rfl, b1, b2, b3⟩ := h1.step (ho f (by simp))
      have e : ((hd :: Bs.flatten) :: M).flatten ++ rest = hd :: ((Bs ++ M).flatten ++ rest) := by simp
      rw [e, List.length_cons, endN, b2]
      have h3 := ih (gs ++ fs) (Bs ++ M) rest (by simp at hN ⊢; omega) (ItP.app h2 b1) (by
        intro g hg
        rcases List.mem_append.1 hg with hg | hg
        · exact b3 g hg
        · exact ho g (by simp [hg]))
      rw [show fs.length + ((gs.length : Int)).toNat = (gs ++ fs).length by simp; omega, h3]
      simp; omega
/-- where the formula that begins at k ends. -/
def endAt (L : List Itm) (k : Nat) : Nat := k + endN (L.drop k) 1
theorem endAt_of {L A rest : List Itm} {f : Fm} {k : Nat} (h : L.drop k = A ++ rest) (hA : ItF f A) (ho : okF f) : endAt L k = k + A.length := by
  have h1 := endN_items A.length [f] [A] rest (by simp) ⟨A, [], rfl, hA, rfl⟩ (by simpa using ho)
  unfold endAt
  rw [h]
  simpa using h1
theorem sub_at : ∀ (f : Fm) (A : List Itm), ItF f A → okF f → ∀ j, j < A.length → ∃ (g : Fm) (G rest : List Itm), A.drop j = G ++ rest ∧ ItF g G ∧ okF g := by
  intro f
  induction f with
  | leaf k => intro A h ho j hj; obtain ⟨a, rfl⟩ := h; obtain rfl : j = 0 := (by simpa using hj); exact ⟨.leaf k, _, [], rfl, ⟨a, rfl⟩, ho⟩
  | var v p => intro A h ho j hj; cases h; obtain rfl : j = 0 := (by simpa using hj); exact ⟨.var v p, _, [], rfl, rfl, ho⟩
  | two k f g ihf ihg =>
    intro A h ho j hj
    cases j with
    | zero => exact ⟨.two k f g, A, [], by simp, h, ho⟩
    | succ j =>
      obtain ⟨B, C, rfl, h1, h2⟩ := h
      rw [List.drop_succ_cons]
      by_cases hb : j < B.length
      · obtain ⟨g', G, rest, e, q⟩ := ihf B h1 ho.2.1 j hb
        exact ⟨g', G, rest ++ C, by rw [List.drop_append_of_le_length (by omega), e, List.append_assoc], q⟩
      · obtain ⟨g', G, rest, e, q⟩ := ihg C h2 ho.2.2 (j - B.length) (by simp at hj; omega)
        exact ⟨g', G, rest, by rw [List.drop_append, List.drop_of_length_le (by omega), e]; rfl, q⟩
  | fix k v f ih =>
    intro A h ho j hj
    cases j with
    | zero => exact ⟨.fix k v f, A, [], by simp, h, ho⟩
    | succ j =>
      obtain ⟨B, a, rfl, h1⟩ := h
      exact ih B h1 ho.2.2 j (by simpa using hj)
  | modal box r p f ih =>
    intro A h ho j hj
    cases j with
    | zero => exact ⟨.modal box r p f, A, [], by simp, h, ho⟩
    | succ j =>
      obtain ⟨B, rfl, h1⟩ := h
      exact ih B h1 ho.2 j (by simpa using hj)
theorem drop_sub {L A rest : List Itm} {p : Nat} (h : L.drop p = A ++ rest) (j : Nat) (hj : j ≤ A.length) : L.drop (p + j) = A.drop j ++ rest := by
  rw [← List.drop_drop, h, List.drop_append_of_le_length hj]
theorem end_sub {L A rest : List Itm} {f : Fm} {p : Nat} (h : L.drop p = A ++ rest) (hA : ItF f A) (ho : okF f) (k : Nat) (h1 : p ≤ k) (h2 : k < p + A.length) : endAt L k ≤ p + A.length := by
  obtain ⟨j, rfl⟩ : ∃ j, k = p + j := ⟨k - p, by omega⟩
  obtain ⟨g, G, r2, e, hG, hg⟩ := sub_at f A hA ho j (by omega)
  have hd := drop_sub h j (by omega)
  rw [e, List.append_assoc] at hd
  rw [endAt_of hd hG hg]
  have := congrArg List.length e
  simp at this
  omega

/-- the item at k binds the variable v, and its formula goes on behind i. -/
def bindsB (L : List Itm) (k i : Nat) (v : Int) : Bool := match L[k]? with | none => false | some x => (x.nd.kd == 7 || x.nd.kd == 8) && x.nd.vr == v && decide (i < endAt L k)
def bndB (L : List Itm) (i k : Nat) (v : Int) : Bool := (List.range k).any fun j => bindsB L j i v
theorem bndB_step (L : List Itm) (i k : Nat) (v : Int) : bndB L i (k + 1) v = (bndB L i k v || bindsB L k i v) := by
  unfold bndB; rw [List.range_succ, List.any_append]; simp
/-- the first variable from i on that nothing binds: where it stands. -/
def scF (L : List Itm) : Nat → Nat → Option Nat
  | 0, _ => none
  | n + 1, i => match L[i]? with | none => none | some x => if x.nd.kd = 6 ∧ bndB L i i x.nd.vr = false then some x.at' else scF L n (i + 1)
theorem bndB_iff (L : List Itm) (i k : Nat) (v : Int) : bndB L i k v = true ↔ ∃ j, j < k ∧ bindsB L j i v = true := by
  unfold bndB; rw [List.any_eq_true]
  exact ⟨fun ⟨j, h1, h2⟩ => ⟨j, List.mem_range.1 h1, h2⟩, fun ⟨j, h1, h2⟩ => ⟨j, List.mem_range.2 h1, h2⟩⟩
theorem ctx_more {Q : Nat → Prop} {p q : Nat} (hpq : p ≤ q) (h : ∀ k, p ≤ k → k < q → ¬ Q k) : (∃ k, k < q ∧ Q k) ↔ ∃ k, k < p ∧ Q k :=
  ⟨fun ⟨k, h1, h2⟩ => by
    rcases Nat.lt_or_ge k p with h3 | h3
    · exact ⟨k, h3, h2⟩
    · exact absurd h2 (h k h3 h1), fun ⟨k, h1, h2⟩ => ⟨k, by omega, h2⟩⟩
theorem drop_get {L A : List Itm} {p : Nat} {x : Itm} (h : L.drop p = x :: A) : L[p]? = some x := by
  have := congrArg (fun l => l[0]?) h
  simpa using this
theorem drop_next {L A : List Itm} {p : Nat} {x : Itm} (h : L.drop p = x :: A) : L.drop (p + 1) = A := by
  rw [← List.drop_drop, h]; rfl
theorem scF_skip {L : List Itm} {p n : Nat} {x : Itm} (h : L[p]? = some x) (hk : x.nd.kd ≠ 6) : scF L (n + 1) p = scF L n (p + 1) := by
  rw [scF, h]; simp [hk]
theorem binds_no {L : List Itm} {k i : Nat} {v : Int} {x : Itm} (h : L[k]? = some x) (hk : ¬ (x.nd.kd = 7 ∨ x.nd.kd = 8)) : ¬ bindsB L k i v = true := by
  unfold bindsB; rw [h]
  intro e
  simp only [Bool.and_eq_true, Bool.or_eq_true, beq_iff_eq] at e
  exact hk e.1.1
theorem binds_end {L : List Itm} {k i : Nat} {v : Int} (h : endAt L k ≤ i) : ¬ bindsB L k i v = true := by
  unfold bindsB
  split
  · simp
  · intro e
    simp only [Bool.and_eq_true, decide_eq_true_eq] at e
    omega
theorem scF_sub : ∀ (f : Fm) (L A rest : List Itm) (p : Nat) (u : List Int), ItF f A → okF f → L.drop p = A ++ rest →
    (∀ i, p ≤ i → i < p + A.length → ∀ v, (∃ k, k < p ∧ bindsB L k i v = true) ↔ v ∈ u) → ∀ n, scF L (A.length + n) p = (match freF f u with | some o => some o | none => scF L n (p + A.length)) := by
  intro f
  induction f with
  | leaf k =>
    intro L A rest p u h ho hd hc n
    obtain ⟨a, rfl⟩ := h
    have hg := drop_get hd
    rw [List.length_singleton, Nat.add_comm, scF_skip hg (by rcases ho with rfl | rfl <;> simp [ndK])]
    rfl
  | var v q =>
    intro L A rest p u h ho hd hc n
    cases h
    have hg := drop_get hd
    have hb := hc p (Nat.le_refl _) (by simp) v
    rw [← bndB_iff] at hb
    rw [List.length_singleton, Nat.add_comm, scF, hg, freF]
    simp only [ndV, true_and]
    by_cases hv : v ∈ u
    · rw [if_neg (by rw [hb.2 hv]; simp), if_pos (by simpa using hv)]
    · have : bndB L p p v = false := by rw [Bool.eq_false_iff]; exact fun e => hv (hb.1 e)
      rw [if_pos this, if_neg (by simpa using hv)]
  | two k f g ihf ihg =>
    intro L A rest p u h ho hd hc n
    obtain ⟨B, C, rfl, h1, h2⟩ := h
    have hg := drop_get hd
    have hd1 : L.drop (p + 1) = B ++ (C ++ rest) := by rw [drop_next hd]; simp
    have hd2 : L.drop (p + 1 + B.length) = C ++ rest := by rw [drop_sub hd1 B.length (Nat.le_refl _)]; simp
    have hno : ¬ ((ndK k).kd = 7 ∨ (ndK k).kd = 8) := by rcases ho.1 with rfl | rfl <;> decide
    have c1 : ∀ i, p + 1 ≤ i → i < p + 1 + B.length → ∀ v, (∃ k, k < p + 1 ∧ bindsB L k i v = true) ↔ v ∈ u := fun i q1 q2 v => by
      rw [ctx_more (p := p) (by omega) (fun k h1 h2 => by obtain rfl : k = p := (by omega); exact binds_no hg hno)]
      exact hc i (by omega) (by simp; omega) v
    have c2 : ∀ i, p + 1 + B.length ≤ i → i < p + 1 + B.length + C.length → ∀ v, (∃ k, k < p + 1 + B.length ∧ bindsB L k i v = true) ↔ v ∈ u := fun i q1 q2 v => by
      rw [ctx_more (p := p) (by omega) (fun k e1 e2 => by
        by_cases e3 : k = p
        · rw [e3]; exact binds_no hg hno
        · exact binds_end (Nat.le_trans (end_sub hd1 h1 ho.2.1 k (by omega) e2) q1))]
      exact hc i (by omega) (by simp; omega) v
    have e0 : (⟨ndK k, [], 0⟩ :: (B ++ C) : List Itm).length + n = (B.length + (C.length + n)) + 1 := by simp; omega
    rw [e0, scF_skip hg (by rcases ho.1 with rfl | rfl <;> simp [ndK]), ihf L B _ (p + 1) u h1 ho.2.1 hd1 c1, freF]
    cases freF f u with
    | some o => rfl
    | none =>
      simp only
      rw [ihg L C rest _ u h2 ho.2.2 hd2 c2]
      cases freF g u with
      | some o => rfl
      | none =>
        simp only [List.length_cons, List.length_append]
        congr 1
        omega
  | fix k v' f ih =>
    intro L A rest p u h ho hd hc n
    have hall : endAt L p = p + A.length := endAt_of hd (f := .fix k v' f) h ho
    obtain ⟨B, a, rfl, h1⟩ := h
    have hg := drop_get hd
    have hd1 : L.drop (p + 1) = B ++ rest := drop_next hd
    have c1 : ∀ i, p + 1 ≤ i → i < p + 1 + B.length → ∀ v, (∃ k, k < p + 1 ∧ bindsB L k i v = true) ↔ v ∈ u ++ [v'] := fun i q1 q2 v => by
      have h0 := hc i (by omega) (by simp; omega) v
      have hp : bindsB L p i v = true ↔ v = v' := by
        unfold bindsB
        rw [hg]
        have : i < endAt L p := by rw [hall]; simp; omega
        simp only [ndV, this, decide_true, Bool.and_true, Bool.and_eq_true, Bool.or_eq_true, beq_iff_eq]
        exact ⟨fun e => e.2.symm, fun e => ⟨ho.1, e.symm⟩⟩
      rw [List.mem_append, List.mem_singleton, ← h0, ← hp]
      exact ⟨fun ⟨k, e1, e2⟩ => by
        by_cases e3 : k = p
        · subst e3; exact Or.inr e2
        · exact Or.inl ⟨k, by omega, e2⟩, fun e => by
        rcases e with ⟨k, e1, e2⟩ | e
        · exact ⟨k, by omega, e2⟩
        · exact ⟨p, by omega, e⟩⟩
    have e0 : (⟨ndV k v', [], a⟩ :: B : List Itm).length + n = (B.length + n) + 1 := by simp; omega
    rw [e0, scF_skip hg (by rcases ho.1 with rfl | rfl <;> simp [ndV]), ih L B rest (p + 1) _ h1 ho.2.2 hd1 c1, freF]
    cases freF f (u ++ [v']) with
    | some o => rfl
    | none => simp only [List.length_cons]; congr 1; omega
  | modal box r q f ih =>
    intro L A rest p u h ho hd hc n
    obtain ⟨B, rfl, h1⟩ := h
    have hg := drop_get hd
    have hd1 : L.drop (p + 1) = B ++ rest := drop_next hd
    have hno : ¬ ((ndK (if box then 5 else 4)).kd = 7 ∨ (ndK (if box then 5 else 4)).kd = 8) := by cases box <;> decide
    have c1 : ∀ i, p + 1 ≤ i → i < p + 1 + B.length → ∀ v, (∃ k, k < p + 1 ∧ bindsB L k i v = true) ↔ v ∈ u := fun i q1 q2 v => by
      rw [ctx_more (p := p) (by omega) (fun k h1 h2 => by obtain rfl : k = p := (by omega); exact binds_no hg hno)]
      exact hc i (by omega) (by simp; omega) v
    have e0 : (⟨ndK (if box then 5 else 4), flatT r, q⟩ :: B : List Itm).length + n = (B.length + n) + 1 := by simp; omega
    rw [e0, scF_skip hg (by cases box <;> simp [ndK]), ih L B rest (p + 1) u h1 ho.2 hd1 c1, freF]
    cases freF f u with
    | some o => rfl
    | none => simp only [List.length_cons]; congr 1; omega
theorem scF_free {f : Fm} {L : List Itm} (h : ItF f L) (ho : okF f) : scF L L.length 0 = freF f [] := by
  have h1 := scF_sub f L L [] 0 [] h ho (by simp) (fun i _ _ v => by simp) 0
  rw [Nat.add_zero] at h1
  rw [h1]
  cases freF f [] <;> rfl

end Go.Proofs.YtaahjpmndkcijaaGreatDoor

/-
  Formulas parsed: the reference finds the end of a formula among items.
-/
namespace Go.Proofs.YtaahjpmndkcijaaGreatDoor
open Go.RowKit

theorem drop_pre {γ : Type} (A B : List γ) (n : Nat) : (A ++ B).drop (A.length + n) = B.drop n := by rw [← List.drop_drop]; simp
theorem take_pre {γ : Type} (A B : List γ) (n : Nat) : (A ++ B).take (A.length + n) = A ++ B.take n := by rw [List.take_append, List.take_of_length_le (by omega), Nat.add_sub_cancel_left]
theorem ItC.drop {Z : Nat → Prop} {w : World} : ∀ (xs : List Itm) (us : List Value) (i : Nat), ItC Z w xs us → ItC Z w (xs.drop i) (us.drop (i * 6))
  | xs, us, 0, h => by simpa using h
  | [], us, i + 1, h => by cases h; rfl
  | x :: xs, us, i + 1, ⟨rv, us', h1, h2, h3⟩ => by
    rw [List.drop_succ_cons, h1, show (i + 1) * 6 = (encN x.nd ++ [rv, ei x.at']).length + i * 6 by simp; omega, drop_pre]
    exact ItC.drop xs us' i h3
theorem ItC.take {Z : Nat → Prop} {w : World} : ∀ (xs : List Itm) (us : List Value) (i : Nat), ItC Z w xs us → ItC Z w (xs.take i) (us.take (i * 6))
  | xs, us, 0, h => by rw [List.take_zero, Nat.zero_mul, List.take_zero]; exact rfl
  | [], us, i + 1, h => by cases h; rfl
  | x :: xs, us, i + 1, ⟨rv, us', h1, h2, h3⟩ => by
    rw [List.take_succ_cons, h1, show (i + 1) * 6 = (encN x.nd ++ [rv, ei x.at']).length + i * 6 by simp; omega, take_pre]
    exact ⟨rv, us'.take (i * 6), rfl, h2, ItC.take xs us' i h3⟩

/-- a slice of items that can be read. -/
def HasIt (w : World) (v : Value) (L : List Itm) : Prop := ∃ fp us, Flat fp w v 6 L.length us ∧ ItC (fun _ => True) w L us
theorem HasIt.upd {w w' : World} {v : Value} {L : List Itm} (h : HasIt w v L) (hu : Upd [] w w') : HasIt w' v L := by
  obtain ⟨fp, us, h1, h2⟩ := h
  exact ⟨fp, us, h1.upd hu (by simp), ItC.upd hu _ _ h2⟩
theorem NwI.has {w0 w : World} {v : Value} {L : List Itm} (h : NwI w0 w v L) : HasIt w v L := by
  obtain ⟨fp, us, h1, -, h2⟩ := h.part
  exact ⟨fp, us, h1, ItC.mono (fun _ _ _ => trivial) _ _ h2⟩
theorem HasIt.open {w : World} {v : Value} {L : List Itm} (h : HasIt w v L) : ∃ a cap, v = .slice a L.length cap ∧ L.length ≤ cap ∧ cap ≤ maxLen ∧
    ∀ i (h : i < L.length), ∃ b off rv fp, a = some ⟨b, off, none⟩ ∧ w.cell? ⟨b, off + i * 6, none⟩ = some (ei L[i].nd.kd) ∧ w.cell? ⟨b, off + i * 6 + 1, none⟩ = some (ei L[i].nd.vr) ∧
      w.cell? ⟨b, off + i * 6 + 2, none⟩ = some (es L[i].nd.lb) ∧ w.cell? ⟨b, off + i * 6 + 3, none⟩ = some (.bool L[i].nd.nt) ∧ w.cell? ⟨b, off + i * 6 + 4, none⟩ = some rv ∧
      w.cell? ⟨b, off + i * 6 + 5, none⟩ = some (ei L[i].at') ∧ R_G1 fp w [rv] L[i].rg := by
  obtain ⟨fp, us, ⟨a, cap, rfl, h1, h2, h3, h4⟩, h5⟩ := h
  refine ⟨a, cap, rfl, h1, h2, fun i hi => ?_⟩
  rcases h4 with ⟨h0, -⟩ | ⟨b, off, rfl, rfl, hbl, hc⟩
  · omega
  · obtain ⟨rv, fp, g0, g1, g2, g3, g4, g5, g6, -⟩ := ItC.get L us h5 i hi
    refine ⟨b, off, rv, fp, rfl, hc _ _ g0, ?_, ?_, ?_, ?_, ?_, g6⟩
    · have := hc _ _ g1; rwa [← Nat.add_assoc] at this
    · have := hc _ _ g2; rwa [← Nat.add_assoc] at this
    · have := hc _ _ g3; rwa [← Nat.add_assoc] at this
    · have := hc _ _ g4; rwa [← Nat.add_assoc] at this
    · have := hc _ _ g5; rwa [← Nat.add_assoc] at this
theorem HasIt.sub {w : World} {b off cap : Nat} {L : List Itm} (h : HasIt w (.slice (some ⟨b, off, none⟩) L.length cap) L) (i j : Nat) (hij : i ≤ j) (hj : j ≤ L.length) :
    HasIt w (.slice (some ⟨b, off + i * 6, none⟩) (j - i) (cap - i)) ((L.take j).drop i) := by
  obtain ⟨fp, us, ⟨a', cap', hv, h1, h2, h3, h4⟩, h5⟩ := h
  simp only [Value.slice.injEq, true_and] at hv
  obtain ⟨rfl, rfl⟩ := hv
  have hlen : ((L.take j).drop i).length = j - i := by simp; omega
  have hC := ItC.drop _ _ i (ItC.take L us j h5)
  have hl := ItC.len _ _ hC
  rw [hlen] at hl
  rcases h4 with ⟨h0, rfl⟩ | ⟨b', off', hb', rfl, hbl, hc⟩
  · refine ⟨[], _, ⟨_, cap - i, by rw [hlen], by omega, by omega, by rw [hl, hlen]; omega, Or.inl ⟨by omega, rfl⟩⟩, hC⟩
  · simp only [Option.some.injEq, Addr.mk.injEq, and_true] at hb'
    obtain ⟨rfl, rfl⟩ := hb'
    refine ⟨[b], _, ⟨_, cap - i, by rw [hlen], by omega, by omega, by rw [hl, hlen]; omega, Or.inr ⟨b, off + i * 6, rfl, rfl, hbl, fun q u hu => ?_⟩⟩, hC⟩
    rw [List.getElem?_drop, List.getElem?_take] at hu
    split at hu
    · rw [Nat.add_assoc]; exact hc _ _ hu
    · cases hu
theorem ItP.le : ∀ (fs : List Fm) (As : List (List Itm)), ItP fs As → (∀ g ∈ fs, okF g) → fs.length ≤ As.flatten.length
  | [], As, h, ho => Nat.zero_le _
  | f :: fs, As, ⟨A, M, e, h1, h2⟩, ho => by
    subst e
    have := ItP.le fs M h2 (fun g hg => ho g (by simp [hg]))
    obtain ⟨hd, gs, Bs, rfl, -⟩ := h1.step (ho f (by simp))
    rw [List.flatten_cons, List.length_append, List.length_cons, List.length_cons]; omega

/-- q formulas begin at k and end at E. -/
def LastI (L rest : List Itm) (E k q : Nat) : Prop := ∃ (fs : List Fm) (As : List (List Itm)), fs.length = q ∧ L.drop k = As.flatten ++ rest ∧ ItP fs As ∧ (∀ g ∈ fs, okF g) ∧ k + As.flatten.length = E
theorem LastI.stop {L rest : List Itm} {E k : Nat} (h : LastI L rest E k 0) : k = E := by
  obtain ⟨fs, As, h1, -, h3, -, h5⟩ := h
  obtain rfl := List.length_eq_zero_iff.1 h1
  cases h3
  simpa using h5
theorem LastI.step {L rest : List Itm} {E k q : Nat} (h : LastI L rest E k (q + 1)) : ∃ (hk : k < L.length) (q' : Nat), ((q + 1 : Nat) : Int) + (arS L[k].nd.kd - 1) = q' ∧ q' ≤ L.length ∧ LastI L rest E (k + 1) q' := by
  obtain ⟨fs, As, h1, h2, h3, h4, h5⟩ := h
  cases fs with
  | nil => simp at h1
  | cons f fs =>
    obtain ⟨A, M, rfl, h6, h7⟩ := h3
    obtain ⟨hd, gs, Bs, rfl, b1, b2, b3⟩ := h6.step (h4 f (by simp))
    have hd1 : L.drop k = hd :: ((Bs ++ M).flatten ++ rest) := by rw [h2]; simp
    have hg := drop_get hd1
    have hkl : k < L.length := by rcases Nat.lt_or_ge k L.length with h | h
                                  · exact h
                                  · rw [List.getElem?_eq_none h] at hg; cases hg
    have hk1 : L[k] = hd := by rw [List.getElem?_eq_getElem hkl] at hg; cases hg; rfl
    have hP := ItP.app h7 b1
    have hO : ∀ g ∈ gs ++ fs, okF g := by
      intro g hg
      rcases List.mem_append.1 hg with hg | hg
      · exact b3 g hg
      · exact h4 g (by simp [hg])
    have hd2 := drop_next hd1
    have hle := ItP.le _ _ hP hO
    have hlen := congrArg List.length hd2
    rw [List.length_append, List.length_drop] at hlen
    refine ⟨hkl, (gs ++ fs).length, by rw [hk1, b2]; simp at h1 ⊢; omega, by omega, gs ++ fs, Bs ++ M, rfl, hd2, hP, hO, ?_⟩
    simp at h5 ⊢; omega

set_option maxRecDepth 20000 in
set_option maxHeartbeats 1000000 in
theorem lastS (v : Value) (L : List Itm) (i : Nat) (w : World) (f : Fm) (A rest : List Itm) (hR : HasIt w v L) (hlen : L.length ≤ 2000000) (hd : L.drop i = A ++ rest) (hA : ItF f A) (ho : okF f) :
    Calls Tryz.prog 44 #[v, .int .i64 i] w fun e w' => e = .returned (.int .i64 ((i + A.length : Nat) : Int)) ∧ w = w' := by
  obtain ⟨a, cap, rfl, h1, h2, hc⟩ := hR.open
  unfold maxLen at h2
  have hst : LastI L rest (i + A.length) i 1 := ⟨[f], [A], rfl, by simpa using hd, ⟨A, [], rfl, hA, rfl⟩, by simpa using ho, by simp⟩
  obtain ⟨hil, -⟩ := hst.step
  have HC := Lib.hid hc
  have HST := Lib.hid hst
  generalize i + A.length = E at *
  clear hR hc hst hd hA ho
  go_enter Tryz.func44, Tryz.ntmps44
  go_wp2_with fail
  go_loop [1, 5] (fun kv mv => ∃ (k q : Nat), kv = .int .i64 k ∧ mv = .int .i64 q ∧ k ≤ L.length ∧ q ≤ L.length ∧ Hid (LastI L rest E k q)) (fun kv _ => L.length - (intOf kv).toNat)
  case atStart => exact ⟨i, 1, rfl, rfl, by omega, by omega, HST⟩
  case round =>
    clear HST
    obtain ⟨k, q, rfl, rfl, hk, hq, HS⟩ := hrel
    cases q with
    | zero =>
      have HR := Lib.hid HS.out.stop
      clear HS
      go_wp2_with fail
      go_ret
      exact ⟨by rw [HR.out]; rfl, rfl⟩
    | succ q =>
      obtain ⟨hlt, q', hq1, hq2, hst2⟩ := HS.out.step
      obtain ⟨b1, o1, rv, fp, rfl, p1, -⟩ := HC.out k hlt
      have S1 := Lib.hid (fun W => arityS L[k].nd.kd W)
      have HS2 := Lib.hid hst2
      have har : 0 ≤ arS L[k].nd.kd ∧ arS L[k].nd.kd ≤ 2 := arS_in _
      have hqp : (0 : Int) < ((q + 1 : Nat) : Int) := by omega
      clear HS hst2
      generalize arS L[k].nd.kd = ar at *
      generalize L[k].nd.kd = kd at *
      obtain ⟨Q, hQ⟩ : ∃ Q : Int, ((q + 1 : Nat) : Int) = Q := ⟨_, rfl⟩
      rw [hQ] at hq1 hqp ⊢
      have hQ1 : Q ≤ 2000000 := by omega
      clear hQ
      go_wp2_with fail
      refine (S1.out _).mono ?_
      rintro e w1 ⟨rfl, rfl⟩
      clear S1 p1
      go_wp2_with fail
      go_round
      case rel => exact ⟨k + 1, q', by go_num, by rw [← hq1], by omega, by omega, HS2⟩
      case measure => simp [intOf]; omega

end Go.Proofs.YtaahjpmndkcijaaGreatDoor

/-
  Formulas parsed: the reference finds the first variable that nothing binds. (The drawn region's ways are printed by tools/genpfec.py.)
-/
namespace Go.Proofs.YtaahjpmndkcijaaGreatDoor
open Go.RowKit

def frI (o : Option Nat) : Int := match o with | some p => (p : Int) | none => -1
theorem ItF.pos {f : Fm} {L : List Itm} (h : ItF f L) (ho : okF f) : 0 < L.length := by
  obtain ⟨hd, gs, Bs, rfl, -⟩ := h.step ho
  simp
theorem HasIt.open1 {w : World} {v : Value} {L : List Itm} (h : HasIt w v L) (h0 : 0 < L.length) : ∃ b off cap, v = .slice (some ⟨b, off, none⟩) L.length cap ∧ L.length ≤ cap ∧ cap ≤ maxLen ∧
    ∀ i (h : i < L.length), ∃ rv fp, w.cell? ⟨b, off + i * 6, none⟩ = some (ei L[i].nd.kd) ∧ w.cell? ⟨b, off + i * 6 + 1, none⟩ = some (ei L[i].nd.vr) ∧
      w.cell? ⟨b, off + i * 6 + 2, none⟩ = some (es L[i].nd.lb) ∧ w.cell? ⟨b, off + i * 6 + 3, none⟩ = some (.bool L[i].nd.nt) ∧ w.cell? ⟨b, off + i * 6 + 4, none⟩ = some rv ∧
      w.cell? ⟨b, off + i * 6 + 5, none⟩ = some (ei L[i].at') ∧ R_G1 fp w [rv] L[i].rg := by
  obtain ⟨a, cap, rfl, h1, h2, hc⟩ := h.open
  obtain ⟨b, off, -, -, rfl, -⟩ := hc 0 h0
  refine ⟨b, off, cap, rfl, h1, h2, fun i hi => ?_⟩
  obtain ⟨b', off', rv, fp, hb, g⟩ := hc i hi
  simp only [Option.some.injEq, Addr.mk.injEq, and_true] at hb
  obtain ⟨rfl, rfl⟩ := hb
  exact ⟨rv, fp, g⟩
theorem scF_at {L : List Itm} {i : Nat} (h : i < L.length) : scF L (L.length - i) i = (if L[i].nd.kd = 6 ∧ bndB L i i L[i].nd.vr = false then some L[i].at' else scF L (L.length - (i + 1)) (i + 1)) := by
  rw [show L.length - i = (L.length - (i + 1)) + 1 by omega, scF, List.getElem?_eq_getElem h]
theorem binds_at {L : List Itm} {k i : Nat} {v : Int} (h : k < L.length) : bindsB L k i v = ((L[k].nd.kd == 7 || L[k].nd.kd == 8) && L[k].nd.vr == v && decide (i < endAt L k)) := by
  unfold bindsB; rw [List.getElem?_eq_getElem h]

set_option maxRecDepth 20000 in
set_option maxHeartbeats 8000000 in
theorem freeS (v : Value) (fm : Fm) (L : List Itm) (w : World) (hR : HasIt w v L) (hlen : L.length ≤ 2000000) (hA : ItF fm L) (ho : okF fm) :
    Calls Tryz.prog 34 #[v] w fun e w' => e = .returned (.int .i64 (frI (freF fm []))) ∧ Upd [] w w' := by
  have HZ := Lib.hid (scF_free hA ho)
  obtain ⟨b, off, cap, rfl, h1, h2, hc⟩ := hR.open1 (hA.pos ho)
  unfold maxLen at h2
  have HLA := Lib.hid (fun (k : Nat) (hk : k < L.length) (W : World) (hu : Upd [] w W) => show Calls Tryz.prog 44 #[.slice (some ⟨b, off, none⟩) L.length cap, .int .i64 k] W (fun e w' => e = .returned (.int .i64 (endAt L k : Nat)) ∧ W = w') from by
    obtain ⟨g, G, rest, e1, e2, e3⟩ := sub_at fm L hA ho k hk
    have h9 := lastS _ L k W g G rest (hR.upd hu) hlen e1 e2 e3
    rw [← endAt_of e1 e2 e3] at h9
    exact h9)
  have HC := Lib.hid hc
  generalize freF fm [] = Z at *
  clear hR hA ho hc
  go_enter Tryz.func34, Tryz.ntmps34
  go_wp2_with fail
  go_loopw [3] (fun iv wr => ∃ i : Nat, iv = .int .i64 i ∧ i ≤ L.length ∧ Upd [] w wr ∧ Hid (scF L (L.length - i) i = Z)) (fun iv _ => L.length - (intOf iv).toNat)
  case atStart => exact ⟨0, rfl, Nat.zero_le _, Upd.refl _ _, Lib.hid HZ.out⟩
  case round =>
    clear HZ
    obtain ⟨wo, rfl⟩ : ∃ wo : World, wo = wr := ⟨_, rfl⟩
    obtain ⟨i, rfl, hi, hu, HJ⟩ := hrel
    by_cases hlt : i < L.length
    · obtain ⟨rv, fp, p0, p1, -, -, -, p5, -⟩ := HC.out i hlt
      have q0 := hu.keep p0
      have q1 := hu.keep p1
      have q5 := hu.keep p5
      have hil : (i : Int) < (L.length : Int) := by omega
      have HS := Lib.hid (scF_at hlt)
      have HUO := Lib.hid hu
      have HP1 := Lib.hid p1
      have HP5 := Lib.hid p5
      clear p0 p1 p5 hu
      by_cases hk6 : L[i].nd.kd = 6
      · rw [hk6] at q0 HS
        have HS2 := Lib.hid (show scF L (L.length - i) i = (if bndB L i i L[i].nd.vr = false then some L[i].at' else scF L (L.length - (i + 1)) (i + 1)) from by rw [HS.out]; simp)
        generalize L[i].nd.vr = vi at *
        generalize L[i].at' = ai at *
        clear HS hk6
        go_wp2_with fail
        go_loopw [4, 5] (fun bv kv wy => ∃ k : Nat, kv = .int .i64 k ∧ k ≤ i ∧ bv = .bool (bndB L i k vi) ∧ Upd [] w wy) (fun _ kv _ => i - (intOf kv).toNat)
        case atStart => exact ⟨0, rfl, Nat.zero_le _, rfl, HUO.out⟩
        case round =>
          clear q0 q1 q5
          obtain ⟨wp, rfl⟩ : ∃ wp : World, wp = wr := ⟨_, rfl⟩
          obtain ⟨k, rfl, hk, rfl, hu2⟩ := hrel
          by_cases hki : k < i
          · obtain ⟨rk, fk, t0, t1, t2, t3, -⟩ := HC.out k (by omega)
            have z0 := hu2.keep t0
            have z1 := hu2.keep t1
            have z2 := hu2.keep t2
            have z3 := hu2.keep t3
            have y1 := hu2.keep HP1.out
            have hkil : (k : Int) < (i : Int) := by omega
            have hkll : (k : Int) < (L.length : Int) := by omega
            have hkL : k < L.length := by omega
            have HB := Lib.hid (show bndB L i (k + 1) vi = (bndB L i k vi || ((L[k].nd.kd == 7 || L[k].nd.kd == 8) && L[k].nd.vr == vi && decide (i < endAt L k))) from by rw [bndB_step, binds_at hkL])
            obtain ⟨q, hq⟩ : ∃ q, (L[k].nd.kd == 7 || L[k].nd.kd == 8) = q := ⟨_, rfl⟩
            rw [hq] at HB
            generalize hBk : bndB L i k vi = Bk at *
            have HU2 := Lib.hid hu2
            have S1 := Lib.hid (fun W hu => HLA.out k hkL W hu)
            generalize L[k].nd.vr = vk at *
            generalize L[k].nd.kd = kk at *
            generalize L[k].nd.lb = lk at *
            generalize L[k].nd.nt = nk at *
            obtain ⟨e, he⟩ : ∃ e, endAt L k = e := ⟨_, rfl⟩
            rw [he] at S1 HB
            clear t0 t1 t2 t3 hu2 HJ he hBk
            obtain ⟨wA, hwA⟩ : ∃ wA, wA = wp.alloc (.cells #[ei kk, ei vk, es lk, .bool nk] 58) := ⟨_, rfl⟩
            obtain ⟨nb, hnb⟩ : ∃ nb, nb = wp.heap.size := ⟨_, rfl⟩
            have n1 : wA.cell? ⟨nb, 1, none⟩ = some (ei vk) := by rw [hwA]; exact cell_new _ _ _ _ hnb.symm 1 _ rfl
            have hal : Upd [] wp wA := by rw [hwA]; exact (Upd.refl _ _).alloc _
            have ya := hal.keep y1
            have UA := Lib.hid (HU2.out.trans hal)
            have N1 := Lib.hid n1
            have YA := Lib.hid ya
            clear n1 hal ya
            by_cases h78 : kk = 7 ∨ kk = 8
            · have hqt : q = true := by rcases h78 with rfl | rfl <;> rw [← hq] <;> rfl
              subst hqt
              clear hq
              rcases h78 with rfl | rfl
              all_goals
                go_upto_region 11 with (fail)
                rw [← hwA, ← hnb]
                have n1 := N1.out
                have y1 := YA.out
                clear hwA hnb z0 z1 z2 z3 N1 YA
                cases Bk with
                | true =>
                  refine wp_region_held_drew (S := fun w' => w'.cell? ⟨nb, 1, none⟩ = some (.int .i64 vk) ∧ w'.cell? ⟨b, off + i * 6 + 1, none⟩ = some (.int .i64 vi)) (by kernel_rfl) ?_ (fun hHeld => ?_)
                  · exact ⟨n1, y1⟩
                  refine wpAnyH_take (i := 0) (v := ?_) rfl (by kernel_rfl) (by kernel_rfl) (by kernel_rfl) (fun _ _ _ h => h) (Or.inl ⟨by rfl, ?_⟩) (by assumption) ?_
                  rotate_left
                  · (intro w hSw; (try dsimp only at hSw); go_simp)
                    first | done | with_reducible rfl
                  simp only [Act.put, List.getElem_toArray, List.getElem_cons_zero, List.getElem_cons_succ, List.setIfInBounds_toArray, List.set_cons_zero, List.set_cons_succ]
                  refine wpAnyH_take (i := 1) (v := ?_) rfl (by kernel_rfl) (by kernel_rfl) (by kernel_rfl) (fun _ _ _ h => h) (Or.inl ⟨by rfl, ?_⟩) (by assumption) ?_
                  rotate_left
                  · (intro w hSw; (try dsimp only at hSw); go_simp)
                    first | done | with_reducible rfl
                  simp only [Act.put, List.getElem_toArray, List.getElem_cons_zero, List.getElem_cons_succ, List.setIfInBounds_toArray, List.set_cons_zero, List.set_cons_succ]
                  refine wpAnyH_take (i := 2) rfl (by kernel_rfl) (by kernel_rfl) (by kernel_rfl) (fun _ _ _ h => h) (Or.inr ⟨by rfl, rfl⟩) (by assumption) ?_
                  simp only [Act.put, List.getElem_toArray, List.getElem_cons_zero, List.getElem_cons_succ, List.setIfInBounds_toArray, List.set_cons_zero, List.set_cons_succ]
                  refine wpAnyH_take (i := 3) rfl (by kernel_rfl) (by kernel_rfl) (by kernel_rfl) (fun _ _ _ h => h) (Or.inr ⟨by rfl, rfl⟩) (by assumption) ?_
                  simp only [Act.put, List.getElem_toArray, List.getElem_cons_zero, List.getElem_cons_succ, List.setIfInBounds_toArray, List.set_cons_zero, List.set_cons_succ]
                  refine wpAnyH_take (i := 4) rfl (by kernel_rfl) (by kernel_rfl) (by kernel_rfl) (fun _ _ _ h => h) (Or.inr ⟨by rfl, rfl⟩) (by assumption) ?_
                  simp only [Act.put, List.getElem_toArray, List.getElem_cons_zero, List.getElem_cons_succ, List.setIfInBounds_toArray, List.set_cons_zero, List.set_cons_succ]
                  refine wpAnyH_take (i := 5) rfl (by kernel_rfl) (by kernel_rfl) (by kernel_rfl) (fun _ _ _ h => h) (Or.inr ⟨by rfl, rfl⟩) (by assumption) ?_
                  simp only [Act.put, List.getElem_toArray, List.getElem_cons_zero, List.getElem_cons_succ, List.setIfInBounds_toArray, List.set_cons_zero, List.set_cons_succ]
                  refine wpAnyH_take (i := 6) rfl (by kernel_rfl) (by kernel_rfl) (by kernel_rfl) (fun _ _ _ h => h) (Or.inr ⟨by rfl, rfl⟩) (by assumption) ?_
                  simp only [Act.put, List.getElem_toArray, List.getElem_cons_zero, List.getElem_cons_succ, List.setIfInBounds_toArray, List.set_cons_zero, List.set_cons_succ]
                  refine wpAnyH_take (i := 7) rfl (by kernel_rfl) (by kernel_rfl) (by kernel_rfl) (fun _ _ _ h => h) (Or.inr ⟨by rfl, rfl⟩) (by assumption) ?_
                  simp only [Act.put, List.getElem_toArray, List.getElem_cons_zero, List.getElem_cons_succ, List.setIfInBounds_toArray, List.set_cons_zero, List.set_cons_succ]
                  refine wpAnyH_take (i := 8) rfl (by kernel_rfl) (by kernel_rfl) (by kernel_rfl) (fun _ _ _ h => h) (Or.inr ⟨by rfl, rfl⟩) (by assumption) ?_
                  simp only [Act.put, List.getElem_toArray, List.getElem_cons_zero, List.getElem_cons_succ, List.setIfInBounds_toArray, List.set_cons_zero, List.set_cons_succ]
                  refine wpAnyH_take (i := 9) rfl (by kernel_rfl) (by kernel_rfl) (by kernel_rfl) (fun _ _ _ h => h) (Or.inr ⟨by rfl, rfl⟩) (by assumption) ?_
                  simp only [Act.put, List.getElem_toArray, List.getElem_cons_zero, List.getElem_cons_succ, List.setIfInBounds_toArray, List.set_cons_zero, List.set_cons_succ]
                  refine wpAnyH_take (i := 10) rfl (by kernel_rfl) (by kernel_rfl) (by kernel_rfl) (fun _ _ _ h => h) (Or.inr ⟨by rfl, rfl⟩) (by assumption) ?_
                  simp only [Act.put, List.getElem_toArray, List.getElem_cons_zero, List.getElem_cons_succ, List.setIfInBounds_toArray, List.set_cons_zero, List.set_cons_succ]
                  refine wpAnyH_take (i := 11) rfl (by kernel_rfl) (by kernel_rfl) (by kernel_rfl) (fun _ _ _ h => h) (Or.inr ⟨by rfl, rfl⟩) (by assumption) ?_
                  simp only [Act.put, List.getElem_toArray, List.getElem_cons_zero, List.getElem_cons_succ, List.setIfInBounds_toArray, List.set_cons_zero, List.set_cons_succ]
                  refine wpAnyH_take (i := 12) rfl (by kernel_rfl) (by kernel_rfl) (by kernel_rfl) (fun _ _ _ h => h) (Or.inr ⟨by rfl, rfl⟩) (by assumption) ?_
                  simp only [Act.put, List.getElem_toArray, List.getElem_cons_zero, List.getElem_cons_succ, List.setIfInBounds_toArray, List.set_cons_zero, List.set_cons_succ]
                  refine wpAnyH_take (i := 13) rfl (by kernel_rfl) (by kernel_rfl) (by kernel_rfl) (fun _ _ _ h => h) (Or.inr ⟨by rfl, rfl⟩) (by assumption) ?_
                  simp only [Act.put, List.getElem_toArray, List.getElem_cons_zero, List.getElem_cons_succ, List.setIfInBounds_toArray, List.set_cons_zero, List.set_cons_succ]
                  refine wpAnyH_take (i := 14) rfl (by kernel_rfl) (by kernel_rfl) (by kernel_rfl) (fun _ _ _ h => h) (Or.inr ⟨by rfl, rfl⟩) (by assumption) ?_
                  simp only [Act.put, List.getElem_toArray, List.getElem_cons_zero, List.getElem_cons_succ, List.setIfInBounds_toArray, List.set_cons_zero, List.set_cons_succ]
                  refine wpAnyH_take (i := 15) rfl (by kernel_rfl) (by kernel_rfl) (by kernel_rfl) (fun _ _ _ h => h) (Or.inr ⟨by rfl, rfl⟩) (by assumption) ?_
                  simp only [Act.put, List.getElem_toArray, List.getElem_cons_zero, List.getElem_cons_succ, List.setIfInBounds_toArray, List.set_cons_zero, List.set_cons_succ]
                  refine wpAnyH_take (i := 16) rfl (by kernel_rfl) (by kernel_rfl) (by kernel_rfl) (fun _ _ _ h => h) (Or.inr ⟨by rfl, rfl⟩) (by assumption) ?_
                  simp only [Act.put, List.getElem_toArray, List.getElem_cons_zero, List.getElem_cons_succ, List.setIfInBounds_toArray, List.set_cons_zero, List.set_cons_succ]
                  refine wpAnyH_take (i := 18) rfl (by kernel_rfl) (by kernel_rfl) (by kernel_rfl) (fun _ _ _ h => h) (Or.inr ⟨by rfl, rfl⟩) (by assumption) ?_
                  simp only [Act.put, List.getElem_toArray, List.getElem_cons_zero, List.getElem_cons_succ, List.setIfInBounds_toArray, List.set_cons_zero, List.set_cons_succ]
                  refine wpAnyH_take (i := 17) rfl (by kernel_rfl) (by kernel_rfl) (by kernel_rfl) (fun _ _ _ h => h) (Or.inr ⟨by rfl, rfl⟩) (by assumption) ?_
                  simp only [Act.put, List.getElem_toArray, List.getElem_cons_zero, List.getElem_cons_succ, List.setIfInBounds_toArray, List.set_cons_zero, List.set_cons_succ]
                  refine wpAnyH_take (i := 19) rfl (by kernel_rfl) (by kernel_rfl) (by kernel_rfl) (fun _ _ _ h => h) (Or.inr ⟨by rfl, rfl⟩) (by assumption) ?_
                  simp only [Act.put, List.getElem_toArray, List.getElem_cons_zero, List.getElem_cons_succ, List.setIfInBounds_toArray, List.set_cons_zero, List.set_cons_succ]
                  refine wpAnyH_take (i := 20) rfl (by kernel_rfl) (by kernel_rfl) (by kernel_rfl) (fun _ _ _ h => h) (Or.inr ⟨by rfl, rfl⟩) (by assumption) ?_
                  simp only [Act.put, List.getElem_toArray, List.getElem_cons_zero, List.getElem_cons_succ, List.setIfInBounds_toArray, List.set_cons_zero, List.set_cons_succ]
                  refine wpAnyH_take (i := 21) (v := ?_) rfl (by kernel_rfl) (by kernel_rfl) (by kernel_rfl) (fun _ _ _ h => h) (Or.inl ⟨by rfl, ?_⟩) (by assumption) ?_
                  rotate_left
                  · (intro w hSw; (try dsimp only at hSw); go_simp)
                    first | done | with_reducible rfl
                  simp only [Act.put, List.getElem_toArray, List.getElem_cons_zero, List.getElem_cons_succ, List.setIfInBounds_toArray, List.set_cons_zero, List.set_cons_succ]
                  refine wpAnyH_take (i := 22) (v := ?_) rfl (by kernel_rfl) (by kernel_rfl) (by kernel_rfl) (fun _ _ _ h => h) (Or.inl ⟨by rfl, ?_⟩) (by assumption) ?_
                  rotate_left
                  · (intro w hSw; (try dsimp only at hSw); go_simp)
                    first | done | with_reducible rfl
                  simp only [Act.put, List.getElem_toArray, List.getElem_cons_zero, List.getElem_cons_succ, List.setIfInBounds_toArray, List.set_cons_zero, List.set_cons_succ]
                  refine wpAnyH_done (by kernel_rfl) ?_ _
                  clear n1 y1
                  go_wp2_with fail
                  go_roundw
                  case rel => exact ⟨k + 1, by go_num, by omega, by rw [HB.out]; rfl, UA.out.drew⟩
                  case measure => simp [intOf]; omega
                | false =>
                  by_cases hvk : vk = vi
                  · subst hvk
                    refine wp_region_held_drew (S := fun w' => w'.cell? ⟨nb, 1, none⟩ = some (.int .i64 vk) ∧ w'.cell? ⟨b, off + i * 6 + 1, none⟩ = some (.int .i64 vk)) (by kernel_rfl) ?_ (fun hHeld => ?_)
                    · exact ⟨n1, y1⟩
                    refine wpAnyH_take (i := 0) (v := ?_) rfl (by kernel_rfl) (by kernel_rfl) (by kernel_rfl) (fun _ _ _ h => h) (Or.inl ⟨by rfl, ?_⟩) (by assumption) ?_
                    rotate_left
                    · (intro w hSw; (try dsimp only at hSw); go_simp)
                      first | done | with_reducible rfl
                    simp only [Act.put, List.getElem_toArray, List.getElem_cons_zero, List.getElem_cons_succ, List.setIfInBounds_toArray, List.set_cons_zero, List.set_cons_succ]
                    refine wpAnyH_take (i := 1) (v := ?_) rfl (by kernel_rfl) (by kernel_rfl) (by kernel_rfl) (fun _ _ _ h => h) (Or.inl ⟨by rfl, ?_⟩) (by assumption) ?_
                    rotate_left
                    · (intro w hSw; (try dsimp only at hSw); go_simp)
                      first | done | with_reducible rfl
                    simp only [Act.put, List.getElem_toArray, List.getElem_cons_zero, List.getElem_cons_succ, List.setIfInBounds_toArray, List.set_cons_zero, List.set_cons_succ]
                    refine wpAnyH_take (i := 2) (v := ?_) rfl (by kernel_rfl) (by kernel_rfl) (by kernel_rfl) (fun _ _ _ h => h) (Or.inl ⟨by rfl, ?_⟩) (by assumption) ?_
                    rotate_left
                    · (intro w hSw; (try dsimp only at hSw); go_simp)
                      first | done | with_reducible rfl
                    simp only [Act.put, List.getElem_toArray, List.getElem_cons_zero, List.getElem_cons_succ, List.setIfInBounds_toArray, List.set_cons_zero, List.set_cons_succ]
                    refine wpAnyH_take (i := 3) (v := ?_) rfl (by kernel_rfl) (by kernel_rfl) (by kernel_rfl) (fun _ _ _ h => h) (Or.inl ⟨by rfl, ?_⟩) (by assumption) ?_
                    rotate_left
                    · (intro w hSw; (try dsimp only at hSw); go_simp)
                      first | done | with_reducible rfl
                    simp only [Act.put, List.getElem_toArray, List.getElem_cons_zero, List.getElem_cons_succ, List.setIfInBounds_toArray, List.set_cons_zero, List.set_cons_succ]
                    refine wpAnyH_take (i := 4) (v := ?_) rfl (by kernel_rfl) (by kernel_rfl) (by kernel_rfl) (fun _ _ _ h => h) (Or.inl ⟨by rfl, ?_⟩) (by assumption) ?_
                    rotate_left
                    · (intro w hSw; (try dsimp only at hSw); go_simp)
                      first | done | with_reducible rfl
                    simp only [Act.put, List.getElem_toArray, List.getElem_cons_zero, List.getElem_cons_succ, List.setIfInBounds_toArray, List.set_cons_zero, List.set_cons_succ]
                    refine wpAnyH_take (i := 5) (v := ?_) rfl (by kernel_rfl) (by kernel_rfl) (by kernel_rfl) (fun _ _ _ h => h) (Or.inl ⟨by rfl, ?_⟩) (by assumption) ?_
                    rotate_left
                    · (intro w hSw; (try dsimp only at hSw); go_simp)
                      first | done | with_reducible rfl
                    simp only [Act.put, List.getElem_toArray, List.getElem_cons_zero, List.getElem_cons_succ, List.setIfInBounds_toArray, List.set_cons_zero, List.set_cons_succ]
                    refine wpAnyH_take (i := 6) (v := ?_) rfl (by kernel_rfl) (by kernel_rfl) (by kernel_rfl) (fun _ _ _ h => h) (Or.inl ⟨by rfl, ?_⟩) (by assumption) ?_
                    rotate_left
                    · (intro w hSw; (try dsimp only at hSw); go_simp)
                      first | done | with_reducible rfl
                    simp only [Act.put, List.getElem_toArray, List.getElem_cons_zero, List.getElem_cons_succ, List.setIfInBounds_toArray, List.set_cons_zero, List.set_cons_succ]
                    refine wpAnyH_take (i := 7) (v := ?_) rfl (by kernel_rfl) (by kernel_rfl) (by kernel_rfl) (fun _ _ _ h => h) (Or.inl ⟨by rfl, ?_⟩) (by assumption) ?_
                    rotate_left
                    · (intro w hSw; (try dsimp only at hSw); go_simp)
                      first | done | with_reducible rfl
                    simp only [Act.put, List.getElem_toArray, List.getElem_cons_zero, List.getElem_cons_succ, List.setIfInBounds_toArray, List.set_cons_zero, List.set_cons_succ]
                    refine wpAnyH_take (i := 8) (v := ?_) rfl (by kernel_rfl) (by kernel_rfl) (by kernel_rfl) (fun _ _ _ h => h) (Or.inl ⟨by rfl, ?_⟩) (by assumption) ?_
                    rotate_left
                    · (intro w hSw; (try dsimp only at hSw); go_simp)
                      first | done | with_reducible rfl
                    simp only [Act.put, List.getElem_toArray, List.getElem_cons_zero, List.getElem_cons_succ, List.setIfInBounds_toArray, List.set_cons_zero, List.set_cons_succ]
                    refine wpAnyH_take (i := 9) (v := ?_) rfl (by kernel_rfl) (by kernel_rfl) (by kernel_rfl) (fun _ _ _ h => h) (Or.inl ⟨by rfl, ?_⟩) (by assumption) ?_
                    rotate_left
                    · (intro w hSw; (try dsimp only at hSw); go_simp)
                      first | done | with_reducible rfl
                    simp only [Act.put, List.getElem_toArray, List.getElem_cons_zero, List.getElem_cons_succ, List.setIfInBounds_toArray, List.set_cons_zero, List.set_cons_succ]
                    refine wpAnyH_take (i := 10) (v := ?_) rfl (by kernel_rfl) (by kernel_rfl) (by kernel_rfl) (fun _ _ _ h => h) (Or.inl ⟨by rfl, ?_⟩) (by assumption) ?_
                    rotate_left
                    · (intro w hSw; (try dsimp only at hSw); go_simp)
                      first | done | with_reducible rfl
                    simp only [Act.put, List.getElem_toArray, List.getElem_cons_zero, List.getElem_cons_succ, List.setIfInBounds_toArray, List.set_cons_zero, List.set_cons_succ]
                    refine wpAnyH_take (i := 11) (v := ?_) rfl (by kernel_rfl) (by kernel_rfl) (by kernel_rfl) (fun _ _ _ h => h) (Or.inl ⟨by rfl, ?_⟩) (by assumption) ?_
                    rotate_left
                    · (intro w hSw; (try dsimp only at hSw); go_simp)
                      first | done | with_reducible rfl
                    simp only [Act.put, List.getElem_toArray, List.getElem_cons_zero, List.getElem_cons_succ, List.setIfInBounds_toArray, List.set_cons_zero, List.set_cons_succ]
                    refine wpAnyH_take (i := 12) (v := ?_) rfl (by kernel_rfl) (by kernel_rfl) (by kernel_rfl) (fun _ _ _ h => h) (Or.inl ⟨by rfl, ?_⟩) (by assumption) ?_
                    rotate_left
                    · (intro w hSw; (try dsimp only at hSw); go_simp)
                      first | done | with_reducible rfl
                    simp only [Act.put, List.getElem_toArray, List.getElem_cons_zero, List.getElem_cons_succ, List.setIfInBounds_toArray, List.set_cons_zero, List.set_cons_succ]
                    refine wpAnyH_take (i := 13) (v := ?_) rfl (by kernel_rfl) (by kernel_rfl) (by kernel_rfl) (fun _ _ _ h => h) (Or.inl ⟨by rfl, ?_⟩) (by assumption) ?_
                    rotate_left
                    · (intro w hSw; (try dsimp only at hSw); go_simp)
                      first | done | with_reducible rfl
                    simp only [Act.put, List.getElem_toArray, List.getElem_cons_zero, List.getElem_cons_succ, List.setIfInBounds_toArray, List.set_cons_zero, List.set_cons_succ]
                    refine wpAnyH_take (i := 14) (v := ?_) rfl (by kernel_rfl) (by kernel_rfl) (by kernel_rfl) (fun _ _ _ h => h) (Or.inl ⟨by rfl, ?_⟩) (by assumption) ?_
                    rotate_left
                    · (intro w hSw; (try dsimp only at hSw); go_simp)
                      first | done | with_reducible rfl
                    simp only [Act.put, List.getElem_toArray, List.getElem_cons_zero, List.getElem_cons_succ, List.setIfInBounds_toArray, List.set_cons_zero, List.set_cons_succ]
                    refine wpAnyH_take (i := 15) (v := ?_) rfl (by kernel_rfl) (by kernel_rfl) (by kernel_rfl) (fun _ _ _ h => h) (Or.inl ⟨by rfl, ?_⟩) (by assumption) ?_
                    rotate_left
                    · (intro w hSw; (try dsimp only at hSw); go_simp)
                      first | done | with_reducible rfl
                    simp only [Act.put, List.getElem_toArray, List.getElem_cons_zero, List.getElem_cons_succ, List.setIfInBounds_toArray, List.set_cons_zero, List.set_cons_succ]
                    refine wpAnyH_take (i := 16) (v := ?_) rfl (by kernel_rfl) (by kernel_rfl) (by kernel_rfl) (fun _ _ _ h => h) (Or.inl ⟨by rfl, ?_⟩) (by assumption) ?_
                    rotate_left
                    · (intro w hSw; (try dsimp only at hSw); go_simp)
                      first | done | with_reducible rfl
                    simp only [Act.put, List.getElem_toArray, List.getElem_cons_zero, List.getElem_cons_succ, List.setIfInBounds_toArray, List.set_cons_zero, List.set_cons_succ]
                    refine wpAnyH_take (i := 18) (v := ?_) rfl (by kernel_rfl) (by kernel_rfl) (by kernel_rfl) (fun _ _ _ h => h) (Or.inl ⟨by rfl, ?_⟩) (by assumption) ?_
                    rotate_left
                    · (intro w hSw; (try dsimp only at hSw); go_simp)
                      first | done | with_reducible rfl
                    simp only [Act.put, List.getElem_toArray, List.getElem_cons_zero, List.getElem_cons_succ, List.setIfInBounds_toArray, List.set_cons_zero, List.set_cons_succ]
                    refine wpAnyH_ready (rs := [17]) (by kernel_rfl) (by simp) ?_
                    refine AllReadyH.cons rfl (fun K hK => ?_) AllReadyH.nil
                    go_simp
                    refine (S1.out _ (UA.out.drew)).mono ?_
                    rintro e w17 ⟨rfl, hww⟩
                    subst hww
                    refine hK.out _ _ ?_ (fun hHeld => ?_)
                    · exact ⟨n1, y1⟩
                    clear hK K
                    try simp only [Act.put, List.getElem_toArray, List.getElem_cons_zero, List.getElem_cons_succ, List.setIfInBounds_toArray, List.set_cons_zero, List.set_cons_succ]
                    refine wpAnyH_take (i := 19) (v := ?_) rfl (by kernel_rfl) (by kernel_rfl) (by kernel_rfl) (fun _ _ _ h => h) (Or.inl ⟨by rfl, ?_⟩) (by assumption) ?_
                    rotate_left
                    · (intro w hSw; (try dsimp only at hSw); go_simp)
                      first | done | with_reducible rfl
                    simp only [Act.put, List.getElem_toArray, List.getElem_cons_zero, List.getElem_cons_succ, List.setIfInBounds_toArray, List.set_cons_zero, List.set_cons_succ]
                    refine wpAnyH_take (i := 20) (v := ?_) rfl (by kernel_rfl) (by kernel_rfl) (by kernel_rfl) (fun _ _ _ h => h) (Or.inl ⟨by rfl, ?_⟩) (by assumption) ?_
                    rotate_left
                    · (intro w hSw; (try dsimp only at hSw); go_simp)
                      first | done | with_reducible rfl
                    simp only [Act.put, List.getElem_toArray, List.getElem_cons_zero, List.getElem_cons_succ, List.setIfInBounds_toArray, List.set_cons_zero, List.set_cons_succ]
                    refine wpAnyH_take (i := 21) (v := ?_) rfl (by kernel_rfl) (by kernel_rfl) (by kernel_rfl) (fun _ _ _ h => h) (Or.inl ⟨by rfl, ?_⟩) (by assumption) ?_
                    rotate_left
                    · (intro w hSw; (try dsimp only at hSw); go_simp)
                      first | done | with_reducible rfl
                    simp only [Act.put, List.getElem_toArray, List.getElem_cons_zero, List.getElem_cons_succ, List.setIfInBounds_toArray, List.set_cons_zero, List.set_cons_succ]
                    refine wpAnyH_take (i := 22) (v := ?_) rfl (by kernel_rfl) (by kernel_rfl) (by kernel_rfl) (fun _ _ _ h => h) (Or.inl ⟨by rfl, ?_⟩) (by assumption) ?_
                    rotate_left
                    · (intro w hSw; (try dsimp only at hSw); go_simp)
                      first | done | with_reducible rfl
                    simp only [Act.put, List.getElem_toArray, List.getElem_cons_zero, List.getElem_cons_succ, List.setIfInBounds_toArray, List.set_cons_zero, List.set_cons_succ]
                    refine wpAnyH_done (by kernel_rfl) ?_ _
                    clear n1 y1
                    go_wp2_with fail
                    go_roundw
                    case rel => exact ⟨k + 1, by go_num, by omega, by rw [HB.out]; simp, UA.out.drew⟩
                    case measure => simp [intOf]; omega
                  · have hvb : (vk == vi) = false := by simpa using hvk
                    refine wp_region_held_drew (S := fun w' => w'.cell? ⟨nb, 1, none⟩ = some (.int .i64 vk) ∧ w'.cell? ⟨b, off + i * 6 + 1, none⟩ = some (.int .i64 vi)) (by kernel_rfl) ?_ (fun hHeld => ?_)
                    · exact ⟨n1, y1⟩
                    refine wpAnyH_take (i := 0) (v := ?_) rfl (by kernel_rfl) (by kernel_rfl) (by kernel_rfl) (fun _ _ _ h => h) (Or.inl ⟨by rfl, ?_⟩) (by assumption) ?_
                    rotate_left
                    · (intro w hSw; (try dsimp only at hSw); go_simp)
                      first | done | with_reducible rfl
                    simp only [Act.put, List.getElem_toArray, List.getElem_cons_zero, List.getElem_cons_succ, List.setIfInBounds_toArray, List.set_cons_zero, List.set_cons_succ]
                    refine wpAnyH_take (i := 1) (v := ?_) rfl (by kernel_rfl) (by kernel_rfl) (by kernel_rfl) (fun _ _ _ h => h) (Or.inl ⟨by rfl, ?_⟩) (by assumption) ?_
                    rotate_left
                    · (intro w hSw; (try dsimp only at hSw); go_simp)
                      first | done | with_reducible rfl
                    simp only [Act.put, List.getElem_toArray, List.getElem_cons_zero, List.getElem_cons_succ, List.setIfInBounds_toArray, List.set_cons_zero, List.set_cons_succ]
                    refine wpAnyH_take (i := 2) (v := ?_) rfl (by kernel_rfl) (by kernel_rfl) (by kernel_rfl) (fun _ _ _ h => h) (Or.inl ⟨by rfl, ?_⟩) (by assumption) ?_
                    rotate_left
                    · (intro w hSw; (try dsimp only at hSw); go_simp)
                      first | done | with_reducible rfl
                    simp only [Act.put, List.getElem_toArray, List.getElem_cons_zero, List.getElem_cons_succ, List.setIfInBounds_toArray, List.set_cons_zero, List.set_cons_succ]
                    refine wpAnyH_take (i := 3) (v := ?_) rfl (by kernel_rfl) (by kernel_rfl) (by kernel_rfl) (fun _ _ _ h => h) (Or.inl ⟨by rfl, ?_⟩) (by assumption) ?_
                    rotate_left
                    · (intro w hSw; (try dsimp only at hSw); go_simp)
                      first | done | with_reducible rfl
                    simp only [Act.put, List.getElem_toArray, List.getElem_cons_zero, List.getElem_cons_succ, List.setIfInBounds_toArray, List.set_cons_zero, List.set_cons_succ]
                    refine wpAnyH_take (i := 4) (v := ?_) rfl (by kernel_rfl) (by kernel_rfl) (by kernel_rfl) (fun _ _ _ h => h) (Or.inl ⟨by rfl, ?_⟩) (by assumption) ?_
                    rotate_left
                    · (intro w hSw; (try dsimp only at hSw); go_simp)
                      first | done | with_reducible rfl
                    simp only [Act.put, List.getElem_toArray, List.getElem_cons_zero, List.getElem_cons_succ, List.setIfInBounds_toArray, List.set_cons_zero, List.set_cons_succ]
                    refine wpAnyH_take (i := 5) (v := ?_) rfl (by kernel_rfl) (by kernel_rfl) (by kernel_rfl) (fun _ _ _ h => h) (Or.inl ⟨by rfl, ?_⟩) (by assumption) ?_
                    rotate_left
                    · (intro w hSw; (try dsimp only at hSw); go_simp)
                      first | done | with_reducible rfl
                    simp only [Act.put, List.getElem_toArray, List.getElem_cons_zero, List.getElem_cons_succ, List.setIfInBounds_toArray, List.set_cons_zero, List.set_cons_succ]
                    refine wpAnyH_take (i := 6) (v := ?_) rfl (by kernel_rfl) (by kernel_rfl) (by kernel_rfl) (fun _ _ _ h => h) (Or.inl ⟨by rfl, ?_⟩) (by assumption) ?_
                    rotate_left
                    · (intro w hSw; (try dsimp only at hSw); go_simp)
                      first | done | with_reducible rfl
                    simp only [Act.put, List.getElem_toArray, List.getElem_cons_zero, List.getElem_cons_succ, List.setIfInBounds_toArray, List.set_cons_zero, List.set_cons_succ]
                    refine wpAnyH_take (i := 7) (v := ?_) rfl (by kernel_rfl) (by kernel_rfl) (by kernel_rfl) (fun _ _ _ h => h) (Or.inl ⟨by rfl, ?_⟩) (by assumption) ?_
                    rotate_left
                    · (intro w hSw; (try dsimp only at hSw); go_simp)
                      first | done | with_reducible rfl
                    simp only [Act.put, List.getElem_toArray, List.getElem_cons_zero, List.getElem_cons_succ, List.setIfInBounds_toArray, List.set_cons_zero, List.set_cons_succ]
                    refine wpAnyH_take (i := 8) (v := ?_) rfl (by kernel_rfl) (by kernel_rfl) (by kernel_rfl) (fun _ _ _ h => h) (Or.inl ⟨by rfl, ?_⟩) (by assumption) ?_
                    rotate_left
                    · (intro w hSw; (try dsimp only at hSw); go_simp)
                      first | done | with_reducible rfl
                    simp only [Act.put, List.getElem_toArray, List.getElem_cons_zero, List.getElem_cons_succ, List.setIfInBounds_toArray, List.set_cons_zero, List.set_cons_succ]
                    refine wpAnyH_take (i := 9) (v := ?_) rfl (by kernel_rfl) (by kernel_rfl) (by kernel_rfl) (fun _ _ _ h => h) (Or.inl ⟨by rfl, ?_⟩) (by assumption) ?_
                    rotate_left
                    · (intro w hSw; (try dsimp only at hSw); go_simp)
                      first | done | with_reducible rfl
                    simp only [Act.put, List.getElem_toArray, List.getElem_cons_zero, List.getElem_cons_succ, List.setIfInBounds_toArray, List.set_cons_zero, List.set_cons_succ]
                    refine wpAnyH_take (i := 10) (v := ?_) rfl (by kernel_rfl) (by kernel_rfl) (by kernel_rfl) (fun _ _ _ h => h) (Or.inl ⟨by rfl, ?_⟩) (by assumption) ?_
                    rotate_left
                    · (intro w hSw; (try dsimp only at hSw); go_simp)
                      first | done | with_reducible rfl
                    simp only [Act.put, List.getElem_toArray, List.getElem_cons_zero, List.getElem_cons_succ, List.setIfInBounds_toArray, List.set_cons_zero, List.set_cons_succ]
                    refine wpAnyH_take (i := 11) (v := ?_) rfl (by kernel_rfl) (by kernel_rfl) (by kernel_rfl) (fun _ _ _ h => h) (Or.inl ⟨by rfl, ?_⟩) (by assumption) ?_
                    rotate_left
                    · (intro w hSw; (try dsimp only at hSw); go_simp)
                      first | done | with_reducible rfl
                    simp only [Act.put, List.getElem_toArray, List.getElem_cons_zero, List.getElem_cons_succ, List.setIfInBounds_toArray, List.set_cons_zero, List.set_cons_succ]
                    refine wpAnyH_take (i := 12) (v := ?_) rfl (by kernel_rfl) (by kernel_rfl) (by kernel_rfl) (fun _ _ _ h => h) (Or.inl ⟨by rfl, ?_⟩) (by assumption) ?_
                    rotate_left
                    · (intro w hSw; (try dsimp only at hSw); go_simp)
                      first | done | with_reducible rfl
                    simp only [Act.put, List.getElem_toArray, List.getElem_cons_zero, List.getElem_cons_succ, List.setIfInBounds_toArray, List.set_cons_zero, List.set_cons_succ]
                    refine wpAnyH_take (i := 13) (v := ?_) rfl (by kernel_rfl) (by kernel_rfl) (by kernel_rfl) (fun _ _ _ h => h) (Or.inl ⟨by rfl, ?_⟩) (by assumption) ?_
                    rotate_left
                    · (intro w hSw; (try dsimp only at hSw); go_simp)
                      first | done | with_reducible rfl
                    simp only [Act.put, List.getElem_toArray, List.getElem_cons_zero, List.getElem_cons_succ, List.setIfInBounds_toArray, List.set_cons_zero, List.set_cons_succ]
                    refine wpAnyH_take (i := 14) (v := ?_) rfl (by kernel_rfl) (by kernel_rfl) (by kernel_rfl) (fun _ _ _ h => h) (Or.inl ⟨by rfl, ?_⟩) (by assumption) ?_
                    rotate_left
                    · (intro w hSw; (try dsimp only at hSw); go_simp)
                      first | done | with_reducible rfl
                    simp only [Act.put, List.getElem_toArray, List.getElem_cons_zero, List.getElem_cons_succ, List.setIfInBounds_toArray, List.set_cons_zero, List.set_cons_succ]
                    refine wpAnyH_take (i := 15) rfl (by kernel_rfl) (by kernel_rfl) (by kernel_rfl) (fun _ _ _ h => h) (Or.inr ⟨by rfl, rfl⟩) (by assumption) ?_
                    simp only [Act.put, List.getElem_toArray, List.getElem_cons_zero, List.getElem_cons_succ, List.setIfInBounds_toArray, List.set_cons_zero, List.set_cons_succ]
                    refine wpAnyH_take (i := 16) rfl (by kernel_rfl) (by kernel_rfl) (by kernel_rfl) (fun _ _ _ h => h) (Or.inr ⟨by rfl, rfl⟩) (by assumption) ?_
                    simp only [Act.put, List.getElem_toArray, List.getElem_cons_zero, List.getElem_cons_succ, List.setIfInBounds_toArray, List.set_cons_zero, List.set_cons_succ]
                    refine wpAnyH_take (i := 18) rfl (by kernel_rfl) (by kernel_rfl) (by kernel_rfl) (fun _ _ _ h => h) (Or.inr ⟨by rfl, rfl⟩) (by assumption) ?_
                    simp only [Act.put, List.getElem_toArray, List.getElem_cons_zero, List.getElem_cons_succ, List.setIfInBounds_toArray, List.set_cons_zero, List.set_cons_succ]
                    refine wpAnyH_take (i := 17) rfl (by kernel_rfl) (by kernel_rfl) (by kernel_rfl) (fun _ _ _ h => h) (Or.inr ⟨by rfl, rfl⟩) (by assumption) ?_
                    simp only [Act.put, List.getElem_toArray, List.getElem_cons_zero, List.getElem_cons_succ, List.setIfInBounds_toArray, List.set_cons_zero, List.set_cons_succ]
                    refine wpAnyH_take (i := 19) rfl (by kernel_rfl) (by kernel_rfl) (by kernel_rfl) (fun _ _ _ h => h) (Or.inr ⟨by rfl, rfl⟩) (by assumption) ?_
                    simp only [Act.put, List.getElem_toArray, List.getElem_cons_zero, List.getElem_cons_succ, List.setIfInBounds_toArray, List.set_cons_zero, List.set_cons_succ]
                    refine wpAnyH_take (i := 20) (v := ?_) rfl (by kernel_rfl) (by kernel_rfl) (by kernel_rfl) (fun _ _ _ h => h) (Or.inl ⟨by rfl, ?_⟩) (by assumption) ?_
                    rotate_left
                    · (intro w hSw; (try dsimp only at hSw); go_simp)
                      first | done | with_reducible rfl
                    simp only [Act.put, List.getElem_toArray, List.getElem_cons_zero, List.getElem_cons_succ, List.setIfInBounds_toArray, List.set_cons_zero, List.set_cons_succ]
                    refine wpAnyH_take (i := 21) (v := ?_) rfl (by kernel_rfl) (by kernel_rfl) (by kernel_rfl) (fun _ _ _ h => h) (Or.inl ⟨by rfl, ?_⟩) (by assumption) ?_
                    rotate_left
                    · (intro w hSw; (try dsimp only at hSw); go_simp)
                      first | done | with_reducible rfl
                    simp only [Act.put, List.getElem_toArray, List.getElem_cons_zero, List.getElem_cons_succ, List.setIfInBounds_toArray, List.set_cons_zero, List.set_cons_succ]
                    refine wpAnyH_take (i := 22) (v := ?_) rfl (by kernel_rfl) (by kernel_rfl) (by kernel_rfl) (fun _ _ _ h => h) (Or.inl ⟨by rfl, ?_⟩) (by assumption) ?_
                    rotate_left
                    · (intro w hSw; (try dsimp only at hSw); go_simp)
                      first | done | with_reducible rfl
                    simp only [Act.put, List.getElem_toArray, List.getElem_cons_zero, List.getElem_cons_succ, List.setIfInBounds_toArray, List.set_cons_zero, List.set_cons_succ]
                    refine wpAnyH_done (by kernel_rfl) ?_ _
                    clear n1 y1
                    go_wp2_with fail
                    go_roundw
                    case rel => exact ⟨k + 1, by go_num, by omega, by rw [HB.out, hvb]; rfl, UA.out.drew⟩
                    case measure => simp [intOf]; omega
            · have hqt : q = false := by rw [← hq]; simp; omega
              subst hqt
              have k7 : (kk == 7) = false := by simp; omega
              have k8 : (kk == 8) = false := by simp; omega
              clear h78
              go_upto_region 11 with (fail)
              rw [← hwA, ← hnb]
              clear hq
              have n1 := N1.out
              have y1 := YA.out
              clear hwA hnb z0 z1 z2 z3 N1 YA
              cases Bk with
              | true =>
                refine wp_region_held_drew (S := fun w' => w'.cell? ⟨nb, 1, none⟩ = some (.int .i64 vk) ∧ w'.cell? ⟨b, off + i * 6 + 1, none⟩ = some (.int .i64 vi)) (by kernel_rfl) ?_ (fun hHeld => ?_)
                · exact ⟨n1, y1⟩
                refine wpAnyH_take (i := 0) (v := ?_) rfl (by kernel_rfl) (by kernel_rfl) (by kernel_rfl) (fun _ _ _ h => h) (Or.inl ⟨by rfl, ?_⟩) (by assumption) ?_
                rotate_left
                · (intro w hSw; (try dsimp only at hSw); go_simp)
                  first | done | with_reducible rfl
                simp only [Act.put, List.getElem_toArray, List.getElem_cons_zero, List.getElem_cons_succ, List.setIfInBounds_toArray, List.set_cons_zero, List.set_cons_succ]
                refine wpAnyH_take (i := 1) (v := ?_) rfl (by kernel_rfl) (by kernel_rfl) (by kernel_rfl) (fun _ _ _ h => h) (Or.inl ⟨by rfl, ?_⟩) (by assumption) ?_
                rotate_left
                · (intro w hSw; (try dsimp only at hSw); go_simp)
                  first | done | with_reducible rfl
                simp only [Act.put, List.getElem_toArray, List.getElem_cons_zero, List.getElem_cons_succ, List.setIfInBounds_toArray, List.set_cons_zero, List.set_cons_succ]
                refine wpAnyH_take (i := 2) rfl (by kernel_rfl) (by kernel_rfl) (by kernel_rfl) (fun _ _ _ h => h) (Or.inr ⟨by rfl, rfl⟩) (by assumption) ?_
                simp only [Act.put, List.getElem_toArray, List.getElem_cons_zero, List.getElem_cons_succ, List.setIfInBounds_toArray, List.set_cons_zero, List.set_cons_succ]
                refine wpAnyH_take (i := 3) rfl (by kernel_rfl) (by kernel_rfl) (by kernel_rfl) (fun _ _ _ h => h) (Or.inr ⟨by rfl, rfl⟩) (by assumption) ?_
                simp only [Act.put, List.getElem_toArray, List.getElem_cons_zero, List.getElem_cons_succ, List.setIfInBounds_toArray, List.set_cons_zero, List.set_cons_succ]
                refine wpAnyH_take (i := 4) rfl (by kernel_rfl) (by kernel_rfl) (by kernel_rfl) (fun _ _ _ h => h) (Or.inr ⟨by rfl, rfl⟩) (by assumption) ?_
                simp only [Act.put, List.getElem_toArray, List.getElem_cons_zero, List.getElem_cons_succ, List.setIfInBounds_toArray, List.set_cons_zero, List.set_cons_succ]
                refine wpAnyH_take (i := 5) rfl (by kernel_rfl) (by kernel_rfl) (by kernel_rfl) (fun _ _ _ h => h) (Or.inr ⟨by rfl, rfl⟩) (by assumption) ?_
                simp only [Act.put, List.getElem_toArray, List.getElem_cons_zero, List.getElem_cons_succ, List.setIfInBounds_toArray, List.set_cons_zero, List.set_cons_succ]
                refine wpAnyH_take (i := 6) rfl (by kernel_rfl) (by kernel_rfl) (by kernel_rfl) (fun _ _ _ h => h) (Or.inr ⟨by rfl, rfl⟩) (by assumption) ?_
                simp only [Act.put, List.getElem_toArray, List.getElem_cons_zero, List.getElem_cons_succ, List.setIfInBounds_toArray, List.set_cons_zero, List.set_cons_succ]
                refine wpAnyH_take (i := 7) rfl (by kernel_rfl) (by kernel_rfl) (by kernel_rfl) (fun _ _ _ h => h) (Or.inr ⟨by rfl, rfl⟩) (by assumption) ?_
                simp only [Act.put, List.getElem_toArray, List.getElem_cons_zero, List.getElem_cons_succ, List.setIfInBounds_toArray, List.set_cons_zero, List.set_cons_succ]
                refine wpAnyH_take (i := 8) rfl (by kernel_rfl) (by kernel_rfl) (by kernel_rfl) (fun _ _ _ h => h) (Or.inr ⟨by rfl, rfl⟩) (by assumption) ?_
                simp only [Act.put, List.getElem_toArray, List.getElem_cons_zero, List.getElem_cons_succ, List.setIfInBounds_toArray, List.set_cons_zero, List.set_cons_succ]
                refine wpAnyH_take (i := 9) rfl (by kernel_rfl) (by kernel_rfl) (by kernel_rfl) (fun _ _ _ h => h) (Or.inr ⟨by rfl, rfl⟩) (by assumption) ?_
                simp only [Act.put, List.getElem_toArray, List.getElem_cons_zero, List.getElem_cons_succ, List.setIfInBounds_toArray, List.set_cons_zero, List.set_cons_succ]
                refine wpAnyH_take (i := 10) rfl (by kernel_rfl) (by kernel_rfl) (by kernel_rfl) (fun _ _ _ h => h) (Or.inr ⟨by rfl, rfl⟩) (by assumption) ?_
                simp only [Act.put, List.getElem_toArray, List.getElem_cons_zero, List.getElem_cons_succ, List.setIfInBounds_toArray, List.set_cons_zero, List.set_cons_succ]
                refine wpAnyH_take (i := 11) rfl (by kernel_rfl) (by kernel_rfl) (by kernel_rfl) (fun _ _ _ h => h) (Or.inr ⟨by rfl, rfl⟩) (by assumption) ?_
                simp only [Act.put, List.getElem_toArray, List.getElem_cons_zero, List.getElem_cons_succ, List.setIfInBounds_toArray, List.set_cons_zero, List.set_cons_succ]
                refine wpAnyH_take (i := 12) rfl (by kernel_rfl) (by kernel_rfl) (by kernel_rfl) (fun _ _ _ h => h) (Or.inr ⟨by rfl, rfl⟩) (by assumption) ?_
                simp only [Act.put, List.getElem_toArray, List.getElem_cons_zero, List.getElem_cons_succ, List.setIfInBounds_toArray, List.set_cons_zero, List.set_cons_succ]
                refine wpAnyH_take (i := 13) rfl (by kernel_rfl) (by kernel_rfl) (by kernel_rfl) (fun _ _ _ h => h) (Or.inr ⟨by rfl, rfl⟩) (by assumption) ?_
                simp only [Act.put, List.getElem_toArray, List.getElem_cons_zero, List.getElem_cons_succ, List.setIfInBounds_toArray, List.set_cons_zero, List.set_cons_succ]
                refine wpAnyH_take (i := 14) rfl (by kernel_rfl) (by kernel_rfl) (by kernel_rfl) (fun _ _ _ h => h) (Or.inr ⟨by rfl, rfl⟩) (by assumption) ?_
                simp only [Act.put, List.getElem_toArray, List.getElem_cons_zero, List.getElem_cons_succ, List.setIfInBounds_toArray, List.set_cons_zero, List.set_cons_succ]
                refine wpAnyH_take (i := 15) rfl (by kernel_rfl) (by kernel_rfl) (by kernel_rfl) (fun _ _ _ h => h) (Or.inr ⟨by rfl, rfl⟩) (by assumption) ?_
                simp only [Act.put, List.getElem_toArray, List.getElem_cons_zero, List.getElem_cons_succ, List.setIfInBounds_toArray, List.set_cons_zero, List.set_cons_succ]
                refine wpAnyH_take (i := 16) rfl (by kernel_rfl) (by kernel_rfl) (by kernel_rfl) (fun _ _ _ h => h) (Or.inr ⟨by rfl, rfl⟩) (by assumption) ?_
                simp only [Act.put, List.getElem_toArray, List.getElem_cons_zero, List.getElem_cons_succ, List.setIfInBounds_toArray, List.set_cons_zero, List.set_cons_succ]
                refine wpAnyH_take (i := 18) rfl (by kernel_rfl) (by kernel_rfl) (by kernel_rfl) (fun _ _ _ h => h) (Or.inr ⟨by rfl, rfl⟩) (by assumption) ?_
                simp only [Act.put, List.getElem_toArray, List.getElem_cons_zero, List.getElem_cons_succ, List.setIfInBounds_toArray, List.set_cons_zero, List.set_cons_succ]
                refine wpAnyH_take (i := 17) rfl (by kernel_rfl) (by kernel_rfl) (by kernel_rfl) (fun _ _ _ h => h) (Or.inr ⟨by rfl, rfl⟩) (by assumption) ?_
                simp only [Act.put, List.getElem_toArray, List.getElem_cons_zero, List.getElem_cons_succ, List.setIfInBounds_toArray, List.set_cons_zero, List.set_cons_succ]
                refine wpAnyH_take (i := 19) rfl (by kernel_rfl) (by kernel_rfl) (by kernel_rfl) (fun _ _ _ h => h) (Or.inr ⟨by rfl, rfl⟩) (by assumption) ?_
                simp only [Act.put, List.getElem_toArray, List.getElem_cons_zero, List.getElem_cons_succ, List.setIfInBounds_toArray, List.set_cons_zero, List.set_cons_succ]
                refine wpAnyH_take (i := 20) rfl (by kernel_rfl) (by kernel_rfl) (by kernel_rfl) (fun _ _ _ h => h) (Or.inr ⟨by rfl, rfl⟩) (by assumption) ?_
                simp only [Act.put, List.getElem_toArray, List.getElem_cons_zero, List.getElem_cons_succ, List.setIfInBounds_toArray, List.set_cons_zero, List.set_cons_succ]
                refine wpAnyH_take (i := 21) (v := ?_) rfl (by kernel_rfl) (by kernel_rfl) (by kernel_rfl) (fun _ _ _ h => h) (Or.inl ⟨by rfl, ?_⟩) (by assumption) ?_
                rotate_left
                · (intro w hSw; (try dsimp only at hSw); go_simp)
                  first | done | with_reducible rfl
                simp only [Act.put, List.getElem_toArray, List.getElem_cons_zero, List.getElem_cons_succ, List.setIfInBounds_toArray, List.set_cons_zero, List.set_cons_succ]
                refine wpAnyH_take (i := 22) (v := ?_) rfl (by kernel_rfl) (by kernel_rfl) (by kernel_rfl) (fun _ _ _ h => h) (Or.inl ⟨by rfl, ?_⟩) (by assumption) ?_
                rotate_left
                · (intro w hSw; (try dsimp only at hSw); go_simp)
                  first | done | with_reducible rfl
                simp only [Act.put, List.getElem_toArray, List.getElem_cons_zero, List.getElem_cons_succ, List.setIfInBounds_toArray, List.set_cons_zero, List.set_cons_succ]
                refine wpAnyH_done (by kernel_rfl) ?_ _
                clear n1 y1
                go_wp2_with fail
                go_roundw
                case rel => exact ⟨k + 1, by go_num, by omega, by rw [HB.out]; rfl, UA.out.drew⟩
                case measure => simp [intOf]; omega
              | false =>
                refine wp_region_held_drew (S := fun w' => w'.cell? ⟨nb, 1, none⟩ = some (.int .i64 vk) ∧ w'.cell? ⟨b, off + i * 6 + 1, none⟩ = some (.int .i64 vi)) (by kernel_rfl) ?_ (fun hHeld => ?_)
                · exact ⟨n1, y1⟩
                refine wpAnyH_take (i := 0) (v := ?_) rfl (by kernel_rfl) (by kernel_rfl) (by kernel_rfl) (fun _ _ _ h => h) (Or.inl ⟨by rfl, ?_⟩) (by assumption) ?_
                rotate_left
                · (intro w hSw; (try dsimp only at hSw); go_simp)
                  first | done | with_reducible rfl
                simp only [Act.put, List.getElem_toArray, List.getElem_cons_zero, List.getElem_cons_succ, List.setIfInBounds_toArray, List.set_cons_zero, List.set_cons_succ]
                refine wpAnyH_take (i := 1) (v := ?_) rfl (by kernel_rfl) (by kernel_rfl) (by kernel_rfl) (fun _ _ _ h => h) (Or.inl ⟨by rfl, ?_⟩) (by assumption) ?_
                rotate_left
                · (intro w hSw; (try dsimp only at hSw); go_simp)
                  first | done | with_reducible rfl
                simp only [Act.put, List.getElem_toArray, List.getElem_cons_zero, List.getElem_cons_succ, List.setIfInBounds_toArray, List.set_cons_zero, List.set_cons_succ]
                refine wpAnyH_take (i := 2) (v := ?_) rfl (by kernel_rfl) (by kernel_rfl) (by kernel_rfl) (fun _ _ _ h => h) (Or.inl ⟨by rfl, ?_⟩) (by assumption) ?_
                rotate_left
                · (intro w hSw; (try dsimp only at hSw); go_simp)
                  first | done | with_reducible rfl
                simp only [Act.put, List.getElem_toArray, List.getElem_cons_zero, List.getElem_cons_succ, List.setIfInBounds_toArray, List.set_cons_zero, List.set_cons_succ]
                refine wpAnyH_take (i := 3) (v := ?_) rfl (by kernel_rfl) (by kernel_rfl) (by kernel_rfl) (fun _ _ _ h => h) (Or.inl ⟨by rfl, ?_⟩) (by assumption) ?_
                rotate_left
                · (intro w hSw; (try dsimp only at hSw); go_simp)
                  first | done | with_reducible rfl
                simp only [Act.put, List.getElem_toArray, List.getElem_cons_zero, List.getElem_cons_succ, List.setIfInBounds_toArray, List.set_cons_zero, List.set_cons_succ]
                refine wpAnyH_take (i := 4) rfl (by kernel_rfl) (by kernel_rfl) (by kernel_rfl) (fun _ _ _ h => h) (Or.inr ⟨by rfl, rfl⟩) (by assumption) ?_
                simp only [Act.put, List.getElem_toArray, List.getElem_cons_zero, List.getElem_cons_succ, List.setIfInBounds_toArray, List.set_cons_zero, List.set_cons_succ]
                refine wpAnyH_take (i := 5) rfl (by kernel_rfl) (by kernel_rfl) (by kernel_rfl) (fun _ _ _ h => h) (Or.inr ⟨by rfl, rfl⟩) (by assumption) ?_
                simp only [Act.put, List.getElem_toArray, List.getElem_cons_zero, List.getElem_cons_succ, List.setIfInBounds_toArray, List.set_cons_zero, List.set_cons_succ]
                refine wpAnyH_take (i := 6) rfl (by kernel_rfl) (by kernel_rfl) (by kernel_rfl) (fun _ _ _ h => h) (Or.inr ⟨by rfl, rfl⟩) (by assumption) ?_
                simp only [Act.put, List.getElem_toArray, List.getElem_cons_zero, List.getElem_cons_succ, List.setIfInBounds_toArray, List.set_cons_zero, List.set_cons_succ]
                refine wpAnyH_take (i := 7) rfl (by kernel_rfl) (by kernel_rfl) (by kernel_rfl) (fun _ _ _ h => h) (Or.inr ⟨by rfl, rfl⟩) (by assumption) ?_
                simp only [Act.put, List.getElem_toArray, List.getElem_cons_zero, List.getElem_cons_succ, List.setIfInBounds_toArray, List.set_cons_zero, List.set_cons_succ]
                refine wpAnyH_take (i := 8) rfl (by kernel_rfl) (by kernel_rfl) (by kernel_rfl) (fun _ _ _ h => h) (Or.inr ⟨by rfl, rfl⟩) (by assumption) ?_
                simp only [Act.put, List.getElem_toArray, List.getElem_cons_zero, List.getElem_cons_succ, List.setIfInBounds_toArray, List.set_cons_zero, List.set_cons_succ]
                refine wpAnyH_take (i := 9) rfl (by kernel_rfl) (by kernel_rfl) (by kernel_rfl) (fun _ _ _ h => h) (Or.inr ⟨by rfl, rfl⟩) (by assumption) ?_
                simp only [Act.put, List.getElem_toArray, List.getElem_cons_zero, List.getElem_cons_succ, List.setIfInBounds_toArray, List.set_cons_zero, List.set_cons_succ]
                refine wpAnyH_take (i := 10) rfl (by kernel_rfl) (by kernel_rfl) (by kernel_rfl) (fun _ _ _ h => h) (Or.inr ⟨by rfl, rfl⟩) (by assumption) ?_
                simp only [Act.put, List.getElem_toArray, List.getElem_cons_zero, List.getElem_cons_succ, List.setIfInBounds_toArray, List.set_cons_zero, List.set_cons_succ]
                refine wpAnyH_take (i := 11) rfl (by kernel_rfl) (by kernel_rfl) (by kernel_rfl) (fun _ _ _ h => h) (Or.inr ⟨by rfl, rfl⟩) (by assumption) ?_
                simp only [Act.put, List.getElem_toArray, List.getElem_cons_zero, List.getElem_cons_succ, List.setIfInBounds_toArray, List.set_cons_zero, List.set_cons_succ]
                refine wpAnyH_take (i := 12) rfl (by kernel_rfl) (by kernel_rfl) (by kernel_rfl) (fun _ _ _ h => h) (Or.inr ⟨by rfl, rfl⟩) (by assumption) ?_
                simp only [Act.put, List.getElem_toArray, List.getElem_cons_zero, List.getElem_cons_succ, List.setIfInBounds_toArray, List.set_cons_zero, List.set_cons_succ]
                refine wpAnyH_take (i := 13) (v := ?_) rfl (by kernel_rfl) (by kernel_rfl) (by kernel_rfl) (fun _ _ _ h => h) (Or.inl ⟨by rfl, ?_⟩) (by assumption) ?_
                rotate_left
                · (intro w hSw; (try dsimp only at hSw); go_simp)
                  first | done | with_reducible rfl
                simp only [Act.put, List.getElem_toArray, List.getElem_cons_zero, List.getElem_cons_succ, List.setIfInBounds_toArray, List.set_cons_zero, List.set_cons_succ]
                refine wpAnyH_take (i := 14) (v := ?_) rfl (by kernel_rfl) (by kernel_rfl) (by kernel_rfl) (fun _ _ _ h => h) (Or.inl ⟨by rfl, ?_⟩) (by assumption) ?_
                rotate_left
                · (intro w hSw; (try dsimp only at hSw); go_simp)
                  first | done | with_reducible rfl
                simp only [Act.put, List.getElem_toArray, List.getElem_cons_zero, List.getElem_cons_succ, List.setIfInBounds_toArray, List.set_cons_zero, List.set_cons_succ]
                refine wpAnyH_take (i := 15) rfl (by kernel_rfl) (by kernel_rfl) (by kernel_rfl) (fun _ _ _ h => h) (Or.inr ⟨by rfl, rfl⟩) (by assumption) ?_
                simp only [Act.put, List.getElem_toArray, List.getElem_cons_zero, List.getElem_cons_succ, List.setIfInBounds_toArray, List.set_cons_zero, List.set_cons_succ]
                refine wpAnyH_take (i := 16) rfl (by kernel_rfl) (by kernel_rfl) (by kernel_rfl) (fun _ _ _ h => h) (Or.inr ⟨by rfl, rfl⟩) (by assumption) ?_
                simp only [Act.put, List.getElem_toArray, List.getElem_cons_zero, List.getElem_cons_succ, List.setIfInBounds_toArray, List.set_cons_zero, List.set_cons_succ]
                refine wpAnyH_take (i := 18) rfl (by kernel_rfl) (by kernel_rfl) (by kernel_rfl) (fun _ _ _ h => h) (Or.inr ⟨by rfl, rfl⟩) (by assumption) ?_
                simp only [Act.put, List.getElem_toArray, List.getElem_cons_zero, List.getElem_cons_succ, List.setIfInBounds_toArray, List.set_cons_zero, List.set_cons_succ]
                refine wpAnyH_take (i := 17) rfl (by kernel_rfl) (by kernel_rfl) (by kernel_rfl) (fun _ _ _ h => h) (Or.inr ⟨by rfl, rfl⟩) (by assumption) ?_
                simp only [Act.put, List.getElem_toArray, List.getElem_cons_zero, List.getElem_cons_succ, List.setIfInBounds_toArray, List.set_cons_zero, List.set_cons_succ]
                refine wpAnyH_take (i := 19) rfl (by kernel_rfl) (by kernel_rfl) (by kernel_rfl) (fun _ _ _ h => h) (Or.inr ⟨by rfl, rfl⟩) (by assumption) ?_
                simp only [Act.put, List.getElem_toArray, List.getElem_cons_zero, List.getElem_cons_succ, List.setIfInBounds_toArray, List.set_cons_zero, List.set_cons_succ]
                refine wpAnyH_take (i := 20) (v := ?_) rfl (by kernel_rfl) (by kernel_rfl) (by kernel_rfl) (fun _ _ _ h => h) (Or.inl ⟨by rfl, ?_⟩) (by assumption) ?_
                rotate_left
                · (intro w hSw; (try dsimp only at hSw); go_simp)
                  first | done | with_reducible rfl
                simp only [Act.put, List.getElem_toArray, List.getElem_cons_zero, List.getElem_cons_succ, List.setIfInBounds_toArray, List.set_cons_zero, List.set_cons_succ]
                refine wpAnyH_take (i := 21) (v := ?_) rfl (by kernel_rfl) (by kernel_rfl) (by kernel_rfl) (fun _ _ _ h => h) (Or.inl ⟨by rfl, ?_⟩) (by assumption) ?_
                rotate_left
                · (intro w hSw; (try dsimp only at hSw); go_simp)
                  first | done | with_reducible rfl
                simp only [Act.put, List.getElem_toArray, List.getElem_cons_zero, List.getElem_cons_succ, List.setIfInBounds_toArray, List.set_cons_zero, List.set_cons_succ]
                refine wpAnyH_take (i := 22) (v := ?_) rfl (by kernel_rfl) (by kernel_rfl) (by kernel_rfl) (fun _ _ _ h => h) (Or.inl ⟨by rfl, ?_⟩) (by assumption) ?_
                rotate_left
                · (intro w hSw; (try dsimp only at hSw); go_simp)
                  first | done | with_reducible rfl
                simp only [Act.put, List.getElem_toArray, List.getElem_cons_zero, List.getElem_cons_succ, List.setIfInBounds_toArray, List.set_cons_zero, List.set_cons_succ]
                refine wpAnyH_done (by kernel_rfl) ?_ _
                clear n1 y1
                go_wp2_with fail
                go_roundw
                case rel => exact ⟨k + 1, by go_num, by omega, by rw [HB.out]; rfl, UA.out.drew⟩
                case measure => simp [intOf]; omega
          · obtain rfl : k = i := by omega
            have y5 := hu2.keep HP5.out
            have HU2 := Lib.hid hu2
            have hkl : ¬ (k : Int) < (k : Int) := by omega
            cases hb : bndB L k k vi with
            | true =>
              have HJ2 := Lib.hid (show scF L (L.length - (k + 1)) (k + 1) = Z from by rw [← HJ.out, HS2.out, hb]; rfl)
              clear HJ HS2 hb hu2
              go_wp2_with fail
              go_roundw
              case rel => exact ⟨k + 1, by go_num, by omega, HU2.out, HJ2⟩
              case measure => simp [intOf]; omega
            | false =>
              have HJ2 := Lib.hid (show Z = some ai from by rw [← HJ.out, HS2.out, hb]; rfl)
              clear HJ HS2 hb hu2
              go_wp2_with fail
              go_ret
              rw [HJ2.out]
              exact ⟨rfl, HU2.out⟩
      · have HJ2 := Lib.hid (show scF L (L.length - (i + 1)) (i + 1) = Z from by rw [← HJ.out, HS.out, if_neg (fun h => hk6 h.1)])
        clear HJ HS
        generalize L[i].nd.kd = ki at *
        go_wp2_with fail
        go_roundw
        case rel => exact ⟨i + 1, by go_num, by omega, HUO.out, HJ2⟩
        case measure => simp [intOf]; omega
    · obtain rfl : i = L.length := by omega
      have HJ2 := Lib.hid (show Z = none from by rw [← HJ.out, Nat.sub_self]; rfl)
      have hil : ¬ (L.length : Int) < (L.length : Int) := by omega
      have HUO := Lib.hid hu
      clear HJ hu
      go_wp2_with fail
      go_ret
      rw [HJ2.out]
      exact ⟨rfl, HUO.out⟩

end Go.Proofs.YtaahjpmndkcijaaGreatDoor

/-
  The checks of a regular expression: what the program's call and the reference's call return.
-/
namespace Go.Proofs.YtaahjpmndkcijaaGreatDoor
open Go.RowKit

set_option maxRecDepth 20000 in
set_option maxHeartbeats 800000 in
theorem arityR (a : Int) (w : World) (h : inB a 0 3 = true) : Calls Tryz.prog 67 #[ei a] w fun e w' => e = .returned (.int .i64 (arRg a)) ∧ w = w' := by
  have h := inB_true h
  rcases (by omega : a = 0 ∨ a = 1 ∨ a = 2 ∨ a = 3) with rfl | rfl | rfl | rfl
  all_goals
    clear h
    go_enter Tryz.func67, Tryz.ntmps67
    go_wp2_with fail
    go_ret
    exact ⟨rfl, rfl⟩

end Go.Proofs.YtaahjpmndkcijaaGreatDoor

/-
  Formulas parsed: the reference finds the end of a regular expression, and a number in a list.
-/
namespace Go.Proofs.YtaahjpmndkcijaaGreatDoor
open Go.RowKit

theorem okTs_app {γ : Type} (ar : γ → Int) : ∀ (xs ys : List (Tr γ)), okTs ar xs = true → okTs ar ys = true → okTs ar (xs ++ ys) = true
  | [], ys, _, h => h
  | x :: xs, ys, h1, h2 => by
    rw [List.cons_append, okTs, Bool.and_eq_true]
    rw [okTs, Bool.and_eq_true] at h1
    exact ⟨h1.1, okTs_app ar xs ys h1.2 h2⟩
theorem flatTs_ge {γ : Type} : ∀ (xs : List (Tr γ)), xs.length ≤ (flatTs xs).length
  | [] => Nat.zero_le _
  | x :: xs => by
    have := flatTs_ge xs
    have := flatT_pos x
    rw [flatTs, List.length_append, List.length_cons]; omega
/-- q regular expressions begin at k and end at E. -/
def EndI (L : List Rg) (E k q : Nat) : Prop := ∃ (ts : List (Tr Rg)) (rest : List Rg), ts.length = q ∧ L.drop k = flatTs ts ++ rest ∧ okTs arR ts = true ∧ (∀ t ∈ flatTs ts, 0 ≤ t.kd ∧ t.kd ≤ 3) ∧ k + (flatTs ts).length = E
theorem EndI.stop {L : List Rg} {E k : Nat} (h : EndI L E k 0) : k = E := by
  obtain ⟨ts, rest, h1, -, -, -, h5⟩ := h
  obtain rfl := List.length_eq_zero_iff.1 h1
  simpa [flatTs] using h5
theorem EndI.step {L : List Rg} {E k q : Nat} (h : EndI L E k (q + 1)) : ∃ (hk : k < L.length) (q' : Nat), ((q + 1 : Nat) : Int) + (arRg L[k].kd - 1) = q' ∧ q' ≤ L.length ∧ inB L[k].kd 0 3 = true ∧ EndI L E (k + 1) q' := by
  obtain ⟨ts, rest, h1, h2, h3, h4, h5⟩ := h
  cases ts with
  | nil => simp at h1
  | cons t ts =>
    obtain ⟨n, args⟩ := t
    rw [okTs, okT, Bool.and_eq_true, Bool.and_eq_true, decide_eq_true_eq] at h3
    have e : flatTs (Tr.mk n args :: ts) = n :: flatTs (args ++ ts) := by rw [flatTs_append]; rfl
    rw [e] at h2 h4 h5
    have hkl : k < L.length := by
      rcases Nat.lt_or_ge k L.length with h | h
      · exact h
      · rw [List.drop_of_length_le h] at h2; cases h2
    have h6 := h2
    rw [List.drop_eq_getElem_cons hkl, List.cons_append, List.cons.injEq] at h6
    have hge := flatTs_ge (args ++ ts)
    have hlen := congrArg List.length h6.2
    rw [List.length_append, List.length_drop] at hlen
    refine ⟨hkl, (args ++ ts).length, ?_, by omega, inB_mk (by rw [h6.1]; exact h4 n (by simp)), args ++ ts, rest, rfl, h6.2, okTs_app _ _ _ h3.1.2 h3.2, fun t ht => h4 t (by simp [ht]), ?_⟩
    · have h7 : (args.length : Int) = arRg n.kd := h3.1.1
      rw [h6.1, ← h7, List.length_append]
      rw [List.length_cons] at h1
      omega
    · rw [List.length_cons] at h5
      omega

set_option maxRecDepth 20000 in
set_option maxHeartbeats 1000000 in
theorem endGS (v : Value) (L : List Rg) (i : Nat) (w : World) (fp : List Nat) (r : Tr Rg) (rest : List Rg) (hR : R_G1 fp w [v] L) (hlen : L.length ≤ 2000000) (hd : L.drop i = flatT r ++ rest) (ho : TOk r) :
    Calls Tryz.prog 53 #[v, .int .i64 i] w fun e w' => e = .returned (.int .i64 ((i + (flatT r).length : Nat) : Int)) ∧ w = w' := by
  obtain ⟨a, cap, rfl, h1, h2, hc⟩ := slF3_open hR
  unfold maxLen at h2
  have hst : EndI L (i + (flatT r).length) i 1 := ⟨[r], rest, rfl, by simpa [flatTs] using hd, by simp [okTs, ho.1], by simpa [flatTs] using ho.2, by simp [flatTs]⟩
  obtain ⟨hil, -⟩ := hst.step
  have HC := Lib.hid hc
  have HST := Lib.hid hst
  generalize i + (flatT r).length = E at *
  clear hR hc hst hd ho
  go_enter Tryz.func53, Tryz.ntmps53
  go_wp2_with fail
  go_loop [1, 5] (fun kv mv => ∃ (k q : Nat), kv = .int .i64 k ∧ mv = .int .i64 q ∧ k ≤ L.length ∧ q ≤ L.length ∧ Hid (EndI L E k q)) (fun kv _ => L.length - (intOf kv).toNat)
  case atStart => exact ⟨i, 1, rfl, rfl, by omega, by omega, HST⟩
  case round =>
    clear HST
    obtain ⟨k, q, rfl, rfl, hk, hq, HS⟩ := hrel
    cases q with
    | zero =>
      have HR := Lib.hid HS.out.stop
      clear HS
      go_wp2_with fail
      go_ret
      exact ⟨by rw [HR.out]; rfl, rfl⟩
    | succ q =>
      obtain ⟨hlt, q', hq1, hq2, hin, hst2⟩ := HS.out.step
      obtain ⟨b1, o1, rfl, -, -, p1, -⟩ := HC.out k hlt
      have S1 := Lib.hid (fun W => arityR L[k].kd W hin)
      have HS2 := Lib.hid hst2
      have har : 0 ≤ arRg L[k].kd ∧ arRg L[k].kd ≤ 2 := arRg_in _
      have hqp : (0 : Int) < ((q + 1 : Nat) : Int) := by omega
      clear HS hst2 hin
      generalize arRg L[k].kd = ar at *
      generalize L[k].kd = kd at *
      obtain ⟨Q, hQ⟩ : ∃ Q : Int, ((q + 1 : Nat) : Int) = Q := ⟨_, rfl⟩
      rw [hQ] at hq1 hqp ⊢
      have hQ1 : Q ≤ 2000000 := by omega
      clear hQ
      go_wp2_with fail
      refine (S1.out _).mono ?_
      rintro e w1 ⟨rfl, rfl⟩
      clear S1 p1
      go_wp2_with fail
      go_round
      case rel => exact ⟨k + 1, q', by go_num, by rw [← hq1], by omega, by omega, HS2⟩
      case measure => simp [intOf]; omega

set_option maxRecDepth 20000 in
set_option maxHeartbeats 1000000 in
theorem hasNS (v : Value) (xs : List Int) (n : Int) (w : World) (fp : List Nat) (hR : R_I1 fp w [v] xs) (hlen : xs.length ≤ 2000000) :
    Calls Tryz.prog 54 #[v, .int .i64 n] w fun e w' => e = .returned (.bool (xs.contains n)) ∧ w = w' := by
  obtain ⟨a, cap, rfl, h1, h2, hc⟩ := slF1_open hR
  unfold maxLen at h2
  have HC := Lib.hid hc
  obtain ⟨Z, hZ⟩ : ∃ Z, xs.contains n = Z := ⟨_, rfl⟩
  have HZ := Lib.hid hZ
  rw [hZ]
  clear hR hc hZ
  go_enter Tryz.func54, Tryz.ntmps54
  go_wp2_with fail
  go_loop [5] (fun kv => ∃ (k : Nat), kv = .int .i64 k ∧ k ≤ xs.length ∧ Hid ((xs.drop k).contains n = Z)) (fun kv => xs.length - (intOf kv).toNat)
  case atStart => exact ⟨0, rfl, Nat.zero_le _, Lib.hid HZ.out⟩
  case round =>
    clear HZ
    obtain ⟨k, rfl, hk, HJ⟩ := hrel
    by_cases hlt : k < xs.length
    · obtain ⟨b, off, rfl, -, -, p0⟩ := HC.out k hlt
      have hkl : (k : Int) < (xs.length : Int) := by omega
      have hs : (xs.drop k).contains n = (n == xs[k] || (xs.drop (k + 1)).contains n) := by rw [List.drop_eq_getElem_cons hlt, List.contains_cons]
      have HJ1 := Lib.hid (hs.symm.trans HJ.out)
      clear hs HJ
      generalize xs[k] = x at *
      by_cases hx : x = n
      · subst hx
        have HJ2 := Lib.hid (show Z = true from by rw [← HJ1.out]; simp)
        clear HJ1
        go_wp2_with fail
        go_ret
        rw [HJ2.out]
        exact ⟨rfl, rfl⟩
      · have HJ2 := Lib.hid (show (xs.drop (k + 1)).contains n = Z from by rw [← HJ1.out]; simp [show ¬ n = x from fun h => hx h.symm])
        clear HJ1
        go_wp2_with fail
        go_round
        case rel => exact ⟨k + 1, by go_num, by omega, HJ2⟩
        case measure => simp [intOf]; omega
    · obtain rfl : k = xs.length := by omega
      have hkl : ¬ (xs.length : Int) < (xs.length : Int) := by omega
      have HJ2 := Lib.hid (show Z = false from by rw [← HJ.out, List.drop_of_length_le (Nat.le_refl _)]; rfl)
      clear HJ
      go_wp2_with fail
      go_ret
      rw [HJ2.out]
      exact ⟨rfl, rfl⟩

end Go.Proofs.YtaahjpmndkcijaaGreatDoor

/-
  Formulas parsed: the reference replaces a regular modality by a formula: a test.
-/
namespace Go.Proofs.YtaahjpmndkcijaaGreatDoor
open Go.RowKit

/-- what the replacement returns: nodes (some nodes or other where it fails), whether it went well. -/
def MdS (w : World) (r : Option (List Nd)) (e : Ending) (w' : World) : Prop :=
  (∃ (v : Value) (o : List Nd), e = .returned (.tuple #[v, .bool r.isSome]) ∧ New R_F1 w w' v o ∧ o.length ≤ 100 ∧ (∀ x, r = some x → o = x)) ∧ Upd [] w w'
theorem MdS.mk {w w' : World} {M : Option (List Nd)} {v : Value} {o : List Nd} (q : Bool) (hq : M.isSome = q) (hn : New R_F1 w w' v o) (hl : o.length ≤ 100) (hx : ∀ x, M = some x → o = x) (hu : Upd [] w w') :
    MdS w M (.returned (.tuple #[v, .bool q])) w' := ⟨⟨v, o, by rw [hq], hn, hl, hx⟩, hu⟩
theorem New.ofF1 {w w' : World} {v : Value} {xs : List Nd} (h : w'.ownsRow w.heap.size 58 4 v xs.length (xs.flatMap encN)) : New R_F1 w w' v xs := New.ofOwns4 h
/-- an empty row that is new. -/
theorem row_empty (w : World) : (w.alloc (.cells #[] 58)).ownsRow w.heap.size 58 4 (.slice (some ⟨w.heap.size, 0, none⟩) 0 0) 0 [] := by
  simpa using World.ownsRow_lit (base := w.heap.size) (e := 58) (size := 4) w #[] 0 (Nat.le_refl _) (by simp [maxLen]) (by simp)
set_option maxRecDepth 20000 in
set_option maxHeartbeats 8000000 in
theorem modTestS (w : World) (vr vf vb : Value) (fr ff : List Nat) (box : Bool) (used : List Int) (f : List Nd) (lb : List UInt8) (nt : Bool) (hf : f.length ≤ 30)
    (hR : R_G1 fr w [vr] (flatT (.mk ⟨0, lb, nt⟩ []))) (hF : R_F1 ff w [vf] f) :
    Calls Tryz.prog 46 #[vr, .bool box, vf, vb] w (MdS w (mdF box (.mk ⟨0, lb, nt⟩ []) used f)) := by
  obtain ⟨i0, hi, hz0, hz1, hz2⟩ := info_parts Tryz.infoNd
  obtain ⟨a, cap, rfl, g1, g2, hc⟩ := slF3_open hR
  obtain ⟨b, off, rfl, -, -, t0, t1, t2⟩ := hc 0 (by simp [flatT])
  simp only [flatT, List.getElem_cons_zero, Nat.zero_mul, Nat.add_zero] at t0 t1 t2
  have hLN : (flatT (Tr.mk (⟨0, lb, nt⟩ : Rg) [])).length = 1 := rfl
  rw [hLN] at g1 ⊢
  obtain ⟨d, hd⟩ : ∃ d, kdB box 4 5 = d := ⟨_, rfl⟩
  have HX := Lib.hid (show mdF box (.mk ⟨0, lb, nt⟩ []) used f = (if f.length + 1 ≤ 30 then some (⟨d, 0, lb, nt⟩ :: f) else none) from by rw [mdF.eq_def, ← hd]; rfl)
  generalize mdF box (.mk ⟨0, lb, nt⟩ []) used f = M at *
  have HF := Lib.hid (fun W (hu : Upd [] w W) => Flat.ofF1 (R_F1k.upd hF hu (by simp)))
  obtain ⟨af, cf, rfl⟩ : ∃ af cf, vf = .slice af f.length cf := by obtain ⟨v', hv, af, cf, rfl, -⟩ := hF; cases hv; exact ⟨_, _, rfl⟩
  have HD := Lib.hid hd
  clear hc hR hF hLN hd
  obtain ⟨wA, hwA⟩ : ∃ wA, wA = w.alloc (.cells #[] 58) := ⟨_, rfl⟩
  have uA : Upd [] w wA := by rw [hwA]; exact (Upd.refl _ _).alloc _
  obtain ⟨B, hB⟩ : ∃ B, B = w.heap.size := ⟨_, rfl⟩
  have hownA : wA.ownsRow B 58 4 (.slice (some ⟨B, 0, none⟩) 0 0) 0 [] := by rw [hwA, hB]; exact row_empty w
  have hszA : B + 1 ≤ wA.heap.size := by rw [hwA, hB]; simp
  have HB := Lib.hid hB
  go_enter Tryz.func46, Tryz.ntmps46
  go_upto_if 25 with (fail)
  go_cut [10, 11, 12] (fun s10 s11 s12 wx => s10 = .int .i64 (kdB box 4 5) ∧ s11 = .int .i64 (kdB box 3 2) ∧ s12 = .int .i64 (kdB box 7 8) ∧ wx = w)
  case first =>
    cases box
    all_goals
      go_wp2_with fail
      go_meet
      exact ⟨rfl, rfl, rfl, rfl⟩
  case rest =>
    obtain ⟨rfl, rfl, rfl, hww⟩ := hcut
    replace hww := hww.symm
    subst hww
    rw [HD.out]
    go_upto_region 9 with (fail)
    rw [← hwA, ← hB]
    have y0 := uA.keep t0
    have y1 := uA.keep t1
    have y2 := uA.keep t2
    clear hwA hB
    go_upto_region 11 with (fail)
    have hW : Upd [] wA (wA.drew.alloc (.cells #[.int .i64 d, .int .i64 0, es lb, .bool nt] 58)) := ((Upd.refl _ _).drew).alloc _
    have hlit : ∀ j u, [.int .i64 d, .int .i64 0, es lb, .bool nt][j]? = some u → (wA.drew.alloc (.cells #[.int .i64 d, .int .i64 0, es lb, .bool nt] 58)).cell? ((⟨wA.heap.size, 0, none⟩ : Addr).add j) = some u := fun j u hj => by
      rw [addr_add]; exact cell_new wA.drew #[.int .i64 d, .int .i64 0, es lb, .bool nt] _ _ rfl _ _ (by simpa using hj)
    go_region_held3 (fun w' => w'.cell? ⟨b, off + 1, none⟩ = some (es lb) ∧ w'.cell? ⟨b, off + 2, none⟩ = some (.bool nt)) (go_keep)
      (first
        | (refine step_append_lies _ (by rfl) _ _ 28 (by rfl) B 58 i0 (.agg #[.int .i64 0, .int .i64 0, .string ⟨#[]⟩, .bool false]) 4 40 Tryz.underlying28 hi hz0 hz1 hz2 rfl (by decide) (.slice (some ⟨B, 0, none⟩) 0 0) 0 [] (by rfl) (ownsRow_upd hownA hW) ⟨wA.heap.size, 0, none⟩ 1 1 [.int .i64 d, .int .i64 0, es lb, .bool nt] (by rfl) rfl hlit (by intro u hu; simp at hu; rcases hu with rfl | rfl | rfl | rfl <;> rfl) (by decide) (by unfold maxLen; omega) (by omega) (by simp; omega) (wA.heap.size + 1) (by simp) ?_; intro g gcap w4 hown4 hg4 hat4 hlt4; have hU4 : Upd [] w w4 := ((uA.trans hW).grown hg4 (fun k hk => Or.inl (by simp [Value.ownBlock] at hk; have := HB.out; omega))); have x1 := hU4.keep t1; have x2 := hU4.keep t2))
    all_goals
      have HU4 := Lib.hid hU4
      have HO4 := Lib.hid (show w4.ownsRow B 58 4 (.slice (some ⟨g, 0, none⟩) 1 gcap) 1 [.int .i64 d, .int .i64 0, es lb, .bool nt] from hown4)
      have HF4 := Lib.hid (HF.out w4 hU4)
      have hb4 : B ≤ w4.heap.size := by rw [HB.out]; exact hU4.size
      clear hown4 hg4 hU4 x1 x2 hlit hW y0 y1 y2 hownA
      go_wp2_with (first
        | (at_builtin; refine wpList_append_flat rfl _ _ 28 rfl B 58 i0 (.agg #[.int .i64 0, .int .i64 0, .string ⟨#[]⟩, .bool false]) 4 40 Tryz.underlying28 hi hz0 hz1 hz2 rfl (by decide) _ _ _ rfl HO4.out _ f.length _ rfl _ HF4.out (one_F1 f) (by unfold maxLen; omega) (by omega) hb4 ?_)
        | fail)
      intro v5 w5 hown5 hg5 ht5
      obtain ⟨a5, c5, rfl⟩ := ownsRow_form hown5
      have HU5 := Lib.hid (show Upd [] w w5 from HU4.out.grown hg5 (fun k hk => Or.inl (by have := (HO4.out.lt k hk).1; have := HB.out; omega)))
      have HN5 := Lib.hid (show New R_F1 w w5 (.slice a5 (1 + f.length) c5) (⟨d, 0, lb, nt⟩ :: f) from New.ofF1 (by
        have h : w5.ownsRow w.heap.size 58 4 (.slice a5 (1 + f.length) c5) (1 + f.length) ([.int .i64 d, .int .i64 0, es lb, .bool nt] ++ f.flatMap encN) := by rw [← HB.out]; exact hown5
        rw [List.length_cons, Nat.add_comm f.length 1]; exact h))
      clear hown5 hg5 ht5 HO4 HF4
      generalize hl5 : 1 + f.length = l5 at *
      by_cases h30 : l5 ≤ 30
      · have h30i : (l5 : Int) ≤ 30 := by omega
        go_wp2_with fail
        go_ret2
        exact MdS.mk true (by rw [HX.out, if_pos (by omega)]; rfl) HN5.out (by simp; omega) (fun x hx => by rw [HX.out, if_pos (by omega)] at hx; cases hx; rfl) HU5.out
      · have h30i : ¬ (l5 : Int) ≤ 30 := by omega
        go_wp2_with fail
        go_ret2
        exact MdS.mk false (by rw [HX.out, if_neg (by omega)]; rfl) HN5.out (by simp; omega) (fun x hx => by rw [HX.out, if_neg (by omega)] at hx; cases hx) HU5.out

end Go.Proofs.YtaahjpmndkcijaaGreatDoor

/-
  Formulas parsed: the reference builds the nodes: a leaf, an operator.
-/
namespace Go.Proofs.YtaahjpmndkcijaaGreatDoor
open Go.RowKit

/-- what the building returns: nodes (some nodes or other where it fails), whether it went well. -/
def BdS (w : World) (n : Nat) (r : Option (List Nd)) (e : Ending) (w' : World) : Prop :=
  (∃ (v : Value) (o : List Nd), e = .returned (.tuple #[v, .bool r.isSome]) ∧ New R_F1 w w' v o ∧ o.length ≤ 200 * n ∧ (∀ x, r = some x → o = x)) ∧ Upd [] w w'
theorem BdS.mk {w w' : World} {n : Nat} {M : Option (List Nd)} {v : Value} {o : List Nd} (q : Bool) (hq : M.isSome = q) (hn : New R_F1 w w' v o) (hl : o.length ≤ 200 * n) (hx : ∀ x, M = some x → o = x) (hu : Upd [] w w') :
    BdS w n M (.returned (.tuple #[v, .bool q])) w' := ⟨⟨v, o, by rw [hq], hn, hl, hx⟩, hu⟩
theorem BdS.form {w w' : World} {n : Nat} {M : Option (List Nd)} {e : Ending} (h : BdS w n M e w') : ∃ (a : Option Addr) (c : Nat) (o : List Nd), e = .returned (.tuple #[.slice a o.length c, .bool M.isSome]) ∧ New R_F1 w w' (.slice a o.length c) o ∧ o.length ≤ 200 * n ∧ (∀ x, M = some x → o = x) ∧ Upd [] w w' := by
  obtain ⟨⟨v, o, rfl, h1, h2, h3⟩, h4⟩ := h
  obtain ⟨fp, ⟨v', hv, a, c, rfl, g⟩, q⟩ := h1
  cases hv
  exact ⟨a, c, o, rfl, ⟨fp, ⟨_, rfl, a, c, rfl, g⟩, q⟩, h2, h3, h4⟩
theorem g1_form {fp : List Nat} {w : World} {v : Value} {x : List Rg} (h : R_G1 fp w [v] x) : ∃ a c, v = .slice a x.length c := by
  obtain ⟨v', hv, a, c, rfl, -⟩ := h
  cases hv
  exact ⟨a, c, rfl⟩
theorem row_node (w wA : World) (h : w.heap.size ≤ wA.heap.size) (a b : Int) (l : List UInt8) (n : Bool) : (wA.alloc (.cells #[ei a, ei b, es l, .bool n] 58)).ownsRow w.heap.size 58 4 (.slice (some ⟨wA.heap.size, 0, none⟩) 1 1) 1 [ei a, ei b, es l, .bool n] :=
  World.ownsRow_lit (base := w.heap.size) (e := 58) (size := 4) wA #[ei a, ei b, es l, .bool n] 1 h (by simp [maxLen]) (by simp)

set_option maxRecDepth 20000 in
set_option maxHeartbeats 2000000 in
theorem bldOneS (w : World) (v vb : Value) (it : Itm) (hR : HasIt w v [it]) (ha : arS it.nd.kd = 0) :
    Calls Tryz.prog 35 #[v, vb] w (BdS w 1 (some [it.nd])) := by
  obtain ⟨b, off, cap, rfl, g1, g2, hc⟩ := hR.open1 (by simp)
  obtain ⟨rv, fp, t0, t1, t2, t3, t4, t5, hrg⟩ := hc 0 (by simp)
  obtain ⟨ar, cr, rfl⟩ := g1_form hrg
  clear hrg
  obtain ⟨⟨kd, vn, lb, nt⟩, rg, at'⟩ := it
  simp only [List.getElem_cons_zero, Nat.zero_mul, Nat.add_zero] at t0 t1 t2 t3 t4 t5 ha
  generalize rg.length = lr at *
  have AR := Lib.hid (fun W => arityS kd W)
  rw [ha] at AR
  obtain ⟨wA, hwA⟩ : ∃ wA, wA = w.alloc (.cells #[ei kd, ei vn, es lb, .bool nt, .slice ar lr cr, ei at'] 82) := ⟨_, rfl⟩
  have uA : Upd [] w wA := by rw [hwA]; exact (Upd.refl _ _).alloc _
  obtain ⟨B, hB⟩ : ∃ B, B = w.heap.size := ⟨_, rfl⟩
  have rA : RowAt wA B 82 [ei kd, ei vn, es lb, .bool nt, .slice ar lr cr, ei at'] := by rw [hwA, hB]; exact RowAt.new w _ _
  have d0 := rA.cell 0 _ rfl
  have d1 := rA.cell 1 _ rfl
  have d2 := rA.cell 2 _ rfl
  have d3 := rA.cell 3 _ rfl
  have UA := Lib.hid uA
  clear hc hR ha rA uA
  go_enter Tryz.func35, Tryz.ntmps35
  go_upto_region 2 with (fail)
  rw [← hwA, ← hB]
  clear hwA hB t0 t1 t2 t3 t4 t5
  go_wp2_with fail
  refine (AR.out _).mono ?_
  rintro e w2 ⟨rfl, hww⟩
  subst hww
  clear AR
  have HN := Lib.hid (show New R_F1 w (wA.alloc (.cells #[ei kd, ei vn, es lb, .bool nt] 58)) (.slice (some ⟨wA.heap.size, 0, none⟩) 1 1) [⟨kd, vn, lb, nt⟩] from New.ofF1 (row_node w wA UA.out.size kd vn lb nt))
  go_wp2_with fail
  go_ret2
  exact BdS.mk true rfl HN.out (by simp) (fun x hx => by cases hx; rfl) (UA.out.alloc _)

set_option maxRecDepth 20000 in
set_option maxHeartbeats 8000000 in
theorem bldTwoS (w : World) (v vb : Value) (k : Int) (A C : List Itm) (f g : Fm) (u : List Int) (hk : k = 2 ∨ k = 3) (hA : ItF f A) (hC : ItF g C) (hf : okF f) (hg : okF g) (hlen : (⟨ndK k, [], 0⟩ :: (A ++ C) : List Itm).length ≤ 400)
    (hR : HasIt w v (⟨ndK k, [], 0⟩ :: (A ++ C)))
    (hIf : ∀ W v', Upd [] w W → HasIt W v' A → Calls Tryz.prog 35 #[v', vb] W (BdS W A.length (bldF f u)))
    (hIg : ∀ W v', Upd [] w W → HasIt W v' C → Calls Tryz.prog 35 #[v', vb] W (BdS W C.length (bldF g u))) :
    Calls Tryz.prog 35 #[v, vb] w (BdS w (⟨ndK k, [], 0⟩ :: (A ++ C) : List Itm).length (bldF (.two k f g) u)) := by
  obtain ⟨i0, hi, hz0, hz1, hz2⟩ := info_parts Tryz.infoNd
  have hLN : (⟨ndK k, [], 0⟩ :: (A ++ C) : List Itm).length = 1 + A.length + C.length := by simp; omega
  have hpA := hA.pos hf
  have hpC := hC.pos hg
  obtain ⟨b, off, cap, rfl, g1, g2, hc⟩ := hR.open1 (by simp)
  obtain ⟨rv, fp, t0, t1, t2, t3, t4, t5, hrg⟩ := hc 0 (by simp)
  obtain ⟨ar, cr, rfl⟩ := g1_form hrg
  clear hrg
  simp only [List.getElem_cons_zero, Nat.zero_mul, Nat.add_zero, ndK, List.length_nil] at t0 t1 t2 t3 t4 t5
  have ha : arS k = 2 := by rcases hk with rfl | rfl <;> rfl
  have AR := Lib.hid (fun W => arityS k W)
  rw [ha] at AR
  have HL := Lib.hid (fun W (hu : Upd [] w W) => show Calls Tryz.prog 44 #[_, .int .i64 1] W (fun e w' => e = .returned (.int .i64 (1 + (A.length : Int))) ∧ W = w') from by
    have h := lastS _ _ 1 W f A C (hR.upd hu) (by omega) (by simp) hA hf
    rw [Int.natCast_add] at h
    exact h)
  have hsA := hR.sub 1 (1 + A.length) (by omega) (by omega)
  have hsC := hR.sub (1 + A.length) (⟨ndK k, [], 0⟩ :: (A ++ C) : List Itm).length (by omega) (Nat.le_refl _)
  rw [show ((⟨ndK k, [], 0⟩ :: (A ++ C) : List Itm).take (1 + A.length)).drop 1 = A by rw [Nat.add_comm]; simp, Nat.add_sub_cancel_left] at hsA
  rw [show ((⟨ndK k, [], 0⟩ :: (A ++ C) : List Itm).take (⟨ndK k, [], 0⟩ :: (A ++ C) : List Itm).length).drop (1 + A.length) = C by rw [List.take_length, Nat.add_comm]; simp] at hsC
  have SA := Lib.hid (fun W (hu : Upd [] w W) => hIf W _ hu (hsA.upd hu))
  have SC := Lib.hid (fun W (hu : Upd [] w W) => hIg W _ hu (hsC.upd hu))
  have HX := Lib.hid (show bldF (.two k f g) u = (match bldF f u with | none => none | some x => match bldF g u with | none => none | some y => if 1 + x.length + y.length ≤ 30 then some (ndK k :: (x ++ y)) else none) from by
    rw [bldF]
    cases bldF f u with
    | none => rfl
    | some x => cases bldF g u with
      | none => rfl
      | some y => rfl)
  generalize bldF (.two k f g) u = M at *
  obtain ⟨wA, hwA⟩ : ∃ wA, wA = w.alloc (.cells #[ei k, ei 0, es [], .bool false, .slice ar 0 cr, ei 0] 82) := ⟨_, rfl⟩
  have uA : Upd [] w wA := by rw [hwA]; exact (Upd.refl _ _).alloc _
  obtain ⟨B, hB⟩ : ∃ B, B = w.heap.size := ⟨_, rfl⟩
  have rA : RowAt wA B 82 [ei k, ei 0, es [], .bool false, .slice ar 0 cr, ei 0] := by rw [hwA, hB]; exact RowAt.new w _ _
  have d0 := rA.cell 0 _ rfl
  have RA := Lib.hid rA
  have UA := Lib.hid uA
  unfold maxLen at g2
  clear hc hR ha rA uA hIf hIg hsA hsC hk hA hC hf hg
  generalize (⟨ndK k, [], 0⟩ :: (A ++ C) : List Itm).length = LN at *
  generalize A.length = LA at *
  generalize C.length = LC at *
  have s1 : (1 : Int) ≤ 1 + (LA : Int) := by omega
  have s2 : 1 + (LA : Int) ≤ (cap : Int) := by omega
  have s3 : (0 : Int) ≤ 1 + (LA : Int) := by omega
  have s4 : 1 + (LA : Int) ≤ (LN : Int) := by omega
  have s5 : (1 + (LA : Int)).toNat = 1 + LA := by omega
  have s6 : ¬ (cap = 1 + LA) := by omega
  have hcl : 1 + LA < cap := by omega
  have hLC : LC ≤ 400 := by omega
  have HLN := Lib.hid hLN
  clear hLN
  go_enter Tryz.func35, Tryz.ntmps35
  go_upto_region 2 with (fail)
  rw [← hwA, ← hB]
  clear hwA hB t0 t1 t2 t3 t4 t5
  go_wp2_with fail
  refine (AR.out _).mono ?_
  rintro e w2 ⟨rfl, hww⟩
  subst hww
  clear AR d0
  go_wp2_with fail
  (with_reducible refine (HL.out wA UA.out).mono ?_)
  rintro e w2 ⟨rfl, hww⟩
  subst hww
  clear HL
  go_wp2_with fail
  (with_reducible refine (SA.out wA UA.out).mono ?_)
  rintro e w3 h3
  obtain ⟨a3, c3, o3, rfl, hn3, hl3, hx3, hu3⟩ := h3.form
  have HU3 := Lib.hid (UA.out.trans hu3)
  have HV3 := Lib.hid hu3
  have HN3 := Lib.hid hn3
  clear h3 SA hu3 hn3
  obtain ⟨q1, hq1⟩ : ∃ q1, (bldF f u).isSome = q1 := ⟨_, rfl⟩
  rw [hq1]
  go_wp2_with fail
  (with_reducible refine (SC.out w3 HU3.out).mono ?_)
  rintro e w4 h4
  obtain ⟨a4, c4, o4, rfl, hn4, hl4, hx4, hu4⟩ := h4.form
  have HU4 := Lib.hid (HU3.out.trans hu4)
  have HV4 := Lib.hid (HV3.out.trans hu4)
  obtain ⟨q2, hq2⟩ : ∃ q2, (bldF g u).isSome = q2 := ⟨_, rfl⟩
  rw [hq2]
  obtain ⟨f3, p3, -, r3⟩ := HN3.out
  obtain ⟨f4, p4, -, r4⟩ := hn4
  have p3' := R_F1k.upd p3 hu4 (by simp)
  have HLT3 := Lib.hid (R_F1k.lt p3')
  have HLT4 := Lib.hid (R_F1k.lt p4)
  have HF3 := Lib.hid (fun S W (hu : Upd S w4 W) (hS : ∀ b ∈ S, w4.heap.size ≤ b) => Flat.ofF1 (R_F1k.upd p3' hu (fun b hb e => by have := HLT3.out b hb; have := hS b e; omega)))
  have HF4 := Lib.hid (fun S W (hu : Upd S w4 W) (hS : ∀ b ∈ S, w4.heap.size ≤ b) => Flat.ofF1 (R_F1k.upd p4 hu (fun b hb e => by have := HLT4.out b hb; have := hS b e; omega)))
  have HX2 := Lib.hid (show (q1 && q2 && decide (1 + o3.length + o4.length ≤ 30)) = M.isSome ∧ ∀ z, M = some z → ndK k :: (o3 ++ o4) = z from by
    rw [HX.out]
    cases hz1 : bldF f u with
    | none => rw [hz1] at hq1; subst hq1; exact ⟨rfl, fun z hz => by cases hz⟩
    | some z1 =>
      rw [hz1] at hq1
      subst hq1
      obtain rfl := hx3 z1 hz1
      cases hz2 : bldF g u with
      | none => rw [hz2] at hq2; subst hq2; exact ⟨rfl, fun z hz => by cases hz⟩
      | some z2 =>
        rw [hz2] at hq2
        subst hq2
        obtain rfl := hx4 z2 hz2
        by_cases h : 1 + o3.length + o4.length ≤ 30
        · simp only [if_pos h]; exact ⟨by simp [h], fun z hz => by cases hz; rfl⟩
        · simp only [if_neg h]; exact ⟨by simp [h], fun z hz => by cases hz⟩)
  have r5 := RA.out.upd HV4.out (by simp)
  have e0 := r5.cell 0 _ rfl
  have e1 := r5.cell 1 _ rfl
  have e2 := r5.cell 2 _ rfl
  have e3 := r5.cell 3 _ rfl
  have HOW := Lib.hid (row_node w4 w4 (Nat.le_refl _) k 0 [] false)
  have HF5 := Lib.hid (HF3.out [] (w4.alloc (.cells #[ei k, ei 0, es [], .bool false] 58)) ((Upd.refl _ _).alloc _) (by simp))
  clear h4 SC hu4 p3 p4 p3' r3 r4 HN3 HV3 HX hx3 hx4 hq1 hq2 r5 RA HLT3 HLT4 HF3
  go_wp2_with (first
    | (at_builtin; refine wpList_append_flat rfl _ _ 28 rfl w4.heap.size 58 i0 (.agg #[.int .i64 0, .int .i64 0, .string ⟨#[]⟩, .bool false]) 4 40 Tryz.underlying28 hi hz0 hz1 hz2 rfl (by decide) _ _ _ rfl HOW.out _ o3.length _ rfl _ HF5.out (one_F1 o3) (by unfold maxLen; omega) (by omega) (by simp) ?_)
    | fail)
  intro v6 w6 hown6 hg6 ht6
  obtain ⟨a6, c6, rfl⟩ := ownsRow_form hown6
  have hv46 : Upd [] w4 w6 := ((Upd.refl _ _).alloc _).grown hg6 (fun k hk => Or.inl (HOW.out.lt k hk).1)
  have HV46 := Lib.hid hv46
  have HO6 := Lib.hid hown6
  have HF6 := Lib.hid (HF4.out [] w6 hv46 (by simp))
  have hb6 : w4.heap.size ≤ w6.heap.size := hv46.size
  clear hown6 hg6 ht6 hv46 HOW HF5 HF4 e0 e1 e2 e3
  generalize hl6 : 1 + o3.length = l6 at *
  go_wp2_with (first
    | (at_builtin; refine wpList_append_flat rfl _ _ 28 rfl w4.heap.size 58 i0 (.agg #[.int .i64 0, .int .i64 0, .string ⟨#[]⟩, .bool false]) 4 40 Tryz.underlying28 hi hz0 hz1 hz2 rfl (by decide) _ _ _ rfl HO6.out _ o4.length _ rfl _ HF6.out (one_F1 o4) (by unfold maxLen; omega) (by omega) hb6 ?_)
    | fail)
  intro v7 w7 hown7 hg7 ht7
  obtain ⟨a7, c7, rfl⟩ := ownsRow_form hown7
  have hv47 : Upd [] w4 w7 := HV46.out.grown hg7 (fun k hk => Or.inl (HO6.out.lt k hk).1)
  have HV7 := Lib.hid (HU4.out.trans hv47)
  have HN7 := Lib.hid (show New R_F1 w w7 (.slice a7 (l6 + o4.length) c7) (ndK k :: (o3 ++ o4)) from New.mono (w := w4) (New.ofF1 (by
    have hl : (ndK k :: (o3 ++ o4)).length = l6 + o4.length := by simp; omega
    rw [hl, List.flatMap_cons, List.flatMap_append, ← List.append_assoc]
    exact hown7)) HU4.out.size)
  have hle : (ndK k :: (o3 ++ o4)).length ≤ 200 * LN := by have := HLN.out; simp; omega
  clear hown7 hg7 ht7 HO6 HF6 hb6 hv47
  generalize hl7 : l6 + o4.length = l7 at *
  cases q1 with
  | false =>
    go_wp2_with fail
    go_ret2
    exact BdS.mk false (by rw [← HX2.out.1]; rfl) HN7.out hle HX2.out.2 HV7.out
  | true =>
    cases q2 with
    | false =>
      go_wp2_with fail
      go_ret2
      exact BdS.mk false (by rw [← HX2.out.1]; rfl) HN7.out hle HX2.out.2 HV7.out
    | true =>
      by_cases h30 : l7 ≤ 30
      · have h30i : (l7 : Int) ≤ 30 := by omega
        go_wp2_with fail
        go_ret2
        exact BdS.mk true (by rw [← HX2.out.1]; simp [hl7, h30]) HN7.out hle HX2.out.2 HV7.out
      · have h30i : ¬ (l7 : Int) ≤ 30 := by omega
        go_wp2_with fail
        go_ret2
        exact BdS.mk false (by rw [← HX2.out.1]; simp [hl7]; omega) HN7.out hle HX2.out.2 HV7.out

end Go.Proofs.YtaahjpmndkcijaaGreatDoor

/-
  Formulas parsed: the reference replaces a regular modality by a formula: one after the other, and either.
-/
namespace Go.Proofs.YtaahjpmndkcijaaGreatDoor
open Go.RowKit

def ModC (N : Nat) : Prop := ∀ (r : Tr Rg) (w : World) (vr vf vb : Value) (fr ff fb : List Nat) (box : Bool) (used : List Int) (f : List Nd), (flatT r).length ≤ N → TOk r → f.length ≤ 30 → (flatT r).length ≤ 20 → used.length + (flatT r).length ≤ 1000 → (∀ x ∈ used, 0 ≤ x ∧ x < 3) →
  R_G1 fr w [vr] (flatT r) → R_F1 ff w [vf] f → R_I1 fb w [vb] used → Calls Tryz.prog 46 #[vr, .bool box, vf, vb] w (MdS w (mdF box r used f))
theorem mdF_le {box : Bool} {r : Tr Rg} {used : List Int} {f o : List Nd} (h : mdF box r used f = some o) : o.length ≤ 30 := by
  rw [md_of box _ r used f (Nat.le_refl _)] at h
  cases hq : ofF box r used f with
  | none => rw [hq] at h; cases h
  | some x =>
    rw [hq, fitF_some] at h
    split at h
    · cases h; assumption
    · cases h
theorem MdS.form {w w' : World} {M : Option (List Nd)} {e : Ending} (h : MdS w M e w') : ∃ (a : Option Addr) (c : Nat) (o : List Nd), e = .returned (.tuple #[.slice a o.length c, .bool M.isSome]) ∧ New R_F1 w w' (.slice a o.length c) o ∧ o.length ≤ 100 ∧ (∀ x, M = some x → o = x) ∧ Upd [] w w' := by
  obtain ⟨⟨v, o, rfl, h1, h2, h3⟩, h4⟩ := h
  obtain ⟨fp, ⟨v', hv, a, c, rfl, g⟩, q⟩ := h1
  cases hv
  exact ⟨a, c, o, rfl, ⟨fp, ⟨_, rfl, a, c, rfl, g⟩, q⟩, h2, h3, h4⟩
/-- the two parts of an expression of two parts, as slices of its elements. -/
theorem two_sub {w : World} {fr : List Nat} {b off cap : Nat} {n : Rg} {x y : Tr Rg} (hR : R_G1 fr w [.slice (some ⟨b, off, none⟩) (flatT (Tr.mk n [x, y])).length cap] (flatT (Tr.mk n [x, y]))) :
    (∃ f1, R_G1 f1 w [.slice (some ⟨b, off + 3, none⟩) (flatT x).length (cap - 1)] (flatT x)) ∧ ∃ f2, R_G1 f2 w [.slice (some ⟨b, off + (1 + (flatT x).length) * 3, none⟩) ((flatT (Tr.mk n [x, y])).length - (1 + (flatT x).length)) (cap - (1 + (flatT x).length))] (flatT y) := by
  have hl : (flatT (Tr.mk n [x, y])).length = 1 + (flatT x).length + (flatT y).length := by simp [flatT, flatTs]; omega
  obtain ⟨f1, h1, -⟩ := slF_sub (n := 3) (by intro x; rfl) hR 1 (1 + (flatT x).length) (by omega) (by omega)
  obtain ⟨f2, h2, -⟩ := slF_sub (n := 3) (by intro x; rfl) hR (1 + (flatT x).length) (flatT (Tr.mk n [x, y])).length (by omega) (Nat.le_refl _)
  have e1 : ((flatT (Tr.mk n [x, y])).take (1 + (flatT x).length)).drop 1 = flatT x := by rw [Nat.add_comm]; simp [flatT, flatTs]
  have e2 : ((flatT (Tr.mk n [x, y])).take (flatT (Tr.mk n [x, y])).length).drop (1 + (flatT x).length) = flatT y := by rw [List.take_length, Nat.add_comm]; simp [flatT, flatTs]
  rw [e1, Nat.add_sub_cancel_left] at h1
  rw [e2] at h2
  exact ⟨⟨f1, h1⟩, ⟨f2, h2⟩⟩

set_option maxRecDepth 20000 in
set_option maxHeartbeats 8000000 in
theorem modThenS (N : Nat) (hI : ModC N) (x y : Tr Rg) (lb : List UInt8) (nt : Bool) (w : World) (vr vf vb : Value) (fr ff fb : List Nat) (box : Bool) (used : List Int) (f : List Nd) (hN : (flatT (Tr.mk (⟨1, lb, nt⟩ : Rg) [x, y])).length ≤ N + 1) (hx : TOk x) (hy : TOk y) (hf : f.length ≤ 30)
    (h20 : (flatT (Tr.mk (⟨1, lb, nt⟩ : Rg) [x, y])).length ≤ 20) (hus : used.length + (flatT (Tr.mk (⟨1, lb, nt⟩ : Rg) [x, y])).length ≤ 1000) (hux : ∀ x ∈ used, 0 ≤ x ∧ x < 3)
    (hR : R_G1 fr w [vr] (flatT (.mk ⟨1, lb, nt⟩ [x, y]))) (hF : R_F1 ff w [vf] f) (hB : R_I1 fb w [vb] used) :
    Calls Tryz.prog 46 #[vr, .bool box, vf, vb] w (MdS w (mdF box (.mk ⟨1, lb, nt⟩ [x, y]) used f)) := by
  have hLN : (flatT (Tr.mk (⟨1, lb, nt⟩ : Rg) [x, y])).length = 1 + (flatT x).length + (flatT y).length := by simp [flatT, flatTs]; omega
  obtain ⟨a, cap, rfl, g1, g2, hc⟩ := slF3_open hR
  obtain ⟨b, off, rfl, -, -, t0, -⟩ := hc 0 (by simp [flatT])
  simp only [flatT, List.getElem_cons_zero, Nat.zero_mul, Nat.add_zero] at t0
  have hEnd := Lib.hid (fun W (hu : Upd [] w W) => show Calls Tryz.prog 53 #[_, .int .i64 1] W (fun e w' => e = .returned (.int .i64 (1 + ((flatT x).length : Int))) ∧ W = w') from by
    have h := endGS _ _ 1 W fr x (flatT y) (R_G1k.upd hR hu (by simp)) (by omega) (by simp [flatT, flatTs]) hx
    rw [Int.natCast_add] at h
    exact h)
  obtain ⟨⟨f1, hs1⟩, f2, hs2⟩ := two_sub hR
  have HX := Lib.hid (show mdF box (.mk ⟨1, lb, nt⟩ [x, y]) used f = (match mdF box y used f with | none => none | some g => mdF box x used g) from by rw [mdF.eq_def]; rfl)
  generalize mdF box (.mk ⟨1, lb, nt⟩ [x, y]) used f = M at *
  have SY := Lib.hid (fun W (hu : Upd [] w W) => hI y W _ vf vb f2 ff fb box used f (by omega) hy hf (by omega) (by omega) hux (R_G1k.upd hs2 hu (by simp)) (R_F1k.upd hF hu (by simp)) (R_I1k.upd hB hu (by simp)))
  have SX := Lib.hid (fun W (hu : Upd [] w W) vg fg g (hg : g.length ≤ 30) (hG : R_F1 fg W [vg] g) => hI x W _ vg vb f1 fg fb box used g (by omega) hx hg (by omega) (by omega) hux (R_G1k.upd hs1 hu (by simp)) hG (R_I1k.upd hB hu (by simp)))
  have hpx := flatT_pos x
  have hpy := flatT_pos y
  unfold maxLen at g2
  clear hc hR hF hB hs1 hs2 hI hux
  generalize (flatT (Tr.mk (⟨1, lb, nt⟩ : Rg) [x, y])).length = LN at *
  generalize hLX : (flatT x).length = LX at *
  have s1 : (1 : Int) ≤ 1 + (LX : Int) := by omega
  have s2 : 1 + (LX : Int) ≤ (cap : Int) := by omega
  have s3 : (0 : Int) ≤ 1 + (LX : Int) := by omega
  have s4 : 1 + (LX : Int) ≤ (LN : Int) := by omega
  have s5 : (1 + (LX : Int)).toNat = 1 + LX := by omega
  have s6 : ¬ (cap = 1 + LX) := by omega
  have hcl : 1 + LX < cap := by omega
  have HLN := Lib.hid hLN
  clear hLN
  obtain ⟨wA, hwA⟩ : ∃ wA, wA = w.alloc (.cells #[] 58) := ⟨_, rfl⟩
  have uA : Upd [] w wA := by rw [hwA]; exact (Upd.refl _ _).alloc _
  have UA := Lib.hid uA
  obtain ⟨B, hB⟩ : ∃ B, B = w.heap.size := ⟨_, rfl⟩
  go_enter Tryz.func46, Tryz.ntmps46
  go_upto_if 25 with (fail)
  go_cut [10, 11, 12] (fun s10 s11 s12 wx => s10 = .int .i64 (kdB box 4 5) ∧ s11 = .int .i64 (kdB box 3 2) ∧ s12 = .int .i64 (kdB box 7 8) ∧ wx = w)
  case first =>
    cases box
    all_goals
      go_wp2_with fail
      go_meet
      exact ⟨rfl, rfl, rfl, rfl⟩
  case rest =>
    obtain ⟨rfl, rfl, rfl, hww⟩ := hcut
    replace hww := hww.symm
    subst hww
    go_upto_region 9 with (fail)
    rw [← hwA, ← hB]
    have y0 := uA.keep t0
    clear hwA hB uA
    go_wp2_with fail
    (with_reducible refine (hEnd.out wA UA.out).mono ?_)
    rintro e w2 ⟨rfl, hww⟩
    subst hww
    clear hEnd y0
    go_wp2_with fail
    (with_reducible refine (SY.out wA UA.out).mono ?_)
    rintro e w3 h3
    obtain ⟨a3, c3, o3, rfl, hn3, hl3, hx3, hu3⟩ := h3.form
    clear h3
    have HU3 := Lib.hid (UA.out.trans hu3)
    have HN3 := Lib.hid hn3
    clear SY hu3 hn3
    cases hq : mdF box y used f with
    | none =>
      have HM := Lib.hid (show M = none from by rw [HX.out, hq])
      clear HX hq SX hx3
      go_wp2_with fail
      go_ret2
      exact MdS.mk false (by rw [HM.out]; rfl) (New.nilF 4 _ _ _) (by simp) (fun x hx => by rw [HM.out] at hx; cases hx) HU3.out
    | some g =>
      obtain rfl := hx3 g hq
      have HM := Lib.hid (show M = mdF box x used o3 from by rw [HX.out, hq])
      have hg30 := mdF_le hq
      obtain ⟨f3, q3, -⟩ := HN3.out
      have HS := Lib.hid (SX.out w3 HU3.out _ f3 o3 hg30 q3)
      clear HX hq SX hx3 q3
      generalize o3.length = l3 at *
      go_wp2_with fail
      (with_reducible refine HS.out.mono ?_)
      rintro e w4 h4
      obtain ⟨a4, c4, o4, rfl, hn4, hl4, hx4, hu4⟩ := h4.form
      have HU4 := Lib.hid (HU3.out.trans hu4)
      have HN4 := Lib.hid (hn4.mono HU3.out.size)
      have HX4 := Lib.hid hx4
      clear h4 hn4 hu4 hx4 HS
      go_wp2_with fail
      go_ret2
      exact MdS.mk _ (by rw [HM.out]) HN4.out hl4 (fun z hz => HX4.out z (by rw [← HM.out]; exact hz)) HU4.out

set_option maxRecDepth 20000 in
set_option maxHeartbeats 8000000 in
theorem modEitherS (N : Nat) (hI : ModC N) (x y : Tr Rg) (lb : List UInt8) (nt : Bool) (w : World) (vr vf vb : Value) (fr ff fb : List Nat) (box : Bool) (used : List Int) (f : List Nd) (hN : (flatT (Tr.mk (⟨2, lb, nt⟩ : Rg) [x, y])).length ≤ N + 1) (hx : TOk x) (hy : TOk y) (hf : f.length ≤ 30)
    (h20 : (flatT (Tr.mk (⟨2, lb, nt⟩ : Rg) [x, y])).length ≤ 20) (hus : used.length + (flatT (Tr.mk (⟨2, lb, nt⟩ : Rg) [x, y])).length ≤ 1000) (hux : ∀ x ∈ used, 0 ≤ x ∧ x < 3)
    (hR : R_G1 fr w [vr] (flatT (.mk ⟨2, lb, nt⟩ [x, y]))) (hF : R_F1 ff w [vf] f) (hB : R_I1 fb w [vb] used) :
    Calls Tryz.prog 46 #[vr, .bool box, vf, vb] w (MdS w (mdF box (.mk ⟨2, lb, nt⟩ [x, y]) used f)) := by
  obtain ⟨i0, hi, hz0, hz1, hz2⟩ := info_parts Tryz.infoNd
  have hLN : (flatT (Tr.mk (⟨2, lb, nt⟩ : Rg) [x, y])).length = 1 + (flatT x).length + (flatT y).length := by simp [flatT, flatTs]; omega
  obtain ⟨a, cap, rfl, g1, g2, hc⟩ := slF3_open hR
  obtain ⟨b, off, rfl, -, -, t0, -⟩ := hc 0 (by simp [flatT])
  simp only [flatT, List.getElem_cons_zero, Nat.zero_mul, Nat.add_zero] at t0
  have hEnd := Lib.hid (fun W (hu : Upd [] w W) => show Calls Tryz.prog 53 #[_, .int .i64 1] W (fun e w' => e = .returned (.int .i64 (1 + ((flatT x).length : Int))) ∧ W = w') from by
    have h := endGS _ _ 1 W fr x (flatT y) (R_G1k.upd hR hu (by simp)) (by omega) (by simp [flatT, flatTs]) hx
    rw [Int.natCast_add] at h
    exact h)
  obtain ⟨⟨f1, hs1⟩, f2, hs2⟩ := two_sub hR
  obtain ⟨d, hd⟩ : ∃ d, kdB box 3 2 = d := ⟨_, rfl⟩
  have HX := Lib.hid (show mdF box (.mk ⟨2, lb, nt⟩ [x, y]) used f = (match mdF box x used f with | none => none | some p => match mdF box y used f with | none => none | some q => if 1 + p.length + q.length ≤ 30 then some (ndK d :: (p ++ q)) else none) from by rw [mdF.eq_def, ← hd]; rfl)
  generalize mdF box (.mk ⟨2, lb, nt⟩ [x, y]) used f = M at *
  have SY := Lib.hid (fun W (hu : Upd [] w W) => hI y W _ vf vb f2 ff fb box used f (by omega) hy hf (by omega) (by omega) hux (R_G1k.upd hs2 hu (by simp)) (R_F1k.upd hF hu (by simp)) (R_I1k.upd hB hu (by simp)))
  have SX := Lib.hid (fun W (hu : Upd [] w W) => hI x W _ vf vb f1 ff fb box used f (by omega) hx hf (by omega) (by omega) hux (R_G1k.upd hs1 hu (by simp)) (R_F1k.upd hF hu (by simp)) (R_I1k.upd hB hu (by simp)))
  have hpx := flatT_pos x
  have hpy := flatT_pos y
  unfold maxLen at g2
  have HD := Lib.hid hd
  clear hc hR hF hB hs1 hs2 hI hux hd
  generalize (flatT (Tr.mk (⟨2, lb, nt⟩ : Rg) [x, y])).length = LN at *
  generalize hLX : (flatT x).length = LX at *
  have s1 : (1 : Int) ≤ 1 + (LX : Int) := by omega
  have s2 : 1 + (LX : Int) ≤ (cap : Int) := by omega
  have s3 : (0 : Int) ≤ 1 + (LX : Int) := by omega
  have s4 : 1 + (LX : Int) ≤ (LN : Int) := by omega
  have s5 : (1 + (LX : Int)).toNat = 1 + LX := by omega
  have s6 : ¬ (cap = 1 + LX) := by omega
  have hcl : 1 + LX < cap := by omega
  have HLN := Lib.hid hLN
  clear hLN
  obtain ⟨wA, hwA⟩ : ∃ wA, wA = w.alloc (.cells #[] 58) := ⟨_, rfl⟩
  have uA : Upd [] w wA := by rw [hwA]; exact (Upd.refl _ _).alloc _
  have UA := Lib.hid uA
  obtain ⟨B, hB⟩ : ∃ B, B = w.heap.size := ⟨_, rfl⟩
  have HOA := Lib.hid (show wA.ownsRow B 58 4 (.slice (some ⟨B, 0, none⟩) 0 0) 0 [] from by rw [hwA, hB]; exact row_empty w)
  have HB := Lib.hid hB
  have HSA := Lib.hid (show B < wA.heap.size from by rw [hwA, hB]; simp)
  go_enter Tryz.func46, Tryz.ntmps46
  go_upto_if 25 with (fail)
  go_cut [10, 11, 12] (fun s10 s11 s12 wx => s10 = .int .i64 (kdB box 4 5) ∧ s11 = .int .i64 (kdB box 3 2) ∧ s12 = .int .i64 (kdB box 7 8) ∧ wx = w)
  case first =>
    cases box
    all_goals
      go_wp2_with fail
      go_meet
      exact ⟨rfl, rfl, rfl, rfl⟩
  case rest =>
    obtain ⟨rfl, rfl, rfl, hww⟩ := hcut
    replace hww := hww.symm
    subst hww
    rw [HD.out]
    go_upto_region 9 with (fail)
    rw [← hwA, ← hB]
    have y0 := uA.keep t0
    clear hwA hB uA
    go_wp2_with fail
    (with_reducible refine (hEnd.out wA UA.out).mono ?_)
    rintro e w2 ⟨rfl, hww⟩
    subst hww
    clear hEnd y0
    go_wp2_with fail
    (with_reducible refine (SX.out wA UA.out).mono ?_)
    rintro e w3 h3
    obtain ⟨a3, c3, o3, rfl, hn3, hl3, hx3, hu3⟩ := h3.form
    clear h3
    have HU3 := Lib.hid (UA.out.trans hu3)
    have HV3 := Lib.hid hu3
    have HN3 := Lib.hid hn3
    clear SX hu3 hn3
    obtain ⟨q1, hq1⟩ : ∃ q1, (mdF box x used f).isSome = q1 := ⟨_, rfl⟩
    rw [hq1]
    go_wp2_with fail
    (with_reducible refine (SY.out w3 HU3.out).mono ?_)
    rintro e w4 h4
    obtain ⟨a4, c4, o4, rfl, hn4, hl4, hx4, hu4⟩ := h4.form
    clear h4
    have HU4 := Lib.hid (HU3.out.trans hu4)
    have HV4 := Lib.hid (HV3.out.trans hu4)
    have HN4 := Lib.hid hn4
    obtain ⟨f3, q3, -, r3⟩ := HN3.out
    obtain ⟨f4, q4, -, r4⟩ := hn4
    have HF3 := Lib.hid (fun W (hu : Upd [B] w4 W) => Flat.ofF1 (R_F1k.upd (R_F1k.upd q3 hu4 (by simp)) hu (fun b hb e => by have := r3 b hb; have := HSA.out; simp at e; omega)))
    have HF4 := Lib.hid (fun W (hu : Upd [B] w4 W) => Flat.ofF1 (R_F1k.upd q4 hu (fun b hb e => by have := r4 b hb; have := HV3.out.size; have := HSA.out; simp at e; omega)))
    clear SY hu4 q3 q4 r3 r4 HN3 HN4 HV3
    obtain ⟨q2, hq2⟩ : ∃ q2, (mdF box y used f).isSome = q2 := ⟨_, rfl⟩
    rw [hq2]
    cases q1 with
    | false =>
      have HM := Lib.hid (show M = none from by rw [HX.out]; cases hz : mdF box x used f with | none => rfl | some z => rw [hz] at hq1; cases hq1)
      clear HX hx3 hx4 hq1 hq2
      go_wp2_with fail
      go_ret2
      exact MdS.mk false (by rw [HM.out]; rfl) (New.nilF 4 _ _ _) (by simp) (fun x hx => by rw [HM.out] at hx; cases hx) HU4.out
    | true =>
      cases hz1 : mdF box x used f with
      | none => rw [hz1] at hq1; cases hq1
      | some z1 =>
      obtain rfl := hx3 z1 hz1
      have hg1 := mdF_le hz1
      cases q2 with
      | false =>
        have HM := Lib.hid (show M = none from by rw [HX.out, hz1]; cases hz : mdF box y used f with | none => rfl | some z => rw [hz] at hq2; cases hq2)
        clear HX hx3 hx4 hq1 hq2 hz1
        go_wp2_with fail
        go_ret2
        exact MdS.mk false (by rw [HM.out]; rfl) (New.nilF 4 _ _ _) (by simp) (fun x hx => by rw [HM.out] at hx; cases hx) HU4.out
      | true =>
        cases hz2 : mdF box y used f with
        | none => rw [hz2] at hq2; cases hq2
        | some z2 =>
        obtain rfl := hx4 z2 hz2
        have hg2 := mdF_le hz2
        have HM := Lib.hid (show M = (if 1 + o3.length + o4.length ≤ 30 then some (ndK d :: (o3 ++ o4)) else none) from by rw [HX.out, hz1, hz2])
        have hlit : (w4.alloc (.cells #[.int .i64 d, .int .i64 0, .string ⟨#[]⟩, .bool false] 58)).ownsRow w4.heap.size 58 4 (.slice (some ⟨w4.heap.size, 0, none⟩) 1 1) 1 [.int .i64 d, .int .i64 0, .string ⟨#[]⟩, .bool false] :=
          World.ownsRow_lit (base := w4.heap.size) (e := 58) (size := 4) w4 #[.int .i64 d, .int .i64 0, .string ⟨#[]⟩, .bool false] 1 (Nat.le_refl _) (by simp [maxLen]) (by simp)
        obtain ⟨fv, hfv, -⟩ := Flat.ofOwns hlit
        have HFV := Lib.hid hfv
        have hal := (Upd.refl [] w4).alloc (.cells #[.int .i64 d, .int .i64 0, .string ⟨#[]⟩, .bool false] 58)
        have HOW := Lib.hid (ownsRow_upd HOA.out (HV4.out.trans hal))
        have hb4 : B ≤ (w4.alloc (.cells #[.int .i64 d, .int .i64 0, .string ⟨#[]⟩, .bool false] 58)).heap.size := by rw [HB.out]; exact (HU4.out.trans hal).size
        clear HX hx3 hx4 hq1 hq2 hz1 hz2 hlit hfv hal HOA
        go_wp2_with (first
          | (at_builtin; refine wpList_append_flat rfl _ _ 28 rfl B 58 i0 (.agg #[.int .i64 0, .int .i64 0, .string ⟨#[]⟩, .bool false]) 4 40 Tryz.underlying28 hi hz0 hz1 hz2 rfl (by decide) _ _ _ rfl HOW.out _ 1 _ rfl _ HFV.out (fun u hu => by simp at hu; rcases hu with rfl | rfl | rfl | rfl <;> rfl) (by unfold maxLen; omega) (by omega) hb4 ?_)
          | fail)
        intro v5 w5 hown5 hg5 ht5
        obtain ⟨a5, c5, rfl⟩ := ownsRow_form hown5
        have hv5 : Upd [] w w5 := (HU4.out.alloc _).grown hg5 (fun k hk => Or.inl (by have := (HOW.out.lt k hk).1; have := HB.out; omega))
        have HO5 := Lib.hid (show w5.ownsRow B 58 4 (.slice a5 1 c5) 1 [.int .i64 d, .int .i64 0, .string ⟨#[]⟩, .bool false] from by simpa using hown5)
        have hw45 : Upd [B] w4 w5 := ((Upd.refl _ w4).alloc _).grown hg5 (fun k hk => Or.inr (by simp [Value.ownBlock] at hk; simp [hk]))
        have HW45 := Lib.hid hw45
        have HV5 := Lib.hid hv5
        have HOB5 := Lib.hid (show ∀ g, (Value.slice a5 1 c5).ownBlock = some g → g = B ∨ w4.heap.size ≤ g from fun g hg => by
          rcases ht5 g hg with h | h
          · left; simp [Value.ownBlock] at h; exact h.symm
          · right; have h9 : w4.heap.size + 1 ≤ g := h; omega)
        have HF5 := Lib.hid (HF3.out w5 hw45)
        have hb5 : B ≤ w5.heap.size := by rw [HB.out]; exact hv5.size
        clear hown5 hg5 ht5 hv5 hw45 HOW HFV hb4 HF3
        go_wp2_with (first
          | (at_builtin; refine wpList_append_flat rfl _ _ 28 rfl B 58 i0 (.agg #[.int .i64 0, .int .i64 0, .string ⟨#[]⟩, .bool false]) 4 40 Tryz.underlying28 hi hz0 hz1 hz2 rfl (by decide) _ _ _ rfl HO5.out _ o3.length _ rfl _ HF5.out (one_F1 o3) (by unfold maxLen; omega) (by omega) hb5 ?_)
          | fail)
        intro v6 w6 hown6 hg6 ht6
        obtain ⟨a6, c6, rfl⟩ := ownsRow_form hown6
        have hv6 : Upd [] w w6 := HV5.out.grown hg6 (fun k hk => Or.inl (by have := (HO5.out.lt k hk).1; have := HB.out; omega))
        have hu6 : Upd (Value.slice a5 1 c5).ownBlock.toList w5 w6 := (Upd.refl _ w5).grown hg6 (fun k hk => Or.inr (by rw [hk]; simp))
        have hw46 : Upd [B] w4 w6 := HW45.out.fresh hu6 (fun b hb => by
          rcases HOB5.out b (by simpa using hb) with h | h
          · exact Or.inr (by simp [h])
          · exact Or.inl h)
        have HO6 := Lib.hid hown6
        have HV6 := Lib.hid hv6
        have HF6 := Lib.hid (HF4.out w6 hw46)
        have hb6 : B ≤ w6.heap.size := by rw [HB.out]; exact hv6.size
        clear hown6 hg6 ht6 hv6 hu6 hw46 HO5 HF5 hb5 HF4 HOB5 HW45
        generalize hl6 : 1 + o3.length = l6 at *
        go_wp2_with (first
          | (at_builtin; refine wpList_append_flat rfl _ _ 28 rfl B 58 i0 (.agg #[.int .i64 0, .int .i64 0, .string ⟨#[]⟩, .bool false]) 4 40 Tryz.underlying28 hi hz0 hz1 hz2 rfl (by decide) _ _ _ rfl HO6.out _ o4.length _ rfl _ HF6.out (one_F1 o4) (by unfold maxLen; omega) (by omega) hb6 ?_)
          | fail)
        intro v7 w7 hown7 hg7 ht7
        obtain ⟨a7, c7, rfl⟩ := ownsRow_form hown7
        have HV7 := Lib.hid (show Upd [] w w7 from HV6.out.grown hg7 (fun k hk => Or.inl (by have := (HO6.out.lt k hk).1; have := HB.out; omega)))
        have HN7 := Lib.hid (show New R_F1 w w7 (.slice a7 (l6 + o4.length) c7) (ndK d :: (o3 ++ o4)) from New.ofF1 (by
          rw [← HB.out]
          have hl : (ndK d :: (o3 ++ o4)).length = l6 + o4.length := by simp; omega
          rw [hl, List.flatMap_cons, List.flatMap_append, ← List.append_assoc]
          exact hown7))
        clear hown7 hg7 ht7 HO6 HF6 hb6
        generalize hl7 : l6 + o4.length = l7 at *
        by_cases h30 : l7 ≤ 30
        · have h30i : (l7 : Int) ≤ 30 := by omega
          go_wp2_with fail
          go_ret2
          exact MdS.mk true (by rw [HM.out, if_pos (by omega)]; rfl) HN7.out (by simp; omega) (fun x hx => by rw [HM.out, if_pos (by omega)] at hx; cases hx; rfl) HV7.out
        · have h30i : ¬ (l7 : Int) ≤ 30 := by omega
          go_wp2_with fail
          go_ret2
          exact MdS.mk false (by rw [HM.out, if_neg (by omega)]; rfl) HN7.out (by simp; omega) (fun x hx => by rw [HM.out, if_neg (by omega)] at hx; cases hx) HV7.out

end Go.Proofs.YtaahjpmndkcijaaGreatDoor
