/-
  A linear process whose expressions are replaced: what the program's call returns and makes.
-/
import Derived.Test.YtnfghgaadnobbaaLinE
import Derived.Test.YtnfghgaadnobbaaLinQ
namespace Go.Proofs.Ytnfghgaadnobbaa
open Go.RowKit

def mapSm (F : Sm → List Tm → List Tm) (s : Sm) : Sm := ⟨s.sums, F s s.guard, s.name, s.args.map (F s), s.next.map (F s)⟩
def mapLn (F : Sm → List Tm → List Tm) (x : Ln) : Ln := ⟨x.pars, x.start, x.sms.map (mapSm F)⟩
def MidC (wA wx : World) (p : Value) (x : Ln) : Prop := ∃ (Z : Nat) (a0 : Option Addr) (c0 : Nat) (g0 : List Nat), p = .pointer (some ⟨Z, 0, none⟩) ∧ wA.heap.size ≤ Z ∧ RowAt wx Z 29 [ei x.pars, .slice a0 x.start.length c0, .slice none 0 0] ∧ Upd [] wA wx ∧
  R_I1 g0 wx [.slice a0 x.start.length c0] x.start ∧ Own g0 wx ∧ ∀ b ∈ g0, wA.heap.size ≤ b ∧ b ≠ Z ∧ b < wx.heap.size
theorem midC_mk {wA V w1 wx : World} {x : Ln} {Z : Nat} {a0 : Option Addr} {c0 : Nat} (hn : New R_I1 V w1 (.slice a0 x.start.length c0) x.start) (hV : wA.heap.size ≤ V.heap.size) (hx : Upd [Z] w1 wx) (hZ : wA.heap.size ≤ Z)
    (h1 : Z < V.heap.size ∨ w1.heap.size ≤ Z) (hrow : RowAt wx Z 29 [ei x.pars, .slice a0 x.start.length c0, .slice none 0 0]) (hU : Upd [] wA wx) :
    MidC wA wx (.pointer (some ⟨Z, 0, none⟩)) x := by
  obtain ⟨g0, r0, o0, b0⟩ := hn
  have l0 := R_I1k.lt r0
  have s1 := hx.size
  have d0 : ∀ b ∈ g0, b ∉ [Z] := fun b hb h => by have := b0 b hb; have := l0 b hb; simp at h; omega
  refine ⟨Z, a0, c0, g0, rfl, hZ, hrow, hU, R_I1k.upd r0 hx d0, o0.upd hx d0, fun b hb => ?_⟩
  have := b0 b hb; have := l0 b hb; have := d0 b hb; simp at this; omega
/-- a summand out of four pieces made one behind the other. -/
theorem four_Sm {wo V w1 w2 w3 w4 : World} {s : Sm} {n0 n1 n3 n4 : Value} (h0 : New R_I1 V w1 n0 s.sums) (h1 : New R_T1 w1 w2 n1 s.guard) (h3 : New R_T2 w2 w3 n3 s.args) (h4 : New R_T2 w3 w4 n4 s.next) (hV : wo.heap.size ≤ V.heap.size) (hV1 : V.heap.size ≤ w1.heap.size) (u2 : Upd [] w1 w2) (u3 : Upd [] w2 w3) (u4 : Upd [] w3 w4) :
    NewQ R_Sm wo w4 [n0, n1, es s.name, n3, n4] s := by
  obtain ⟨g0, P0⟩ := Part.of R_I1k h0
  obtain ⟨g1, P1⟩ := Part.of R_T1k h1
  obtain ⟨g3, P3⟩ := Part.of R_T2k h3
  obtain ⟨g4, P4⟩ := Part.of R_T2k h4
  have s2 := u2.size
  have s3 := u3.size
  have s4 := u4.size
  have P0 := P0.upd R_I1k ((u2.trans u3).trans u4) (by simp)
  have P1 := P1.upd R_T1k (u3.trans u4) (by simp)
  have P3 := P3.upd R_T2k u4 (by simp)
  refine ⟨g0 ++ (g1 ++ (g3 ++ g4)), ⟨_, _, _, _, g0, g1, g3, g4, rfl, P0.r, P1.r, P3.r, P4.r, rfl⟩, ?_, fun c hc => ?_⟩
  · refine own_join P0.o (own_join P1.o (own_join P3.o P4.o (fun c h1 h2 => by have := P3.b c h1; have := P4.b c h2; omega)) (fun c h1 h2 => ?_)) (fun c h1 h2 => ?_)
    · have := P1.b c h1
      rcases List.mem_append.1 h2 with h2 | h2
      · have := P3.b c h2; omega
      · have := P4.b c h2; omega
    · have := P0.b c h1
      rcases List.mem_append.1 h2 with h2 | h2
      · have := P1.b c h2; omega
      · rcases List.mem_append.1 h2 with h2 | h2
        · have := P3.b c h2; omega
        · have := P4.b c h2; omega
  · simp only [List.mem_append] at hc
    rcases hc with hc | hc | hc | hc
    · have := P0.b c hc; omega
    · have := P1.b c hc; omega
    · have := P3.b c hc; omega
    · have := P4.b c hc; omega

def GFit (G : Sm → List Tm → Prop) (s : Sm) : Prop := SmFit s ∧ G s s.guard ∧ (∀ e ∈ s.args, G s e) ∧ ∀ e ∈ s.next, G s e

set_option maxRecDepth 20000 in
set_option maxHeartbeats 4000000 in
theorem eachI (cs : List Value) (x : Ln) (w : World) (fp : List Nat) (fn : FuncId) (caps : Array Value) (F : Sm → List Tm → List Tm) (G : Sm → List Tm → Prop) (hR : R_Ln fp w cs x) (hT : ToOk w fn caps F G) (hfit : ∀ s ∈ x.sms, GFit G s) (h0 : x.start.length ≤ 2000000) (h9 : x.sms.length ≤ 1000000) :
    Calls Try.prog 41 #[.agg cs.toArray, .func (.func fn) #[] caps] w fun e w' => (∃ us, e = .returned (.agg us.toArray) ∧ us.length = 3 ∧ us.toArray.all (·.oneCell') = true ∧ NewQ R_Ln w w' us (mapLn F x)) ∧ Upd [] w w' := by
  obtain ⟨i0, hi, hz0, hz1, hz2⟩ := info_parts Try.infoSm
  obtain ⟨v1, v2, f1, f2, rfl, r1, r2, rfl⟩ := hR
  have S0 := Lib.hid (fun W (hu : Upd [] w W) => cloneII v1 x.start W f1 h0 (R_I1k.upd r1 hu (by simp)))
  obtain ⟨a2, cp2, rfl, l2, m2, hc⟩ := slQ_open r2
  unfold maxLen at m2
  have HC := Lib.hid hc
  have HF := Lib.hid hfit
  have HT := Lib.hid hT
  have hent := hT.1
  obtain ⟨B, hB⟩ : ∃ B, B = w.heap.size := ⟨_, rfl⟩
  obtain ⟨wA, hwA⟩ : ∃ wA, wA = ((w.alloc (.cells #[ei x.pars, v1, .slice a2 x.sms.length cp2] 29)).alloc (.cells #[.func (.func fn) #[] caps] 68)).alloc (.cells #[.int .i64 0, .slice none 0 0, .slice none 0 0] 29) := ⟨_, rfl⟩
  have s1 : (w.alloc (.cells #[ei x.pars, v1, .slice a2 x.sms.length cp2] 29)).heap.size = B + 1 := by rw [hB]; simp
  have s2 : ((w.alloc (.cells #[ei x.pars, v1, .slice a2 x.sms.length cp2] 29)).alloc (.cells #[.func (.func fn) #[] caps] 68)).heap.size = B + 2 := by rw [hB]; simp
  have uA : Upd [] w wA := by rw [hwA]; exact (((Upd.refl _ _).alloc _).alloc _).alloc _
  have HA := Lib.hid (show RowAt wA (B + 2) 29 zerosLn from by rw [hwA, ← s2]; exact RowAt.new _ _ _)
  have HT3 := Lib.hid (show RowAt wA (B + 1) 68 [.func (.func fn) #[] caps] from by rw [hwA, ← s1]; exact (RowAt.new _ _ _).upd ((Upd.refl [] _).alloc _) (by simp))
  have HL := Lib.hid (show RowAt wA B 29 [ei x.pars, v1, .slice a2 x.sms.length cp2] from by rw [hwA, hB]; exact (RowAt.new _ _ _).upd (((Upd.refl [] _).alloc _).alloc _) (by simp))
  have hsA : B + 3 ≤ wA.heap.size := by rw [hwA, hB]; simp
  have UA := Lib.hid uA
  have a0 := HL.out.cell 0 _ rfl
  have a1 := HL.out.cell 1 _ rfl
  have a2' := HL.out.cell 2 _ rfl
  clear r1 r2 hc hfit uA s1 s2 hT
  go_enter Try.func41, Try.ntmps41
  go_upto_region 1 with (fail)
  rw [← hwA, ← hB]
  have HBB := Lib.hid hB
  clear hwA hB
  go_cut [5] (fun p wx => MidC wA wx p x)
  case first =>
    go_region_held3 (fun w' => w'.cell? ⟨B, 0, none⟩ = some (ei x.pars) ∧ w'.cell? ⟨B, 1, none⟩ = some v1) (first | go_keep | (go_split_ands; refine ⟨?_, ?_⟩ <;> (rw [World.cell?_setCell_other _ _ _ _ (by intro h; simp only [Addr.mk.injEq] at h; omega), World.cell?_setCell_other _ _ _ _ (by intro h; simp only [Addr.mk.injEq] at h; omega), World.cell?_setCell_other _ _ _ _ (by intro h; simp only [Addr.mk.injEq] at h; omega)]; first | assumption | (exact ((Upd.refl [] _).alloc _).keep (by assumption)) | simp [*])))
      (first
        | (go_at_call 58; (with_reducible refine (S0.out (wA.alloc (.cells #[.int .i64 0, .slice none 0 0, .slice none 0 0] 29)).drew ((UA.out.alloc _).drew)).mono ?_); rintro e w1 ⟨⟨n0, rfl, hn0⟩, hu1⟩; obtain ⟨x0, y0, rfl⟩ := hn0.form; have hw1 : Upd [] wA w1 := (((Upd.refl [] wA).alloc _).drew).trans hu1; have b0 := hw1.keep a0; have b1 := hw1.keep a1; have rz : RowAt w1 wA.heap.size 29 zerosLn := (RowAt.new wA _ zerosLn).upd (((Upd.refl [] _).drew).trans hu1) (by simp); have hszA := hw1.size; have zc0 := rz.cell 0 _ rfl; have zf0 := rz.fz 0; have zc1 := rz.cell 1 _ rfl; have zf1 := rz.fz 1; have zc2 := rz.cell 2 _ rfl; have zf2 := rz.fz 2; skip)
        | (go_at_call 58; (with_reducible refine (S0.out wA.drew UA.out.drew).mono ?_); rintro e w1 ⟨⟨n0, rfl, hn0⟩, hu1⟩; obtain ⟨x0, y0, rfl⟩ := hn0.form; have hw1 : Upd [] wA w1 := ((Upd.refl [] wA).drew).trans hu1; have b0 := hw1.keep a0; have b1 := hw1.keep a1; have hszA := hw1.size; have ry : RowAt (w1.alloc (.cells #[.int .i64 0, .slice none 0 0, .slice none 0 0] 29)) w1.heap.size 29 zerosLn := RowAt.new w1 _ _; have yc0 := ry.cell 0 _ rfl; have yf0 := ry.fz 0; have yc1 := ry.cell 1 _ rfl; have yf1 := ry.fz 1; have yc2 := ry.cell 2 _ rfl; have yf2 := ry.fz 2; skip))
    · go_wp2_with fail
      go_meet
      exact midC_mk (Z := w1.heap.size) hn0 (by simp) ((Upd.refl [w1.heap.size] w1).alloc _) hszA (Or.inr (Nat.le_refl _)) (RowAt.new w1 _ [ei x.pars, .slice x0 x.start.length y0, .slice none 0 0]) (hw1.alloc _)
    · go_wp2_with fail
      go_meet
      exact midC_mk (Z := wA.heap.size) hn0 (by simp) ((((Upd.refl [wA.heap.size] w1).setCell (p := ⟨wA.heap.size, 0, none⟩) (Or.inr (by simp)) (ei x.pars)).setCell (p := ⟨wA.heap.size, 1, none⟩) (Or.inr (by simp)) (.slice x0 x.start.length y0)).setCell (p := ⟨wA.heap.size, 2, none⟩) (Or.inr (by simp)) (.slice none 0 0)) (Nat.le_refl _) (Or.inl (by simp)) (((rz.store 0 (ei x.pars)).store 1 (.slice x0 x.start.length y0)).store 2 (.slice none 0 0)) (hw1.fresh ((((Upd.refl [wA.heap.size] w1).setCell (p := ⟨wA.heap.size, 0, none⟩) (Or.inr (by simp)) (ei x.pars)).setCell (p := ⟨wA.heap.size, 1, none⟩) (Or.inr (by simp)) (.slice x0 x.start.length y0)).setCell (p := ⟨wA.heap.size, 2, none⟩) (Or.inr (by simp)) (.slice none 0 0)) (by intro c hc; simp at hc; subst hc; left; omega))
  case rest =>
    obtain ⟨Z, x0, y0, g0, rfl, hZA, hrow, hU, r0, o0, bd⟩ := hcut
    obtain ⟨wq, rfl⟩ : ∃ wq : World, wq = wc := ⟨_, rfl⟩
    have hex : ∀ c ∈ Z :: g0, c < wq.heap.size := fun c hc => by
      rcases List.mem_cons.1 hc with rfl | hc
      · exact hrow.lt
      · exact (bd c hc).2.2
    have hacc : AccZ 5 R_Sm wA.heap.size 56 (Z :: g0) wq (.slice none 0 0) ([] : List Sm) := AccZ.nil _ _ _ _ _ hex
    have HR0 := Lib.hid hrow
    have HU0 := Lib.hid hU
    have HAC := Lib.hid hacc
    have HG := Lib.hid (And.intro r0 o0)
    have HBD := Lib.hid (show ∀ c ∈ g0, wA.heap.size ≤ c ∧ c ≠ Z from fun c hc => ⟨(bd c hc).1, (bd c hc).2.1⟩)
    have hbA := HA.out.lt
    have k2 := hU.keep a2'
    clear hrow hU r0 o0 bd hacc hex S0 a0 a1 a2'
    go_wp2_with fail
    go_loopw [18] (fun iv wr => ∃ (k : Nat) (sv : Value), k ≤ x.sms.length ∧ iv = .int .i64 k ∧ Hid (Upd [] wA wr) ∧ Hid (RowAt wr Z 29 [ei x.pars, .slice x0 x.start.length y0, sv]) ∧ Hid (AccZ 5 R_Sm wA.heap.size 56 (Z :: g0) wr sv (x.sms.take k |>.map (mapSm F))) ∧ Hid (R_I1 g0 wr [.slice x0 x.start.length y0] x.start ∧ Own g0 wr)) (fun iv _ => x.sms.length - (intOf iv).toNat)
    case atStart => exact ⟨0, _, Nat.zero_le _, rfl, HU0, HR0, HAC, HG⟩
    case round =>
      clear HR0 HU0 HAC HG k2
      obtain ⟨wo, rfl⟩ : ∃ wo : World, wo = wr := ⟨_, rfl⟩
      obtain ⟨k, sv, hk, rfl, HU, HR, HAC, HG⟩ := hrel
      by_cases hlt : k < x.sms.length
      · obtain ⟨b, off, u, f, rfl, -, -, -, hcell, -, hr⟩ := HC.out k hlt
        have hkl : (k : Int) < (x.sms.length : Int) := by omega
        have uw : Upd [] w wo := UA.out.trans HU.out
        have hgf := HF.out _ (List.getElem_mem hlt)
        have HTK := Lib.hid (show (x.sms.take (k + 1)).map (mapSm F) = (x.sms.take k).map (mapSm F) ++ [mapSm F x.sms[k]] by rw [List.take_succ_eq_append_getElem hlt, List.map_append]; rfl)
        have htl : ((x.sms.take k).map (mapSm F)).length = k := by rw [List.length_map, List.length_take]; omega
        have HTL := Lib.hid htl
        generalize x.sms[k] = s at *
        obtain ⟨v0, v1', v3, v4, f0, f1, f3, f4, rfl, r0, r1, r3, r4, rfl⟩ := id hr
        obtain ⟨d0, e0, rfl, -⟩ := slF1_open r0
        obtain ⟨d1, e1, rfl, -⟩ := slF2_open r1
        obtain ⟨d3, e3, rfl, -⟩ := slP_open r3
        obtain ⟨d4, e4, rfl, -⟩ := slP_open r4
        have q0 := uw.keep (hcell 0 _ rfl)
        have q1 := uw.keep (hcell 1 _ rfl)
        have q2 := uw.keep (hcell 2 _ rfl)
        have q3 := uw.keep (hcell 3 _ rfl)
        have q4 := uw.keep (hcell 4 _ rfl)
        simp only [Nat.add_zero] at q0
        obtain ⟨wB, hwB⟩ : ∃ wB, wB = wo.alloc (.cells #[.slice d0 s.sums.length e0, .slice d1 s.guard.length e1, es s.name, .slice d3 s.args.length e3, .slice d4 s.next.length e4] 56) := ⟨_, rfl⟩
        have uB : Upd [] wo wB := by rw [hwB]; exact (Upd.refl _ _).alloc _
        obtain ⟨T7, hT7⟩ : ∃ T7, T7 = wo.heap.size := ⟨_, rfl⟩
        have hrow7 : RowAt wB T7 56 [.slice d0 s.sums.length e0, .slice d1 s.guard.length e1, es s.name, .slice d3 s.args.length e3, .slice d4 s.next.length e4] := by rw [hwB, hT7]; exact RowAt.new wo _ _
        have hszB : T7 + 1 ≤ wB.heap.size := by rw [hwB, hT7]; simp
        have hZT : Z < T7 := by rw [hT7]; exact HR.out.lt
        have a3 : wB.cell? ⟨B + 1, 0, none⟩ = some (.func (.func fn) #[] caps) := ((HU.out.trans uB).keep (HT3.out.cell 0 _ rfl))
        have uwB := uw.trans uB
        have S0 := Lib.hid (fun W (hu : Upd [] wB W) => cloneII _ s.sums W f0 hgf.1.1 (R_I1k.upd r0 (uwB.trans hu) (by simp)))
        have SF := Lib.hid (fun W (hu : Upd [] wB W) => HT.out.2 W _ s _ _ s.guard f1 (uwB.trans hu) (R_Smk.upd hr (uwB.trans hu) (by simp)) (R_T1k.upd r1 (uwB.trans hu) (by simp)) hgf.2.1)
        have S3 := Lib.hid (fun W (hu : Upd [] wB W) => allI _ s.args W f3 fn caps F G (B + 1) T7 _ s _ (HT.out.later (uwB.trans hu)) hgf.1.2.2.1.1 hgf.2.2.1 (R_T2k.upd r3 (uwB.trans hu) (by simp)) (R_Smk.upd hr (uwB.trans hu) (by simp)) (hu.keep a3) (fun j c hj => hu.keep (hrow7.cell j c hj)))
        have S4 := Lib.hid (fun W (hu : Upd [] wB W) => allI _ s.next W f4 fn caps F G (B + 1) T7 _ s _ (HT.out.later (uwB.trans hu)) hgf.1.2.2.2.1 hgf.2.2.2 (R_T2k.upd r4 (uwB.trans hu) (by simp)) (R_Smk.upd hr (uwB.trans hu) (by simp)) (hu.keep a3) (fun j c hj => hu.keep (hrow7.cell j c hj)))
        obtain ⟨us, hown, hrows, hvZ, hexl⟩ := HAC.out
        rw [htl] at hown
        have HOW := Lib.hid hown
        have HRW := Lib.hid hrows
        have HVZ := Lib.hid hvZ
        have HEX := Lib.hid hexl
        obtain ⟨ca, cc, rfl⟩ := ownsRow_form hown
        have hszo := HU.out.size
        have hrB := HR.out.upd uB (by simp)
        have z2 := hrB.cell 2 _ rfl
        have y2 := hrB.fz 2
        have c70 := hrow7.cell 0 _ rfl
        have c71 := hrow7.cell 1 _ rfl
        have c72 := hrow7.cell 2 _ rfl
        have c73 := hrow7.cell 3 _ rfl
        have c74 := hrow7.cell 4 _ rfl
        have a2 := HU.out.keep (HL.out.cell 2 _ rfl)
        have H7 := Lib.hid hrow7
        have HHT := Lib.hid hT7
        have HrB := Lib.hid hrB
        have HUB := Lib.hid uB
        clear htl hown hrows hvZ hexl hcell hr uw HAC r0 r1 r3 r4 uwB hrow7 hrB uB
        go_upto_region 6 with (fail)
        rw [← hwB, ← hT7]
        clear hwB hT7
        refine wp_region_held_drew (S := fun w' => w'.cell? ⟨T7, 0, none⟩ = some (.slice d0 s.sums.length e0) ∧ w'.cell? ⟨T7, 1, none⟩ = some (.slice d1 s.guard.length e1) ∧ w'.cell? ⟨T7, 2, none⟩ = some (es s.name) ∧ w'.cell? ⟨T7, 3, none⟩ = some (.slice d3 s.args.length e3) ∧ w'.cell? ⟨T7, 4, none⟩ = some (.slice d4 s.next.length e4) ∧ w'.cell? ⟨B + 1, 0, none⟩ = some (.func (.func fn) #[] caps)) (by kernel_rfl) ?_ (fun hHeld => ?_)
        · exact ⟨c70, c71, c72, c73, c74, a3⟩
        refine wpAnyH_take (i := 0) (v := ?_) rfl (by kernel_rfl) (by kernel_rfl) (by kernel_rfl) (fun _ _ _ h => h) (Or.inl ⟨by rfl, ?_⟩) (by assumption) ?_
        rotate_left
        · (intro w hSw; (try dsimp only at hSw); go_simp)
          first | done | with_reducible rfl
        try simp only [Act.put, List.getElem_toArray, List.getElem_cons_zero, List.setIfInBounds_toArray, List.set_cons_zero, List.set_cons_succ]
        refine wpAnyH_take (i := 2) (v := ?_) rfl (by kernel_rfl) (by kernel_rfl) (by kernel_rfl) (fun _ _ _ h => h) (Or.inl ⟨by rfl, ?_⟩) (by assumption) ?_
        rotate_left
        · (intro w hSw; (try dsimp only at hSw); go_simp)
          first | done | with_reducible rfl
        try simp only [Act.put, List.getElem_toArray, List.getElem_cons_zero, List.getElem_cons_succ, List.setIfInBounds_toArray, List.set_cons_zero, List.set_cons_succ]
        refine wpAnyH_take (i := 3) (v := ?_) rfl (by kernel_rfl) (by kernel_rfl) (by kernel_rfl) (fun _ _ _ h => h) (Or.inl ⟨by rfl, ?_⟩) (by assumption) ?_
        rotate_left
        · (intro w hSw; (try dsimp only at hSw); go_simp)
          first | done | with_reducible rfl
        try simp only [Act.put, List.getElem_toArray, List.getElem_cons_zero, List.getElem_cons_succ, List.setIfInBounds_toArray, List.set_cons_zero, List.set_cons_succ]
        refine wpAnyH_take (i := 5) (v := ?_) rfl (by kernel_rfl) (by kernel_rfl) (by kernel_rfl) (fun _ _ _ h => h) (Or.inl ⟨by rfl, ?_⟩) (by assumption) ?_
        rotate_left
        · (intro w hSw; (try dsimp only at hSw); go_simp)
          first | done | with_reducible rfl
        try simp only [Act.put, List.getElem_toArray, List.getElem_cons_zero, List.getElem_cons_succ, List.setIfInBounds_toArray, List.set_cons_zero, List.set_cons_succ]
        refine wpAnyH_take (i := 6) (v := ?_) rfl (by kernel_rfl) (by kernel_rfl) (by kernel_rfl) (fun _ _ _ h => h) (Or.inl ⟨by rfl, ?_⟩) (by assumption) ?_
        rotate_left
        · (intro w hSw; (try dsimp only at hSw); go_simp)
          first | done | with_reducible rfl
        try simp only [Act.put, List.getElem_toArray, List.getElem_cons_zero, List.getElem_cons_succ, List.setIfInBounds_toArray, List.set_cons_zero, List.set_cons_succ]
        refine wpAnyH_take (i := 7) (v := ?_) rfl (by kernel_rfl) (by kernel_rfl) (by kernel_rfl) (fun _ _ _ h => h) (Or.inl ⟨by rfl, ?_⟩) (by assumption) ?_
        rotate_left
        · (intro w hSw; (try dsimp only at hSw); go_simp)
          first | done | with_reducible rfl
        try simp only [Act.put, List.getElem_toArray, List.getElem_cons_zero, List.getElem_cons_succ, List.setIfInBounds_toArray, List.set_cons_zero, List.set_cons_succ]
        refine wpAnyH_take (i := 8) (v := ?_) rfl (by kernel_rfl) (by kernel_rfl) (by kernel_rfl) (fun _ _ _ h => h) (Or.inl ⟨by rfl, ?_⟩) (by assumption) ?_
        rotate_left
        · (intro w hSw; (try dsimp only at hSw); go_simp)
          first | done | with_reducible rfl
        try simp only [Act.put, List.getElem_toArray, List.getElem_cons_zero, List.getElem_cons_succ, List.setIfInBounds_toArray, List.set_cons_zero, List.set_cons_succ]
        refine wpAnyH_take (i := 10) (v := ?_) rfl (by kernel_rfl) (by kernel_rfl) (by kernel_rfl) (fun _ _ _ h => h) (Or.inl ⟨by rfl, ?_⟩) (by assumption) ?_
        rotate_left
        · (intro w hSw; (try dsimp only at hSw); go_simp)
          first | done | with_reducible rfl
        try simp only [Act.put, List.getElem_toArray, List.getElem_cons_zero, List.getElem_cons_succ, List.setIfInBounds_toArray, List.set_cons_zero, List.set_cons_succ]
        refine wpAnyH_take (i := 11) (v := ?_) rfl (by kernel_rfl) (by kernel_rfl) (by kernel_rfl) (fun _ _ _ h => h) (Or.inl ⟨by rfl, ?_⟩) (by assumption) ?_
        rotate_left
        · (intro w hSw; (try dsimp only at hSw); go_simp)
          first | done | with_reducible rfl
        try simp only [Act.put, List.getElem_toArray, List.getElem_cons_zero, List.getElem_cons_succ, List.setIfInBounds_toArray, List.set_cons_zero, List.set_cons_succ]
        refine wpAnyH_take (i := 12) (v := ?_) rfl (by kernel_rfl) (by kernel_rfl) (by kernel_rfl) (fun _ _ _ h => h) (Or.inl ⟨by rfl, ?_⟩) (by assumption) ?_
        rotate_left
        · (intro w hSw; (try dsimp only at hSw); go_simp)
          first | done | with_reducible rfl
        try simp only [Act.put, List.getElem_toArray, List.getElem_cons_zero, List.getElem_cons_succ, List.setIfInBounds_toArray, List.set_cons_zero, List.set_cons_succ]
        refine wpAnyH_take (i := 13) (v := ?_) rfl (by kernel_rfl) (by kernel_rfl) (by kernel_rfl) (fun _ _ _ h => h) (Or.inl ⟨by rfl, ?_⟩) (by assumption) ?_
        rotate_left
        · (intro w hSw; (try dsimp only at hSw); go_simp)
          first | done | with_reducible rfl
        try simp only [Act.put, List.getElem_toArray, List.getElem_cons_zero, List.getElem_cons_succ, List.setIfInBounds_toArray, List.set_cons_zero, List.set_cons_succ]
        refine wpAnyH_take (i := 14) (v := ?_) rfl (by kernel_rfl) (by kernel_rfl) (by kernel_rfl) (fun _ _ _ h => h) (Or.inl ⟨by rfl, ?_⟩) (by assumption) ?_
        rotate_left
        · (intro w hSw; (try dsimp only at hSw); go_simp)
          first | done | with_reducible rfl
        try simp only [Act.put, List.getElem_toArray, List.getElem_cons_zero, List.getElem_cons_succ, List.setIfInBounds_toArray, List.set_cons_zero, List.set_cons_succ]
        refine wpAnyH_take (i := 16) (v := ?_) rfl (by kernel_rfl) (by kernel_rfl) (by kernel_rfl) (fun _ _ _ h => h) (Or.inl ⟨by rfl, ?_⟩) (by assumption) ?_
        rotate_left
        · (intro w hSw; (try dsimp only at hSw); go_simp)
          first | done | with_reducible rfl
        try simp only [Act.put, List.getElem_toArray, List.getElem_cons_zero, List.getElem_cons_succ, List.setIfInBounds_toArray, List.set_cons_zero, List.set_cons_succ]
        refine wpAnyH_take (i := 17) (v := ?_) rfl (by kernel_rfl) (by kernel_rfl) (by kernel_rfl) (fun _ _ _ h => h) (Or.inl ⟨by rfl, ?_⟩) (by assumption) ?_
        rotate_left
        · (intro w hSw; (try dsimp only at hSw); go_simp)
          first | done | with_reducible rfl
        try simp only [Act.put, List.getElem_toArray, List.getElem_cons_zero, List.getElem_cons_succ, List.setIfInBounds_toArray, List.set_cons_zero, List.set_cons_succ]
        refine wpAnyH_take (i := 18) (v := ?_) rfl (by kernel_rfl) (by kernel_rfl) (by kernel_rfl) (fun _ _ _ h => h) (Or.inl ⟨by rfl, ?_⟩) (by assumption) ?_
        rotate_left
        · (intro w hSw; (try dsimp only at hSw); go_simp)
          first | done | with_reducible rfl
        try simp only [Act.put, List.getElem_toArray, List.getElem_cons_zero, List.getElem_cons_succ, List.setIfInBounds_toArray, List.set_cons_zero, List.set_cons_succ]
        refine wpAnyH_ready (rs := [1, 4]) (by kernel_rfl) (by simp) ?_
        refine AllReadyH.cons rfl (fun K hK => ?_) (AllReadyH.cons rfl (fun K hK => ?_) AllReadyH.nil)
        · skip
          go_simp
          refine hK.out _ _ (by first | exact hHeld | go_keep) (fun hHeld => ?_)
          clear hK K
          try simp only [Act.put, List.getElem_toArray, List.getElem_cons_zero, List.getElem_cons_succ, List.setIfInBounds_toArray, List.set_cons_zero, List.set_cons_succ]
          refine wpAnyH_ready (rs := [4]) (by kernel_rfl) (by simp) ?_
          refine AllReadyH.cons rfl (fun K hK => ?_) AllReadyH.nil
          go_simp
          refine (S0.out wB.drew (Upd.refl [] wB).drew).mono ?_
          rintro e w1 ⟨⟨n0, rfl, hn0⟩, hu1⟩; obtain ⟨xa, ya, rfl⟩ := hn0.form; have hw1 : Upd [] wB w1 := ((Upd.refl [] wB).drew).trans hu1; have c70_1 := hw1.keep c70; have c71_1 := hw1.keep c71; have c72_1 := hw1.keep c72; have c73_1 := hw1.keep c73; have c74_1 := hw1.keep c74; have a3_1 := hw1.keep a3; have z2_1 := hw1.keep z2; have y2_1 := (HrB.out.upd hw1 (by simp)).fz 2; have hs_1 := hw1.size
          refine hK.out _ _ ⟨c70_1, c71_1, c72_1, c73_1, c74_1, a3_1⟩ (fun hHeld => ?_)
          clear hK K
          try simp only [Act.put, List.getElem_toArray, List.getElem_cons_zero, List.getElem_cons_succ, List.setIfInBounds_toArray, List.set_cons_zero, List.set_cons_succ]
          refine wpAnyH_ready (rs := [9]) (by kernel_rfl) (by simp) ?_
          refine AllReadyH.cons rfl (fun K hK => ?_) AllReadyH.nil
          go_simp
          refine (SF.out w1 hw1).mono ?_
          rintro e w2 ⟨⟨n1, rfl, hn1⟩, hu2⟩; obtain ⟨xb, yb, rfl⟩ := hn1.form; have hw2 : Upd [] wB w2 := hw1.trans hu2; have c70_2 := hw2.keep c70; have c71_2 := hw2.keep c71; have c72_2 := hw2.keep c72; have c73_2 := hw2.keep c73; have c74_2 := hw2.keep c74; have a3_2 := hw2.keep a3; have z2_2 := hw2.keep z2; have y2_2 := (HrB.out.upd hw2 (by simp)).fz 2; have hs_2 := hw2.size
          refine hK.out _ _ ⟨c70_2, c71_2, c72_2, c73_2, c74_2, a3_2⟩ (fun hHeld => ?_)
          clear hK K
          try simp only [Act.put, List.getElem_toArray, List.getElem_cons_zero, List.getElem_cons_succ, List.setIfInBounds_toArray, List.set_cons_zero, List.set_cons_succ]
          refine wpAnyH_ready (rs := [15]) (by kernel_rfl) (by simp) ?_
          refine AllReadyH.cons rfl (fun K hK => ?_) AllReadyH.nil
          go_simp
          refine (S3.out w2 hw2).mono ?_
          rintro e w3 ⟨⟨n3, rfl, hn3⟩, hu3⟩; obtain ⟨x3, y3, hv3⟩ := hn3.formP; rw [List.length_map] at hv3; subst hv3; have hw3 : Upd [] wB w3 := hw2.trans hu3; have c70_3 := hw3.keep c70; have c71_3 := hw3.keep c71; have c72_3 := hw3.keep c72; have c73_3 := hw3.keep c73; have c74_3 := hw3.keep c74; have a3_3 := hw3.keep a3; have z2_3 := hw3.keep z2; have y2_3 := (HrB.out.upd hw3 (by simp)).fz 2; have hs_3 := hw3.size
          refine hK.out _ _ ⟨c70_3, c71_3, c72_3, c73_3, c74_3, a3_3⟩ (fun hHeld => ?_)
          clear hK K
          try simp only [Act.put, List.getElem_toArray, List.getElem_cons_zero, List.getElem_cons_succ, List.setIfInBounds_toArray, List.set_cons_zero, List.set_cons_succ]
          refine wpAnyH_ready (rs := [19]) (by kernel_rfl) (by simp) ?_
          refine AllReadyH.cons rfl (fun K hK => ?_) AllReadyH.nil
          go_simp
          refine (S4.out w3 hw3).mono ?_
          rintro e w4 ⟨⟨n4, rfl, hn4⟩, hu4⟩; obtain ⟨x4, y4, hv4⟩ := hn4.formP; rw [List.length_map] at hv4; subst hv4; have hw4 : Upd [] wB w4 := hw3.trans hu4; have c70_4 := hw4.keep c70; have c71_4 := hw4.keep c71; have c72_4 := hw4.keep c72; have c73_4 := hw4.keep c73; have c74_4 := hw4.keep c74; have a3_4 := hw4.keep a3; have z2_4 := hw4.keep z2; have y2_4 := (HrB.out.upd hw4 (by simp)).fz 2; have hs_4 := hw4.size; have huo : Upd [] wo w4 := HUB.out.trans hw4; have hou4 := ownsRow_upd HOW.out huo; have hle4 := huo.size; have hr4 := HrB.out.upd hw4 (by simp); have hr4a := hr4.upd ((Upd.refl [] w4).alloc (.cells #[.slice xa s.sums.length ya, .slice xb (F s s.guard).length yb, es s.name, .slice x3 s.args.length y3, .slice x4 s.next.length y4] 56)) (by simp); have z2_a := hr4a.cell 2 _ rfl; have y2_a := hr4a.fz 2
          refine hK.out _ _ ⟨c70_4, c71_4, c72_4, c73_4, c74_4, a3_4⟩ (fun hHeld => ?_)
          clear hK K
          try simp only [Act.put, List.getElem_toArray, List.getElem_cons_zero, List.getElem_cons_succ, List.setIfInBounds_toArray, List.set_cons_zero, List.set_cons_succ]
          refine wpAnyH_take (i := 20) (v := ?_) rfl (by kernel_rfl) (by kernel_rfl) (by kernel_rfl) (fun _ _ _ h => h) (Or.inl ⟨by rfl, ?_⟩) (by assumption) ?_
          rotate_left
          · (intro w hSw; (try dsimp only at hSw); go_simp)
            first | done | with_reducible rfl
          try simp only [Act.put, List.getElem_toArray, List.getElem_cons_zero, List.getElem_cons_succ, List.setIfInBounds_toArray, List.set_cons_zero, List.set_cons_succ]
          refine wpAnyH_ready (rs := [21]) (by kernel_rfl) (by simp) ?_
          refine AllReadyH.cons rfl (fun K hK => ?_) AllReadyH.nil
          go_simp
          refine hK.out _ _ (by go_keep) (fun hHeld => ?_)
          clear hK K
          try simp only [Act.put, List.getElem_toArray, List.getElem_cons_zero, List.getElem_cons_succ, List.setIfInBounds_toArray, List.set_cons_zero, List.set_cons_succ]
          refine wpAnyH_ready (rs := [22]) (by kernel_rfl) (by simp) ?_
          refine AllReadyH.cons rfl (fun K hK => ?_) AllReadyH.nil
          refine step_append_lies _ (by rfl) _ _ 27 (by rfl) wA.heap.size 56 i0 (.agg #[.slice none 0 0, .slice none 0 0, .string ⟨#[]⟩, .slice none 0 0, .slice none 0 0]) 5 112 Try.underlying27 hi hz0 hz1 hz2 rfl (by decide) _ k us.flatten (by rfl) (hou4.alloc _) ⟨w4.heap.size, 0, none⟩ 1 1 [.slice xa s.sums.length ya, .slice xb (F s s.guard).length yb, es s.name, .slice x3 s.args.length y3, .slice x4 s.next.length y4] (by rfl) (by rfl) (by intro j u hj; rw [addr_add, Nat.zero_add]; exact cell_new w4 #[.slice xa s.sums.length ya, .slice xb (F s s.guard).length yb, es s.name, .slice x3 s.args.length y3, .slice x4 s.next.length y4] _ _ rfl j u (by simpa using hj)) (by simp [Value.oneCell']) (by decide) (by unfold maxLen; omega) (by omega) (by simp; omega) (w4.heap.size + 1) (by simp) ?_; intro g gcap w5 hown5 hg5 hat5 hlt5; have hv5 : Upd (Value.slice ca k cc).ownBlock.toList (w4.alloc (.cells #[.slice xa s.sums.length ya, .slice xb (F s s.guard).length yb, es s.name, .slice x3 s.args.length y3, .slice x4 s.next.length y4] 56)) w5 := (Upd.refl _ _).grown hg5 (fun k hk => Or.inr (by simp [hk])); have hr5 := hr4a.upd hv5 (by intro hm; exact HVZ.out Z (by simpa using hm) (by simp)); have z2_5 := hr5.cell 2 _ rfl; have y2_5 := hr5.fz 2; have h75 := ((H7.out.upd hw4 (by simp)).upd ((Upd.refl [] w4).alloc (.cells #[.slice xa s.sums.length ya, .slice xb (F s s.guard).length yb, es s.name, .slice x3 s.args.length y3, .slice x4 s.next.length y4] 56)) (by simp)).upd hv5 (by intro hm; have := (HOW.out.lt T7 (by simpa using hm)).2; have := HHT.out; omega); have c70_5 := h75.cell 0 _ rfl; have c71_5 := h75.cell 1 _ rfl; have c72_5 := h75.cell 2 _ rfl; have c73_5 := h75.cell 3 _ rfl; have c74_5 := h75.cell 4 _ rfl; have a3_5 := (((HT3.out.upd ((HU.out.trans HUB.out).trans hw4) (by simp)).upd ((Upd.refl [] w4).alloc (.cells #[.slice xa s.sums.length ya, .slice xb (F s s.guard).length yb, es s.name, .slice x3 s.args.length y3, .slice x4 s.next.length y4] 56)) (by simp)).upd hv5 (by intro hm; have := (HOW.out.lt (B + 1) (by simpa using hm)).1; omega)).cell 0 _ rfl
          refine hK.out _ _ ⟨c70_5, c71_5, c72_5, c73_5, c74_5, a3_5⟩ (fun hHeld => ?_)
          clear hK K
          try simp only [Act.put, List.getElem_toArray, List.getElem_cons_zero, List.getElem_cons_succ, List.setIfInBounds_toArray, List.set_cons_zero, List.set_cons_succ]
          refine wpAnyH_take (i := 23) (v := ?_) rfl (by kernel_rfl) (by kernel_rfl) (by kernel_rfl) (fun _ _ _ h => h) (Or.inl ⟨by rfl, ?_⟩) (by assumption) ?_
          rotate_left
          · (intro w hSw; (try dsimp only at hSw); go_simp)
            first | done | with_reducible rfl
          try simp only [Act.put, List.getElem_toArray, List.getElem_cons_zero, List.getElem_cons_succ, List.setIfInBounds_toArray, List.set_cons_zero, List.set_cons_succ]
          refine wpAnyH_ready (rs := [24]) (by kernel_rfl) (by simp) ?_
          refine AllReadyH.cons rfl (fun K hK => ?_) AllReadyH.nil
          go_simp
          refine hK.out _ _ (by go_split_ands; refine ⟨?_, ?_, ?_, ?_, ?_, ?_⟩ <;> (rw [World.cell?_setCell_other _ _ _ _ (by intro h; simp only [Addr.mk.injEq] at h; omega)]; assumption)) (fun hHeld => ?_)
          clear hK K
          try simp only [Act.put, List.getElem_toArray, List.getElem_cons_zero, List.getElem_cons_succ, List.setIfInBounds_toArray, List.set_cons_zero, List.set_cons_succ]
          refine wpAnyH_done (by kernel_rfl) ?_ _
          have hgg : (w4.alloc (.cells #[.slice xa s.sums.length ya, .slice xb (F s s.guard).length yb, es s.name, .slice x3 s.args.length y3, .slice x4 s.next.length y4] 56)).grownBy w5 (Value.slice ca k cc).ownBlock := ⟨hg5.os, hg5.tape, hg5.output, hg5.size, hg5.block⟩
          have hnew := four_Sm (s := mapSm F s) (wo := wo) hn0 hn1 (by simpa [mapSm] using hn3) (by simpa [mapSm] using hn4) HUB.out.size hu1.size hu2 hu3 hu4
          have hacc := AccZ.push (w := wo) (ex := Z :: g0) R_Smk (by rw [HTL.out]; exact HOW.out) HRW.out HVZ.out HEX.out hszo huo hnew rfl (.cells #[.slice xa s.sums.length ya, .slice xb (F s s.guard).length yb, es s.name, .slice x3 s.args.length y3, .slice x4 s.next.length y4] 56) (by rw [HTL.out]; exact hown5) hgg (fun c hc => by
            simp only [Value.ownBlock, Option.some.injEq] at hc
            subst hc
            rcases hat5 with h | h
            · exact Or.inl h
            · exact Or.inr (by simp; omega))
          rw [← HTK.out] at hacc
          have uZ : Upd [Z] w5 (w5.setCell ⟨Z, 2, none⟩ (.slice (some ⟨g, 0, none⟩) (k + 1) gcap)) := (Upd.refl _ _).setCell (Or.inr (by simp)) _
          have hacc2 := hacc.put R_Smk uZ (by simp)
          have hU5 : Upd [] wA (w5.setCell ⟨Z, 2, none⟩ (.slice (some ⟨g, 0, none⟩) (k + 1) gcap)) := (((HU.out.trans huo).alloc _).grown hgg (fun c hc => Or.inl (HOW.out.lt c hc).1)).setCell (Or.inl hZA) _
          have hrow5 : RowAt (w5.setCell ⟨Z, 2, none⟩ (.slice (some ⟨g, 0, none⟩) (k + 1) gcap)) Z 29 [ei x.pars, .slice x0 x.start.length y0, (.slice (some ⟨g, 0, none⟩) (k + 1) gcap)] := hr5.store 2 _
          have hgo : ∀ c ∈ g0, c ∉ (Value.slice ca k cc).ownBlock.toList := fun c hc hm => HVZ.out c (by simpa using hm) (by simp [hc])
          have hgz : ∀ c ∈ g0, c ∉ [Z] := fun c hc hm => (HBD.out c hc).2 (by simpa using hm)
          have hG5 := And.intro (R_I1k.upd (R_I1k.upd (R_I1k.upd (R_I1k.upd HG.out.1 huo (by simp)) ((Upd.refl [] w4).alloc (.cells #[.slice xa s.sums.length ya, .slice xb (F s s.guard).length yb, es s.name, .slice x3 s.args.length y3, .slice x4 s.next.length y4] 56)) (by simp)) hv5 hgo) uZ hgz) ((((HG.out.2.upd huo (by simp)).upd ((Upd.refl [] w4).alloc (.cells #[.slice xa s.sums.length ya, .slice xb (F s s.guard).length yb, es s.name, .slice x3 s.args.length y3, .slice x4 s.next.length y4] 56)) (by simp)).upd hv5 hgo).upd uZ hgz)
          have HP := Lib.hid (And.intro (And.intro hacc2 hU5) (And.intro hrow5 hG5))
          clear hacc hacc2 uZ hU5 hrow5 hgo hgz hG5 hgg hnew hown5 hg5 hat5 hlt5 hv5 hr5 z2_5 y2_5 h75 c70_5 c71_5 c72_5 c73_5 c74_5 a3_5 hHeld
          clear huo hou4 hle4 hr4 hr4a z2_a y2_a z2_4 y2_4 c70_4 c71_4 c72_4 c73_4 c74_4 a3_4 z2_3 y2_3 c70_3 c71_3 c72_3 c73_3 c74_3 a3_3 z2_2 y2_2 c70_2 c71_2 c72_2 c73_2 c74_2 a3_2 z2_1 y2_1 c70_1 c71_1 c72_1 c73_1 c74_1 a3_1 z2 y2 c70 c71 c72 c73 c74 a3 a2 q0 q1 q2 q3 q4
          go_wp2_with fail
          go_roundw
          case rel => exact ⟨k + 1, _, by omega, by go_num, Lib.hid HP.out.1.2, Lib.hid HP.out.2.1, Lib.hid HP.out.1.1, Lib.hid HP.out.2.2⟩
          case measure => simp [intOf]; omega
        · skip
          go_simp
          refine (S0.out wB.drew (Upd.refl [] wB).drew).mono ?_
          rintro e w1 ⟨⟨n0, rfl, hn0⟩, hu1⟩; obtain ⟨xa, ya, rfl⟩ := hn0.form; have hw1 : Upd [] wB w1 := ((Upd.refl [] wB).drew).trans hu1; have c70_1 := hw1.keep c70; have c71_1 := hw1.keep c71; have c72_1 := hw1.keep c72; have c73_1 := hw1.keep c73; have c74_1 := hw1.keep c74; have a3_1 := hw1.keep a3; have z2_1 := hw1.keep z2; have y2_1 := (HrB.out.upd hw1 (by simp)).fz 2; have hs_1 := hw1.size
          refine hK.out _ _ ⟨c70_1, c71_1, c72_1, c73_1, c74_1, a3_1⟩ (fun hHeld => ?_)
          clear hK K
          try simp only [Act.put, List.getElem_toArray, List.getElem_cons_zero, List.getElem_cons_succ, List.setIfInBounds_toArray, List.set_cons_zero, List.set_cons_succ]
          refine wpAnyH_ready (rs := [1, 9]) (by kernel_rfl) (by simp) ?_
          refine AllReadyH.cons rfl (fun K hK => ?_) (AllReadyH.cons rfl (fun K hK => ?_) AllReadyH.nil)
          · skip
            go_simp
            refine hK.out _ _ (by first | exact hHeld | go_keep) (fun hHeld => ?_)
            clear hK K
            try simp only [Act.put, List.getElem_toArray, List.getElem_cons_zero, List.getElem_cons_succ, List.setIfInBounds_toArray, List.set_cons_zero, List.set_cons_succ]
            refine wpAnyH_ready (rs := [9]) (by kernel_rfl) (by simp) ?_
            refine AllReadyH.cons rfl (fun K hK => ?_) AllReadyH.nil
            go_simp
            refine (SF.out w1 hw1).mono ?_
            rintro e w2 ⟨⟨n1, rfl, hn1⟩, hu2⟩; obtain ⟨xb, yb, rfl⟩ := hn1.form; have hw2 : Upd [] wB w2 := hw1.trans hu2; have c70_2 := hw2.keep c70; have c71_2 := hw2.keep c71; have c72_2 := hw2.keep c72; have c73_2 := hw2.keep c73; have c74_2 := hw2.keep c74; have a3_2 := hw2.keep a3; have z2_2 := hw2.keep z2; have y2_2 := (HrB.out.upd hw2 (by simp)).fz 2; have hs_2 := hw2.size
            refine hK.out _ _ ⟨c70_2, c71_2, c72_2, c73_2, c74_2, a3_2⟩ (fun hHeld => ?_)
            clear hK K
            try simp only [Act.put, List.getElem_toArray, List.getElem_cons_zero, List.getElem_cons_succ, List.setIfInBounds_toArray, List.set_cons_zero, List.set_cons_succ]
            refine wpAnyH_ready (rs := [15]) (by kernel_rfl) (by simp) ?_
            refine AllReadyH.cons rfl (fun K hK => ?_) AllReadyH.nil
            go_simp
            refine (S3.out w2 hw2).mono ?_
            rintro e w3 ⟨⟨n3, rfl, hn3⟩, hu3⟩; obtain ⟨x3, y3, hv3⟩ := hn3.formP; rw [List.length_map] at hv3; subst hv3; have hw3 : Upd [] wB w3 := hw2.trans hu3; have c70_3 := hw3.keep c70; have c71_3 := hw3.keep c71; have c72_3 := hw3.keep c72; have c73_3 := hw3.keep c73; have c74_3 := hw3.keep c74; have a3_3 := hw3.keep a3; have z2_3 := hw3.keep z2; have y2_3 := (HrB.out.upd hw3 (by simp)).fz 2; have hs_3 := hw3.size
            refine hK.out _ _ ⟨c70_3, c71_3, c72_3, c73_3, c74_3, a3_3⟩ (fun hHeld => ?_)
            clear hK K
            try simp only [Act.put, List.getElem_toArray, List.getElem_cons_zero, List.getElem_cons_succ, List.setIfInBounds_toArray, List.set_cons_zero, List.set_cons_succ]
            refine wpAnyH_ready (rs := [19]) (by kernel_rfl) (by simp) ?_
            refine AllReadyH.cons rfl (fun K hK => ?_) AllReadyH.nil
            go_simp
            refine (S4.out w3 hw3).mono ?_
            rintro e w4 ⟨⟨n4, rfl, hn4⟩, hu4⟩; obtain ⟨x4, y4, hv4⟩ := hn4.formP; rw [List.length_map] at hv4; subst hv4; have hw4 : Upd [] wB w4 := hw3.trans hu4; have c70_4 := hw4.keep c70; have c71_4 := hw4.keep c71; have c72_4 := hw4.keep c72; have c73_4 := hw4.keep c73; have c74_4 := hw4.keep c74; have a3_4 := hw4.keep a3; have z2_4 := hw4.keep z2; have y2_4 := (HrB.out.upd hw4 (by simp)).fz 2; have hs_4 := hw4.size; have huo : Upd [] wo w4 := HUB.out.trans hw4; have hou4 := ownsRow_upd HOW.out huo; have hle4 := huo.size; have hr4 := HrB.out.upd hw4 (by simp); have hr4a := hr4.upd ((Upd.refl [] w4).alloc (.cells #[.slice xa s.sums.length ya, .slice xb (F s s.guard).length yb, es s.name, .slice x3 s.args.length y3, .slice x4 s.next.length y4] 56)) (by simp); have z2_a := hr4a.cell 2 _ rfl; have y2_a := hr4a.fz 2
            refine hK.out _ _ ⟨c70_4, c71_4, c72_4, c73_4, c74_4, a3_4⟩ (fun hHeld => ?_)
            clear hK K
            try simp only [Act.put, List.getElem_toArray, List.getElem_cons_zero, List.getElem_cons_succ, List.setIfInBounds_toArray, List.set_cons_zero, List.set_cons_succ]
            refine wpAnyH_take (i := 20) (v := ?_) rfl (by kernel_rfl) (by kernel_rfl) (by kernel_rfl) (fun _ _ _ h => h) (Or.inl ⟨by rfl, ?_⟩) (by assumption) ?_
            rotate_left
            · (intro w hSw; (try dsimp only at hSw); go_simp)
              first | done | with_reducible rfl
            try simp only [Act.put, List.getElem_toArray, List.getElem_cons_zero, List.getElem_cons_succ, List.setIfInBounds_toArray, List.set_cons_zero, List.set_cons_succ]
            refine wpAnyH_ready (rs := [21]) (by kernel_rfl) (by simp) ?_
            refine AllReadyH.cons rfl (fun K hK => ?_) AllReadyH.nil
            go_simp
            refine hK.out _ _ (by go_keep) (fun hHeld => ?_)
            clear hK K
            try simp only [Act.put, List.getElem_toArray, List.getElem_cons_zero, List.getElem_cons_succ, List.setIfInBounds_toArray, List.set_cons_zero, List.set_cons_succ]
            refine wpAnyH_ready (rs := [22]) (by kernel_rfl) (by simp) ?_
            refine AllReadyH.cons rfl (fun K hK => ?_) AllReadyH.nil
            refine step_append_lies _ (by rfl) _ _ 27 (by rfl) wA.heap.size 56 i0 (.agg #[.slice none 0 0, .slice none 0 0, .string ⟨#[]⟩, .slice none 0 0, .slice none 0 0]) 5 112 Try.underlying27 hi hz0 hz1 hz2 rfl (by decide) _ k us.flatten (by rfl) (hou4.alloc _) ⟨w4.heap.size, 0, none⟩ 1 1 [.slice xa s.sums.length ya, .slice xb (F s s.guard).length yb, es s.name, .slice x3 s.args.length y3, .slice x4 s.next.length y4] (by rfl) (by rfl) (by intro j u hj; rw [addr_add, Nat.zero_add]; exact cell_new w4 #[.slice xa s.sums.length ya, .slice xb (F s s.guard).length yb, es s.name, .slice x3 s.args.length y3, .slice x4 s.next.length y4] _ _ rfl j u (by simpa using hj)) (by simp [Value.oneCell']) (by decide) (by unfold maxLen; omega) (by omega) (by simp; omega) (w4.heap.size + 1) (by simp) ?_; intro g gcap w5 hown5 hg5 hat5 hlt5; have hv5 : Upd (Value.slice ca k cc).ownBlock.toList (w4.alloc (.cells #[.slice xa s.sums.length ya, .slice xb (F s s.guard).length yb, es s.name, .slice x3 s.args.length y3, .slice x4 s.next.length y4] 56)) w5 := (Upd.refl _ _).grown hg5 (fun k hk => Or.inr (by simp [hk])); have hr5 := hr4a.upd hv5 (by intro hm; exact HVZ.out Z (by simpa using hm) (by simp)); have z2_5 := hr5.cell 2 _ rfl; have y2_5 := hr5.fz 2; have h75 := ((H7.out.upd hw4 (by simp)).upd ((Upd.refl [] w4).alloc (.cells #[.slice xa s.sums.length ya, .slice xb (F s s.guard).length yb, es s.name, .slice x3 s.args.length y3, .slice x4 s.next.length y4] 56)) (by simp)).upd hv5 (by intro hm; have := (HOW.out.lt T7 (by simpa using hm)).2; have := HHT.out; omega); have c70_5 := h75.cell 0 _ rfl; have c71_5 := h75.cell 1 _ rfl; have c72_5 := h75.cell 2 _ rfl; have c73_5 := h75.cell 3 _ rfl; have c74_5 := h75.cell 4 _ rfl; have a3_5 := (((HT3.out.upd ((HU.out.trans HUB.out).trans hw4) (by simp)).upd ((Upd.refl [] w4).alloc (.cells #[.slice xa s.sums.length ya, .slice xb (F s s.guard).length yb, es s.name, .slice x3 s.args.length y3, .slice x4 s.next.length y4] 56)) (by simp)).upd hv5 (by intro hm; have := (HOW.out.lt (B + 1) (by simpa using hm)).1; omega)).cell 0 _ rfl
            refine hK.out _ _ ⟨c70_5, c71_5, c72_5, c73_5, c74_5, a3_5⟩ (fun hHeld => ?_)
            clear hK K
            try simp only [Act.put, List.getElem_toArray, List.getElem_cons_zero, List.getElem_cons_succ, List.setIfInBounds_toArray, List.set_cons_zero, List.set_cons_succ]
            refine wpAnyH_take (i := 23) (v := ?_) rfl (by kernel_rfl) (by kernel_rfl) (by kernel_rfl) (fun _ _ _ h => h) (Or.inl ⟨by rfl, ?_⟩) (by assumption) ?_
            rotate_left
            · (intro w hSw; (try dsimp only at hSw); go_simp)
              first | done | with_reducible rfl
            try simp only [Act.put, List.getElem_toArray, List.getElem_cons_zero, List.getElem_cons_succ, List.setIfInBounds_toArray, List.set_cons_zero, List.set_cons_succ]
            refine wpAnyH_ready (rs := [24]) (by kernel_rfl) (by simp) ?_
            refine AllReadyH.cons rfl (fun K hK => ?_) AllReadyH.nil
            go_simp
            refine hK.out _ _ (by go_split_ands; refine ⟨?_, ?_, ?_, ?_, ?_, ?_⟩ <;> (rw [World.cell?_setCell_other _ _ _ _ (by intro h; simp only [Addr.mk.injEq] at h; omega)]; assumption)) (fun hHeld => ?_)
            clear hK K
            try simp only [Act.put, List.getElem_toArray, List.getElem_cons_zero, List.getElem_cons_succ, List.setIfInBounds_toArray, List.set_cons_zero, List.set_cons_succ]
            refine wpAnyH_done (by kernel_rfl) ?_ _
            have hgg : (w4.alloc (.cells #[.slice xa s.sums.length ya, .slice xb (F s s.guard).length yb, es s.name, .slice x3 s.args.length y3, .slice x4 s.next.length y4] 56)).grownBy w5 (Value.slice ca k cc).ownBlock := ⟨hg5.os, hg5.tape, hg5.output, hg5.size, hg5.block⟩
            have hnew := four_Sm (s := mapSm F s) (wo := wo) hn0 hn1 (by simpa [mapSm] using hn3) (by simpa [mapSm] using hn4) HUB.out.size hu1.size hu2 hu3 hu4
            have hacc := AccZ.push (w := wo) (ex := Z :: g0) R_Smk (by rw [HTL.out]; exact HOW.out) HRW.out HVZ.out HEX.out hszo huo hnew rfl (.cells #[.slice xa s.sums.length ya, .slice xb (F s s.guard).length yb, es s.name, .slice x3 s.args.length y3, .slice x4 s.next.length y4] 56) (by rw [HTL.out]; exact hown5) hgg (fun c hc => by
              simp only [Value.ownBlock, Option.some.injEq] at hc
              subst hc
              rcases hat5 with h | h
              · exact Or.inl h
              · exact Or.inr (by simp; omega))
            rw [← HTK.out] at hacc
            have uZ : Upd [Z] w5 (w5.setCell ⟨Z, 2, none⟩ (.slice (some ⟨g, 0, none⟩) (k + 1) gcap)) := (Upd.refl _ _).setCell (Or.inr (by simp)) _
            have hacc2 := hacc.put R_Smk uZ (by simp)
            have hU5 : Upd [] wA (w5.setCell ⟨Z, 2, none⟩ (.slice (some ⟨g, 0, none⟩) (k + 1) gcap)) := (((HU.out.trans huo).alloc _).grown hgg (fun c hc => Or.inl (HOW.out.lt c hc).1)).setCell (Or.inl hZA) _
            have hrow5 : RowAt (w5.setCell ⟨Z, 2, none⟩ (.slice (some ⟨g, 0, none⟩) (k + 1) gcap)) Z 29 [ei x.pars, .slice x0 x.start.length y0, (.slice (some ⟨g, 0, none⟩) (k + 1) gcap)] := hr5.store 2 _
            have hgo : ∀ c ∈ g0, c ∉ (Value.slice ca k cc).ownBlock.toList := fun c hc hm => HVZ.out c (by simpa using hm) (by simp [hc])
            have hgz : ∀ c ∈ g0, c ∉ [Z] := fun c hc hm => (HBD.out c hc).2 (by simpa using hm)
            have hG5 := And.intro (R_I1k.upd (R_I1k.upd (R_I1k.upd (R_I1k.upd HG.out.1 huo (by simp)) ((Upd.refl [] w4).alloc (.cells #[.slice xa s.sums.length ya, .slice xb (F s s.guard).length yb, es s.name, .slice x3 s.args.length y3, .slice x4 s.next.length y4] 56)) (by simp)) hv5 hgo) uZ hgz) ((((HG.out.2.upd huo (by simp)).upd ((Upd.refl [] w4).alloc (.cells #[.slice xa s.sums.length ya, .slice xb (F s s.guard).length yb, es s.name, .slice x3 s.args.length y3, .slice x4 s.next.length y4] 56)) (by simp)).upd hv5 hgo).upd uZ hgz)
            have HP := Lib.hid (And.intro (And.intro hacc2 hU5) (And.intro hrow5 hG5))
            clear hacc hacc2 uZ hU5 hrow5 hgo hgz hG5 hgg hnew hown5 hg5 hat5 hlt5 hv5 hr5 z2_5 y2_5 h75 c70_5 c71_5 c72_5 c73_5 c74_5 a3_5 hHeld
            clear huo hou4 hle4 hr4 hr4a z2_a y2_a z2_4 y2_4 c70_4 c71_4 c72_4 c73_4 c74_4 a3_4 z2_3 y2_3 c70_3 c71_3 c72_3 c73_3 c74_3 a3_3 z2_2 y2_2 c70_2 c71_2 c72_2 c73_2 c74_2 a3_2 z2_1 y2_1 c70_1 c71_1 c72_1 c73_1 c74_1 a3_1 z2 y2 c70 c71 c72 c73 c74 a3 a2 q0 q1 q2 q3 q4
            go_wp2_with fail
            go_roundw
            case rel => exact ⟨k + 1, _, by omega, by go_num, Lib.hid HP.out.1.2, Lib.hid HP.out.2.1, Lib.hid HP.out.1.1, Lib.hid HP.out.2.2⟩
            case measure => simp [intOf]; omega
          · skip
            go_simp
            refine (SF.out w1 hw1).mono ?_
            rintro e w2 ⟨⟨n1, rfl, hn1⟩, hu2⟩; obtain ⟨xb, yb, rfl⟩ := hn1.form; have hw2 : Upd [] wB w2 := hw1.trans hu2; have c70_2 := hw2.keep c70; have c71_2 := hw2.keep c71; have c72_2 := hw2.keep c72; have c73_2 := hw2.keep c73; have c74_2 := hw2.keep c74; have a3_2 := hw2.keep a3; have z2_2 := hw2.keep z2; have y2_2 := (HrB.out.upd hw2 (by simp)).fz 2; have hs_2 := hw2.size
            refine hK.out _ _ ⟨c70_2, c71_2, c72_2, c73_2, c74_2, a3_2⟩ (fun hHeld => ?_)
            clear hK K
            try simp only [Act.put, List.getElem_toArray, List.getElem_cons_zero, List.getElem_cons_succ, List.setIfInBounds_toArray, List.set_cons_zero, List.set_cons_succ]
            refine wpAnyH_ready (rs := [1, 15]) (by kernel_rfl) (by simp) ?_
            refine AllReadyH.cons rfl (fun K hK => ?_) (AllReadyH.cons rfl (fun K hK => ?_) AllReadyH.nil)
            · skip
              go_simp
              refine hK.out _ _ (by first | exact hHeld | go_keep) (fun hHeld => ?_)
              clear hK K
              try simp only [Act.put, List.getElem_toArray, List.getElem_cons_zero, List.getElem_cons_succ, List.setIfInBounds_toArray, List.set_cons_zero, List.set_cons_succ]
              refine wpAnyH_ready (rs := [15]) (by kernel_rfl) (by simp) ?_
              refine AllReadyH.cons rfl (fun K hK => ?_) AllReadyH.nil
              go_simp
              refine (S3.out w2 hw2).mono ?_
              rintro e w3 ⟨⟨n3, rfl, hn3⟩, hu3⟩; obtain ⟨x3, y3, hv3⟩ := hn3.formP; rw [List.length_map] at hv3; subst hv3; have hw3 : Upd [] wB w3 := hw2.trans hu3; have c70_3 := hw3.keep c70; have c71_3 := hw3.keep c71; have c72_3 := hw3.keep c72; have c73_3 := hw3.keep c73; have c74_3 := hw3.keep c74; have a3_3 := hw3.keep a3; have z2_3 := hw3.keep z2; have y2_3 := (HrB.out.upd hw3 (by simp)).fz 2; have hs_3 := hw3.size
              refine hK.out _ _ ⟨c70_3, c71_3, c72_3, c73_3, c74_3, a3_3⟩ (fun hHeld => ?_)
              clear hK K
              try simp only [Act.put, List.getElem_toArray, List.getElem_cons_zero, List.getElem_cons_succ, List.setIfInBounds_toArray, List.set_cons_zero, List.set_cons_succ]
              refine wpAnyH_ready (rs := [19]) (by kernel_rfl) (by simp) ?_
              refine AllReadyH.cons rfl (fun K hK => ?_) AllReadyH.nil
              go_simp
              refine (S4.out w3 hw3).mono ?_
              rintro e w4 ⟨⟨n4, rfl, hn4⟩, hu4⟩; obtain ⟨x4, y4, hv4⟩ := hn4.formP; rw [List.length_map] at hv4; subst hv4; have hw4 : Upd [] wB w4 := hw3.trans hu4; have c70_4 := hw4.keep c70; have c71_4 := hw4.keep c71; have c72_4 := hw4.keep c72; have c73_4 := hw4.keep c73; have c74_4 := hw4.keep c74; have a3_4 := hw4.keep a3; have z2_4 := hw4.keep z2; have y2_4 := (HrB.out.upd hw4 (by simp)).fz 2; have hs_4 := hw4.size; have huo : Upd [] wo w4 := HUB.out.trans hw4; have hou4 := ownsRow_upd HOW.out huo; have hle4 := huo.size; have hr4 := HrB.out.upd hw4 (by simp); have hr4a := hr4.upd ((Upd.refl [] w4).alloc (.cells #[.slice xa s.sums.length ya, .slice xb (F s s.guard).length yb, es s.name, .slice x3 s.args.length y3, .slice x4 s.next.length y4] 56)) (by simp); have z2_a := hr4a.cell 2 _ rfl; have y2_a := hr4a.fz 2
              refine hK.out _ _ ⟨c70_4, c71_4, c72_4, c73_4, c74_4, a3_4⟩ (fun hHeld => ?_)
              clear hK K
              try simp only [Act.put, List.getElem_toArray, List.getElem_cons_zero, List.getElem_cons_succ, List.setIfInBounds_toArray, List.set_cons_zero, List.set_cons_succ]
              refine wpAnyH_take (i := 20) (v := ?_) rfl (by kernel_rfl) (by kernel_rfl) (by kernel_rfl) (fun _ _ _ h => h) (Or.inl ⟨by rfl, ?_⟩) (by assumption) ?_
              rotate_left
              · (intro w hSw; (try dsimp only at hSw); go_simp)
                first | done | with_reducible rfl
              try simp only [Act.put, List.getElem_toArray, List.getElem_cons_zero, List.getElem_cons_succ, List.setIfInBounds_toArray, List.set_cons_zero, List.set_cons_succ]
              refine wpAnyH_ready (rs := [21]) (by kernel_rfl) (by simp) ?_
              refine AllReadyH.cons rfl (fun K hK => ?_) AllReadyH.nil
              go_simp
              refine hK.out _ _ (by go_keep) (fun hHeld => ?_)
              clear hK K
              try simp only [Act.put, List.getElem_toArray, List.getElem_cons_zero, List.getElem_cons_succ, List.setIfInBounds_toArray, List.set_cons_zero, List.set_cons_succ]
              refine wpAnyH_ready (rs := [22]) (by kernel_rfl) (by simp) ?_
              refine AllReadyH.cons rfl (fun K hK => ?_) AllReadyH.nil
              refine step_append_lies _ (by rfl) _ _ 27 (by rfl) wA.heap.size 56 i0 (.agg #[.slice none 0 0, .slice none 0 0, .string ⟨#[]⟩, .slice none 0 0, .slice none 0 0]) 5 112 Try.underlying27 hi hz0 hz1 hz2 rfl (by decide) _ k us.flatten (by rfl) (hou4.alloc _) ⟨w4.heap.size, 0, none⟩ 1 1 [.slice xa s.sums.length ya, .slice xb (F s s.guard).length yb, es s.name, .slice x3 s.args.length y3, .slice x4 s.next.length y4] (by rfl) (by rfl) (by intro j u hj; rw [addr_add, Nat.zero_add]; exact cell_new w4 #[.slice xa s.sums.length ya, .slice xb (F s s.guard).length yb, es s.name, .slice x3 s.args.length y3, .slice x4 s.next.length y4] _ _ rfl j u (by simpa using hj)) (by simp [Value.oneCell']) (by decide) (by unfold maxLen; omega) (by omega) (by simp; omega) (w4.heap.size + 1) (by simp) ?_; intro g gcap w5 hown5 hg5 hat5 hlt5; have hv5 : Upd (Value.slice ca k cc).ownBlock.toList (w4.alloc (.cells #[.slice xa s.sums.length ya, .slice xb (F s s.guard).length yb, es s.name, .slice x3 s.args.length y3, .slice x4 s.next.length y4] 56)) w5 := (Upd.refl _ _).grown hg5 (fun k hk => Or.inr (by simp [hk])); have hr5 := hr4a.upd hv5 (by intro hm; exact HVZ.out Z (by simpa using hm) (by simp)); have z2_5 := hr5.cell 2 _ rfl; have y2_5 := hr5.fz 2; have h75 := ((H7.out.upd hw4 (by simp)).upd ((Upd.refl [] w4).alloc (.cells #[.slice xa s.sums.length ya, .slice xb (F s s.guard).length yb, es s.name, .slice x3 s.args.length y3, .slice x4 s.next.length y4] 56)) (by simp)).upd hv5 (by intro hm; have := (HOW.out.lt T7 (by simpa using hm)).2; have := HHT.out; omega); have c70_5 := h75.cell 0 _ rfl; have c71_5 := h75.cell 1 _ rfl; have c72_5 := h75.cell 2 _ rfl; have c73_5 := h75.cell 3 _ rfl; have c74_5 := h75.cell 4 _ rfl; have a3_5 := (((HT3.out.upd ((HU.out.trans HUB.out).trans hw4) (by simp)).upd ((Upd.refl [] w4).alloc (.cells #[.slice xa s.sums.length ya, .slice xb (F s s.guard).length yb, es s.name, .slice x3 s.args.length y3, .slice x4 s.next.length y4] 56)) (by simp)).upd hv5 (by intro hm; have := (HOW.out.lt (B + 1) (by simpa using hm)).1; omega)).cell 0 _ rfl
              refine hK.out _ _ ⟨c70_5, c71_5, c72_5, c73_5, c74_5, a3_5⟩ (fun hHeld => ?_)
              clear hK K
              try simp only [Act.put, List.getElem_toArray, List.getElem_cons_zero, List.getElem_cons_succ, List.setIfInBounds_toArray, List.set_cons_zero, List.set_cons_succ]
              refine wpAnyH_take (i := 23) (v := ?_) rfl (by kernel_rfl) (by kernel_rfl) (by kernel_rfl) (fun _ _ _ h => h) (Or.inl ⟨by rfl, ?_⟩) (by assumption) ?_
              rotate_left
              · (intro w hSw; (try dsimp only at hSw); go_simp)
                first | done | with_reducible rfl
              try simp only [Act.put, List.getElem_toArray, List.getElem_cons_zero, List.getElem_cons_succ, List.setIfInBounds_toArray, List.set_cons_zero, List.set_cons_succ]
              refine wpAnyH_ready (rs := [24]) (by kernel_rfl) (by simp) ?_
              refine AllReadyH.cons rfl (fun K hK => ?_) AllReadyH.nil
              go_simp
              refine hK.out _ _ (by go_split_ands; refine ⟨?_, ?_, ?_, ?_, ?_, ?_⟩ <;> (rw [World.cell?_setCell_other _ _ _ _ (by intro h; simp only [Addr.mk.injEq] at h; omega)]; assumption)) (fun hHeld => ?_)
              clear hK K
              try simp only [Act.put, List.getElem_toArray, List.getElem_cons_zero, List.getElem_cons_succ, List.setIfInBounds_toArray, List.set_cons_zero, List.set_cons_succ]
              refine wpAnyH_done (by kernel_rfl) ?_ _
              have hgg : (w4.alloc (.cells #[.slice xa s.sums.length ya, .slice xb (F s s.guard).length yb, es s.name, .slice x3 s.args.length y3, .slice x4 s.next.length y4] 56)).grownBy w5 (Value.slice ca k cc).ownBlock := ⟨hg5.os, hg5.tape, hg5.output, hg5.size, hg5.block⟩
              have hnew := four_Sm (s := mapSm F s) (wo := wo) hn0 hn1 (by simpa [mapSm] using hn3) (by simpa [mapSm] using hn4) HUB.out.size hu1.size hu2 hu3 hu4
              have hacc := AccZ.push (w := wo) (ex := Z :: g0) R_Smk (by rw [HTL.out]; exact HOW.out) HRW.out HVZ.out HEX.out hszo huo hnew rfl (.cells #[.slice xa s.sums.length ya, .slice xb (F s s.guard).length yb, es s.name, .slice x3 s.args.length y3, .slice x4 s.next.length y4] 56) (by rw [HTL.out]; exact hown5) hgg (fun c hc => by
                simp only [Value.ownBlock, Option.some.injEq] at hc
                subst hc
                rcases hat5 with h | h
                · exact Or.inl h
                · exact Or.inr (by simp; omega))
              rw [← HTK.out] at hacc
              have uZ : Upd [Z] w5 (w5.setCell ⟨Z, 2, none⟩ (.slice (some ⟨g, 0, none⟩) (k + 1) gcap)) := (Upd.refl _ _).setCell (Or.inr (by simp)) _
              have hacc2 := hacc.put R_Smk uZ (by simp)
              have hU5 : Upd [] wA (w5.setCell ⟨Z, 2, none⟩ (.slice (some ⟨g, 0, none⟩) (k + 1) gcap)) := (((HU.out.trans huo).alloc _).grown hgg (fun c hc => Or.inl (HOW.out.lt c hc).1)).setCell (Or.inl hZA) _
              have hrow5 : RowAt (w5.setCell ⟨Z, 2, none⟩ (.slice (some ⟨g, 0, none⟩) (k + 1) gcap)) Z 29 [ei x.pars, .slice x0 x.start.length y0, (.slice (some ⟨g, 0, none⟩) (k + 1) gcap)] := hr5.store 2 _
              have hgo : ∀ c ∈ g0, c ∉ (Value.slice ca k cc).ownBlock.toList := fun c hc hm => HVZ.out c (by simpa using hm) (by simp [hc])
              have hgz : ∀ c ∈ g0, c ∉ [Z] := fun c hc hm => (HBD.out c hc).2 (by simpa using hm)
              have hG5 := And.intro (R_I1k.upd (R_I1k.upd (R_I1k.upd (R_I1k.upd HG.out.1 huo (by simp)) ((Upd.refl [] w4).alloc (.cells #[.slice xa s.sums.length ya, .slice xb (F s s.guard).length yb, es s.name, .slice x3 s.args.length y3, .slice x4 s.next.length y4] 56)) (by simp)) hv5 hgo) uZ hgz) ((((HG.out.2.upd huo (by simp)).upd ((Upd.refl [] w4).alloc (.cells #[.slice xa s.sums.length ya, .slice xb (F s s.guard).length yb, es s.name, .slice x3 s.args.length y3, .slice x4 s.next.length y4] 56)) (by simp)).upd hv5 hgo).upd uZ hgz)
              have HP := Lib.hid (And.intro (And.intro hacc2 hU5) (And.intro hrow5 hG5))
              clear hacc hacc2 uZ hU5 hrow5 hgo hgz hG5 hgg hnew hown5 hg5 hat5 hlt5 hv5 hr5 z2_5 y2_5 h75 c70_5 c71_5 c72_5 c73_5 c74_5 a3_5 hHeld
              clear huo hou4 hle4 hr4 hr4a z2_a y2_a z2_4 y2_4 c70_4 c71_4 c72_4 c73_4 c74_4 a3_4 z2_3 y2_3 c70_3 c71_3 c72_3 c73_3 c74_3 a3_3 z2_2 y2_2 c70_2 c71_2 c72_2 c73_2 c74_2 a3_2 z2_1 y2_1 c70_1 c71_1 c72_1 c73_1 c74_1 a3_1 z2 y2 c70 c71 c72 c73 c74 a3 a2 q0 q1 q2 q3 q4
              go_wp2_with fail
              go_roundw
              case rel => exact ⟨k + 1, _, by omega, by go_num, Lib.hid HP.out.1.2, Lib.hid HP.out.2.1, Lib.hid HP.out.1.1, Lib.hid HP.out.2.2⟩
              case measure => simp [intOf]; omega
            · skip
              go_simp
              refine (S3.out w2 hw2).mono ?_
              rintro e w3 ⟨⟨n3, rfl, hn3⟩, hu3⟩; obtain ⟨x3, y3, hv3⟩ := hn3.formP; rw [List.length_map] at hv3; subst hv3; have hw3 : Upd [] wB w3 := hw2.trans hu3; have c70_3 := hw3.keep c70; have c71_3 := hw3.keep c71; have c72_3 := hw3.keep c72; have c73_3 := hw3.keep c73; have c74_3 := hw3.keep c74; have a3_3 := hw3.keep a3; have z2_3 := hw3.keep z2; have y2_3 := (HrB.out.upd hw3 (by simp)).fz 2; have hs_3 := hw3.size
              refine hK.out _ _ ⟨c70_3, c71_3, c72_3, c73_3, c74_3, a3_3⟩ (fun hHeld => ?_)
              clear hK K
              try simp only [Act.put, List.getElem_toArray, List.getElem_cons_zero, List.getElem_cons_succ, List.setIfInBounds_toArray, List.set_cons_zero, List.set_cons_succ]
              refine wpAnyH_ready (rs := [1, 19]) (by kernel_rfl) (by simp) ?_
              refine AllReadyH.cons rfl (fun K hK => ?_) (AllReadyH.cons rfl (fun K hK => ?_) AllReadyH.nil)
              · skip
                go_simp
                refine hK.out _ _ (by first | exact hHeld | go_keep) (fun hHeld => ?_)
                clear hK K
                try simp only [Act.put, List.getElem_toArray, List.getElem_cons_zero, List.getElem_cons_succ, List.setIfInBounds_toArray, List.set_cons_zero, List.set_cons_succ]
                refine wpAnyH_ready (rs := [19]) (by kernel_rfl) (by simp) ?_
                refine AllReadyH.cons rfl (fun K hK => ?_) AllReadyH.nil
                go_simp
                refine (S4.out w3 hw3).mono ?_
                rintro e w4 ⟨⟨n4, rfl, hn4⟩, hu4⟩; obtain ⟨x4, y4, hv4⟩ := hn4.formP; rw [List.length_map] at hv4; subst hv4; have hw4 : Upd [] wB w4 := hw3.trans hu4; have c70_4 := hw4.keep c70; have c71_4 := hw4.keep c71; have c72_4 := hw4.keep c72; have c73_4 := hw4.keep c73; have c74_4 := hw4.keep c74; have a3_4 := hw4.keep a3; have z2_4 := hw4.keep z2; have y2_4 := (HrB.out.upd hw4 (by simp)).fz 2; have hs_4 := hw4.size; have huo : Upd [] wo w4 := HUB.out.trans hw4; have hou4 := ownsRow_upd HOW.out huo; have hle4 := huo.size; have hr4 := HrB.out.upd hw4 (by simp); have hr4a := hr4.upd ((Upd.refl [] w4).alloc (.cells #[.slice xa s.sums.length ya, .slice xb (F s s.guard).length yb, es s.name, .slice x3 s.args.length y3, .slice x4 s.next.length y4] 56)) (by simp); have z2_a := hr4a.cell 2 _ rfl; have y2_a := hr4a.fz 2
                refine hK.out _ _ ⟨c70_4, c71_4, c72_4, c73_4, c74_4, a3_4⟩ (fun hHeld => ?_)
                clear hK K
                try simp only [Act.put, List.getElem_toArray, List.getElem_cons_zero, List.getElem_cons_succ, List.setIfInBounds_toArray, List.set_cons_zero, List.set_cons_succ]
                refine wpAnyH_take (i := 20) (v := ?_) rfl (by kernel_rfl) (by kernel_rfl) (by kernel_rfl) (fun _ _ _ h => h) (Or.inl ⟨by rfl, ?_⟩) (by assumption) ?_
                rotate_left
                · (intro w hSw; (try dsimp only at hSw); go_simp)
                  first | done | with_reducible rfl
                try simp only [Act.put, List.getElem_toArray, List.getElem_cons_zero, List.getElem_cons_succ, List.setIfInBounds_toArray, List.set_cons_zero, List.set_cons_succ]
                refine wpAnyH_ready (rs := [21]) (by kernel_rfl) (by simp) ?_
                refine AllReadyH.cons rfl (fun K hK => ?_) AllReadyH.nil
                go_simp
                refine hK.out _ _ (by go_keep) (fun hHeld => ?_)
                clear hK K
                try simp only [Act.put, List.getElem_toArray, List.getElem_cons_zero, List.getElem_cons_succ, List.setIfInBounds_toArray, List.set_cons_zero, List.set_cons_succ]
                refine wpAnyH_ready (rs := [22]) (by kernel_rfl) (by simp) ?_
                refine AllReadyH.cons rfl (fun K hK => ?_) AllReadyH.nil
                refine step_append_lies _ (by rfl) _ _ 27 (by rfl) wA.heap.size 56 i0 (.agg #[.slice none 0 0, .slice none 0 0, .string ⟨#[]⟩, .slice none 0 0, .slice none 0 0]) 5 112 Try.underlying27 hi hz0 hz1 hz2 rfl (by decide) _ k us.flatten (by rfl) (hou4.alloc _) ⟨w4.heap.size, 0, none⟩ 1 1 [.slice xa s.sums.length ya, .slice xb (F s s.guard).length yb, es s.name, .slice x3 s.args.length y3, .slice x4 s.next.length y4] (by rfl) (by rfl) (by intro j u hj; rw [addr_add, Nat.zero_add]; exact cell_new w4 #[.slice xa s.sums.length ya, .slice xb (F s s.guard).length yb, es s.name, .slice x3 s.args.length y3, .slice x4 s.next.length y4] _ _ rfl j u (by simpa using hj)) (by simp [Value.oneCell']) (by decide) (by unfold maxLen; omega) (by omega) (by simp; omega) (w4.heap.size + 1) (by simp) ?_; intro g gcap w5 hown5 hg5 hat5 hlt5; have hv5 : Upd (Value.slice ca k cc).ownBlock.toList (w4.alloc (.cells #[.slice xa s.sums.length ya, .slice xb (F s s.guard).length yb, es s.name, .slice x3 s.args.length y3, .slice x4 s.next.length y4] 56)) w5 := (Upd.refl _ _).grown hg5 (fun k hk => Or.inr (by simp [hk])); have hr5 := hr4a.upd hv5 (by intro hm; exact HVZ.out Z (by simpa using hm) (by simp)); have z2_5 := hr5.cell 2 _ rfl; have y2_5 := hr5.fz 2; have h75 := ((H7.out.upd hw4 (by simp)).upd ((Upd.refl [] w4).alloc (.cells #[.slice xa s.sums.length ya, .slice xb (F s s.guard).length yb, es s.name, .slice x3 s.args.length y3, .slice x4 s.next.length y4] 56)) (by simp)).upd hv5 (by intro hm; have := (HOW.out.lt T7 (by simpa using hm)).2; have := HHT.out; omega); have c70_5 := h75.cell 0 _ rfl; have c71_5 := h75.cell 1 _ rfl; have c72_5 := h75.cell 2 _ rfl; have c73_5 := h75.cell 3 _ rfl; have c74_5 := h75.cell 4 _ rfl; have a3_5 := (((HT3.out.upd ((HU.out.trans HUB.out).trans hw4) (by simp)).upd ((Upd.refl [] w4).alloc (.cells #[.slice xa s.sums.length ya, .slice xb (F s s.guard).length yb, es s.name, .slice x3 s.args.length y3, .slice x4 s.next.length y4] 56)) (by simp)).upd hv5 (by intro hm; have := (HOW.out.lt (B + 1) (by simpa using hm)).1; omega)).cell 0 _ rfl
                refine hK.out _ _ ⟨c70_5, c71_5, c72_5, c73_5, c74_5, a3_5⟩ (fun hHeld => ?_)
                clear hK K
                try simp only [Act.put, List.getElem_toArray, List.getElem_cons_zero, List.getElem_cons_succ, List.setIfInBounds_toArray, List.set_cons_zero, List.set_cons_succ]
                refine wpAnyH_take (i := 23) (v := ?_) rfl (by kernel_rfl) (by kernel_rfl) (by kernel_rfl) (fun _ _ _ h => h) (Or.inl ⟨by rfl, ?_⟩) (by assumption) ?_
                rotate_left
                · (intro w hSw; (try dsimp only at hSw); go_simp)
                  first | done | with_reducible rfl
                try simp only [Act.put, List.getElem_toArray, List.getElem_cons_zero, List.getElem_cons_succ, List.setIfInBounds_toArray, List.set_cons_zero, List.set_cons_succ]
                refine wpAnyH_ready (rs := [24]) (by kernel_rfl) (by simp) ?_
                refine AllReadyH.cons rfl (fun K hK => ?_) AllReadyH.nil
                go_simp
                refine hK.out _ _ (by go_split_ands; refine ⟨?_, ?_, ?_, ?_, ?_, ?_⟩ <;> (rw [World.cell?_setCell_other _ _ _ _ (by intro h; simp only [Addr.mk.injEq] at h; omega)]; assumption)) (fun hHeld => ?_)
                clear hK K
                try simp only [Act.put, List.getElem_toArray, List.getElem_cons_zero, List.getElem_cons_succ, List.setIfInBounds_toArray, List.set_cons_zero, List.set_cons_succ]
                refine wpAnyH_done (by kernel_rfl) ?_ _
                have hgg : (w4.alloc (.cells #[.slice xa s.sums.length ya, .slice xb (F s s.guard).length yb, es s.name, .slice x3 s.args.length y3, .slice x4 s.next.length y4] 56)).grownBy w5 (Value.slice ca k cc).ownBlock := ⟨hg5.os, hg5.tape, hg5.output, hg5.size, hg5.block⟩
                have hnew := four_Sm (s := mapSm F s) (wo := wo) hn0 hn1 (by simpa [mapSm] using hn3) (by simpa [mapSm] using hn4) HUB.out.size hu1.size hu2 hu3 hu4
                have hacc := AccZ.push (w := wo) (ex := Z :: g0) R_Smk (by rw [HTL.out]; exact HOW.out) HRW.out HVZ.out HEX.out hszo huo hnew rfl (.cells #[.slice xa s.sums.length ya, .slice xb (F s s.guard).length yb, es s.name, .slice x3 s.args.length y3, .slice x4 s.next.length y4] 56) (by rw [HTL.out]; exact hown5) hgg (fun c hc => by
                  simp only [Value.ownBlock, Option.some.injEq] at hc
                  subst hc
                  rcases hat5 with h | h
                  · exact Or.inl h
                  · exact Or.inr (by simp; omega))
                rw [← HTK.out] at hacc
                have uZ : Upd [Z] w5 (w5.setCell ⟨Z, 2, none⟩ (.slice (some ⟨g, 0, none⟩) (k + 1) gcap)) := (Upd.refl _ _).setCell (Or.inr (by simp)) _
                have hacc2 := hacc.put R_Smk uZ (by simp)
                have hU5 : Upd [] wA (w5.setCell ⟨Z, 2, none⟩ (.slice (some ⟨g, 0, none⟩) (k + 1) gcap)) := (((HU.out.trans huo).alloc _).grown hgg (fun c hc => Or.inl (HOW.out.lt c hc).1)).setCell (Or.inl hZA) _
                have hrow5 : RowAt (w5.setCell ⟨Z, 2, none⟩ (.slice (some ⟨g, 0, none⟩) (k + 1) gcap)) Z 29 [ei x.pars, .slice x0 x.start.length y0, (.slice (some ⟨g, 0, none⟩) (k + 1) gcap)] := hr5.store 2 _
                have hgo : ∀ c ∈ g0, c ∉ (Value.slice ca k cc).ownBlock.toList := fun c hc hm => HVZ.out c (by simpa using hm) (by simp [hc])
                have hgz : ∀ c ∈ g0, c ∉ [Z] := fun c hc hm => (HBD.out c hc).2 (by simpa using hm)
                have hG5 := And.intro (R_I1k.upd (R_I1k.upd (R_I1k.upd (R_I1k.upd HG.out.1 huo (by simp)) ((Upd.refl [] w4).alloc (.cells #[.slice xa s.sums.length ya, .slice xb (F s s.guard).length yb, es s.name, .slice x3 s.args.length y3, .slice x4 s.next.length y4] 56)) (by simp)) hv5 hgo) uZ hgz) ((((HG.out.2.upd huo (by simp)).upd ((Upd.refl [] w4).alloc (.cells #[.slice xa s.sums.length ya, .slice xb (F s s.guard).length yb, es s.name, .slice x3 s.args.length y3, .slice x4 s.next.length y4] 56)) (by simp)).upd hv5 hgo).upd uZ hgz)
                have HP := Lib.hid (And.intro (And.intro hacc2 hU5) (And.intro hrow5 hG5))
                clear hacc hacc2 uZ hU5 hrow5 hgo hgz hG5 hgg hnew hown5 hg5 hat5 hlt5 hv5 hr5 z2_5 y2_5 h75 c70_5 c71_5 c72_5 c73_5 c74_5 a3_5 hHeld
                clear huo hou4 hle4 hr4 hr4a z2_a y2_a z2_4 y2_4 c70_4 c71_4 c72_4 c73_4 c74_4 a3_4 z2_3 y2_3 c70_3 c71_3 c72_3 c73_3 c74_3 a3_3 z2_2 y2_2 c70_2 c71_2 c72_2 c73_2 c74_2 a3_2 z2_1 y2_1 c70_1 c71_1 c72_1 c73_1 c74_1 a3_1 z2 y2 c70 c71 c72 c73 c74 a3 a2 q0 q1 q2 q3 q4
                go_wp2_with fail
                go_roundw
                case rel => exact ⟨k + 1, _, by omega, by go_num, Lib.hid HP.out.1.2, Lib.hid HP.out.2.1, Lib.hid HP.out.1.1, Lib.hid HP.out.2.2⟩
                case measure => simp [intOf]; omega
              · skip
                go_simp
                refine (S4.out w3 hw3).mono ?_
                rintro e w4 ⟨⟨n4, rfl, hn4⟩, hu4⟩; obtain ⟨x4, y4, hv4⟩ := hn4.formP; rw [List.length_map] at hv4; subst hv4; have hw4 : Upd [] wB w4 := hw3.trans hu4; have c70_4 := hw4.keep c70; have c71_4 := hw4.keep c71; have c72_4 := hw4.keep c72; have c73_4 := hw4.keep c73; have c74_4 := hw4.keep c74; have a3_4 := hw4.keep a3; have z2_4 := hw4.keep z2; have y2_4 := (HrB.out.upd hw4 (by simp)).fz 2; have hs_4 := hw4.size; have huo : Upd [] wo w4 := HUB.out.trans hw4; have hou4 := ownsRow_upd HOW.out huo; have hle4 := huo.size; have hr4 := HrB.out.upd hw4 (by simp); have hr4a := hr4.upd ((Upd.refl [] w4).alloc (.cells #[.slice xa s.sums.length ya, .slice xb (F s s.guard).length yb, es s.name, .slice x3 s.args.length y3, .slice x4 s.next.length y4] 56)) (by simp); have z2_a := hr4a.cell 2 _ rfl; have y2_a := hr4a.fz 2
                refine hK.out _ _ ⟨c70_4, c71_4, c72_4, c73_4, c74_4, a3_4⟩ (fun hHeld => ?_)
                clear hK K
                try simp only [Act.put, List.getElem_toArray, List.getElem_cons_zero, List.getElem_cons_succ, List.setIfInBounds_toArray, List.set_cons_zero, List.set_cons_succ]
                refine wpAnyH_take (i := 20) (v := ?_) rfl (by kernel_rfl) (by kernel_rfl) (by kernel_rfl) (fun _ _ _ h => h) (Or.inl ⟨by rfl, ?_⟩) (by assumption) ?_
                rotate_left
                · (intro w hSw; (try dsimp only at hSw); go_simp)
                  first | done | with_reducible rfl
                try simp only [Act.put, List.getElem_toArray, List.getElem_cons_zero, List.getElem_cons_succ, List.setIfInBounds_toArray, List.set_cons_zero, List.set_cons_succ]
                refine wpAnyH_ready (rs := [1, 21]) (by kernel_rfl) (by simp) ?_
                refine AllReadyH.cons rfl (fun K hK => ?_) (AllReadyH.cons rfl (fun K hK => ?_) AllReadyH.nil)
                · skip
                  go_simp
                  refine hK.out _ _ (by first | exact hHeld | go_keep) (fun hHeld => ?_)
                  clear hK K
                  try simp only [Act.put, List.getElem_toArray, List.getElem_cons_zero, List.getElem_cons_succ, List.setIfInBounds_toArray, List.set_cons_zero, List.set_cons_succ]
                  refine wpAnyH_ready (rs := [21]) (by kernel_rfl) (by simp) ?_
                  refine AllReadyH.cons rfl (fun K hK => ?_) AllReadyH.nil
                  go_simp
                  refine hK.out _ _ (by go_keep) (fun hHeld => ?_)
                  clear hK K
                  try simp only [Act.put, List.getElem_toArray, List.getElem_cons_zero, List.getElem_cons_succ, List.setIfInBounds_toArray, List.set_cons_zero, List.set_cons_succ]
                  refine wpAnyH_ready (rs := [22]) (by kernel_rfl) (by simp) ?_
                  refine AllReadyH.cons rfl (fun K hK => ?_) AllReadyH.nil
                  refine step_append_lies _ (by rfl) _ _ 27 (by rfl) wA.heap.size 56 i0 (.agg #[.slice none 0 0, .slice none 0 0, .string ⟨#[]⟩, .slice none 0 0, .slice none 0 0]) 5 112 Try.underlying27 hi hz0 hz1 hz2 rfl (by decide) _ k us.flatten (by rfl) (hou4.alloc _) ⟨w4.heap.size, 0, none⟩ 1 1 [.slice xa s.sums.length ya, .slice xb (F s s.guard).length yb, es s.name, .slice x3 s.args.length y3, .slice x4 s.next.length y4] (by rfl) (by rfl) (by intro j u hj; rw [addr_add, Nat.zero_add]; exact cell_new w4 #[.slice xa s.sums.length ya, .slice xb (F s s.guard).length yb, es s.name, .slice x3 s.args.length y3, .slice x4 s.next.length y4] _ _ rfl j u (by simpa using hj)) (by simp [Value.oneCell']) (by decide) (by unfold maxLen; omega) (by omega) (by simp; omega) (w4.heap.size + 1) (by simp) ?_; intro g gcap w5 hown5 hg5 hat5 hlt5; have hv5 : Upd (Value.slice ca k cc).ownBlock.toList (w4.alloc (.cells #[.slice xa s.sums.length ya, .slice xb (F s s.guard).length yb, es s.name, .slice x3 s.args.length y3, .slice x4 s.next.length y4] 56)) w5 := (Upd.refl _ _).grown hg5 (fun k hk => Or.inr (by simp [hk])); have hr5 := hr4a.upd hv5 (by intro hm; exact HVZ.out Z (by simpa using hm) (by simp)); have z2_5 := hr5.cell 2 _ rfl; have y2_5 := hr5.fz 2; have h75 := ((H7.out.upd hw4 (by simp)).upd ((Upd.refl [] w4).alloc (.cells #[.slice xa s.sums.length ya, .slice xb (F s s.guard).length yb, es s.name, .slice x3 s.args.length y3, .slice x4 s.next.length y4] 56)) (by simp)).upd hv5 (by intro hm; have := (HOW.out.lt T7 (by simpa using hm)).2; have := HHT.out; omega); have c70_5 := h75.cell 0 _ rfl; have c71_5 := h75.cell 1 _ rfl; have c72_5 := h75.cell 2 _ rfl; have c73_5 := h75.cell 3 _ rfl; have c74_5 := h75.cell 4 _ rfl; have a3_5 := (((HT3.out.upd ((HU.out.trans HUB.out).trans hw4) (by simp)).upd ((Upd.refl [] w4).alloc (.cells #[.slice xa s.sums.length ya, .slice xb (F s s.guard).length yb, es s.name, .slice x3 s.args.length y3, .slice x4 s.next.length y4] 56)) (by simp)).upd hv5 (by intro hm; have := (HOW.out.lt (B + 1) (by simpa using hm)).1; omega)).cell 0 _ rfl
                  refine hK.out _ _ ⟨c70_5, c71_5, c72_5, c73_5, c74_5, a3_5⟩ (fun hHeld => ?_)
                  clear hK K
                  try simp only [Act.put, List.getElem_toArray, List.getElem_cons_zero, List.getElem_cons_succ, List.setIfInBounds_toArray, List.set_cons_zero, List.set_cons_succ]
                  refine wpAnyH_take (i := 23) (v := ?_) rfl (by kernel_rfl) (by kernel_rfl) (by kernel_rfl) (fun _ _ _ h => h) (Or.inl ⟨by rfl, ?_⟩) (by assumption) ?_
                  rotate_left
                  · (intro w hSw; (try dsimp only at hSw); go_simp)
                    first | done | with_reducible rfl
                  try simp only [Act.put, List.getElem_toArray, List.getElem_cons_zero, List.getElem_cons_succ, List.setIfInBounds_toArray, List.set_cons_zero, List.set_cons_succ]
                  refine wpAnyH_ready (rs := [24]) (by kernel_rfl) (by simp) ?_
                  refine AllReadyH.cons rfl (fun K hK => ?_) AllReadyH.nil
                  go_simp
                  refine hK.out _ _ (by go_split_ands; refine ⟨?_, ?_, ?_, ?_, ?_, ?_⟩ <;> (rw [World.cell?_setCell_other _ _ _ _ (by intro h; simp only [Addr.mk.injEq] at h; omega)]; assumption)) (fun hHeld => ?_)
                  clear hK K
                  try simp only [Act.put, List.getElem_toArray, List.getElem_cons_zero, List.getElem_cons_succ, List.setIfInBounds_toArray, List.set_cons_zero, List.set_cons_succ]
                  refine wpAnyH_done (by kernel_rfl) ?_ _
                  have hgg : (w4.alloc (.cells #[.slice xa s.sums.length ya, .slice xb (F s s.guard).length yb, es s.name, .slice x3 s.args.length y3, .slice x4 s.next.length y4] 56)).grownBy w5 (Value.slice ca k cc).ownBlock := ⟨hg5.os, hg5.tape, hg5.output, hg5.size, hg5.block⟩
                  have hnew := four_Sm (s := mapSm F s) (wo := wo) hn0 hn1 (by simpa [mapSm] using hn3) (by simpa [mapSm] using hn4) HUB.out.size hu1.size hu2 hu3 hu4
                  have hacc := AccZ.push (w := wo) (ex := Z :: g0) R_Smk (by rw [HTL.out]; exact HOW.out) HRW.out HVZ.out HEX.out hszo huo hnew rfl (.cells #[.slice xa s.sums.length ya, .slice xb (F s s.guard).length yb, es s.name, .slice x3 s.args.length y3, .slice x4 s.next.length y4] 56) (by rw [HTL.out]; exact hown5) hgg (fun c hc => by
                    simp only [Value.ownBlock, Option.some.injEq] at hc
                    subst hc
                    rcases hat5 with h | h
                    · exact Or.inl h
                    · exact Or.inr (by simp; omega))
                  rw [← HTK.out] at hacc
                  have uZ : Upd [Z] w5 (w5.setCell ⟨Z, 2, none⟩ (.slice (some ⟨g, 0, none⟩) (k + 1) gcap)) := (Upd.refl _ _).setCell (Or.inr (by simp)) _
                  have hacc2 := hacc.put R_Smk uZ (by simp)
                  have hU5 : Upd [] wA (w5.setCell ⟨Z, 2, none⟩ (.slice (some ⟨g, 0, none⟩) (k + 1) gcap)) := (((HU.out.trans huo).alloc _).grown hgg (fun c hc => Or.inl (HOW.out.lt c hc).1)).setCell (Or.inl hZA) _
                  have hrow5 : RowAt (w5.setCell ⟨Z, 2, none⟩ (.slice (some ⟨g, 0, none⟩) (k + 1) gcap)) Z 29 [ei x.pars, .slice x0 x.start.length y0, (.slice (some ⟨g, 0, none⟩) (k + 1) gcap)] := hr5.store 2 _
                  have hgo : ∀ c ∈ g0, c ∉ (Value.slice ca k cc).ownBlock.toList := fun c hc hm => HVZ.out c (by simpa using hm) (by simp [hc])
                  have hgz : ∀ c ∈ g0, c ∉ [Z] := fun c hc hm => (HBD.out c hc).2 (by simpa using hm)
                  have hG5 := And.intro (R_I1k.upd (R_I1k.upd (R_I1k.upd (R_I1k.upd HG.out.1 huo (by simp)) ((Upd.refl [] w4).alloc (.cells #[.slice xa s.sums.length ya, .slice xb (F s s.guard).length yb, es s.name, .slice x3 s.args.length y3, .slice x4 s.next.length y4] 56)) (by simp)) hv5 hgo) uZ hgz) ((((HG.out.2.upd huo (by simp)).upd ((Upd.refl [] w4).alloc (.cells #[.slice xa s.sums.length ya, .slice xb (F s s.guard).length yb, es s.name, .slice x3 s.args.length y3, .slice x4 s.next.length y4] 56)) (by simp)).upd hv5 hgo).upd uZ hgz)
                  have HP := Lib.hid (And.intro (And.intro hacc2 hU5) (And.intro hrow5 hG5))
                  clear hacc hacc2 uZ hU5 hrow5 hgo hgz hG5 hgg hnew hown5 hg5 hat5 hlt5 hv5 hr5 z2_5 y2_5 h75 c70_5 c71_5 c72_5 c73_5 c74_5 a3_5 hHeld
                  clear huo hou4 hle4 hr4 hr4a z2_a y2_a z2_4 y2_4 c70_4 c71_4 c72_4 c73_4 c74_4 a3_4 z2_3 y2_3 c70_3 c71_3 c72_3 c73_3 c74_3 a3_3 z2_2 y2_2 c70_2 c71_2 c72_2 c73_2 c74_2 a3_2 z2_1 y2_1 c70_1 c71_1 c72_1 c73_1 c74_1 a3_1 z2 y2 c70 c71 c72 c73 c74 a3 a2 q0 q1 q2 q3 q4
                  go_wp2_with fail
                  go_roundw
                  case rel => exact ⟨k + 1, _, by omega, by go_num, Lib.hid HP.out.1.2, Lib.hid HP.out.2.1, Lib.hid HP.out.1.1, Lib.hid HP.out.2.2⟩
                  case measure => simp [intOf]; omega
                · skip
                  go_simp
                  refine hK.out _ _ (by go_keep) (fun hHeld => ?_)
                  clear hK K
                  try simp only [Act.put, List.getElem_toArray, List.getElem_cons_zero, List.getElem_cons_succ, List.setIfInBounds_toArray, List.set_cons_zero, List.set_cons_succ]
                  refine wpAnyH_ready (rs := [1]) (by kernel_rfl) (by simp) ?_
                  refine AllReadyH.cons rfl (fun K hK => ?_) AllReadyH.nil
                  go_simp
                  refine hK.out _ _ (by first | exact hHeld | go_keep) (fun hHeld => ?_)
                  clear hK K
                  try simp only [Act.put, List.getElem_toArray, List.getElem_cons_zero, List.getElem_cons_succ, List.setIfInBounds_toArray, List.set_cons_zero, List.set_cons_succ]
                  refine wpAnyH_ready (rs := [22]) (by kernel_rfl) (by simp) ?_
                  refine AllReadyH.cons rfl (fun K hK => ?_) AllReadyH.nil
                  refine step_append_lies _ (by rfl) _ _ 27 (by rfl) wA.heap.size 56 i0 (.agg #[.slice none 0 0, .slice none 0 0, .string ⟨#[]⟩, .slice none 0 0, .slice none 0 0]) 5 112 Try.underlying27 hi hz0 hz1 hz2 rfl (by decide) _ k us.flatten (by rfl) (hou4.alloc _) ⟨w4.heap.size, 0, none⟩ 1 1 [.slice xa s.sums.length ya, .slice xb (F s s.guard).length yb, es s.name, .slice x3 s.args.length y3, .slice x4 s.next.length y4] (by rfl) (by rfl) (by intro j u hj; rw [addr_add, Nat.zero_add]; exact cell_new w4 #[.slice xa s.sums.length ya, .slice xb (F s s.guard).length yb, es s.name, .slice x3 s.args.length y3, .slice x4 s.next.length y4] _ _ rfl j u (by simpa using hj)) (by simp [Value.oneCell']) (by decide) (by unfold maxLen; omega) (by omega) (by simp; omega) (w4.heap.size + 1) (by simp) ?_; intro g gcap w5 hown5 hg5 hat5 hlt5; have hv5 : Upd (Value.slice ca k cc).ownBlock.toList (w4.alloc (.cells #[.slice xa s.sums.length ya, .slice xb (F s s.guard).length yb, es s.name, .slice x3 s.args.length y3, .slice x4 s.next.length y4] 56)) w5 := (Upd.refl _ _).grown hg5 (fun k hk => Or.inr (by simp [hk])); have hr5 := hr4a.upd hv5 (by intro hm; exact HVZ.out Z (by simpa using hm) (by simp)); have z2_5 := hr5.cell 2 _ rfl; have y2_5 := hr5.fz 2; have h75 := ((H7.out.upd hw4 (by simp)).upd ((Upd.refl [] w4).alloc (.cells #[.slice xa s.sums.length ya, .slice xb (F s s.guard).length yb, es s.name, .slice x3 s.args.length y3, .slice x4 s.next.length y4] 56)) (by simp)).upd hv5 (by intro hm; have := (HOW.out.lt T7 (by simpa using hm)).2; have := HHT.out; omega); have c70_5 := h75.cell 0 _ rfl; have c71_5 := h75.cell 1 _ rfl; have c72_5 := h75.cell 2 _ rfl; have c73_5 := h75.cell 3 _ rfl; have c74_5 := h75.cell 4 _ rfl; have a3_5 := (((HT3.out.upd ((HU.out.trans HUB.out).trans hw4) (by simp)).upd ((Upd.refl [] w4).alloc (.cells #[.slice xa s.sums.length ya, .slice xb (F s s.guard).length yb, es s.name, .slice x3 s.args.length y3, .slice x4 s.next.length y4] 56)) (by simp)).upd hv5 (by intro hm; have := (HOW.out.lt (B + 1) (by simpa using hm)).1; omega)).cell 0 _ rfl
                  refine hK.out _ _ ⟨c70_5, c71_5, c72_5, c73_5, c74_5, a3_5⟩ (fun hHeld => ?_)
                  clear hK K
                  try simp only [Act.put, List.getElem_toArray, List.getElem_cons_zero, List.getElem_cons_succ, List.setIfInBounds_toArray, List.set_cons_zero, List.set_cons_succ]
                  refine wpAnyH_take (i := 23) (v := ?_) rfl (by kernel_rfl) (by kernel_rfl) (by kernel_rfl) (fun _ _ _ h => h) (Or.inl ⟨by rfl, ?_⟩) (by assumption) ?_
                  rotate_left
                  · (intro w hSw; (try dsimp only at hSw); go_simp)
                    first | done | with_reducible rfl
                  try simp only [Act.put, List.getElem_toArray, List.getElem_cons_zero, List.getElem_cons_succ, List.setIfInBounds_toArray, List.set_cons_zero, List.set_cons_succ]
                  refine wpAnyH_ready (rs := [24]) (by kernel_rfl) (by simp) ?_
                  refine AllReadyH.cons rfl (fun K hK => ?_) AllReadyH.nil
                  go_simp
                  refine hK.out _ _ (by go_split_ands; refine ⟨?_, ?_, ?_, ?_, ?_, ?_⟩ <;> (rw [World.cell?_setCell_other _ _ _ _ (by intro h; simp only [Addr.mk.injEq] at h; omega)]; assumption)) (fun hHeld => ?_)
                  clear hK K
                  try simp only [Act.put, List.getElem_toArray, List.getElem_cons_zero, List.getElem_cons_succ, List.setIfInBounds_toArray, List.set_cons_zero, List.set_cons_succ]
                  refine wpAnyH_done (by kernel_rfl) ?_ _
                  have hgg : (w4.alloc (.cells #[.slice xa s.sums.length ya, .slice xb (F s s.guard).length yb, es s.name, .slice x3 s.args.length y3, .slice x4 s.next.length y4] 56)).grownBy w5 (Value.slice ca k cc).ownBlock := ⟨hg5.os, hg5.tape, hg5.output, hg5.size, hg5.block⟩
                  have hnew := four_Sm (s := mapSm F s) (wo := wo) hn0 hn1 (by simpa [mapSm] using hn3) (by simpa [mapSm] using hn4) HUB.out.size hu1.size hu2 hu3 hu4
                  have hacc := AccZ.push (w := wo) (ex := Z :: g0) R_Smk (by rw [HTL.out]; exact HOW.out) HRW.out HVZ.out HEX.out hszo huo hnew rfl (.cells #[.slice xa s.sums.length ya, .slice xb (F s s.guard).length yb, es s.name, .slice x3 s.args.length y3, .slice x4 s.next.length y4] 56) (by rw [HTL.out]; exact hown5) hgg (fun c hc => by
                    simp only [Value.ownBlock, Option.some.injEq] at hc
                    subst hc
                    rcases hat5 with h | h
                    · exact Or.inl h
                    · exact Or.inr (by simp; omega))
                  rw [← HTK.out] at hacc
                  have uZ : Upd [Z] w5 (w5.setCell ⟨Z, 2, none⟩ (.slice (some ⟨g, 0, none⟩) (k + 1) gcap)) := (Upd.refl _ _).setCell (Or.inr (by simp)) _
                  have hacc2 := hacc.put R_Smk uZ (by simp)
                  have hU5 : Upd [] wA (w5.setCell ⟨Z, 2, none⟩ (.slice (some ⟨g, 0, none⟩) (k + 1) gcap)) := (((HU.out.trans huo).alloc _).grown hgg (fun c hc => Or.inl (HOW.out.lt c hc).1)).setCell (Or.inl hZA) _
                  have hrow5 : RowAt (w5.setCell ⟨Z, 2, none⟩ (.slice (some ⟨g, 0, none⟩) (k + 1) gcap)) Z 29 [ei x.pars, .slice x0 x.start.length y0, (.slice (some ⟨g, 0, none⟩) (k + 1) gcap)] := hr5.store 2 _
                  have hgo : ∀ c ∈ g0, c ∉ (Value.slice ca k cc).ownBlock.toList := fun c hc hm => HVZ.out c (by simpa using hm) (by simp [hc])
                  have hgz : ∀ c ∈ g0, c ∉ [Z] := fun c hc hm => (HBD.out c hc).2 (by simpa using hm)
                  have hG5 := And.intro (R_I1k.upd (R_I1k.upd (R_I1k.upd (R_I1k.upd HG.out.1 huo (by simp)) ((Upd.refl [] w4).alloc (.cells #[.slice xa s.sums.length ya, .slice xb (F s s.guard).length yb, es s.name, .slice x3 s.args.length y3, .slice x4 s.next.length y4] 56)) (by simp)) hv5 hgo) uZ hgz) ((((HG.out.2.upd huo (by simp)).upd ((Upd.refl [] w4).alloc (.cells #[.slice xa s.sums.length ya, .slice xb (F s s.guard).length yb, es s.name, .slice x3 s.args.length y3, .slice x4 s.next.length y4] 56)) (by simp)).upd hv5 hgo).upd uZ hgz)
                  have HP := Lib.hid (And.intro (And.intro hacc2 hU5) (And.intro hrow5 hG5))
                  clear hacc hacc2 uZ hU5 hrow5 hgo hgz hG5 hgg hnew hown5 hg5 hat5 hlt5 hv5 hr5 z2_5 y2_5 h75 c70_5 c71_5 c72_5 c73_5 c74_5 a3_5 hHeld
                  clear huo hou4 hle4 hr4 hr4a z2_a y2_a z2_4 y2_4 c70_4 c71_4 c72_4 c73_4 c74_4 a3_4 z2_3 y2_3 c70_3 c71_3 c72_3 c73_3 c74_3 a3_3 z2_2 y2_2 c70_2 c71_2 c72_2 c73_2 c74_2 a3_2 z2_1 y2_1 c70_1 c71_1 c72_1 c73_1 c74_1 a3_1 z2 y2 c70 c71 c72 c73 c74 a3 a2 q0 q1 q2 q3 q4
                  go_wp2_with fail
                  go_roundw
                  case rel => exact ⟨k + 1, _, by omega, by go_num, Lib.hid HP.out.1.2, Lib.hid HP.out.2.1, Lib.hid HP.out.1.1, Lib.hid HP.out.2.2⟩
                  case measure => simp [intOf]; omega
      · obtain rfl : k = x.sms.length := by omega
        have ha := HAC.out
        rw [List.take_length] at ha
        obtain ⟨fs, hsl, hso, hsb⟩ := ha.new (w0 := wA) rfl
        obtain ⟨ca, cc, hcv⟩ := ha.form
        rw [List.length_map] at hcv
        subst hcv
        have hr5 := HR.out
        have hres := HA.out.upd HU.out (by simp)
        unfold RowAt at hr5 hres
        have HS := Lib.hid (And.intro hsl (And.intro hso hsb))
        clear ha hsl hso hsb HAC
        go_wp2_with (first
          | (refine wpList_load_row rfl 29 _ rfl Z rfl 29 #[ei x.pars, .slice x0 x.start.length y0, .slice ca x.sms.length cc] (0, 0) _ hr5 Try.underlying29 rfl Ln_size ?_)
          | (refine wpList_store_row rfl 29 _ _ rfl (B + 2) #[ei x.pars, .slice x0 x.start.length y0, .slice ca x.sms.length cc] rfl rfl 29 _ hres Ln_size rfl (by simp [Value.oneCell']) ?_)
          | fail)
        have hC := setRow_heap wo (B + 2) _ #[ei x.pars, .slice x0 x.start.length y0, .slice ca x.sms.length cc] _ _ hres
        refine bodyPost_ret (results_cell_row Try.results41 _ _ (B + 2) 29 _ (0, 0) _ rfl hC Try.underlying29 rfl Ln_size) rfl ?_
        have hB := HBB.out
        have hszw := UA.out.size
        have DB : Upd [B + 2] wo (wo.setRow (B + 2) #[ei x.pars, .slice x0 x.start.length y0, .slice ca x.sms.length cc]) := (Upd.refl _ _).row (Or.inr (by simp)) _
        have UE : Upd [] w (wo.setRow (B + 2) #[ei x.pars, .slice x0 x.start.length y0, .slice ca x.sms.length cc]) := (UA.out.trans HU.out).row (Or.inl (by omega)) _
        refine ⟨⟨[ei x.pars, .slice x0 x.start.length y0, .slice ca x.sms.length cc], rfl, rfl, by simp [Value.oneCell'], ?_⟩, UE⟩
        obtain ⟨hsl, hso, hsb⟩ := HS.out
        have d0 : ∀ c ∈ g0, c ∉ [B + 2] := fun c hc hm => by have := HBD.out c hc; simp at hm; omega
        have d1 : ∀ c ∈ fs, c ∉ [B + 2] := fun c hc hm => by have := hsb c hc; simp at hm; omega
        refine ⟨g0 ++ fs, ⟨_, _, g0, fs, rfl, R_I1k.upd HG.out.1 DB d0, R_Sm1k.upd hsl DB d1, rfl⟩, own_join (HG.out.2.upd DB d0) (hso.upd DB d1) (fun c h1 h2 => (hsb c h2).2 (by simp [h1])), fun c hc => ?_⟩
        rcases List.mem_append.1 hc with hc | hc
        · have := HBD.out c hc; omega
        · have := hsb c hc; omega
end Go.Proofs.Ytnfghgaadnobbaa
