/-
  The expressions that the reference draws.
-/
import Derived.Test.YtnioopbficcbeaaFoldS
import Derived.Test.YtnioopbficcbeaaSrc
import Derived.Test.YtnioopbficcbeaaOpenB
namespace Go.Proofs.Ytnioopbficcbeaa
open Go.RowKit

set_option maxRecDepth 20000 in
theorem srcAmong (N p : Nat) (b off cap len : Nat) (xs : List Int) (w : World) (f : List Nat) (hN : N ≤ 800000000) (h : IsSrc N p w) (hl : xs.length = len) (h0 : 0 < len) (hlen : len ≤ 100)
    (hR : R1 f w [.slice (some ⟨b, off, none⟩) len cap] xs) (hb : p ∉ f) :
    Calls Try.prog 50 #[.pointer (some ⟨p, 0, none⟩), .slice (some ⟨b, off, none⟩) len cap] w fun e w' => (∃ x, e = .returned (.int .i64 x) ∧ x ∈ xs) ∧ IsSrc (N + 2) p w' ∧ Upd [p] w w' := by
  have S1 := Lib.hid (srcPick N p len w (by omega) h (by omega) (by omega))
  obtain ⟨_, _, hv, h1, h2, -⟩ := slF1_open hR
  subst hl
  simp only [Value.slice.injEq] at hv
  obtain ⟨rfl, -, rfl⟩ := hv
  unfold maxLen at h2
  have HR := Lib.hid hR
  clear h hR
  go_enter Try.func50, Try.ntmps50
  go_wp2_with fail
  refine S1.out.mono ?_
  rintro e w1 ⟨⟨q, rfl, hq0, hq1⟩, hs1, hu1⟩
  obtain ⟨Q, rfl⟩ : ∃ Q : Nat, q = Q := ⟨q.toNat, by omega⟩
  have hQ : Q < xs.length := by omega
  have hR1 := (slF_kept _ _).upd HR.out hu1 (fun c hc hm => by simp at hm; subst hm; exact hb hc)
  obtain ⟨_, _, hv, -, -, hc⟩ := slF1_open hR1
  simp only [Value.slice.injEq] at hv
  obtain ⟨rfl, -, rfl⟩ := hv
  obtain ⟨_, _, hv, -, -, hcell⟩ := hc Q hQ
  simp only [Option.some.injEq, Addr.mk.injEq, and_true] at hv
  obtain ⟨rfl, rfl⟩ := hv
  have HM := Lib.hid (show xs[Q] ∈ xs by simp)
  have HS := Lib.hid (And.intro hs1 hu1)
  generalize xs[Q] = z at *
  clear hs1 hu1 hR1 hc S1
  go_wp2_with fail
  go_ret
  exact ⟨⟨z, rfl, HM.out⟩, HS.out.1, HS.out.2⟩

def DrawP (w : World) (p N : Nat) (nv most : Int) (e : Ending) (w' : World) : Prop :=
  (∃ (v' : Value) (x : Ex), e = .returned v' ∧ goodE nv x = true ∧ ((flatE x).length : Int) ≤ 2 * most + 1 ∧ New R_T1 w w' v' (flatE x)) ∧ IsSrc (N + 20 * (2 * most.toNat + 1)) p w' ∧ Upd [p] w w'

theorem draw_leaf {w w' : World} {p N M : Nat} {nv most : Int} {e : TypeId} {a b : Int} (hm : 0 ≤ most) (ht : tOk (a, b) nv = true) (h0 : a = 0 ∨ a = 1) (hs : IsSrc M p w') (hu : Upd [p] w w') (hM : M ≤ N + 20) :
    DrawP w p N nv most (.returned (.slice (some ⟨w'.heap.size, 0, none⟩) 1 1)) (w'.alloc (.cells #[ei a, ei b] e)) := by
  have hn : New R_T1 w' (w'.alloc (.cells #[ei a, ei b] e)) (.slice (some ⟨w'.heap.size, 0, none⟩) 1 1) [(a, b)] :=
    New.ofOwns2 (e := e) (by simpa using World.ownsRow_lit (base := w'.heap.size) (e := e) (size := 2) w' #[ei a, ei b] 1 (Nat.le_refl _) (by simp [maxLen]) (by simp))
  refine ⟨⟨_, .mk (a, b) [], rfl, ?_, ?_, ?_⟩, (hs.upd ((Upd.refl _ _).alloc _)).mono (by omega), hu.alloc _⟩
  · rw [goodE_mk]
    have : arity (a, b) = 0 := by rcases h0 with rfl | rfl <;> simp [arity]
    simp [this, ht, goodEs, okEs, flatEs]
  · simp [flatE, flatEs]; omega
  · exact (show New R_T1 w' _ _ (flatE (.mk (a, b) [])) from by simpa [flatE, flatEs] using hn).mono hu.size

set_option maxRecDepth 40000 in
set_option maxHeartbeats 8000000 in
theorem drawE (n : Nat) : ∀ (most nv : Int) (N p : Nat) (w : World), most ≤ n → 0 ≤ most → most ≤ 20 → 0 ≤ nv → nv ≤ 29 → N + 20 * (2 * most.toNat + 1) ≤ 1000000 → IsSrc N p w →
    Calls Try.prog 40 #[.pointer (some ⟨p, 0, none⟩), .int .i64 nv, .int .i64 most] w (DrawP w p N nv most) := by
  induction n with
  | zero =>
    intro most nv N p w hn hm0 hm20 hv0 hv29 hN hs
    obtain rfl : most = 0 := by omega
    have HS0 := Lib.hid (And.intro hs (Upd.refl [p] w))
    have most0 : ∃ most : Int, most = 0 := ⟨0, rfl⟩
    clear hs most0
    go_enter Try.func40, Try.ntmps40
    by_cases hv : 0 < nv
    · have Q1 := Lib.hid (srcPick (N) p 3 w (by omega) HS0.out.1 (by omega) (by omega))
      go_wp2_with fail
      refine Q1.out.mono ?_
      rintro e wl1 ⟨⟨x, rfl, hx0, hx1⟩, hsl, hul⟩
      have HL1 := Lib.hid (And.intro hsl (HS0.out.2.trans hul))
      have hpl1 := hsl.lt
      clear hsl hul Q1
      by_cases hx : 0 < x
      · have Q2 := Lib.hid (srcPick (N + 2) p nv wl1 (by omega) HL1.out.1 (by omega) (by omega))
        go_wp2_with fail
        refine Q2.out.mono ?_
        rintro e wl2 ⟨⟨y, rfl, hy0, hy1⟩, hsl, hul⟩
        have HF := Lib.hid (draw_leaf (w := w) (N := N) (most := 0) (nv := nv) (e := 48) (a := 1) (b := y) hm0 (by simp [tOk]; exact inB_mk ⟨by omega, by omega⟩) (Or.inr rfl) hsl (HL1.out.2.trans hul) (by omega))
        clear hsl hul Q2
        go_wp2_with fail
        go_ret
        exact HF.out
      · skip
        have P1 := Lib.hid (srcPick (N + 2) p 5 wl1 (by omega) HL1.out.1 (by omega) (by omega))
        go_wp2_with fail
        refine P1.out.mono ?_
        rintro e wn1 ⟨⟨y, rfl, hy0, hy1⟩, hsn, hun⟩
        have HN1 := Lib.hid (And.intro hsn (HL1.out.2.trans hun))
        have hpn := hsn.lt
        clear hsn hun P1
        have P2 := Lib.hid (srcOne (N + 2 + 2) p 6 wn1 (by omega) HN1.out.1 (by omega) (by omega))
        go_wp2_with fail
        refine P2.out.mono ?_
        rintro e wn2 ⟨⟨bb, rfl⟩, hsn, hun⟩
        have HN2 := Lib.hid (And.intro hsn (HN1.out.2.trans hun))
        have hpn2 := hsn.lt
        clear hsn hun P2
        cases bb
        · have HF := Lib.hid (draw_leaf (w := w) (N := N) (most := 0) (nv := nv) (e := 48) (a := 0) (b := y) hm0 (by simp only [tOk, if_true]; exact inB_mk ⟨by omega, by omega⟩) (Or.inl rfl) HN2.out.1 HN2.out.2 (by omega))
          go_wp2_with fail
          go_ret
          exact HF.out
        · obtain ⟨fl, hfl, -, hge⟩ := new_lit (enc := fun n => ei n) wn2 2 [63, 32, 8, 62] (by simp [maxLen])
          have hsl := HN2.out.1.upd ((Upd.refl [] wn2).alloc (.cells #[ei 63, ei 32, ei 8, ei 62] 2))
          have P3 := Lib.hid (srcAmong (N + 2 + 2 + 2) p wn2.heap.size 0 4 4 [63, 32, 8, 62] _ fl (by omega) hsl rfl (by omega) (by omega) hfl (fun hm => by have := hge p hm; omega))
          have hul : Upd [p] w (wn2.alloc (.cells #[ei 63, ei 32, ei 8, ei 62] 2)) := HN2.out.2.alloc _
          have HUL := Lib.hid hul
          clear hfl hge hsl hul
          go_wp2_with fail
          refine P3.out.mono ?_
          rintro e wn3 ⟨⟨z, rfl, hz⟩, hsn, hun⟩
          have hz' : 0 ≤ z ∧ z ≤ 63 := by simp at hz; omega
          have HF := Lib.hid (draw_leaf (w := w) (N := N) (most := 0) (nv := nv) (e := 48) (a := 0) (b := z) hm0 (by simp only [tOk, if_true]; exact inB_mk hz') (Or.inl rfl) hsn (HUL.out.trans hun) (by omega))
          clear hsn hun P3 hz
          go_wp2_with fail
          go_ret
          exact HF.out
    · skip
      have P1 := Lib.hid (srcPick (N) p 5 w (by omega) HS0.out.1 (by omega) (by omega))
      go_wp2_with fail
      refine P1.out.mono ?_
      rintro e wn1 ⟨⟨y, rfl, hy0, hy1⟩, hsn, hun⟩
      have HN1 := Lib.hid (And.intro hsn (HS0.out.2.trans hun))
      have hpn := hsn.lt
      clear hsn hun P1
      have P2 := Lib.hid (srcOne (N + 2) p 6 wn1 (by omega) HN1.out.1 (by omega) (by omega))
      go_wp2_with fail
      refine P2.out.mono ?_
      rintro e wn2 ⟨⟨bb, rfl⟩, hsn, hun⟩
      have HN2 := Lib.hid (And.intro hsn (HN1.out.2.trans hun))
      have hpn2 := hsn.lt
      clear hsn hun P2
      cases bb
      · have HF := Lib.hid (draw_leaf (w := w) (N := N) (most := 0) (nv := nv) (e := 48) (a := 0) (b := y) hm0 (by simp only [tOk, if_true]; exact inB_mk ⟨by omega, by omega⟩) (Or.inl rfl) HN2.out.1 HN2.out.2 (by omega))
        go_wp2_with fail
        go_ret
        exact HF.out
      · obtain ⟨fl, hfl, -, hge⟩ := new_lit (enc := fun n => ei n) wn2 2 [63, 32, 8, 62] (by simp [maxLen])
        have hsl := HN2.out.1.upd ((Upd.refl [] wn2).alloc (.cells #[ei 63, ei 32, ei 8, ei 62] 2))
        have P3 := Lib.hid (srcAmong (N + 2 + 2) p wn2.heap.size 0 4 4 [63, 32, 8, 62] _ fl (by omega) hsl rfl (by omega) (by omega) hfl (fun hm => by have := hge p hm; omega))
        have hul : Upd [p] w (wn2.alloc (.cells #[ei 63, ei 32, ei 8, ei 62] 2)) := HN2.out.2.alloc _
        have HUL := Lib.hid hul
        clear hfl hge hsl hul
        go_wp2_with fail
        refine P3.out.mono ?_
        rintro e wn3 ⟨⟨z, rfl, hz⟩, hsn, hun⟩
        have hz' : 0 ≤ z ∧ z ≤ 63 := by simp at hz; omega
        have HF := Lib.hid (draw_leaf (w := w) (N := N) (most := 0) (nv := nv) (e := 48) (a := 0) (b := z) hm0 (by simp only [tOk, if_true]; exact inB_mk hz') (Or.inl rfl) hsn (HUL.out.trans hun) (by omega))
        clear hsn hun P3 hz
        go_wp2_with fail
        go_ret
        exact HF.out
  | succ n ih =>
    intro most nv N p w hn hm0 hm20 hv0 hv29 hN hs
    by_cases hmz : most = 0
    · exact (ih most nv N p w (by omega) hm0 hm20 hv0 hv29 hN hs)
    · have hmp : 0 < most := by omega
      have HIH := Lib.hid ih
      have P0 := Lib.hid (srcOne N p 3 w (by omega) hs (by omega) (by omega))
      clear ih hs hmz
      go_enter Try.func40, Try.ntmps40
      go_wp2_with fail
      refine P0.out.mono ?_
      rintro e w1 ⟨⟨b1, rfl⟩, hs1, hu1⟩
      have HS0 := Lib.hid (And.intro hs1 hu1)
      clear hs1 hu1 P0
      cases b1
      · have P1 := Lib.hid (srcOne (N + 2) p 7 w1 (by omega) HS0.out.1 (by omega) (by omega))
        go_wp2_with fail
        refine P1.out.mono ?_
        rintro e w2 ⟨⟨b2, rfl⟩, hs2, hu2⟩
        have HS2 := Lib.hid (And.intro hs2 (HS0.out.2.trans hu2))
        have hp2 := hs2.lt
        have hpw : p < w.heap.size ∨ w.heap.size ≤ p := by omega
        clear hs2 hu2 P1 HS0
        obtain ⟨i0, hi, hz0, hz1, hz2⟩ := info_parts Try.infoT
        cases b2
        · have P2 := Lib.hid (srcPick (N + 2 + 2) p 9 w2 (by omega) HS2.out.1 (by omega) (by omega))
          go_wp2_with fail
          refine P2.out.mono ?_
          rintro e w3 ⟨⟨op, rfl, hop0, hop1⟩, hs3, hu3⟩
          have hp3 := hs3.lt
          have hua : Upd [p] w3 (w3.alloc (.cells #[ei 2, ei op] 48)) := (Upd.refl _ _).alloc _
          have hsa := hs3.upd ((Upd.refl [] w3).alloc (.cells #[ei 2, ei op] 48))
          have hlit := World.ownsRow_lit (base := w3.heap.size) (e := 48) (size := 2) w3 #[ei 2, ei op] 1 (Nat.le_refl _) (by simp [maxLen]) (by simp)
          have HS3 := Lib.hid (And.intro hsa (And.intro (HS2.out.2.trans (hu3.trans hua)) hlit))
          have hsz3 := (HS2.out.2.trans hu3).size
          have P3 := Lib.hid (HIH.out ((most - 1) / 2) nv (N + 2 + 2 + 2) p (w3.alloc (.cells #[ei 2, ei op] 48)) (by omega) (by omega) (by omega) hv0 hv29 (by omega) hsa)
          have hq : (w3.alloc (.cells #[ei 2, ei op] 48)).heap.size = w3.heap.size + 1 := by simp
          have HQ := Lib.hid hq
          clear hs3 hu3 hua hsa hlit P2 HS2 hq
          go_wp2_with fail
          refine P3.out.mono ?_
          rintro e w4 ⟨⟨vl, xl, rfl, hgl, hll, hnl⟩, hs4, hu4⟩
          have hp4 := hs4.lt
          have P4 := Lib.hid (HIH.out ((most - 1) / 2) nv _ p w4 (by omega) (by omega) (by omega) hv0 hv29 (by omega) hs4)
          have HS4 := Lib.hid (And.intro hgl (And.intro hnl hu4))
          clear hs4 hgl hnl hu4 P3
          go_wp2_with fail
          refine P4.out.mono ?_
          rintro e w5 ⟨⟨vr, xr, rfl, hgr, hlr, hnr⟩, hs5, hu5⟩
          have hnl5 := R_T1k.new HS4.out.2.1 hu5 (fun b hb => by simp at hb; subst hb; have := HQ.out; omega)
          have hou5 : w5.ownsRow w3.heap.size 48 2 (.slice (some ⟨w3.heap.size, 0, none⟩) 1 1) 1 [ei 2, ei op] := by
            have h9 := HS3.out.2.2
            have hu45 := HS4.out.2.2.trans hu5
            exact h9.kept (row := some p) ⟨hu45.os, hu45.tape, hu45.output, hu45.size, fun k hk hne => hu45.block k hk (by simpa using hne)⟩ (Or.inr (by simp [Value.ownBlock]; omega))
          obtain ⟨fl, hl5, -, -⟩ := hnl5
          obtain ⟨fr, hr5, -, hger⟩ := hnr
          have hsz34 := HS4.out.2.2.size
          have HGER := Lib.hid (show ∀ b ∈ fr, b ∉ [w3.heap.size] from fun b hb hm => by have := hger b hb; have := HQ.out; simp at hm; omega)
          have HR5 := Lib.hid hr5
          obtain ⟨bl, ol, cl, rfl, hl1, hl2, hl3, hl4⟩ := slF_src hl5 (flatE_pos _)
          obtain ⟨br, or', cr, rfl, hr1, hr2, hr3, -⟩ := slF_src hr5 (flatE_pos _)
          have HL4 := Lib.hid hl4
          have hsz5 := (HS4.out.2.2.trans hu5).size
          have HUU := Lib.hid (HS3.out.2.1.trans (HS4.out.2.2.trans hu5))
          have HSS := Lib.hid (hs5.mono (show _ ≤ N + 20 * (2 * most.toNat + 1) by omega))
          have HG := Lib.hid (And.intro HS4.out.1 hgr)
          have HOl := Lib.hid (oneCells (flatE xl))
          have HOr := Lib.hid (oneCells (flatE xr))
          have hqq := HQ.out
          unfold maxLen at hl2 hr2
          generalize hFL : (flatE xl).length = FL at *
          have HFL := Lib.hid hFL
          generalize hFR : (flatE xr).length = FR at *
          have HFR := Lib.hid hFR
          clear hl4 hl5 hr5 hs5 hgr hu5 HS4 HS3 P4 hFL hFR hger
          go_wp2_with (first
            | (at_builtin; refine wpList_append_tight _ rfl _ _ 24 rfl w3.heap.size 48 i0 (.agg #[.int .i64 0, .int .i64 0]) 2 16 Try.underlying24 hi hz0 hz1 hz2 rfl (by decide) _ _ _ rfl hou5 ⟨bl, ol, none⟩ FL cl _ rfl hl3 HL4.out HOl.out (by unfold maxLen; omega) (by omega) (by omega) ?_)
            | fail)
          intro v6 w6 hown6 hg6 ht6
          have hu56 : Upd [w3.heap.size] w5 w6 := (Upd.refl _ _).grown hg6 (fun k hk => Or.inr (by simp [Value.ownBlock] at hk ⊢; exact hk.symm))
          have hr6 := R_T1k.upd HR5.out hu56 HGER.out
          obtain ⟨_, _, _, hv6, -, -, -, hr4⟩ := slF_src hr6 (flatE_pos _)
          simp only [Value.slice.injEq, Option.some.injEq, Addr.mk.injEq, and_true] at hv6
          obtain ⟨⟨rfl, rfl⟩, -, rfl⟩ := hv6
          have HR4 := Lib.hid hr4
          have hpw3 : p < w3.heap.size := hp3
          have HUU6 := Lib.hid (HUU.out.fresh hu56 (fun b hb => Or.inl (by simp at hb; omega)))
          have HSS6 := Lib.hid (IsSrc.other HSS.out hu56 (by simpa using hpw3))
          have hlt6 := hown6.lt
          have hsz6 := hu56.size
          obtain ⟨a6, c6, rfl⟩ := ownsRow_form hown6
          clear hg6 ht6 hu56 hr6 hr4 hou5
          go_wp2_with (first
            | (at_builtin; refine wpList_append_tight _ rfl _ _ 24 rfl w3.heap.size 48 i0 (.agg #[.int .i64 0, .int .i64 0]) 2 16 Try.underlying24 hi hz0 hz1 hz2 rfl (by decide) _ _ _ rfl hown6 ⟨br, or', none⟩ FR cr _ rfl hr3 HR4.out HOr.out (by unfold maxLen; omega) (by omega) (by omega) ?_)
            | fail)
          intro v7 w7 hown7 hg7 ht7
          have hn7 : New R_T1 w3 w7 v7 ((2, op) :: (flatE xl ++ flatE xr)) := New.ofOwns2 (e := 48) (by simpa [HFL.out, HFR.out, Nat.add_comm, Nat.add_left_comm, Nat.add_assoc] using hown7)
          obtain ⟨k7, hk7⟩ : ∃ k7 : List Nat, k7 = (Value.slice a6 (1 + FL) c6).ownBlock.toList := ⟨_, rfl⟩
          have hu67 : Upd k7 w6 w7 := (Upd.refl _ _).grown hg7 (fun k hk => Or.inr (by rw [hk7]; simp [hk]))
          have hk7b : ∀ b ∈ k7, w3.heap.size ≤ b := fun b hb => by rw [hk7] at hb; exact (hlt6 b (by simpa using hb)).1
          have hgx : goodE nv (.mk (2, op) [xl, xr]) = true := by
            rw [goodE_mk]
            simp only [goodEs_cons, HG.out.1, HG.out.2, Bool.true_and, Bool.and_eq_true, decide_eq_true_eq]
            refine ⟨⟨by simp [arity], by simp [tOk]; exact inB_mk ⟨by omega, by omega⟩⟩, rfl⟩
          have HF := Lib.hid (show DrawP w p N nv most (.returned v7) w7 from
            ⟨⟨v7, .mk (2, op) [xl, xr], rfl, hgx, by simp [flatE, flatEs, HFL.out, HFR.out]; omega, by
              have e9 : flatE (.mk (2, op) [xl, xr]) = (2, op) :: (flatE xl ++ flatE xr) := by simp [flatE, flatEs]
              rw [e9]; exact hn7.mono hsz3⟩,
             IsSrc.other HSS6.out hu67 (fun b hb => by have := hk7b b hb; omega), HUU6.out.fresh hu67 (fun b hb => Or.inl (by have := hk7b b hb; omega))⟩)
          clear hown7 hg7 ht7 hn7 hu67 hk7b hgx hown6 hlt6 hk7
          go_wp2_with fail
          go_ret
          exact HF.out
        · have P3 := Lib.hid (HIH.out (most - 1) nv (N + 2 + 2) p w2 (by omega) (by omega) (by omega) hv0 hv29 (by omega) HS2.out.1)
          go_wp2_with fail
          refine P3.out.mono ?_
          rintro e w4 ⟨⟨vl, xl, rfl, hgl, hll, hnl⟩, hs4, hu4⟩
          have hp4 := hs4.lt
          have hsz2 := HS2.out.2.size
          have hsz4 := hu4.size
          obtain ⟨fl, hl5, -, -⟩ := hnl
          obtain ⟨bl, ol, cl, rfl, hl1, hl2, hl3, hl4⟩ := slF_src hl5 (flatE_pos _)
          have HL4 := Lib.hid (fun j u hj => ((Upd.refl [] w4).alloc (.cells #[ei 3, ei 0] 48)).keep (hl4 j u hj))
          have HUU := Lib.hid (HS2.out.2.trans hu4)
          have HSS := Lib.hid (hs4.mono (show _ ≤ N + 20 * (2 * most.toNat + 1) by omega))
          have HG := Lib.hid hgl
          have HOl := Lib.hid (oneCells (flatE xl))
          have hlit := World.ownsRow_lit (base := w4.heap.size) (e := 48) (size := 2) w4 #[ei 3, ei 0] 1 (Nat.le_refl _) (by simp [maxLen]) (by simp)
          unfold maxLen at hl2
          generalize hFL : (flatE xl).length = FL at *
          have HFL := Lib.hid hFL
          clear hl4 hl5 hs4 hgl hu4 P3 hFL HS2
          go_wp2_with (first
            | (at_builtin; refine wpList_append_tight _ rfl _ _ 24 rfl w4.heap.size 48 i0 (.agg #[.int .i64 0, .int .i64 0]) 2 16 Try.underlying24 hi hz0 hz1 hz2 rfl (by decide) _ _ _ rfl hlit ⟨bl, ol, none⟩ FL cl _ rfl hl3 HL4.out HOl.out (by unfold maxLen; omega) (by omega) (by simp) ?_)
            | fail)
          intro v7 w7 hown7 hg7 ht7
          have hn7 : New R_T1 w4 w7 v7 ((3, 0) :: flatE xl) := New.ofOwns2 (e := 48) (by simpa [HFL.out, Nat.add_comm, Nat.add_left_comm, Nat.add_assoc] using hown7)
          have hu67 : Upd [w4.heap.size] w4 w7 := ((Upd.refl _ _).alloc _).grown hg7 (fun k hk => Or.inr (by simp [Value.ownBlock] at hk ⊢; exact hk.symm))
          have hgx : goodE nv (.mk (3, 0) [xl]) = true := by
            rw [goodE_mk]
            simp only [goodEs_cons, HG.out, Bool.true_and, Bool.and_eq_true, decide_eq_true_eq]
            exact ⟨⟨by simp [arity], by simp [tOk]⟩, rfl⟩
          have HF := Lib.hid (show DrawP w p N nv most (.returned v7) w7 from
            ⟨⟨v7, .mk (3, 0) [xl], rfl, hgx, by simp [flatE, flatEs, HFL.out]; omega, by
              have e9 : flatE (.mk (3, 0) [xl]) = (3, 0) :: flatE xl := by simp [flatE, flatEs]
              rw [e9]; exact hn7.mono (by omega)⟩,
             IsSrc.other HSS.out hu67 (by simpa using hp4), HUU.out.fresh hu67 (fun b hb => Or.inl (by simp at hb; omega))⟩)
          clear hown7 hg7 ht7 hn7 hu67 hgx hlit
          go_wp2_with fail
          go_ret
          exact HF.out
      · skip
        by_cases hv : 0 < nv
        · have Q1 := Lib.hid (srcPick (N + 2) p 3 w1 (by omega) HS0.out.1 (by omega) (by omega))
          go_wp2_with fail
          refine Q1.out.mono ?_
          rintro e wl1 ⟨⟨x, rfl, hx0, hx1⟩, hsl, hul⟩
          have HL1 := Lib.hid (And.intro hsl (HS0.out.2.trans hul))
          have hpl1 := hsl.lt
          clear hsl hul Q1
          by_cases hx : 0 < x
          · have Q2 := Lib.hid (srcPick (N + 2 + 2) p nv wl1 (by omega) HL1.out.1 (by omega) (by omega))
            go_wp2_with fail
            refine Q2.out.mono ?_
            rintro e wl2 ⟨⟨y, rfl, hy0, hy1⟩, hsl, hul⟩
            have HF := Lib.hid (draw_leaf (w := w) (N := N) (most := most) (nv := nv) (e := 48) (a := 1) (b := y) hm0 (by simp [tOk]; exact inB_mk ⟨by omega, by omega⟩) (Or.inr rfl) hsl (HL1.out.2.trans hul) (by omega))
            clear hsl hul Q2
            go_wp2_with fail
            go_ret
            exact HF.out
          · skip
            have P1 := Lib.hid (srcPick (N + 2 + 2) p 5 wl1 (by omega) HL1.out.1 (by omega) (by omega))
            go_wp2_with fail
            refine P1.out.mono ?_
            rintro e wn1 ⟨⟨y, rfl, hy0, hy1⟩, hsn, hun⟩
            have HN1 := Lib.hid (And.intro hsn (HL1.out.2.trans hun))
            have hpn := hsn.lt
            clear hsn hun P1
            have P2 := Lib.hid (srcOne (N + 2 + 2 + 2) p 6 wn1 (by omega) HN1.out.1 (by omega) (by omega))
            go_wp2_with fail
            refine P2.out.mono ?_
            rintro e wn2 ⟨⟨bb, rfl⟩, hsn, hun⟩
            have HN2 := Lib.hid (And.intro hsn (HN1.out.2.trans hun))
            have hpn2 := hsn.lt
            clear hsn hun P2
            cases bb
            · have HF := Lib.hid (draw_leaf (w := w) (N := N) (most := most) (nv := nv) (e := 48) (a := 0) (b := y) hm0 (by simp only [tOk, if_true]; exact inB_mk ⟨by omega, by omega⟩) (Or.inl rfl) HN2.out.1 HN2.out.2 (by omega))
              go_wp2_with fail
              go_ret
              exact HF.out
            · obtain ⟨fl, hfl, -, hge⟩ := new_lit (enc := fun n => ei n) wn2 2 [63, 32, 8, 62] (by simp [maxLen])
              have hsl := HN2.out.1.upd ((Upd.refl [] wn2).alloc (.cells #[ei 63, ei 32, ei 8, ei 62] 2))
              have P3 := Lib.hid (srcAmong (N + 2 + 2 + 2 + 2) p wn2.heap.size 0 4 4 [63, 32, 8, 62] _ fl (by omega) hsl rfl (by omega) (by omega) hfl (fun hm => by have := hge p hm; omega))
              have hul : Upd [p] w (wn2.alloc (.cells #[ei 63, ei 32, ei 8, ei 62] 2)) := HN2.out.2.alloc _
              have HUL := Lib.hid hul
              clear hfl hge hsl hul
              go_wp2_with fail
              refine P3.out.mono ?_
              rintro e wn3 ⟨⟨z, rfl, hz⟩, hsn, hun⟩
              have hz' : 0 ≤ z ∧ z ≤ 63 := by simp at hz; omega
              have HF := Lib.hid (draw_leaf (w := w) (N := N) (most := most) (nv := nv) (e := 48) (a := 0) (b := z) hm0 (by simp only [tOk, if_true]; exact inB_mk hz') (Or.inl rfl) hsn (HUL.out.trans hun) (by omega))
              clear hsn hun P3 hz
              go_wp2_with fail
              go_ret
              exact HF.out
        · skip
          have P1 := Lib.hid (srcPick (N + 2) p 5 w1 (by omega) HS0.out.1 (by omega) (by omega))
          go_wp2_with fail
          refine P1.out.mono ?_
          rintro e wn1 ⟨⟨y, rfl, hy0, hy1⟩, hsn, hun⟩
          have HN1 := Lib.hid (And.intro hsn (HS0.out.2.trans hun))
          have hpn := hsn.lt
          clear hsn hun P1
          have P2 := Lib.hid (srcOne (N + 2 + 2) p 6 wn1 (by omega) HN1.out.1 (by omega) (by omega))
          go_wp2_with fail
          refine P2.out.mono ?_
          rintro e wn2 ⟨⟨bb, rfl⟩, hsn, hun⟩
          have HN2 := Lib.hid (And.intro hsn (HN1.out.2.trans hun))
          have hpn2 := hsn.lt
          clear hsn hun P2
          cases bb
          · have HF := Lib.hid (draw_leaf (w := w) (N := N) (most := most) (nv := nv) (e := 48) (a := 0) (b := y) hm0 (by simp only [tOk, if_true]; exact inB_mk ⟨by omega, by omega⟩) (Or.inl rfl) HN2.out.1 HN2.out.2 (by omega))
            go_wp2_with fail
            go_ret
            exact HF.out
          · obtain ⟨fl, hfl, -, hge⟩ := new_lit (enc := fun n => ei n) wn2 2 [63, 32, 8, 62] (by simp [maxLen])
            have hsl := HN2.out.1.upd ((Upd.refl [] wn2).alloc (.cells #[ei 63, ei 32, ei 8, ei 62] 2))
            have P3 := Lib.hid (srcAmong (N + 2 + 2 + 2) p wn2.heap.size 0 4 4 [63, 32, 8, 62] _ fl (by omega) hsl rfl (by omega) (by omega) hfl (fun hm => by have := hge p hm; omega))
            have hul : Upd [p] w (wn2.alloc (.cells #[ei 63, ei 32, ei 8, ei 62] 2)) := HN2.out.2.alloc _
            have HUL := Lib.hid hul
            clear hfl hge hsl hul
            go_wp2_with fail
            refine P3.out.mono ?_
            rintro e wn3 ⟨⟨z, rfl, hz⟩, hsn, hun⟩
            have hz' : 0 ≤ z ∧ z ≤ 63 := by simp at hz; omega
            have HF := Lib.hid (draw_leaf (w := w) (N := N) (most := most) (nv := nv) (e := 48) (a := 0) (b := z) hm0 (by simp only [tOk, if_true]; exact inB_mk hz') (Or.inl rfl) hsn (HUL.out.trans hun) (by omega))
            clear hsn hun P3 hz
            go_wp2_with fail
            go_ret
            exact HF.out

end Go.Proofs.Ytnioopbficcbeaa
