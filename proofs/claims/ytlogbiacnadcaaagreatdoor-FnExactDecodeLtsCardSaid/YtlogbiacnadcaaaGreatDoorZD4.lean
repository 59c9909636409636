/-
  Texts joined in one file: DecR, DecI, DecT, EncN.
-/
import Derived.Test.YtlogbiacnadcaaaGreatDoorZD2
import Derived.Test.YtlogbiacnadcaaaGreatDoorZD3
import Derived.Deep.DeepCutAuto
import Derived.Deep.RegionLaw
import Derived.Deep.AppendLies
/-
  The program's reader of images: what its calls return and leave.
-/
namespace Go.Proofs.YtlogbiacnadcaaaGreatDoor
open Go.RowKit

/-- the program's reader at block p: the rest of the text, and whether it is bad. -/
def RdI (p : Nat) (w : World) (r : List UInt8) (b : Bool) : Prop := w.heap[p]? = some (.cells #[es r, .bool b] 76 (0, 0))
theorem RdI.facts {p : Nat} {w : World} {r : List UInt8} {b : Bool} (h : RdI p w r b) : w.cell? ⟨p, 0, none⟩ = some (es r) ∧ w.cell? ⟨p, 1, none⟩ = some (.bool b) ∧ w.frozen? ⟨p, 0, none⟩ = false ∧ w.frozen? ⟨p, 1, none⟩ = false := by
  unfold RdI at h
  refine ⟨?_, ?_, ?_, ?_⟩
  · simp [World.cell?, h]
  · simp [World.cell?, h]
  · simp [World.frozen?, h]
  · simp [World.frozen?, h]
theorem RdI.set0 {p : Nat} {w : World} {r : List UInt8} {b : Bool} (h : RdI p w r b) (r' : List UInt8) : RdI p (w.setCell ⟨p, 0, none⟩ (es r')) r' b := by
  unfold RdI
  have := heap_setCell_same w p 0 _ _ (es r') h
  simpa using this
theorem RdI.set1 {p : Nat} {w : World} {r : List UInt8} {b : Bool} (h : RdI p w r b) (b' : Bool) : RdI p (w.setCell ⟨p, 1, none⟩ (.bool b')) r b' := by
  unfold RdI
  have := heap_setCell_same w p 1 _ _ (.bool b') h
  simpa using this
theorem RdI.upd {p : Nat} {w w1 : World} {r : List UInt8} {b : Bool} (h : RdI p w r b) {f : List Nat} (hu : Upd f w w1) (hf : p ∉ f) : RdI p w1 r b := by
  unfold RdI at *
  rw [hu.block p (Array.getElem?_eq_some_iff.1 h).1 hf]; exact h

set_option maxRecDepth 20000 in
set_option maxHeartbeats 2000000 in
theorem byteI0 (p : Nat) (b : Bool) (w : World) (h : RdI p w [] b) : Calls Tryz.prog 89 #[.pointer (some ⟨p, 0, none⟩)] w fun e w' => e = .returned (.int .i64 0) ∧ RdI p w' [] true ∧ Upd [p] w w' := by
  obtain ⟨c0, c1, f0, f1⟩ := h.facts
  have H1 := Lib.hid (h.set1 true)
  clear h
  go_enter Tryz.func89, Tryz.ntmps89
  go_wp2_with fail
  go_ret
  exact ⟨rfl, H1.out, (Upd.refl _ _).setCell (Or.inr (by simp)) _⟩

set_option maxRecDepth 20000 in
set_option maxHeartbeats 2000000 in
theorem byteI1 (p : Nat) (c : UInt8) (r : List UInt8) (b : Bool) (w : World) (hl : r.length ≤ 2000000) (h : RdI p w (c :: r) b) : Calls Tryz.prog 89 #[.pointer (some ⟨p, 0, none⟩)] w fun e w' => e = .returned (.int .i64 (c.toNat : Nat)) ∧ RdI p w' r b ∧ Upd [p] w w' := by
  obtain ⟨c0, c1, f0, f1⟩ := h.facts
  have H1 := Lib.hid (h.set0 r)
  have hext := extract_list (c :: r) 1 (r.length + 1)
  have e1 : ((c :: r).drop 1).take (r.length + 1 - 1) = r := by simp
  rw [e1] at hext
  have hix : (⟨(c :: r).toArray⟩ : ByteArray)[0]'(by simp [ByteArray.size]) = c := by simp [ByteArray.getElem_eq_getElem_data]
  have hne : ((c :: r) == ([] : List UInt8)) = false := by simp
  have hne3 : (c :: r) ≠ [] := by simp
  have hll : (c :: r).length = r.length + 1 := rfl
  have hcl : (c.toNat : Int) ≤ 255 := by have := c.toNat_lt; omega
  clear h e1
  obtain ⟨R, hR⟩ : ∃ R, R = c :: r := ⟨_, rfl⟩
  rw [← hR] at hext hne hne3 hll c0
  have hRl : 0 < R.length := by omega
  have hix' : (⟨R.toArray⟩ : ByteArray)[0]'(by simpa [ByteArray.size] using hRl) = c := by subst hR; exact hix
  clear hix hR
  go_enter Tryz.func89, Tryz.ntmps89
  go_wp2_with fail
  go_ret
  exact ⟨rfl, H1.out, (Upd.refl _ _).setCell (Or.inr (by simp)) _⟩

set_option maxRecDepth 20000 in
set_option maxHeartbeats 4000000 in
theorem numI (p : Nat) (r : List UInt8) (b : Bool) (w : World) (hl : r.length ≤ 2000000) (h : RdI p w r b) :
    Calls Tryz.prog 47 #[.pointer (some ⟨p, 0, none⟩)] w fun e w' => e = .returned (.int .i64 ((rN 4 r b).1 : Nat)) ∧ RdI p w' (rN 4 r b).2.1 (rN 4 r b).2.2 ∧ Upd [p] w w' := by
  have H0 := Lib.hid h
  clear h
  go_enter Tryz.func47, Tryz.ntmps47
  go_wp2_with fail
  go_loopw [3, 4, 6] (fun nv tv iv wr => ∃ (j n t : Nat) (r' : List UInt8) (b' : Bool), j ≤ 4 ∧ iv = .int .i64 j ∧ nv = .int .i64 n ∧ tv = .int .i64 t ∧ n < t ∧ Hid (t = 128 ^ j) ∧ r'.length ≤ r.length ∧ Hid (RdI p wr r' b') ∧ Upd [p] w wr ∧ Hid (rdN (zF 4) (4 - j) n t r' b' = rN 4 r b)) (fun _ _ iv _ => 4 - (intOf iv).toNat)
  case atStart => exact ⟨0, 0, 1, r, b, by omega, rfl, rfl, rfl, by omega, Lib.hid rfl, Nat.le_refl _, H0, Upd.refl _ _, Lib.hid rfl⟩
  case round =>
    clear H0
    obtain ⟨wo, rfl⟩ : ∃ wo : World, wo = wr := ⟨_, rfl⟩
    obtain ⟨j, n, t, r', b', hj, rfl, rfl, rfl, hnt, HT, hrl, HR, hU, HN⟩ := hrel
    have HU := Lib.hid hU
    clear hU
    by_cases hj4 : j < 4
    · have ht : t ≤ 2097152 := by
        rw [HT.out]
        have : 128 ^ j ≤ 128 ^ 3 := Nat.pow_le_pow_right (by omega) (by omega)
        simpa using this
      cases r' with
      | nil =>
        have S1 := Lib.hid (byteI0 p b' wo HR.out)
        have HE := Lib.hid (show rN 4 r b = (n, [], true) by rw [← HN.out, show 4 - j = (3 - j) + 1 by omega]; rfl)
        clear HN HT HR
        go_wp2_with fail
        refine S1.out.mono ?_
        rintro e w1 ⟨rfl, hr1, hu1⟩
        have HQ := Lib.hid (And.intro hr1 (HU.out.trans hu1))
        clear S1 hr1 hu1 HU
        go_wp2_with fail
        go_ret
        exact ⟨by rw [HE.out]; rfl, by rw [HE.out]; exact HQ.out.1, HQ.out.2⟩
      | cons c r1 =>
        have S1 := Lib.hid (byteI1 p c r1 b' wo (by simp at hrl; omega) HR.out)
        have hc1 : (c.toNat : Int) ≤ 255 := by have := c.toNat_lt; omega
        have hrl1 : r1.length ≤ r.length := by simp at hrl; omega
        by_cases hc : c.toNat < 128
        · have HE := Lib.hid (show rN 4 r b = (n + c.toNat * t, r1, b') by rw [← HN.out, show 4 - j = (3 - j) + 1 by omega, rdN, if_pos hc])
          obtain ⟨m, hm⟩ : ∃ m, c.toNat * t = m := ⟨_, rfl⟩
          have hml : m ≤ 127 * t := by rw [← hm]; exact Nat.mul_le_mul_right t (by omega)
          have hmm : (c.toNat : Int) % 128 * (t : Int) = (m : Int) := by
            rw [show (c.toNat : Int) % 128 = (c.toNat : Int) by omega, ← hm]; simp
          rw [hm] at HE
          have hci : (c.toNat : Int) < 128 := by omega
          clear HN HT HR hm
          go_wp2_with fail
          refine S1.out.mono ?_
          rintro e w1 ⟨rfl, hr1, hu1⟩
          have HQ := Lib.hid (And.intro hr1 (HU.out.trans hu1))
          clear S1 hr1 hu1 HU
          go_wp2_with fail
          go_ret
          exact ⟨by rw [HE.out]; rfl, by rw [HE.out]; exact HQ.out.1, HQ.out.2⟩
        · obtain ⟨m, hm⟩ : ∃ m, c.toNat % 128 * t = m := ⟨_, rfl⟩
          have HE := Lib.hid (show rdN (zF 4) (4 - (j + 1)) (n + m) (t * 128) r1 b' = rN 4 r b by rw [← HN.out, show 4 - j = (4 - (j + 1)) + 1 by omega, rdN, if_neg hc, hm])
          have hml : m ≤ 127 * t := by rw [← hm]; exact Nat.mul_le_mul_right t (by omega)
          have hmm : (c.toNat : Int) % 128 * (t : Int) = (m : Int) := by rw [← hm]; simp
          have hci : ¬ (c.toNat : Int) < 128 := by omega
          have HT2 := Lib.hid (show t * 128 = 128 ^ (j + 1) by rw [HT.out, Nat.pow_succ])
          clear HN HT HR hm
          go_wp2_with fail
          refine S1.out.mono ?_
          rintro e w1 ⟨rfl, hr1, hu1⟩
          have HQ := Lib.hid (And.intro hr1 (HU.out.trans hu1))
          clear S1 hr1 hu1 HU
          go_wp2_with fail
          go_roundw
          case rel => exact ⟨j + 1, n + m, t * 128, r1, b', by omega, by go_num, by go_num, by go_num, by omega, HT2, hrl1, Lib.hid HQ.out.1, HQ.out.2, HE⟩
          case measure => simp [intOf]; omega
    · obtain rfl : j = 4 := by omega
      have HE := Lib.hid (show rN 4 r b = (0, r', true) by rw [← HN.out]; rfl)
      obtain ⟨c0, c1, f0, f1⟩ := HR.out.facts
      have HQ := Lib.hid (And.intro (HR.out.set1 true) (HU.out.setCell (p := ⟨p, 1, none⟩) (Or.inr (by simp)) (.bool true)))
      clear HN HT HU HR
      go_wp2_with fail
      go_ret
      exact ⟨by rw [HE.out]; rfl, by rw [HE.out]; exact HQ.out.1, HQ.out.2⟩

set_option maxRecDepth 20000 in
set_option maxHeartbeats 4000000 in
theorem unpTextI (p : Nat) (r : List UInt8) (b : Bool) (w : World) (hl : r.length ≤ 2000000) (h : RdI p w r b) :
    Calls Tryz.prog 48 #[.pointer (some ⟨p, 0, none⟩)] w fun e w' => e = .returned (es (rT 4 r b).1) ∧ RdI p w' (rT 4 r b).2.1 (rT 4 r b).2.2 ∧ Upd [p] w w' := by
  have S1 := Lib.hid (numI p r b w hl h)
  have HE := Lib.hid (show rT 4 r b = if (rN 4 r b).2.1.length < (rN 4 r b).1 then ([], (rN 4 r b).2.1, true) else ((rN 4 r b).2.1.take (rN 4 r b).1, (rN 4 r b).2.1.drop (rN 4 r b).1, (rN 4 r b).2.2) from by unfold rT; simp)
  have hf1 := (rN_fits 4 r b).1
  have hf2 := (rN_fits 4 r b).2.1
  generalize (rN 4 r b).1 = n at *
  generalize (rN 4 r b).2.1 = r1 at *
  generalize (rN 4 r b).2.2 = b1 at *
  have hn : (n : Int) ≤ 268435456 := by
    have : (128 : Nat) ^ 4 = 268435456 := by decide
    omega
  have hr1 : r1.length ≤ 2000000 := by omega
  clear h hf1 hf2
  go_enter Tryz.func48, Tryz.ntmps48
  go_wp2_with fail
  refine S1.out.mono ?_
  rintro e w1 ⟨rfl, hrd, hu1⟩
  obtain ⟨c0, c1, f0, f1⟩ := hrd.facts
  by_cases hb : r1.length < n
  · have HQ := Lib.hid (And.intro (hrd.set1 true) (hu1.setCell (p := ⟨p, 1, none⟩) (Or.inr (by simp)) (.bool true)))
    have HR := Lib.hid (HE.out.trans (if_pos hb))
    have hbi : (r1.length : Int) < n := by omega
    clear S1 HE hrd hu1
    go_wp2_with fail
    go_ret
    exact ⟨by rw [HR.out]; rfl, by rw [HR.out]; exact HQ.out.1, by rw [HR.out] at *; exact HQ.out.2⟩
  · have HQ := Lib.hid (And.intro (hrd.set0 (r1.drop n)) (hu1.setCell (p := ⟨p, 0, none⟩) (Or.inr (by simp)) (es (r1.drop n))))
    have HR := Lib.hid (HE.out.trans (if_neg hb))
    have hbi : ¬ (r1.length : Int) < n := by omega
    have hex1 := extract_list r1 0 n
    have hex2 := extract_list r1 n r1.length
    rw [List.drop_zero, Nat.sub_zero] at hex1
    have e2 : (r1.drop n).take (r1.length - n) = r1.drop n := List.take_of_length_le (by simp)
    rw [e2] at hex2
    generalize r1.take n = A at *
    generalize r1.drop n = B at *
    clear S1 HE hrd hu1 e2
    go_wp2_with fail
    go_ret
    exact ⟨by rw [HR.out]; rfl, by rw [HR.out]; exact HQ.out.1, HQ.out.2⟩

end Go.Proofs.YtlogbiacnadcaaaGreatDoor

/-
  DecodeLts: what the program's call returns.
-/
namespace Go.Proofs.YtlogbiacnadcaaaGreatDoor
open Go.RowKit

set_option maxRecDepth 20000 in
set_option maxHeartbeats 4000000 in
theorem decI (s : List UInt8) (w : World) (hs : s.length ≤ 2000000) (he : Env w) :
    Calls Tryz.prog 15 #[es s] w fun e w' => (∃ v, e = .returned (.tuple #[v, .int .i64 (decF s).2]) ∧ New R_L1 w w' v (decF s).1) ∧ Upd [] w w' := by
  obtain ⟨wA, hwA⟩ : ∃ wA, wA = w.alloc (.cells #[.int .i64 0, .int .i64 0, .slice none 0 0, .slice none 0 0] 30) := ⟨_, rfl⟩
  have uA : Upd [] w wA := by rw [hwA]; exact (Upd.refl _ _).alloc _
  have hH : SysAt w.heap.size wA 0 0 (.slice none 0 0) (.slice none 0 0) := by rw [hwA]; exact heap_alloc_new w _
  have S1 := Lib.hid (contI s wA hs)
  obtain ⟨H, hHe⟩ : ∃ H, H = w.heap.size := ⟨_, rfl⟩
  have hszA : wA.heap.size = H + 1 := by rw [hwA, hHe]; simp
  rw [← hHe] at hH
  have HE := Lib.hid hHe
  have HEnv := Lib.hid he
  have UA := Lib.hid uA
  have HDN := Lib.hid (fun h => @decF_no s h)
  have HDS := Lib.hid (fun x h => @decF_some s x h)
  have HDQ := Lib.hid (fun h => @decF_none s h)
  generalize decF s = D at *
  clear he uA
  go_enter Tryz.func15, Tryz.ntmps15
  go_wp2_with fail
  rw [← hwA, ← hHe]
  clear hwA hHe
  refine S1.out.mono ?_
  rintro e w1 ⟨hu1, hcase⟩
  have hH1 := hH.upd hu1 (by simp)
  rcases hcase with ⟨ho, rfl⟩ | ⟨ho, p, hp, rfl, hrd⟩
  · have HD := Lib.hid (HDN.out ho)
    obtain ⟨c0, c1, c2, c3, fz⟩ := hH1.facts
    have f0 := fz 0
    have f1 := fz 1
    have f2 := fz 2
    have f3 := fz 3
    have bo : ((opF s : Int) != 0) = true := by simpa using ho
    have hS := hH1.store 0 0 (.slice none 0 0) (.slice none 0 0)
    obtain ⟨n0, n1, n2, n3, -⟩ := hS.facts
    have HU := Lib.hid ((UA.out.trans hu1))
    generalize opF s = o at *
    clear S1 hH1 hS fz hu1 hH ho
    go_wp2_with fail
    refine bodyPost_ret (v := .tuple #[.agg #[ei 0, ei 0, .slice none 0 0, .slice none 0 0], .int .i64 o]) (by simp [results, Tryz.results15, go_sem, n0, n1, n2, n3]) rfl ⟨⟨_, by rw [HD.out], ?_⟩, ?_⟩
    · rw [HD.out]; exact new_zero _ _
    · exact (((HU.out.setCell (Or.inl (by simp [HE.out])) _).setCell (Or.inl (by simp [HE.out])) _).setCell (Or.inl (by simp [HE.out])) _).setCell (Or.inl (by simp [HE.out])) _
  · have bo : ((opF s : Int) != 0) = false := by simpa using ho
    have h3 := opF_len ho
    have hml : (midL s).length ≤ 2000000 := by unfold midL; simp; omega
    have HIMG := Lib.hid (show imgSys s = if sysOk (rdSys 4 (midL s)) && (sysImg (rdSys 4 (midL s)) == s) then some (rdSys 4 (midL s)) else none from rfl)
    have hrd' : RdI p w1 (midL s) false := hrd
    generalize midL s = c at *
    obtain ⟨a, ra, ba, hA⟩ : ∃ a r' b', rN 4 c false = (a, r', b') := ⟨_, _, _, rfl⟩
    obtain ⟨b, rb, bb, hB⟩ : ∃ a r' b', rN 4 ra ba = (a, r', b') := ⟨_, _, _, rfl⟩
    obtain ⟨k, rc, bc, hC⟩ : ∃ a r' b', rN 4 rb bb = (a, r', b') := ⟨_, _, _, rfl⟩
    obtain ⟨Ls, rd, bd, hD⟩ : ∃ a r' b', rLs 4 (k - 1) [tauL] rc bc = (a, r', b') := ⟨_, _, _, rfl⟩
    obtain ⟨m, rf, bf, hF⟩ : ∃ a r' b', rN 4 rd bd = (a, r', b') := ⟨_, _, _, rfl⟩
    obtain ⟨Es, rg, bg, hG⟩ : ∃ a r' b', rEs 4 m [] rf bf = (a, r', b') := ⟨_, _, _, rfl⟩
    have HSYS := Lib.hid (show rdSys 4 c = ⟨a, b, Ls, Es⟩ by
      have eA : rA 4 c = (a, ra, ba) := hA
      have eB : rB 4 c = (b, rb, bb) := by unfold rB; rw [eA]; exact hB
      have eC : rC 4 c = (k, rc, bc) := by unfold rC; rw [eB]; exact hC
      have eD : rD 4 c = (Ls, rd, bd) := by unfold rD; rw [eC]; exact hD
      have eF : rF 4 c = (m, rf, bf) := by unfold rF; rw [eD]; exact hF
      have eG : rG 4 c = (Es, rg, bg) := by unfold rG; rw [eF]; exact hG
      unfold rdSys; rw [eA, eB, eD, eG])
    have p4 : (128 : Nat) ^ 4 = 268435456 := by decide
    have la : ra.length ≤ 2000000 := by have := (rN_fits 4 c false).2.1; rw [hA] at this; simp only at this; omega
    have lb : rb.length ≤ 2000000 := by have := (rN_fits 4 ra ba).2.1; rw [hB] at this; simp only at this; omega
    have lc : rc.length ≤ 2000000 := by have := (rN_fits 4 rb bb).2.1; rw [hC] at this; simp only at this; omega
    have ld : rd.length ≤ 2000000 := by have := rLs_len 4 (k - 1) [tauL] rc bc; rw [hD] at this; simp only at this; omega
    have lf : rf.length ≤ 2000000 := by have := (rN_fits 4 rd bd).2.1; rw [hF] at this; simp only at this; omega
    have hk4 : k ≤ 268435456 := by have := (rN_fits 4 rb bb).1; rw [hC, p4] at this; simp only at this; omega
    have hm4 : m ≤ 268435456 := by have := (rN_fits 4 rd bd).1; rw [hF, p4] at this; simp only at this; omega
    have HDD := Lib.hid hD
    have HGG := Lib.hid hG
    have T1 := Lib.hid (numI p c false w1 hml hrd')
    rw [hA] at T1
    have T2 := Lib.hid (fun W => numI p ra ba W la)
    rw [hB] at T2
    have T3 := Lib.hid (fun W => numI p rb bb W lb)
    rw [hC] at T3
    have T4 := Lib.hid (fun W => numI p rd bd W ld)
    rw [hF] at T4
    simp only at T1 T2 T3 T4
    have HO := Lib.hid ho
    have hsz1 := hu1.size
    have HU := Lib.hid (UA.out.trans hu1)
    have HH1 := Lib.hid hH1
    have HL := Lib.hid (And.intro la (And.intro lb (And.intro lc (And.intro ld lf))))
    clear ho hrd hrd' hu1 S1 UA hA hB hC hD hF hG p4 la lb lc ld lf hml h3 hH hH1
    go_wp2_with fail
    refine T1.out.mono ?_
    rintro e w2 ⟨rfl, hr2, hu2⟩
    have HR2 := Lib.hid (T2.out w2 hr2)
    have HH2 := Lib.hid (HH1.out.upd hu2 (by simp; omega))
    have HU2 := Lib.hid (HU.out.fresh hu2 (fun b hb => Or.inl (by have := HE.out; simp at hb; omega)))
    have hsz2 := hu2.size
    clear T1 T2 HH1 HU hr2 hu2
    go_wp2_with fail
    refine HR2.out.mono ?_
    rintro e w3 ⟨rfl, hr3, hu3⟩
    have HH3 := Lib.hid (HH2.out.upd hu3 (by simp; omega))
    have HU3 := Lib.hid (HU2.out.fresh hu3 (fun b hb => Or.inl (by have := HE.out; simp at hb; omega)))
    have hsz3 := hu3.size
    have HR3 := Lib.hid hr3
    obtain ⟨w4, hw4⟩ : ∃ w4, w4 = (w3.alloc (.cells #[es tauL] 9)).alloc (.cells #[.int .i64 a, .int .i64 b, .slice (some ⟨w3.heap.size, 0, none⟩) 1 1, .slice none 0 0] 30) := ⟨_, rfl⟩
    have hu4 : Upd [] w3 w4 := by rw [hw4]; exact ((Upd.refl _ _).alloc _).alloc _
    have hp3 : p < w3.heap.size := (Array.getElem?_eq_some_iff.1 hr3).1
    have HDL := Lib.hid (show DL H p (w3.heap.size + 1) w w4 a b [tauL] [] (.slice (some ⟨w3.heap.size, 0, none⟩) 1 1) (.slice none 0 0) (.cells #[es rb, .bool bb] 76 (0, 0)) from by
      refine ⟨hr3.upd hu4 (by simp), ?_, HH3.out.upd hu4 (by simp), ?_, World.ownsRow_nil _ _ _ _, HU3.out.trans hu4, HE.out.symm, by omega, by omega⟩
      · rw [hw4]
        have := heap_alloc_new (w3.alloc (.cells #[es tauL] 9)) (.cells #[.int .i64 a, .int .i64 b, .slice (some ⟨w3.heap.size, 0, none⟩) 1 1, .slice none 0 0] 30)
        unfold SysAt
        simpa using this
      · rw [hw4]
        exact (World.ownsRow_lit (base := p + 1) (e := 9) (size := 1) w3 #[es tauL] 1 (by omega) (by simp [maxLen]) (by simp)).alloc _)
    have T3' := Lib.hid (T3.out w4 HDL.out.rd)
    clear HR2 HH2 HU2 hr3 hu3 hu4 T3
    go_wp2_with fail
    have hw5 : (w3.alloc (.cells #[.string ⟨#[116, 97, 117]⟩] 9)).alloc (.cells #[.int .i64 a, .int .i64 b, .slice (some ⟨w3.heap.size, 0, none⟩) 1 1, .slice none 0 0] 30) = w4 := hw4.symm
    rw [hw5]
    generalize hTT : w3.heap.size + 1 = T at *
    clear hw4 hw5
    refine T3'.out.mono ?_
    rintro e w6 ⟨rfl, hr6, hu6⟩
    have HD6 := Lib.hid (HDL.out.dlCall hu6 hr6)
    obtain ⟨i1, ki, kz0, kz1, kz2⟩ := info_parts Tryz.info9
    obtain ⟨i3, ni, nz0, nz1, nz2⟩ := info_parts Tryz.infoEd
    have hpT : p < T := by omega
    clear T3' hr6 hu6 HDL HR3 HH3 HU3 hsz1 hsz2 hsz3
    generalize (Value.slice (some ⟨w3.heap.size, 0, none⟩) 1 1) = v10 at *
    clear hTT hp3
    go_wp2_with fail
    go_loopw [7] (fun iv wr => ∃ (K : Nat) (L : List (List UInt8)) (v1 : Value) (r' : List UInt8) (b' : Bool), iv = .int .i64 K ∧ K ≤ 268435456 ∧ Hid (DL H p T w wr a b L [] v1 (.slice none 0 0) (.cells #[es r', .bool b'] 76 (0, 0))) ∧ Hid ((b' = false → L.length + r'.length ≤ 2000001) ∧ L.length + r'.length ≤ 2000002 ∧ r'.length ≤ 2000000) ∧ Hid (∀ q ∈ L, q.length ≤ 2000000) ∧ Hid (rLs 4 (K - 1) L r' b' = (Ls, rd, bd))) (fun iv _ => (intOf iv).toNat)
    case atStart => exact ⟨k, [tauL], v10, rc, bc, rfl, hk4, HD6, Lib.hid ⟨fun _ => by have := HL.out; simp; omega, by have := HL.out; simp; omega, HL.out.2.2.1⟩, Lib.hid (by intro q hq; simp at hq; rw [hq]; simp [tauL]), HDD⟩
    case round =>
      clear HD6 HDD
      obtain ⟨wo, rfl⟩ : ∃ wo : World, wo = wr := ⟨_, rfl⟩
      obtain ⟨K, L, v1, r', b', rfl, hK, HDL, HB, HQL, HRL⟩ := hrel
      have c1 : wo.cell? ⟨p, 1, none⟩ = some (.bool b') := (show RdI p wo r' b' from HDL.out.rd).facts.2.1
      go_upto_region 6 with (fail)
      go_cut [34] (fun s34 wx => ∃ q : Bool, s34 = .bool q ∧ wx = wo ∧ Hid (q = (decide (1 < K) && !b')))
      case first =>
        by_cases hk1 : 1 < K
        · have hk1i : (1 : Int) < (K : Int) := by omega
          have HH := Lib.hid hk1
          clear hk1
          cases b'
          · go_wp2_with fail
            go_meet
            exact ⟨true, rfl, rfl, Lib.hid (by simp [HH.out])⟩
          · go_wp2_with fail
            go_meet
            exact ⟨false, rfl, rfl, Lib.hid (by simp)⟩
        · have hk1i : ¬ (1 : Int) < (K : Int) := by omega
          have HH := Lib.hid hk1
          clear hk1
          go_wp2_with fail
          go_meet
          exact ⟨false, rfl, rfl, Lib.hid (by simp [HH.out])⟩
      case rest =>
        obtain ⟨q, rfl, rfl, HQ⟩ := hcut
        cases q with
        | true =>
          have hq := HQ.out.symm
          simp only [Bool.and_eq_true, decide_eq_true_eq, Bool.not_eq_true'] at hq
          obtain ⟨hk1, rfl⟩ := hq
          have HB2 := Lib.hid (And.intro (HB.out.1 rfl) HB.out.2.2)
          have S5 := Lib.hid (unpTextI p r' false wc.drew HB.out.2.2 (show RdI p wc.drew r' false from HDL.out.rd))
          have HT := Lib.hid (rT_fits 4 r' false)
          have HRL2 := Lib.hid ((rLs_go 4 K L r' hk1).symm.trans HRL.out)
          generalize (rT 4 r' false).1 = tx at *
          generalize (rT 4 r' false).2.1 = r2 at *
          generalize (rT 4 r' false).2.2 = b2 at *
          have d2 : wc.cell? ⟨T, 2, none⟩ = some v1 := HDL.out.sys.facts.2.2.1
          have hLl : L.length ≤ 2000001 := by have := HB2.out.1; omega
          have hpW : p + 1 ≤ wc.heap.size := (Array.getElem?_eq_some_iff.1 HDL.out.rd).1
          have hk1i : (1 : Int) < (K : Int) := by omega
          clear HRL HB HQ c1
          go_wp2_with fail
          go_region_law ((first
            | (refine step_call (by rfl) 48 #[.pointer (some ⟨p, 0, none⟩)] (by go_simp) ?_; refine S5.out.mono ?_; rintro e w7 ⟨rfl, hr7, hu7⟩; have hD7 := (HDL.out.dlQuiet ((Upd.refl [] wc).drew)).dlCall hu7 hr7; have hD8 := hD7.dlQuiet ((Upd.refl [] w7).alloc (.cells #[es tx] 9)); have d2' : w7.cell? ⟨T, 2, none⟩ = some v1 := hD7.sys.facts.2.2.1; have d2'' : (w7.alloc (.cells #[es tx] 9)).cell? ⟨T, 2, none⟩ = some v1 := hD8.sys.facts.2.2.1; have hsz7 := hu7.size; refine ⟨_, rfl, ?_⟩)
            | (refine step_append_lies _ (by rfl) _ _ 22 (by rfl) (p + 1) 9 i1 (.string ⟨#[]⟩) 1 16 Tryz.underlying22 ki kz0 kz1 kz2 rfl (by decide) v1 L.length (L.map es) (by rfl) hD8.row1 ⟨w7.heap.size, 0, none⟩ 1 1 [es tx] (by rfl) (by rfl) (by intro j u hj; match j, hj with | 0, hj => simp at hj; subst hj; simp [Addr.add]) (by simp [Value.oneCell']) (by decide) (by unfold maxLen; omega) (by omega) (by simp at hsz7 ⊢; omega) (w7.heap.size + 1) (by simp) ?_; intro g gcap w8 hown8 hg8 hat8 hlt8; obtain ⟨f2, hfz8, HD8⟩ := hD8.dlPushL hown8 hg8)))
          all_goals
            clear hD7 hD8 d2 d2' d2'' hown8 hg8 hat8 hlt8 S5 hu7 hr7
            go_wp2_with fail
            go_roundw
            case rel => exact ⟨K - 1, L ++ [tx], _, r2, b2, by rw [show ((K - 1 : Nat) : Int) = (K : Int) - 1 by omega], by omega, HD8, Lib.hid ⟨fun h => by have := HT.out.2.1 h; have := HB2.out.1; simp; omega, by have := HT.out.1; have := HB2.out.1; simp; omega, by have := HT.out.1; have := HB2.out.2; omega⟩, Lib.hid (fun q hq => by
              rcases List.mem_append.1 hq with h | h
              · exact HQL.out q h
              · simp at h; subst h; have := HT.out.2.2; have := HB2.out.2; omega), HRL2⟩
            case measure => simp [intOf]; omega
        | false =>
          have hq : (decide (1 < K) && !b') = false := HQ.out.symm
          have HZ := Lib.hid (show Ls = L ∧ rd = r' ∧ bd = b' from by
            have h9 := HRL.out
            cases b' with
            | true => rw [rLs_bad] at h9; simp only [Prod.mk.injEq] at h9; exact ⟨h9.1.symm, h9.2.1.symm, h9.2.2.symm⟩
            | false =>
              simp at hq
              rw [show K - 1 = 0 by omega, rLs] at h9; simp only [Prod.mk.injEq] at h9; exact ⟨h9.1.symm, h9.2.1.symm, h9.2.2.symm⟩)
          obtain ⟨rfl, rfl, rfl⟩ := HZ.out
          have T4' := Lib.hid (T4.out wc HDL.out.rd)
          clear HZ HB HRL T4 c1
          clear hq
          go_wp2_with fail
          refine T4'.out.mono ?_
          rintro e w6 ⟨rfl, hr6, hu6⟩
          have HD6 := Lib.hid (HDL.out.dlCall hu6 hr6)
          clear T4' hr6 hu6 HDL
          go_wp2_with fail
          go_loopw [8] (fun iv wr => ∃ (K : Nat) (E : List Ed) (v2 : Value) (r' : List UInt8) (b' : Bool), iv = .int .i64 K ∧ K ≤ 268435456 ∧ Hid (DL H p T w wr a b Ls E v1 v2 (.cells #[es r', .bool b'] 76 (0, 0))) ∧ Hid ((b' = false → E.length + r'.length ≤ 2000001) ∧ E.length + r'.length ≤ 2000002 ∧ r'.length ≤ 2000000) ∧ Hid (rEs 4 K E r' b' = (Es, rg, bg))) (fun iv _ => (intOf iv).toNat)
          case atStart => exact ⟨m, [], .slice none 0 0, rf, bf, rfl, hm4, HD6, Lib.hid ⟨fun _ => by have := HL.out; simp; omega, by have := HL.out; simp; omega, HL.out.2.2.2.2⟩, HGG⟩
          case round =>
            clear HD6 HGG
            obtain ⟨wo, rfl⟩ : ∃ wo : World, wo = wr := ⟨_, rfl⟩
            obtain ⟨K, E, v2, r', b', rfl, hK, HDL, HB, HRL⟩ := hrel
            have c1 : wo.cell? ⟨p, 1, none⟩ = some (.bool b') := (show RdI p wo r' b' from HDL.out.rd).facts.2.1
            go_upto_region 10 with (fail)
            go_cut [54] (fun s54 wx => ∃ q : Bool, s54 = .bool q ∧ wx = wo ∧ Hid (q = (decide (0 < K) && !b')))
            case first =>
              by_cases hk1 : 0 < K
              · have hk1i : (0 : Int) < (K : Int) := by omega
                have HH := Lib.hid hk1
                clear hk1
                cases b'
                · go_wp2_with fail
                  go_meet
                  exact ⟨true, rfl, rfl, Lib.hid (by simp [HH.out])⟩
                · go_wp2_with fail
                  go_meet
                  exact ⟨false, rfl, rfl, Lib.hid (by simp)⟩
              · obtain rfl : K = 0 := by omega
                go_wp2_with fail
                go_meet
                exact ⟨false, rfl, rfl, Lib.hid (by simp)⟩
            case rest =>
              obtain ⟨q, rfl, rfl, HQ⟩ := hcut
              cases q with
              | true =>
                have hq := HQ.out.symm
                simp only [Bool.and_eq_true, decide_eq_true_eq, Bool.not_eq_true'] at hq
                obtain ⟨hk1, rfl⟩ := hq
                have HB2 := Lib.hid (And.intro (HB.out.1 rfl) HB.out.2.2)
                obtain ⟨x1, r1, b1, hX⟩ : ∃ a q b', rN 4 r' false = (a, q, b') := ⟨_, _, _, rfl⟩
                obtain ⟨x2, r2, b2, hY⟩ : ∃ a q b', rN 4 r1 b1 = (a, q, b') := ⟨_, _, _, rfl⟩
                obtain ⟨x3, r3, b3, hZ⟩ : ∃ a q b', rN 4 r2 b2 = (a, q, b') := ⟨_, _, _, rfl⟩
                have hE : rE 4 r' false = (⟨x1, x2, x3⟩, r3, b3) := by unfold rE; rw [hX]; simp only; rw [hY]; simp only; rw [hZ]
                have l1 : r1.length ≤ 2000000 := by have := (rN_fits 4 r' false).2.1; rw [hX] at this; have := HB2.out.2; simp only at *; omega
                have l2 : r2.length ≤ 2000000 := by have := (rN_fits 4 r1 b1).2.1; rw [hY] at this; simp only at *; omega
                have S5 := Lib.hid (numI p r' false wc.drew HB.out.2.2 (show RdI p wc.drew r' false from HDL.out.rd))
                rw [hX] at S5
                have S6 := Lib.hid (fun W => numI p r1 b1 W l1)
                rw [hY] at S6
                have S7 := Lib.hid (fun W => numI p r2 b2 W l2)
                rw [hZ] at S7
                simp only at S5 S6 S7
                have HT := Lib.hid (rE_fits 4 r' false)
                have HRL2 := Lib.hid ((rEs_go 4 K E r' hk1).symm.trans HRL.out)
                rw [hE] at HT HRL2
                simp only at HT HRL2
                have d2 : wc.cell? ⟨T, 3, none⟩ = some v2 := HDL.out.sys.facts.2.2.2.1
                have hLl : E.length ≤ 2000001 := by have := HB2.out.1; omega
                have hpW : p + 1 ≤ wc.heap.size := (Array.getElem?_eq_some_iff.1 HDL.out.rd).1
                have hk1i : (0 : Int) < (K : Int) := by omega
                clear HRL HB HQ c1 hX hY hZ hE l1 l2
                go_wp2_with fail
                go_region_law ((first
                  | (refine step_call (by rfl) 47 #[.pointer (some ⟨p, 0, none⟩)] (by go_simp) ?_; refine S5.out.mono ?_; rintro e w7 ⟨rfl, hr7, hu7⟩; have hD7 := (HDL.out.dlQuiet ((Upd.refl [] wc).drew)).dlCall hu7 hr7; have d7 : w7.cell? ⟨T, 3, none⟩ = some v2 := hD7.sys.facts.2.2.2.1; have hsz7 := hu7.size; refine ⟨_, rfl, ?_⟩)
                  | (refine step_call (by rfl) 47 #[.pointer (some ⟨p, 0, none⟩)] (by go_simp) ?_; refine (S6.out w7 hr7).mono ?_; rintro e w8 ⟨rfl, hr8, hu8⟩; have hD8 := hD7.dlCall hu8 hr8; have d8 : w8.cell? ⟨T, 3, none⟩ = some v2 := hD8.sys.facts.2.2.2.1; have hsz8 := hu8.size; refine ⟨_, rfl, ?_⟩)
                  | (refine step_call (by rfl) 47 #[.pointer (some ⟨p, 0, none⟩)] (by go_simp) ?_; refine (S7.out w8 hr8).mono ?_; rintro e w9 ⟨rfl, hr9, hu9⟩; have hD9 := hD8.dlCall hu9 hr9; have hD10 := hD9.dlQuiet ((Upd.refl [] w9).alloc (.cells #[.int .i64 x1, .int .i64 x2, .int .i64 x3] 62)); have d9 : w9.cell? ⟨T, 3, none⟩ = some v2 := hD9.sys.facts.2.2.2.1; have d9' : (w9.alloc (.cells #[.int .i64 x1, .int .i64 x2, .int .i64 x3] 62)).cell? ⟨T, 3, none⟩ = some v2 := hD10.sys.facts.2.2.2.1; have hsz9 := hu9.size; refine ⟨_, rfl, ?_⟩)
                  | (refine step_append_lies _ (by rfl) _ _ 28 (by rfl) (p + 1) 62 i3 (.agg #[.int .i64 0, .int .i64 0, .int .i64 0]) 3 24 Tryz.underlying28 ni nz0 nz1 nz2 rfl (by decide) v2 E.length (E.flatMap edCs) (by rfl) hD10.row2 ⟨w9.heap.size, 0, none⟩ 1 1 [.int .i64 x1, .int .i64 x2, .int .i64 x3] (by rfl) (by rfl) (by intro j u hj; match j, hj with | 0, hj => simp at hj; subst hj; simp [Addr.add] | 1, hj => simp at hj; subst hj; simp [Addr.add] | 2, hj => simp at hj; subst hj; simp [Addr.add]) (by simp [Value.oneCell']) (by decide) (by unfold maxLen; omega) (by omega) (by simp at hsz7 hsz8 hsz9 ⊢; omega) (w9.heap.size + 1) (by simp) ?_; intro g gcap w10 hown10 hg10 hat10 hlt10; obtain ⟨f2, hfz8, HD11⟩ := hD10.dlPushE (t := ⟨x1, x2, x3⟩) hown10 hg10)))
                all_goals
                  clear hD7 hD8 hD9 hD10 d2 d7 d8 d9 d9' hown10 hg10 hat10 hlt10 S5 S6 S7 hu7 hr7 hu8 hr8 hu9 hr9
                  go_wp2_with fail
                  go_roundw
                  case rel => exact ⟨K - 1, E ++ [⟨x1, x2, x3⟩], _, r3, b3, by rw [show ((K - 1 : Nat) : Int) = (K : Int) - 1 by omega], by omega, HD11, Lib.hid ⟨fun h => by have := HT.out.2.1 h; have := HB2.out.1; simp; omega, by have := HT.out.1; have := HB2.out.1; simp; omega, by have := HT.out.1; have := HB2.out.2; omega⟩, HRL2⟩
                  case measure => simp [intOf]; omega
              | false =>
                have hq : (decide (0 < K) && !b') = false := HQ.out.symm
                have HZ := Lib.hid (show Es = E ∧ rg = r' ∧ bg = b' from by
                  have h9 := HRL.out
                  cases b' with
                  | true => rw [rEs_bad] at h9; simp only [Prod.mk.injEq] at h9; exact ⟨h9.1.symm, h9.2.1.symm, h9.2.2.symm⟩
                  | false =>
                    simp at hq
                    rw [show K = 0 by omega, rEs] at h9; simp only [Prod.mk.injEq] at h9; exact ⟨h9.1.symm, h9.2.1.symm, h9.2.2.symm⟩)
                obtain ⟨rfl, rfl, rfl⟩ := HZ.out
                have hs3 : 0 < s.length := by have := opF_len HO.out; omega
                have HIC := Lib.hid (img_case (X := ⟨a, b, Ls, Es⟩) hs3 (by rw [HIMG.out, HSYS.out]))
                obtain ⟨f1, f2, rs, re⟩ := HDL.out.dlFin
                have S8 := Lib.hid (encI ⟨a, b, Ls, Es⟩ v1 v2 wc f1 f2 rs re HQL.out (HEnv.out.upd HDL.out.upd))
                obtain ⟨s1, t1, hv1⟩ := ownsRow_form HDL.out.row1
                obtain ⟨s2, t2, hv2⟩ := ownsRow_form HDL.out.row2
                subst hv1
                subst hv2
                obtain ⟨y0, y1, y2, y3, -⟩ := HDL.out.sys.facts
                generalize (if sysOk ⟨a, b, Ls, Es⟩ then sysImg ⟨a, b, Ls, Es⟩ else []) = Z at *
                simp only at S8
                clear HZ HB HRL HQ c1 rs re HIMG HSYS HQL HEnv
                clear hq
                go_wp2_with fail
                refine S8.out.mono ?_
                rintro e w9 ⟨rfl, hu9⟩
                have HD9 := Lib.hid (HDL.out.dlQuiet hu9)
                obtain ⟨x0, x1, x2, x3, -⟩ := HD9.out.sys.facts
                obtain ⟨o0, o1, o2, o3, fz⟩ := HD9.out.out.facts
                have z0 := fz 0
                have z1 := fz 1
                have z2 := fz 2
                have z3 := fz 3
                clear S8 HDL hu9 y0 y1 y2 y3 fz
                rcases HIC.out with ⟨hz, hi⟩ | ⟨hz, hi⟩
                · have HDD := Lib.hid (HDS.out _ HO.out hi)
                  subst hz
                  obtain ⟨st1, st2, st3⟩ := HD9.out.dlStored
                  obtain ⟨n0, n1, n2, n3, -⟩ := st1.facts
                  have HST := Lib.hid (And.intro st2 st3)
                  clear HIC hi st1 st2 st3
                  go_wp2_with fail
                  refine bodyPost_ret (v := .tuple #[.agg #[ei a, ei b, .slice s1 Ls.length t1, .slice s2 Es.length t2], .int .i64 0]) (by simp [results, Tryz.results15, go_sem, n0, n1, n2, n3]) rfl ⟨⟨_, by rw [HDD.out]; rfl, ?_⟩, HST.out.2⟩
                  rw [HDD.out]; exact HST.out.1
                · have HDD := Lib.hid (HDQ.out HO.out hi)
                  have bz : (Z != s) = true := by simp [hz]
                  have bz2 : (Z == s) = false := by simp [hz]
                  obtain ⟨st1, st3⟩ := HD9.out.dlCleared
                  obtain ⟨n0, n1, n2, n3, -⟩ := st1.facts
                  have HST := Lib.hid st3
                  clear HIC hz hi st1 st3
                  go_wp2_with fail
                  refine bodyPost_ret (v := .tuple #[.agg #[ei 0, ei 0, .slice none 0 0, .slice none 0 0], .int .i64 9]) (by simp [results, Tryz.results15, go_sem, n0, n1, n2, n3]) rfl ⟨⟨_, by rw [HDD.out]; rfl, ?_⟩, HST.out⟩
                  rw [HDD.out]; exact new_zero _ _

end Go.Proofs.YtlogbiacnadcaaaGreatDoor

/-
  The reference's reader of images: what its calls return and leave.
-/
namespace Go.Proofs.YtlogbiacnadcaaaGreatDoor
open Go.RowKit

/-- the reference's reader at block p: the rest of its text, and whether it is bad. -/
def RdS (p : Nat) (w : World) (r : List UInt8) (b : Bool) : Prop := ∃ (S : List UInt8) (i : Nat), i ≤ S.length ∧ S.length ≤ 2000000 ∧ S.drop i = r ∧ w.heap[p]? = some (.cells #[es S, .int .i64 i, .bool b] 71 (0, 0))
theorem RdS.upd {p : Nat} {w w1 : World} {r : List UInt8} {b : Bool} (h : RdS p w r b) {f : List Nat} (hu : Upd f w w1) (hf : p ∉ f) : RdS p w1 r b := by
  obtain ⟨S, i, h1, h2, h3, h4⟩ := h
  exact ⟨S, i, h1, h2, h3, by rw [hu.block p (Array.getElem?_eq_some_iff.1 h4).1 hf]; exact h4⟩
theorem rds_cells {p : Nat} {w : World} {S : List UInt8} {i : Nat} {b : Bool} (h : w.heap[p]? = some (.cells #[es S, .int .i64 i, .bool b] 71 (0, 0))) :
    w.cell? ⟨p, 0, none⟩ = some (es S) ∧ w.cell? ⟨p, 1, none⟩ = some (.int .i64 i) ∧ w.cell? ⟨p, 2, none⟩ = some (.bool b) ∧ w.frozen? ⟨p, 1, none⟩ = false ∧ w.frozen? ⟨p, 2, none⟩ = false := by
  refine ⟨?_, ?_, ?_, ?_, ?_⟩
  · simp [World.cell?, h]
  · simp [World.cell?, h]
  · simp [World.cell?, h]
  · simp [World.frozen?, h]
  · simp [World.frozen?, h]
theorem rds_set1 {p : Nat} {w : World} {S : List UInt8} {i : Nat} {b : Bool} (h : w.heap[p]? = some (.cells #[es S, .int .i64 i, .bool b] 71 (0, 0))) (j : Nat) (u : Value) (hu : u = .int .i64 j) :
    (w.setCell ⟨p, 1, none⟩ u).heap[p]? = some (.cells #[es S, .int .i64 j, .bool b] 71 (0, 0)) := by
  subst hu
  have := heap_setCell_same w p 1 _ _ (.int .i64 j) h
  simpa using this
theorem rds_set2 {p : Nat} {w : World} {S : List UInt8} {i : Nat} {b : Bool} (h : w.heap[p]? = some (.cells #[es S, .int .i64 i, .bool b] 71 (0, 0))) (b' : Bool) :
    (w.setCell ⟨p, 2, none⟩ (.bool b')).heap[p]? = some (.cells #[es S, .int .i64 i, .bool b'] 71 (0, 0)) := by
  have := heap_setCell_same w p 2 _ _ (.bool b') h
  simpa using this

theorem DL.callS {H p T : Nat} {w W W' : World} {a b : Int} {L : List (List UInt8)} {E : List Ed} {v1 v2 : Value} {o : Obj} (h : DL H p T w W a b L E v1 v2 o) (hu : Upd [p] W W') {r : List UInt8} {bd : Bool} (hr : RdS p W' r bd) : ∃ o', DL H p T w W' a b L E v1 v2 o' := by
  obtain ⟨S, i, -, -, -, h4⟩ := hr
  exact ⟨_, h.dlCall hu h4⟩
/-- all that is under way while the reference reads a system. -/
def DS (H p T : Nat) (w W : World) (a b : Int) (L : List (List UInt8)) (E : List Ed) (v1 v2 : Value) (r : List UInt8) (bd : Bool) : Prop :=
  ∃ (S : List UInt8) (i : Nat), i ≤ S.length ∧ S.length ≤ 2000000 ∧ S.drop i = r ∧ DL H p T w W a b L E v1 v2 (.cells #[es S, .int .i64 i, .bool bd] 71 (0, 0))
theorem DS.rd {H p T : Nat} {w W : World} {a b : Int} {L : List (List UInt8)} {E : List Ed} {v1 v2 : Value} {r : List UInt8} {bd : Bool} (h : DS H p T w W a b L E v1 v2 r bd) : RdS p W r bd := by
  obtain ⟨S, i, h1, h2, h3, h4⟩ := h
  exact ⟨S, i, h1, h2, h3, h4.rd⟩
theorem DS.dl {H p T : Nat} {w W : World} {a b : Int} {L : List (List UInt8)} {E : List Ed} {v1 v2 : Value} {r : List UInt8} {bd : Bool} (h : DS H p T w W a b L E v1 v2 r bd) : ∃ o, DL H p T w W a b L E v1 v2 o := by
  obtain ⟨S, i, h1, h2, h3, h4⟩ := h
  exact ⟨_, h4⟩
theorem DS.of {H p T : Nat} {w W : World} {a b : Int} {L : List (List UInt8)} {E : List Ed} {v1 v2 : Value} {o : Obj} {r : List UInt8} {bd : Bool} (h : DL H p T w W a b L E v1 v2 o) (hr : RdS p W r bd) : DS H p T w W a b L E v1 v2 r bd := by
  obtain ⟨S, i, h1, h2, h3, h4⟩ := hr
  have h5 := h.rd
  rw [h4] at h5
  cases h5
  exact ⟨S, i, h1, h2, h3, h⟩

/-- an edge's three cells in a block of their own. -/
def EdAt (Q : Nat) (W : World) (x y z : Int) : Prop := W.heap[Q]? = some (.cells #[ei x, ei y, ei z] 62 (0, 0))
theorem EdAt.facts {Q : Nat} {W : World} {x y z : Int} (h : EdAt Q W x y z) : W.cell? ⟨Q, 0, none⟩ = some (ei x) ∧ W.cell? ⟨Q, 1, none⟩ = some (ei y) ∧ W.cell? ⟨Q, 2, none⟩ = some (ei z) ∧ ∀ j, W.frozen? ⟨Q, j, none⟩ = false := by
  unfold EdAt at h
  refine ⟨?_, ?_, ?_, fun j => ?_⟩
  · simp [World.cell?, h]
  · simp [World.cell?, h]
  · simp [World.cell?, h]
  · simp [World.frozen?, h]
theorem EdAt.upd {Q : Nat} {w w1 : World} {x y z : Int} (h : EdAt Q w x y z) {f : List Nat} (hu : Upd f w w1) (hf : Q ∉ f) : EdAt Q w1 x y z := by
  unfold EdAt at *
  rw [hu.block Q (Array.getElem?_eq_some_iff.1 h).1 hf]; exact h
theorem EdAt.set0 {Q : Nat} {w : World} {x y z : Int} (h : EdAt Q w x y z) (n : Int) : EdAt Q (w.setCell ⟨Q, 0, none⟩ (ei n)) n y z := by
  unfold EdAt
  have := heap_setCell_same w Q 0 _ _ (ei n) h
  simpa using this
theorem EdAt.set1 {Q : Nat} {w : World} {x y z : Int} (h : EdAt Q w x y z) (n : Int) : EdAt Q (w.setCell ⟨Q, 1, none⟩ (ei n)) x n z := by
  unfold EdAt
  have := heap_setCell_same w Q 1 _ _ (ei n) h
  simpa using this
theorem EdAt.set2 {Q : Nat} {w : World} {x y z : Int} (h : EdAt Q w x y z) (n : Int) : EdAt Q (w.setCell ⟨Q, 2, none⟩ (ei n)) x y n := by
  unfold EdAt
  have := heap_setCell_same w Q 2 _ _ (ei n) h
  simpa using this
theorem RdS.len {p : Nat} {w : World} {r : List UInt8} {b : Bool} (h : RdS p w r b) : r.length ≤ 2000000 ∧ w.cell? ⟨p, 2, none⟩ = some (.bool b) := by
  obtain ⟨S, i, h1, h2, rfl, h4⟩ := h
  exact ⟨by simp; omega, (rds_cells h4).2.2.1⟩

set_option maxRecDepth 20000 in
set_option maxHeartbeats 4000000 in
theorem numR (p : Nat) (r : List UInt8) (b : Bool) (w : World) (h : RdS p w r b) :
    Calls Tryz.prog 44 #[.pointer (some ⟨p, 0, none⟩)] w fun e w' => e = .returned (.int .i64 ((rN 3 r b).1 : Nat)) ∧ RdS p w' (rN 3 r b).2.1 (rN 3 r b).2.2 ∧ Upd [p] w w' := by
  obtain ⟨S, i0, hi0, hSl, rfl, hh⟩ := h
  have H0 := Lib.hid hh
  clear hh
  go_enter Tryz.func44, Tryz.ntmps44
  go_wp2_with fail
  go_loopw [3, 4, 5] (fun nv tv iv wr => ∃ (j n t i : Nat), j ≤ 3 ∧ iv = .int .i64 j ∧ nv = .int .i64 n ∧ tv = .int .i64 t ∧ n < t ∧ Hid (t = 128 ^ j) ∧ i ≤ S.length ∧ Hid (wr.heap[p]? = some (.cells #[es S, .int .i64 i, .bool b] 71 (0, 0))) ∧ Hid (Upd [p] w wr) ∧ Hid (rdN (zF 3) (3 - j) n t (S.drop i) b = rN 3 (S.drop i0) b)) (fun _ _ iv _ => 3 - (intOf iv).toNat)
  case atStart => exact ⟨0, 0, 1, i0, by omega, rfl, rfl, rfl, by omega, Lib.hid rfl, hi0, H0, Lib.hid (Upd.refl _ _), Lib.hid rfl⟩
  case round =>
    clear H0
    obtain ⟨wo, rfl⟩ : ∃ wo : World, wo = wr := ⟨_, rfl⟩
    obtain ⟨j, n, t, i, hj, rfl, rfl, rfl, hnt, HT, hil, HR, HU, HN⟩ := hrel
    obtain ⟨c0, c1, c2, f1, f2⟩ := rds_cells HR.out
    by_cases hj4 : j < 3
    · have ht : t ≤ 16384 := by
        rw [HT.out]
        have : 128 ^ j ≤ 128 ^ 2 := Nat.pow_le_pow_right (by omega) (by omega)
        simpa using this
      by_cases hlt : i < S.length
      · obtain ⟨c, hc⟩ : ∃ c, S[i] = c := ⟨_, rfl⟩
        have hix : (⟨S.toArray⟩ : ByteArray)[i]'(by simpa [ByteArray.size] using hlt) = c := by rw [← hc]; simp [ByteArray.getElem_eq_getElem_data]
        have hc1 : (c.toNat : Int) ≤ 255 := by have := c.toNat_lt; omega
        have hN := HN.out
        rw [List.drop_eq_getElem_cons hlt, hc, show 3 - j = (3 - (j + 1)) + 1 by omega, rdN] at hN
        have HQ := Lib.hid (rds_set1 HR.out (i + 1) (.int .i64 ((i : Int) + 1)) (by simp))
        have HV := Lib.hid (HU.out.drew)
        by_cases hc128 : c.toNat < 128
        · rw [if_pos hc128] at hN
          obtain ⟨m, hm⟩ : ∃ m, c.toNat * t = m := ⟨_, rfl⟩
          have hml : m ≤ 127 * t := by rw [← hm]; exact Nat.mul_le_mul_right t (by omega)
          have hmm : (c.toNat : Int) % 128 * (t : Int) = (m : Int) := by
            rw [show (c.toNat : Int) % 128 = (c.toNat : Int) by omega, ← hm]; simp
          rw [hm] at hN
          have HE := Lib.hid hN
          have hci : (c.toNat : Int) < 128 := by omega
          have hgeq : ¬ (S.length : Int) ≤ (i : Int) := by omega
          clear HN HT hm hN hc
          go_wp2_with fail
          go_quiet (fail)
          go_wp2_with fail
          go_quiet (fail)
          go_wp2_with fail
          go_ret
          rw [← HE.out]
          exact ⟨rfl, ⟨S, i + 1, by omega, hSl, rfl, HQ.out⟩, ((HU.out.drewN _)).setCell (Or.inr (by simp)) _⟩
        · rw [if_neg hc128] at hN
          obtain ⟨m, hm⟩ : ∃ m, c.toNat % 128 * t = m := ⟨_, rfl⟩
          have hml : m ≤ 127 * t := by rw [← hm]; exact Nat.mul_le_mul_right t (by omega)
          have hmm : (c.toNat : Int) % 128 * (t : Int) = (m : Int) := by rw [← hm]; simp
          rw [hm] at hN
          have HE := Lib.hid hN
          have hci : ¬ (c.toNat : Int) < 128 := by omega
          have hgeq : ¬ (S.length : Int) ≤ (i : Int) := by omega
          have HT2 := Lib.hid (show t * 128 = 128 ^ (j + 1) by rw [HT.out, Nat.pow_succ])
          clear HN HT hm hN hc
          go_wp2_with fail
          go_quiet (fail)
          go_wp2_with fail
          go_quiet (fail)
          go_wp2_with fail
          go_roundw
          case rel => exact ⟨j + 1, n + m, t * 128, i + 1, by omega, by go_num, by go_num, by go_num, by omega, HT2, by omega, Lib.hid HQ.out, Lib.hid ((HU.out.drewN _).setCell (Or.inr (by simp)) _), HE⟩
          case measure => simp [intOf]; omega
      · obtain rfl : i = S.length := by omega
        have HE := Lib.hid (show rN 3 (S.drop i0) b = (0, [], true) by rw [← HN.out, List.drop_length, show 3 - j = (2 - j) + 1 by omega]; rfl)
        have HQ := Lib.hid (rds_set2 HR.out true)
        clear HN HT
        go_wp2_with fail
        go_quiet (fail)
        go_wp2_with fail
        go_ret
        rw [HE.out]
        exact ⟨rfl, ⟨S, S.length, Nat.le_refl _, hSl, List.drop_length, HQ.out⟩, (HU.out.drewN _).setCell (Or.inr (by simp)) _⟩
    · obtain rfl : j = 3 := by omega
      have HE := Lib.hid (show rN 3 (S.drop i0) b = (0, S.drop i, true) by rw [← HN.out]; rfl)
      have HQ := Lib.hid (rds_set2 HR.out true)
      clear HN HT
      go_wp2_with fail
      go_ret
      rw [HE.out]
      exact ⟨rfl, ⟨S, i, hil, hSl, rfl, HQ.out⟩, HU.out.setCell (Or.inr (by simp)) _⟩

set_option maxRecDepth 20000 in
set_option maxHeartbeats 4000000 in
theorem textR (p : Nat) (r : List UInt8) (b : Bool) (w : World) (h : RdS p w r b) :
    Calls Tryz.prog 45 #[.pointer (some ⟨p, 0, none⟩)] w fun e w' => e = .returned (es (rT 3 r b).1) ∧ RdS p w' (rT 3 r b).2.1 (rT 3 r b).2.2 ∧ Upd [p] w w' := by
  have S1 := Lib.hid (numR p r b w h)
  have HE := Lib.hid (show rT 3 r b = if (rN 3 r b).2.2 = true ∨ (rN 3 r b).2.1.length < (rN 3 r b).1 then ([], (rN 3 r b).2.1, true) else ((rN 3 r b).2.1.take (rN 3 r b).1, (rN 3 r b).2.1.drop (rN 3 r b).1, (rN 3 r b).2.2) from by unfold rT; simp)
  have hf1 := (rN_fits 3 r b).1
  generalize (rN 3 r b).1 = n at *
  generalize (rN 3 r b).2.1 = r1 at *
  generalize (rN 3 r b).2.2 = b1 at *
  have hn : (n : Int) ≤ 2097152 := by
    have : (128 : Nat) ^ 3 = 2097152 := by decide
    omega
  clear h hf1
  go_enter Tryz.func45, Tryz.ntmps45
  go_wp2_with fail
  refine S1.out.mono ?_
  rintro e w1 ⟨rfl, ⟨S, i, hi, hSl, hd, hh⟩, hu1⟩
  obtain ⟨c0, c1, c2, f1, f2⟩ := rds_cells hh
  have hlen : r1.length = S.length - i := by rw [← hd]; simp
  have HU := Lib.hid hu1
  have HH := Lib.hid hh
  clear S1 hu1 hh
  cases b1 with
  | true =>
    have HR := Lib.hid (HE.out.trans (if_pos (Or.inl rfl)))
    have HQ := Lib.hid (rds_set2 HH.out true)
    clear HE
    go_wp2_with fail
    go_quiet (fail)
    go_wp2_with fail
    go_ret
    rw [HR.out]
    exact ⟨rfl, ⟨S, i, hi, hSl, hd, HQ.out⟩, (HU.out.drewN _).setCell (Or.inr (by simp)) _⟩
  | false =>
    by_cases hb : r1.length < n
    · have HR := Lib.hid (HE.out.trans (if_pos (Or.inr hb)))
      have HQ := Lib.hid (rds_set2 HH.out true)
      have hbi : (S.length : Int) - (i : Int) < n := by omega
      clear HE
      go_wp2_with fail
      go_quiet (fail)
      go_wp2_with fail
      go_ret
      rw [HR.out]
      exact ⟨rfl, ⟨S, i, hi, hSl, hd, HQ.out⟩, (HU.out.drewN _).setCell (Or.inr (by simp)) _⟩
    · have HR := Lib.hid (HE.out.trans (if_neg (by simp; omega)))
      have HQ := Lib.hid (rds_set1 HH.out (i + n) (.int .i64 ((i : Int) + (n : Int))) (by simp))
      have hbi : ¬ (S.length : Int) - (i : Int) < n := by omega
      have hex1 := extract_list S i (i + n)
      rw [Nat.add_sub_cancel_left, hd] at hex1
      have HD := Lib.hid (show S.drop (i + n) = r1.drop n by rw [← hd, List.drop_drop])
      have hin : i + n ≤ S.length := by omega
      generalize r1.take n = A at *
      generalize r1.drop n = B at *
      clear HE
      go_wp2_with fail
      go_quiet (fail)
      go_wp2_with fail
      go_quiet (fail)
      go_wp2_with fail
      go_ret
      rw [HR.out]
      exact ⟨congrArg (fun s => Ending.returned (Value.string s)) hex1, ⟨S, i + n, hin, hSl, HD.out, HQ.out⟩, ((HU.out.drewN _).setCell (Or.inr (by simp)) _).drewN _⟩

end Go.Proofs.YtlogbiacnadcaaaGreatDoor

/-
  Labels in order: what the reference's call returns.
-/
namespace Go.Proofs.YtlogbiacnadcaaaGreatDoor
open Go.RowKit

theorem isLab_tau : isLab tauL = true := by
  unfold isLab; rw [readF_labT (name := tauL) (vs := []) (by simp [labT])]; rfl

set_option maxRecDepth 20000 in
set_option maxHeartbeats 4000000 in
theorem namesS (labs : List (List UInt8)) (v : Value) (w : World) (fp : List Nat) (hR : RS fp w [v] labs) (hp : ∀ p ∈ labs, p.length ≤ 2000000) :
    Calls Tryz.prog 74 #[v] w fun e w' => e = .returned (.bool (labsOk labs)) ∧ Upd [] w w' := by
  have HLO := Lib.hid (show labsOk labs = (decide (1 ≤ labs.length) && decide (labs.length ≤ 12) && allF (labP labs) 0 labs.length) from rfl)
  have HR1 := Lib.hid hR
  have HP := Lib.hid hp
  obtain ⟨a1, c1, rfl, hl1, hm1, hc⟩ := slF1_open hR
  unfold maxLen at hm1
  clear hR hp
  by_cases h0 : labs.length = 0
  · have HF := Lib.hid (show labsOk labs = false by rw [HLO.out, h0]; rfl)
    clear HLO HR1 hc HP
    rw [h0]
    go_enter Tryz.func74, Tryz.ntmps74
    go_wp2_with fail
    go_ret
    exact ⟨by rw [HF.out]; rfl, Upd.refl _ _⟩
  · have h0b : ((labs.length : Int) == 0) = false := beq_eq_false_iff_ne.2 (by omega)
    have h0c : ¬ (labs.length : Int) = 0 := by omega
    by_cases h12 : 12 < labs.length
    · have HF := Lib.hid (show labsOk labs = false by rw [HLO.out, decide_eq_false (show ¬ labs.length ≤ 12 by omega)]; simp)
      have h12i : (12 : Int) < (labs.length : Int) := by omega
      clear HLO HR1 hc HP
      go_enter Tryz.func74, Tryz.ntmps74
      go_wp2_with fail
      go_ret
      exact ⟨by rw [HF.out]; rfl, Upd.refl _ _⟩
    · have HLO2 := Lib.hid (show labsOk labs = allF (labP labs) 0 labs.length by rw [HLO.out, decide_eq_true (show labs.length ≤ 12 by omega), decide_eq_true (show 1 ≤ labs.length by omega)]; simp)
      have h12i : ¬ (12 : Int) < (labs.length : Int) := by omega
      have hpos : 0 < labs.length := by omega
      have hposi : (0 : Int) < (labs.length : Int) := by omega
      obtain ⟨b1, o1, rfl, -, -, p0⟩ := hc 0 hpos
      rw [Nat.add_zero] at p0
      have HA0 := Lib.hid (allF_step (labP labs) 0 labs.length hpos)
      have HLP0 := Lib.hid (labP_at labs 0 hpos)
      generalize labs[0] = s0 at *
      clear HLO hc h0
      by_cases ht0 : s0 = tauL
      · have HA := Lib.hid (show allF (labP labs) 1 (labs.length - 1) = allF (labP labs) 0 labs.length by
          have := HA0.out
          rw [HLP0.out, ht0, isLab_tau] at this
          rw [Nat.sub_zero] at this
          rw [this]; simp)
        have g1 : (s0 == [116, 97, 117]) = true := by simpa [tauL] using ht0
        have g1n : (s0 != [116, 97, 117]) = false := by simp [bne, g1]
        clear HA0 HLP0 ht0
        go_enter Tryz.func74, Tryz.ntmps74
        go_wp2_with fail
        go_loopw [3] (fun iv wr => ∃ k : Nat, 1 ≤ k ∧ k ≤ labs.length ∧ iv = .int .i64 k ∧ Hid (allF (labP labs) k (labs.length - k) = allF (labP labs) 0 labs.length) ∧ Upd [] w wr) (fun iv _ => labs.length - (intOf iv).toNat)
        case atStart => exact ⟨1, Nat.le_refl _, hpos, rfl, HA, Upd.refl _ _⟩
        case round =>
          clear HA
          obtain ⟨k, hk1, hk, rfl, HA, hU⟩ := hrel
          by_cases hlt : k < labs.length
          · obtain ⟨a', c', hv, -, -, hc⟩ := slF1_open (RSk.upd HR1.out hU (by simp))
            cases hv
            obtain ⟨b2, o2, hv2, -, -, x0⟩ := hc k hlt
            cases hv2
            obtain ⟨b2, o2, hv2, -, -, q0⟩ := hc (k - 1) (by omega)
            cases hv2
            have HA2 := Lib.hid (HA.out.symm.trans (allF_step (labP labs) k labs.length hlt))
            have HLP := Lib.hid (labP_at labs k hlt)
            have hpv : labs.getD (k - 1) [] = labs[k - 1] := by rw [List.getD_eq_getElem?_getD, List.getElem?_eq_getElem (by omega)]; rfl
            rw [← hpv] at q0
            have SL := Lib.hid (fun W => labelS labs[k] W (HP.out labs[k] (List.getElem_mem hlt)))
            generalize labs.getD (k - 1) [] = pv at *
            generalize labs[k] = s at *
            have HU := Lib.hid hU
            have k0 : decide (k = 0) = false := decide_eq_false (by omega)
            rw [k0] at HLP
            clear hc HA hU hpv k0 p0
            cases hls : isLab s with
            | false =>
              have HRR := Lib.hid (show labsOk labs = false by rw [HLO2.out, HA2.out, HLP.out, hls]; rfl)
              rw [hls] at SL
              clear HLO2 HA2 HLP hls
              go_wp2_with fail
              refine wp_region_held_drew (S := fun w' => w'.cell? ⟨b1, o1 + k, none⟩ = some (es s) ∧ w'.cell? ⟨b1, o1 + (k - 1), none⟩ = some (es pv)) (by kernel_rfl) ?_ (fun hHeld => ?_)
              · exact ⟨x0, q0⟩
              refine wpAnyH_take (i := 0) (v := ?_) rfl (by kernel_rfl) (by kernel_rfl) (by kernel_rfl) (fun _ _ _ h => h) (Or.inl ⟨by rfl, ?_⟩) (by assumption) ?_
              rotate_left
              · (intro w hSw; (try dsimp only at hSw); go_simp)
                first | done | with_reducible rfl
              simp only [Act.put, List.getElem_toArray, List.getElem_cons_zero, List.setIfInBounds_toArray, List.set_cons_zero, List.set_cons_succ]
              refine wpAnyH_take (i := 1) (v := ?_) rfl (by kernel_rfl) (by kernel_rfl) (by kernel_rfl) (fun _ _ _ h => h) (Or.inl ⟨by rfl, ?_⟩) (by assumption) ?_
              rotate_left
              · (intro w hSw; (try dsimp only at hSw); go_simp)
                first | done | with_reducible rfl
              simp only [Act.put, List.getElem_toArray, List.getElem_cons_zero, List.getElem_cons_succ, List.setIfInBounds_toArray, List.set_cons_zero, List.set_cons_succ]
              refine wpAnyH_take (i := 2) (v := ?_) rfl (by kernel_rfl) (by kernel_rfl) (by kernel_rfl) (fun _ _ _ h => h) (Or.inl ⟨by rfl, ?_⟩) (by assumption) ?_
              rotate_left
              · (intro w hSw; (try dsimp only at hSw); go_simp)
                first | done | with_reducible rfl
              simp only [Act.put, List.getElem_toArray, List.getElem_cons_zero, List.getElem_cons_succ, List.setIfInBounds_toArray, List.set_cons_zero, List.set_cons_succ]
              refine wpAnyH_take (i := 3) (v := ?_) rfl (by kernel_rfl) (by kernel_rfl) (by kernel_rfl) (fun _ _ _ h => h) (Or.inl ⟨by rfl, ?_⟩) (by assumption) ?_
              rotate_left
              · (intro w hSw; (try dsimp only at hSw); go_simp)
                first | done | with_reducible rfl
              simp only [Act.put, List.getElem_toArray, List.getElem_cons_zero, List.getElem_cons_succ, List.setIfInBounds_toArray, List.set_cons_zero, List.set_cons_succ]
              refine wpAnyH_ready (rs := [4]) (by kernel_rfl) (by simp) ?_
              refine AllReadyH.cons rfl (fun K hK => ?_) AllReadyH.nil
              go_simp
              refine (SL.out _).mono ?_
              rintro e w4 ⟨rfl, hu1⟩
              refine hK.out _ _ ?_ (fun hHeld => ?_)
              · exact ⟨hu1.keep hHeld.1, hu1.keep hHeld.2⟩
              clear hK K
              try simp only [Act.put, List.getElem_toArray, List.getElem_cons_zero, List.getElem_cons_succ, List.setIfInBounds_toArray, List.set_cons_zero, List.set_cons_succ]
              refine wpAnyH_take (i := 5) (v := ?_) rfl (by kernel_rfl) (by kernel_rfl) (by kernel_rfl) (fun _ _ _ h => h) (Or.inl ⟨by rfl, ?_⟩) (by assumption) ?_
              rotate_left
              · (intro w hSw; (try dsimp only at hSw); go_simp)
                first | done | with_reducible rfl
              simp only [Act.put, List.getElem_toArray, List.getElem_cons_zero, List.getElem_cons_succ, List.setIfInBounds_toArray, List.set_cons_zero, List.set_cons_succ]
              refine wpAnyH_take (i := 6) (v := ?_) rfl (by kernel_rfl) (by kernel_rfl) (by kernel_rfl) (fun _ _ _ h => h) (Or.inl ⟨by rfl, ?_⟩) (by assumption) ?_
              rotate_left
              · (intro w hSw; (try dsimp only at hSw); go_simp)
                first | done | with_reducible rfl
              simp only [Act.put, List.getElem_toArray, List.getElem_cons_zero, List.getElem_cons_succ, List.setIfInBounds_toArray, List.set_cons_zero, List.set_cons_succ]
              refine wpAnyH_take (i := 7) rfl (by kernel_rfl) (by kernel_rfl) (by kernel_rfl) (fun _ _ _ h => h) (Or.inr ⟨by rfl, rfl⟩) (by assumption) ?_
              simp only [Act.put, List.getElem_toArray, List.getElem_cons_zero, List.getElem_cons_succ, List.setIfInBounds_toArray, List.set_cons_zero, List.set_cons_succ]
              refine wpAnyH_take (i := 8) rfl (by kernel_rfl) (by kernel_rfl) (by kernel_rfl) (fun _ _ _ h => h) (Or.inr ⟨by rfl, rfl⟩) (by assumption) ?_
              simp only [Act.put, List.getElem_toArray, List.getElem_cons_zero, List.getElem_cons_succ, List.setIfInBounds_toArray, List.set_cons_zero, List.set_cons_succ]
              refine wpAnyH_take (i := 9) rfl (by kernel_rfl) (by kernel_rfl) (by kernel_rfl) (fun _ _ _ h => h) (Or.inr ⟨by rfl, rfl⟩) (by assumption) ?_
              simp only [Act.put, List.getElem_toArray, List.getElem_cons_zero, List.getElem_cons_succ, List.setIfInBounds_toArray, List.set_cons_zero, List.set_cons_succ]
              refine wpAnyH_take (i := 10) rfl (by kernel_rfl) (by kernel_rfl) (by kernel_rfl) (fun _ _ _ h => h) (Or.inr ⟨by rfl, rfl⟩) (by assumption) ?_
              simp only [Act.put, List.getElem_toArray, List.getElem_cons_zero, List.getElem_cons_succ, List.setIfInBounds_toArray, List.set_cons_zero, List.set_cons_succ]
              refine wpAnyH_take (i := 11) rfl (by kernel_rfl) (by kernel_rfl) (by kernel_rfl) (fun _ _ _ h => h) (Or.inr ⟨by rfl, rfl⟩) (by assumption) ?_
              simp only [Act.put, List.getElem_toArray, List.getElem_cons_zero, List.getElem_cons_succ, List.setIfInBounds_toArray, List.set_cons_zero, List.set_cons_succ]
              refine wpAnyH_take (i := 12) (v := ?_) rfl (by kernel_rfl) (by kernel_rfl) (by kernel_rfl) (fun _ _ _ h => h) (Or.inl ⟨by rfl, ?_⟩) (by assumption) ?_
              rotate_left
              · (intro w hSw; (try dsimp only at hSw); go_simp)
                first | done | with_reducible rfl
              simp only [Act.put, List.getElem_toArray, List.getElem_cons_zero, List.getElem_cons_succ, List.setIfInBounds_toArray, List.set_cons_zero, List.set_cons_succ]
              refine wpAnyH_take (i := 13) (v := ?_) rfl (by kernel_rfl) (by kernel_rfl) (by kernel_rfl) (fun _ _ _ h => h) (Or.inl ⟨by rfl, ?_⟩) (by assumption) ?_
              rotate_left
              · (intro w hSw; (try dsimp only at hSw); go_simp)
                first | done | with_reducible rfl
              simp only [Act.put, List.getElem_toArray, List.getElem_cons_zero, List.getElem_cons_succ, List.setIfInBounds_toArray, List.set_cons_zero, List.set_cons_succ]
              refine wpAnyH_take (i := 14) rfl (by kernel_rfl) (by kernel_rfl) (by kernel_rfl) (fun _ _ _ h => h) (Or.inr ⟨by rfl, rfl⟩) (by assumption) ?_
              simp only [Act.put, List.getElem_toArray, List.getElem_cons_zero, List.getElem_cons_succ, List.setIfInBounds_toArray, List.set_cons_zero, List.set_cons_succ]
              refine wpAnyH_take (i := 15) rfl (by kernel_rfl) (by kernel_rfl) (by kernel_rfl) (fun _ _ _ h => h) (Or.inr ⟨by rfl, rfl⟩) (by assumption) ?_
              simp only [Act.put, List.getElem_toArray, List.getElem_cons_zero, List.getElem_cons_succ, List.setIfInBounds_toArray, List.set_cons_zero, List.set_cons_succ]
              refine wpAnyH_take (i := 16) rfl (by kernel_rfl) (by kernel_rfl) (by kernel_rfl) (fun _ _ _ h => h) (Or.inr ⟨by rfl, rfl⟩) (by assumption) ?_
              simp only [Act.put, List.getElem_toArray, List.getElem_cons_zero, List.getElem_cons_succ, List.setIfInBounds_toArray, List.set_cons_zero, List.set_cons_succ]
              refine wpAnyH_take (i := 17) rfl (by kernel_rfl) (by kernel_rfl) (by kernel_rfl) (fun _ _ _ h => h) (Or.inr ⟨by rfl, rfl⟩) (by assumption) ?_
              simp only [Act.put, List.getElem_toArray, List.getElem_cons_zero, List.getElem_cons_succ, List.setIfInBounds_toArray, List.set_cons_zero, List.set_cons_succ]
              refine wpAnyH_take (i := 18) rfl (by kernel_rfl) (by kernel_rfl) (by kernel_rfl) (fun _ _ _ h => h) (Or.inr ⟨by rfl, rfl⟩) (by assumption) ?_
              simp only [Act.put, List.getElem_toArray, List.getElem_cons_zero, List.getElem_cons_succ, List.setIfInBounds_toArray, List.set_cons_zero, List.set_cons_succ]
              refine wpAnyH_take (i := 19) rfl (by kernel_rfl) (by kernel_rfl) (by kernel_rfl) (fun _ _ _ h => h) (Or.inr ⟨by rfl, rfl⟩) (by assumption) ?_
              simp only [Act.put, List.getElem_toArray, List.getElem_cons_zero, List.getElem_cons_succ, List.setIfInBounds_toArray, List.set_cons_zero, List.set_cons_succ]
              refine wpAnyH_take (i := 20) rfl (by kernel_rfl) (by kernel_rfl) (by kernel_rfl) (fun _ _ _ h => h) (Or.inr ⟨by rfl, rfl⟩) (by assumption) ?_
              simp only [Act.put, List.getElem_toArray, List.getElem_cons_zero, List.getElem_cons_succ, List.setIfInBounds_toArray, List.set_cons_zero, List.set_cons_succ]
              refine wpAnyH_take (i := 21) rfl (by kernel_rfl) (by kernel_rfl) (by kernel_rfl) (fun _ _ _ h => h) (Or.inr ⟨by rfl, rfl⟩) (by assumption) ?_
              simp only [Act.put, List.getElem_toArray, List.getElem_cons_zero, List.getElem_cons_succ, List.setIfInBounds_toArray, List.set_cons_zero, List.set_cons_succ]
              refine wpAnyH_take (i := 22) rfl (by kernel_rfl) (by kernel_rfl) (by kernel_rfl) (fun _ _ _ h => h) (Or.inr ⟨by rfl, rfl⟩) (by assumption) ?_
              simp only [Act.put, List.getElem_toArray, List.getElem_cons_zero, List.getElem_cons_succ, List.setIfInBounds_toArray, List.set_cons_zero, List.set_cons_succ]
              refine wpAnyH_take (i := 23) rfl (by kernel_rfl) (by kernel_rfl) (by kernel_rfl) (fun _ _ _ h => h) (Or.inr ⟨by rfl, rfl⟩) (by assumption) ?_
              simp only [Act.put, List.getElem_toArray, List.getElem_cons_zero, List.getElem_cons_succ, List.setIfInBounds_toArray, List.set_cons_zero, List.set_cons_succ]
              refine wpAnyH_take (i := 24) rfl (by kernel_rfl) (by kernel_rfl) (by kernel_rfl) (fun _ _ _ h => h) (Or.inr ⟨by rfl, rfl⟩) (by assumption) ?_
              simp only [Act.put, List.getElem_toArray, List.getElem_cons_zero, List.getElem_cons_succ, List.setIfInBounds_toArray, List.set_cons_zero, List.set_cons_succ]
              refine wpAnyH_take (i := 25) rfl (by kernel_rfl) (by kernel_rfl) (by kernel_rfl) (fun _ _ _ h => h) (Or.inr ⟨by rfl, rfl⟩) (by assumption) ?_
              simp only [Act.put, List.getElem_toArray, List.getElem_cons_zero, List.getElem_cons_succ, List.setIfInBounds_toArray, List.set_cons_zero, List.set_cons_succ]
              refine wpAnyH_take (i := 26) rfl (by kernel_rfl) (by kernel_rfl) (by kernel_rfl) (fun _ _ _ h => h) (Or.inr ⟨by rfl, rfl⟩) (by assumption) ?_
              simp only [Act.put, List.getElem_toArray, List.getElem_cons_zero, List.getElem_cons_succ, List.setIfInBounds_toArray, List.set_cons_zero, List.set_cons_succ]
              refine wpAnyH_take (i := 27) rfl (by kernel_rfl) (by kernel_rfl) (by kernel_rfl) (fun _ _ _ h => h) (Or.inr ⟨by rfl, rfl⟩) (by assumption) ?_
              simp only [Act.put, List.getElem_toArray, List.getElem_cons_zero, List.getElem_cons_succ, List.setIfInBounds_toArray, List.set_cons_zero, List.set_cons_succ]
              refine wpAnyH_take (i := 28) (v := ?_) rfl (by kernel_rfl) (by kernel_rfl) (by kernel_rfl) (fun _ _ _ h => h) (Or.inl ⟨by rfl, ?_⟩) (by assumption) ?_
              rotate_left
              · (intro w hSw; (try dsimp only at hSw); go_simp)
                first | done | with_reducible rfl
              simp only [Act.put, List.getElem_toArray, List.getElem_cons_zero, List.getElem_cons_succ, List.setIfInBounds_toArray, List.set_cons_zero, List.set_cons_succ]
              refine wpAnyH_done (by kernel_rfl) ?_ _
              have HU9 := Lib.hid (HU.out.drew.trans hu1)
              clear HU hHeld x0 q0
              go_wp2_with fail
              go_ret
              exact ⟨by rw [HRR.out]; rfl, HU9.out⟩
            | true =>
              rw [hls] at SL HLP
              by_cases ht : s = tauL
              · have HRR := Lib.hid (show labsOk labs = false by rw [HLO2.out, HA2.out, HLP.out, ht]; simp)
                have g2 : (s == [116, 97, 117]) = true := by simpa [tauL] using ht
                clear HLO2 HA2 HLP hls ht
                go_wp2_with fail
                refine wp_region_held_drew (S := fun w' => w'.cell? ⟨b1, o1 + k, none⟩ = some (es s) ∧ w'.cell? ⟨b1, o1 + (k - 1), none⟩ = some (es pv)) (by kernel_rfl) ?_ (fun hHeld => ?_)
                · exact ⟨x0, q0⟩
                refine wpAnyH_take (i := 0) (v := ?_) rfl (by kernel_rfl) (by kernel_rfl) (by kernel_rfl) (fun _ _ _ h => h) (Or.inl ⟨by rfl, ?_⟩) (by assumption) ?_
                rotate_left
                · (intro w hSw; (try dsimp only at hSw); go_simp)
                  first | done | with_reducible rfl
                simp only [Act.put, List.getElem_toArray, List.getElem_cons_zero, List.setIfInBounds_toArray, List.set_cons_zero, List.set_cons_succ]
                refine wpAnyH_take (i := 1) (v := ?_) rfl (by kernel_rfl) (by kernel_rfl) (by kernel_rfl) (fun _ _ _ h => h) (Or.inl ⟨by rfl, ?_⟩) (by assumption) ?_
                rotate_left
                · (intro w hSw; (try dsimp only at hSw); go_simp)
                  first | done | with_reducible rfl
                simp only [Act.put, List.getElem_toArray, List.getElem_cons_zero, List.getElem_cons_succ, List.setIfInBounds_toArray, List.set_cons_zero, List.set_cons_succ]
                refine wpAnyH_take (i := 2) (v := ?_) rfl (by kernel_rfl) (by kernel_rfl) (by kernel_rfl) (fun _ _ _ h => h) (Or.inl ⟨by rfl, ?_⟩) (by assumption) ?_
                rotate_left
                · (intro w hSw; (try dsimp only at hSw); go_simp)
                  first | done | with_reducible rfl
                simp only [Act.put, List.getElem_toArray, List.getElem_cons_zero, List.getElem_cons_succ, List.setIfInBounds_toArray, List.set_cons_zero, List.set_cons_succ]
                refine wpAnyH_take (i := 3) (v := ?_) rfl (by kernel_rfl) (by kernel_rfl) (by kernel_rfl) (fun _ _ _ h => h) (Or.inl ⟨by rfl, ?_⟩) (by assumption) ?_
                rotate_left
                · (intro w hSw; (try dsimp only at hSw); go_simp)
                  first | done | with_reducible rfl
                simp only [Act.put, List.getElem_toArray, List.getElem_cons_zero, List.getElem_cons_succ, List.setIfInBounds_toArray, List.set_cons_zero, List.set_cons_succ]
                refine wpAnyH_ready (rs := [4]) (by kernel_rfl) (by simp) ?_
                refine AllReadyH.cons rfl (fun K hK => ?_) AllReadyH.nil
                go_simp
                refine (SL.out _).mono ?_
                rintro e w4 ⟨rfl, hu1⟩
                refine hK.out _ _ ?_ (fun hHeld => ?_)
                · exact ⟨hu1.keep hHeld.1, hu1.keep hHeld.2⟩
                clear hK K
                try simp only [Act.put, List.getElem_toArray, List.getElem_cons_zero, List.getElem_cons_succ, List.setIfInBounds_toArray, List.set_cons_zero, List.set_cons_succ]
                refine wpAnyH_take (i := 5) (v := ?_) rfl (by kernel_rfl) (by kernel_rfl) (by kernel_rfl) (fun _ _ _ h => h) (Or.inl ⟨by rfl, ?_⟩) (by assumption) ?_
                rotate_left
                · (intro w hSw; (try dsimp only at hSw); go_simp)
                  first | done | with_reducible rfl
                simp only [Act.put, List.getElem_toArray, List.getElem_cons_zero, List.getElem_cons_succ, List.setIfInBounds_toArray, List.set_cons_zero, List.set_cons_succ]
                refine wpAnyH_take (i := 6) (v := ?_) rfl (by kernel_rfl) (by kernel_rfl) (by kernel_rfl) (fun _ _ _ h => h) (Or.inl ⟨by rfl, ?_⟩) (by assumption) ?_
                rotate_left
                · (intro w hSw; (try dsimp only at hSw); go_simp)
                  first | done | with_reducible rfl
                simp only [Act.put, List.getElem_toArray, List.getElem_cons_zero, List.getElem_cons_succ, List.setIfInBounds_toArray, List.set_cons_zero, List.set_cons_succ]
                refine wpAnyH_take (i := 7) (v := ?_) rfl (by kernel_rfl) (by kernel_rfl) (by kernel_rfl) (fun _ _ _ h => h) (Or.inl ⟨by rfl, ?_⟩) (by assumption) ?_
                rotate_left
                · (intro w hSw; (try dsimp only at hSw); go_simp)
                  first | done | with_reducible rfl
                simp only [Act.put, List.getElem_toArray, List.getElem_cons_zero, List.getElem_cons_succ, List.setIfInBounds_toArray, List.set_cons_zero, List.set_cons_succ]
                refine wpAnyH_take (i := 8) (v := ?_) rfl (by kernel_rfl) (by kernel_rfl) (by kernel_rfl) (fun _ _ _ h => h) (Or.inl ⟨by rfl, ?_⟩) (by assumption) ?_
                rotate_left
                · (intro w hSw; (try dsimp only at hSw); go_simp)
                  first | done | with_reducible rfl
                simp only [Act.put, List.getElem_toArray, List.getElem_cons_zero, List.getElem_cons_succ, List.setIfInBounds_toArray, List.set_cons_zero, List.set_cons_succ]
                refine wpAnyH_take (i := 9) (v := ?_) rfl (by kernel_rfl) (by kernel_rfl) (by kernel_rfl) (fun _ _ _ h => h) (Or.inl ⟨by rfl, ?_⟩) (by assumption) ?_
                rotate_left
                · (intro w hSw; (try dsimp only at hSw); go_simp)
                  first | done | with_reducible rfl
                simp only [Act.put, List.getElem_toArray, List.getElem_cons_zero, List.getElem_cons_succ, List.setIfInBounds_toArray, List.set_cons_zero, List.set_cons_succ]
                refine wpAnyH_take (i := 10) (v := ?_) rfl (by kernel_rfl) (by kernel_rfl) (by kernel_rfl) (fun _ _ _ h => h) (Or.inl ⟨by rfl, ?_⟩) (by assumption) ?_
                rotate_left
                · (intro w hSw; (try dsimp only at hSw); go_simp)
                  first | done | with_reducible rfl
                simp only [Act.put, List.getElem_toArray, List.getElem_cons_zero, List.getElem_cons_succ, List.setIfInBounds_toArray, List.set_cons_zero, List.set_cons_succ]
                refine wpAnyH_take (i := 11) (v := ?_) rfl (by kernel_rfl) (by kernel_rfl) (by kernel_rfl) (fun _ _ _ h => h) (Or.inl ⟨by rfl, ?_⟩) (by assumption) ?_
                rotate_left
                · (intro w hSw; (try dsimp only at hSw); go_simp)
                  first | done | with_reducible rfl
                simp only [Act.put, List.getElem_toArray, List.getElem_cons_zero, List.getElem_cons_succ, List.setIfInBounds_toArray, List.set_cons_zero, List.set_cons_succ]
                refine wpAnyH_take (i := 12) (v := ?_) rfl (by kernel_rfl) (by kernel_rfl) (by kernel_rfl) (fun _ _ _ h => h) (Or.inl ⟨by rfl, ?_⟩) (by assumption) ?_
                rotate_left
                · (intro w hSw; (try dsimp only at hSw); go_simp)
                  first | done | with_reducible rfl
                simp only [Act.put, List.getElem_toArray, List.getElem_cons_zero, List.getElem_cons_succ, List.setIfInBounds_toArray, List.set_cons_zero, List.set_cons_succ]
                refine wpAnyH_take (i := 13) (v := ?_) rfl (by kernel_rfl) (by kernel_rfl) (by kernel_rfl) (fun _ _ _ h => h) (Or.inl ⟨by rfl, ?_⟩) (by assumption) ?_
                rotate_left
                · (intro w hSw; (try dsimp only at hSw); go_simp)
                  first | done | with_reducible rfl
                simp only [Act.put, List.getElem_toArray, List.getElem_cons_zero, List.getElem_cons_succ, List.setIfInBounds_toArray, List.set_cons_zero, List.set_cons_succ]
                refine wpAnyH_take (i := 14) rfl (by kernel_rfl) (by kernel_rfl) (by kernel_rfl) (fun _ _ _ h => h) (Or.inr ⟨by rfl, rfl⟩) (by assumption) ?_
                simp only [Act.put, List.getElem_toArray, List.getElem_cons_zero, List.getElem_cons_succ, List.setIfInBounds_toArray, List.set_cons_zero, List.set_cons_succ]
                refine wpAnyH_take (i := 15) rfl (by kernel_rfl) (by kernel_rfl) (by kernel_rfl) (fun _ _ _ h => h) (Or.inr ⟨by rfl, rfl⟩) (by assumption) ?_
                simp only [Act.put, List.getElem_toArray, List.getElem_cons_zero, List.getElem_cons_succ, List.setIfInBounds_toArray, List.set_cons_zero, List.set_cons_succ]
                refine wpAnyH_take (i := 16) rfl (by kernel_rfl) (by kernel_rfl) (by kernel_rfl) (fun _ _ _ h => h) (Or.inr ⟨by rfl, rfl⟩) (by assumption) ?_
                simp only [Act.put, List.getElem_toArray, List.getElem_cons_zero, List.getElem_cons_succ, List.setIfInBounds_toArray, List.set_cons_zero, List.set_cons_succ]
                refine wpAnyH_take (i := 17) rfl (by kernel_rfl) (by kernel_rfl) (by kernel_rfl) (fun _ _ _ h => h) (Or.inr ⟨by rfl, rfl⟩) (by assumption) ?_
                simp only [Act.put, List.getElem_toArray, List.getElem_cons_zero, List.getElem_cons_succ, List.setIfInBounds_toArray, List.set_cons_zero, List.set_cons_succ]
                refine wpAnyH_take (i := 18) rfl (by kernel_rfl) (by kernel_rfl) (by kernel_rfl) (fun _ _ _ h => h) (Or.inr ⟨by rfl, rfl⟩) (by assumption) ?_
                simp only [Act.put, List.getElem_toArray, List.getElem_cons_zero, List.getElem_cons_succ, List.setIfInBounds_toArray, List.set_cons_zero, List.set_cons_succ]
                refine wpAnyH_take (i := 19) rfl (by kernel_rfl) (by kernel_rfl) (by kernel_rfl) (fun _ _ _ h => h) (Or.inr ⟨by rfl, rfl⟩) (by assumption) ?_
                simp only [Act.put, List.getElem_toArray, List.getElem_cons_zero, List.getElem_cons_succ, List.setIfInBounds_toArray, List.set_cons_zero, List.set_cons_succ]
                refine wpAnyH_take (i := 20) rfl (by kernel_rfl) (by kernel_rfl) (by kernel_rfl) (fun _ _ _ h => h) (Or.inr ⟨by rfl, rfl⟩) (by assumption) ?_
                simp only [Act.put, List.getElem_toArray, List.getElem_cons_zero, List.getElem_cons_succ, List.setIfInBounds_toArray, List.set_cons_zero, List.set_cons_succ]
                refine wpAnyH_take (i := 21) rfl (by kernel_rfl) (by kernel_rfl) (by kernel_rfl) (fun _ _ _ h => h) (Or.inr ⟨by rfl, rfl⟩) (by assumption) ?_
                simp only [Act.put, List.getElem_toArray, List.getElem_cons_zero, List.getElem_cons_succ, List.setIfInBounds_toArray, List.set_cons_zero, List.set_cons_succ]
                refine wpAnyH_take (i := 22) rfl (by kernel_rfl) (by kernel_rfl) (by kernel_rfl) (fun _ _ _ h => h) (Or.inr ⟨by rfl, rfl⟩) (by assumption) ?_
                simp only [Act.put, List.getElem_toArray, List.getElem_cons_zero, List.getElem_cons_succ, List.setIfInBounds_toArray, List.set_cons_zero, List.set_cons_succ]
                refine wpAnyH_take (i := 23) rfl (by kernel_rfl) (by kernel_rfl) (by kernel_rfl) (fun _ _ _ h => h) (Or.inr ⟨by rfl, rfl⟩) (by assumption) ?_
                simp only [Act.put, List.getElem_toArray, List.getElem_cons_zero, List.getElem_cons_succ, List.setIfInBounds_toArray, List.set_cons_zero, List.set_cons_succ]
                refine wpAnyH_take (i := 24) rfl (by kernel_rfl) (by kernel_rfl) (by kernel_rfl) (fun _ _ _ h => h) (Or.inr ⟨by rfl, rfl⟩) (by assumption) ?_
                simp only [Act.put, List.getElem_toArray, List.getElem_cons_zero, List.getElem_cons_succ, List.setIfInBounds_toArray, List.set_cons_zero, List.set_cons_succ]
                refine wpAnyH_take (i := 25) rfl (by kernel_rfl) (by kernel_rfl) (by kernel_rfl) (fun _ _ _ h => h) (Or.inr ⟨by rfl, rfl⟩) (by assumption) ?_
                simp only [Act.put, List.getElem_toArray, List.getElem_cons_zero, List.getElem_cons_succ, List.setIfInBounds_toArray, List.set_cons_zero, List.set_cons_succ]
                refine wpAnyH_take (i := 26) rfl (by kernel_rfl) (by kernel_rfl) (by kernel_rfl) (fun _ _ _ h => h) (Or.inr ⟨by rfl, rfl⟩) (by assumption) ?_
                simp only [Act.put, List.getElem_toArray, List.getElem_cons_zero, List.getElem_cons_succ, List.setIfInBounds_toArray, List.set_cons_zero, List.set_cons_succ]
                refine wpAnyH_take (i := 27) rfl (by kernel_rfl) (by kernel_rfl) (by kernel_rfl) (fun _ _ _ h => h) (Or.inr ⟨by rfl, rfl⟩) (by assumption) ?_
                simp only [Act.put, List.getElem_toArray, List.getElem_cons_zero, List.getElem_cons_succ, List.setIfInBounds_toArray, List.set_cons_zero, List.set_cons_succ]
                refine wpAnyH_take (i := 28) (v := ?_) rfl (by kernel_rfl) (by kernel_rfl) (by kernel_rfl) (fun _ _ _ h => h) (Or.inl ⟨by rfl, ?_⟩) (by assumption) ?_
                rotate_left
                · (intro w hSw; (try dsimp only at hSw); go_simp)
                  first | done | with_reducible rfl
                simp only [Act.put, List.getElem_toArray, List.getElem_cons_zero, List.getElem_cons_succ, List.setIfInBounds_toArray, List.set_cons_zero, List.set_cons_succ]
                refine wpAnyH_done (by kernel_rfl) ?_ _
                have HU9 := Lib.hid (HU.out.drew.trans hu1)
                clear HU hHeld x0 q0
                go_wp2_with fail
                go_ret
                exact ⟨by rw [HRR.out]; rfl, HU9.out⟩
              · have g2 : (s == [116, 97, 117]) = false := by simpa [tauL] using ht
                have hst0 : (s == tauL) = false := by simpa using ht
                rw [hst0] at HLP
                clear hls ht hst0
                by_cases h1k : 1 < k
                · have kI : decide ((1 : Int) < (k : Int)) = true := decide_eq_true (by omega)
                  have kN : decide (1 < k) = true := decide_eq_true h1k
                  have kP : (1 : Int) < (k : Int) := by omega
                  have i0 : IntKind.i64.wrap ((k : Int) - 1) = (k : Int) - 1 := IntWalk.i64_in _ (by omega)
                  have i1 : ((k : Int) - 1).toNat = k - 1 := by omega
                  have i3 : (0 : Int) ≤ (k : Int) - 1 := by omega
                  have i4 : (k : Int) - 1 < (labs.length : Int) := by omega
                  have i5 : (1 : Int) ≤ (k : Int) := by omega
                  rw [kN] at HLP
                  have hcmp : (Op.bytesLess s pv || s == pv) = !bl pv s := bl_total s pv
                  have hcmp2 : (Op.bytesLess s pv || pv == s) = !bl pv s := by rw [← hcmp]; congr 1; rw [Bool.eq_iff_iff]; simp; exact eq_comm
                  cases hbl : bl pv s with
                  | false =>
                    rw [hbl] at HLP hcmp hcmp2
                    have hbl3 : Op.bytesLess pv s = false := hbl
                    have HRR := Lib.hid (show labsOk labs = false by rw [HLO2.out, HA2.out, HLP.out]; rfl)
                    clear HLO2 HA2 HLP hbl
                    go_wp2_with fail
                    refine wp_region_held_drew (S := fun w' => w'.cell? ⟨b1, o1 + k, none⟩ = some (es s) ∧ w'.cell? ⟨b1, o1 + (k - 1), none⟩ = some (es pv)) (by kernel_rfl) ?_ (fun hHeld => ?_)
                    · exact ⟨x0, q0⟩
                    refine wpAnyH_take (i := 0) (v := ?_) rfl (by kernel_rfl) (by kernel_rfl) (by kernel_rfl) (fun _ _ _ h => h) (Or.inl ⟨by rfl, ?_⟩) (by assumption) ?_
                    rotate_left
                    · (intro w hSw; (try dsimp only at hSw); go_simp)
                      first | done | with_reducible rfl
                    simp only [Act.put, List.getElem_toArray, List.getElem_cons_zero, List.setIfInBounds_toArray, List.set_cons_zero, List.set_cons_succ]
                    refine wpAnyH_take (i := 1) (v := ?_) rfl (by kernel_rfl) (by kernel_rfl) (by kernel_rfl) (fun _ _ _ h => h) (Or.inl ⟨by rfl, ?_⟩) (by assumption) ?_
                    rotate_left
                    · (intro w hSw; (try dsimp only at hSw); go_simp)
                      first | done | with_reducible rfl
                    simp only [Act.put, List.getElem_toArray, List.getElem_cons_zero, List.getElem_cons_succ, List.setIfInBounds_toArray, List.set_cons_zero, List.set_cons_succ]
                    refine wpAnyH_take (i := 2) (v := ?_) rfl (by kernel_rfl) (by kernel_rfl) (by kernel_rfl) (fun _ _ _ h => h) (Or.inl ⟨by rfl, ?_⟩) (by assumption) ?_
                    rotate_left
                    · (intro w hSw; (try dsimp only at hSw); go_simp)
                      first | done | with_reducible rfl
                    simp only [Act.put, List.getElem_toArray, List.getElem_cons_zero, List.getElem_cons_succ, List.setIfInBounds_toArray, List.set_cons_zero, List.set_cons_succ]
                    refine wpAnyH_take (i := 3) (v := ?_) rfl (by kernel_rfl) (by kernel_rfl) (by kernel_rfl) (fun _ _ _ h => h) (Or.inl ⟨by rfl, ?_⟩) (by assumption) ?_
                    rotate_left
                    · (intro w hSw; (try dsimp only at hSw); go_simp)
                      first | done | with_reducible rfl
                    simp only [Act.put, List.getElem_toArray, List.getElem_cons_zero, List.getElem_cons_succ, List.setIfInBounds_toArray, List.set_cons_zero, List.set_cons_succ]
                    refine wpAnyH_ready (rs := [4]) (by kernel_rfl) (by simp) ?_
                    refine AllReadyH.cons rfl (fun K hK => ?_) AllReadyH.nil
                    go_simp
                    refine (SL.out _).mono ?_
                    rintro e w4 ⟨rfl, hu1⟩
                    refine hK.out _ _ ?_ (fun hHeld => ?_)
                    · exact ⟨hu1.keep hHeld.1, hu1.keep hHeld.2⟩
                    clear hK K
                    try simp only [Act.put, List.getElem_toArray, List.getElem_cons_zero, List.getElem_cons_succ, List.setIfInBounds_toArray, List.set_cons_zero, List.set_cons_succ]
                    refine wpAnyH_take (i := 5) (v := ?_) rfl (by kernel_rfl) (by kernel_rfl) (by kernel_rfl) (fun _ _ _ h => h) (Or.inl ⟨by rfl, ?_⟩) (by assumption) ?_
                    rotate_left
                    · (intro w hSw; (try dsimp only at hSw); go_simp)
                      first | done | with_reducible rfl
                    simp only [Act.put, List.getElem_toArray, List.getElem_cons_zero, List.getElem_cons_succ, List.setIfInBounds_toArray, List.set_cons_zero, List.set_cons_succ]
                    refine wpAnyH_take (i := 6) (v := ?_) rfl (by kernel_rfl) (by kernel_rfl) (by kernel_rfl) (fun _ _ _ h => h) (Or.inl ⟨by rfl, ?_⟩) (by assumption) ?_
                    rotate_left
                    · (intro w hSw; (try dsimp only at hSw); go_simp)
                      first | done | with_reducible rfl
                    simp only [Act.put, List.getElem_toArray, List.getElem_cons_zero, List.getElem_cons_succ, List.setIfInBounds_toArray, List.set_cons_zero, List.set_cons_succ]
                    refine wpAnyH_take (i := 7) (v := ?_) rfl (by kernel_rfl) (by kernel_rfl) (by kernel_rfl) (fun _ _ _ h => h) (Or.inl ⟨by rfl, ?_⟩) (by assumption) ?_
                    rotate_left
                    · (intro w hSw; (try dsimp only at hSw); go_simp)
                      first | done | with_reducible rfl
                    simp only [Act.put, List.getElem_toArray, List.getElem_cons_zero, List.getElem_cons_succ, List.setIfInBounds_toArray, List.set_cons_zero, List.set_cons_succ]
                    refine wpAnyH_take (i := 8) (v := ?_) rfl (by kernel_rfl) (by kernel_rfl) (by kernel_rfl) (fun _ _ _ h => h) (Or.inl ⟨by rfl, ?_⟩) (by assumption) ?_
                    rotate_left
                    · (intro w hSw; (try dsimp only at hSw); go_simp)
                      first | done | with_reducible rfl
                    simp only [Act.put, List.getElem_toArray, List.getElem_cons_zero, List.getElem_cons_succ, List.setIfInBounds_toArray, List.set_cons_zero, List.set_cons_succ]
                    refine wpAnyH_take (i := 9) (v := ?_) rfl (by kernel_rfl) (by kernel_rfl) (by kernel_rfl) (fun _ _ _ h => h) (Or.inl ⟨by rfl, ?_⟩) (by assumption) ?_
                    rotate_left
                    · (intro w hSw; (try dsimp only at hSw); go_simp)
                      first | done | with_reducible rfl
                    simp only [Act.put, List.getElem_toArray, List.getElem_cons_zero, List.getElem_cons_succ, List.setIfInBounds_toArray, List.set_cons_zero, List.set_cons_succ]
                    refine wpAnyH_take (i := 10) (v := ?_) rfl (by kernel_rfl) (by kernel_rfl) (by kernel_rfl) (fun _ _ _ h => h) (Or.inl ⟨by rfl, ?_⟩) (by assumption) ?_
                    rotate_left
                    · (intro w hSw; (try dsimp only at hSw); go_simp)
                      first | done | with_reducible rfl
                    simp only [Act.put, List.getElem_toArray, List.getElem_cons_zero, List.getElem_cons_succ, List.setIfInBounds_toArray, List.set_cons_zero, List.set_cons_succ]
                    refine wpAnyH_take (i := 11) (v := ?_) rfl (by kernel_rfl) (by kernel_rfl) (by kernel_rfl) (fun _ _ _ h => h) (Or.inl ⟨by rfl, ?_⟩) (by assumption) ?_
                    rotate_left
                    · (intro w hSw; (try dsimp only at hSw); go_simp)
                      first | done | with_reducible rfl
                    simp only [Act.put, List.getElem_toArray, List.getElem_cons_zero, List.getElem_cons_succ, List.setIfInBounds_toArray, List.set_cons_zero, List.set_cons_succ]
                    refine wpAnyH_take (i := 12) (v := ?_) rfl (by kernel_rfl) (by kernel_rfl) (by kernel_rfl) (fun _ _ _ h => h) (Or.inl ⟨by rfl, ?_⟩) (by assumption) ?_
                    rotate_left
                    · (intro w hSw; (try dsimp only at hSw); go_simp)
                      first | done | with_reducible rfl
                    simp only [Act.put, List.getElem_toArray, List.getElem_cons_zero, List.getElem_cons_succ, List.setIfInBounds_toArray, List.set_cons_zero, List.set_cons_succ]
                    refine wpAnyH_take (i := 13) (v := ?_) rfl (by kernel_rfl) (by kernel_rfl) (by kernel_rfl) (fun _ _ _ h => h) (Or.inl ⟨by rfl, ?_⟩) (by assumption) ?_
                    rotate_left
                    · (intro w hSw; (try dsimp only at hSw); go_simp)
                      first | done | with_reducible rfl
                    simp only [Act.put, List.getElem_toArray, List.getElem_cons_zero, List.getElem_cons_succ, List.setIfInBounds_toArray, List.set_cons_zero, List.set_cons_succ]
                    refine wpAnyH_take (i := 14) (v := ?_) rfl (by kernel_rfl) (by kernel_rfl) (by kernel_rfl) (fun _ _ _ h => h) (Or.inl ⟨by rfl, ?_⟩) (by assumption) ?_
                    rotate_left
                    · (intro w hSw; (try dsimp only at hSw); go_simp)
                      first | done | with_reducible rfl
                    simp only [Act.put, List.getElem_toArray, List.getElem_cons_zero, List.getElem_cons_succ, List.setIfInBounds_toArray, List.set_cons_zero, List.set_cons_succ]
                    refine wpAnyH_take (i := 15) (v := ?_) rfl (by kernel_rfl) (by kernel_rfl) (by kernel_rfl) (fun _ _ _ h => h) (Or.inl ⟨by rfl, ?_⟩) (by assumption) ?_
                    rotate_left
                    · (intro w hSw; (try dsimp only at hSw); go_simp)
                      first | done | with_reducible rfl
                    simp only [Act.put, List.getElem_toArray, List.getElem_cons_zero, List.getElem_cons_succ, List.setIfInBounds_toArray, List.set_cons_zero, List.set_cons_succ]
                    try simp only [kN]
                    try simp only [kI]
                    refine wpAnyH_take (i := 16) (v := ?_) rfl (by kernel_rfl) (by kernel_rfl) (by kernel_rfl) (fun _ _ _ h => h) (Or.inl ⟨by rfl, ?_⟩) (by assumption) ?_
                    rotate_left
                    · (intro w hSw; (try dsimp only at hSw); go_simp)
                      first | done | with_reducible rfl
                    simp only [Act.put, List.getElem_toArray, List.getElem_cons_zero, List.getElem_cons_succ, List.setIfInBounds_toArray, List.set_cons_zero, List.set_cons_succ]
                    refine wpAnyH_take (i := 17) (v := ?_) rfl (by kernel_rfl) (by kernel_rfl) (by kernel_rfl) (fun _ _ _ h => h) (Or.inl ⟨by rfl, ?_⟩) (by assumption) ?_
                    rotate_left
                    · (intro w hSw; (try dsimp only at hSw); go_simp)
                      first | done | with_reducible rfl
                    simp only [Act.put, List.getElem_toArray, List.getElem_cons_zero, List.getElem_cons_succ, List.setIfInBounds_toArray, List.set_cons_zero, List.set_cons_succ]
                    refine wpAnyH_take (i := 18) (v := ?_) rfl (by kernel_rfl) (by kernel_rfl) (by kernel_rfl) (fun _ _ _ h => h) (Or.inl ⟨by rfl, ?_⟩) (by assumption) ?_
                    rotate_left
                    · (intro w hSw; (try dsimp only at hSw); go_simp)
                      first | done | with_reducible rfl
                    simp only [Act.put, List.getElem_toArray, List.getElem_cons_zero, List.getElem_cons_succ, List.setIfInBounds_toArray, List.set_cons_zero, List.set_cons_succ]
                    refine wpAnyH_take (i := 19) (v := ?_) rfl (by kernel_rfl) (by kernel_rfl) (by kernel_rfl) (fun _ _ _ h => h) (Or.inl ⟨by rfl, ?_⟩) (by assumption) ?_
                    rotate_left
                    · (intro w hSw; (try dsimp only at hSw); go_simp)
                      first | done | with_reducible rfl
                    simp only [Act.put, List.getElem_toArray, List.getElem_cons_zero, List.getElem_cons_succ, List.setIfInBounds_toArray, List.set_cons_zero, List.set_cons_succ]
                    try simp only [i0]
                    refine wpAnyH_take (i := 20) (v := ?_) rfl (by kernel_rfl) (by kernel_rfl) (by kernel_rfl) (fun _ _ _ h => h) (Or.inl ⟨by rfl, ?_⟩) (by assumption) ?_
                    rotate_left
                    · (intro w hSw; (try dsimp only at hSw); go_simp)
                      first | done | with_reducible rfl
                    simp only [Act.put, List.getElem_toArray, List.getElem_cons_zero, List.getElem_cons_succ, List.setIfInBounds_toArray, List.set_cons_zero, List.set_cons_succ]
                    try simp only [i1]
                    refine wpAnyH_take (i := 21) (v := ?_) rfl (by kernel_rfl) (by kernel_rfl) (by kernel_rfl) (fun _ _ _ h => h) (Or.inl ⟨by rfl, ?_⟩) (by assumption) ?_
                    rotate_left
                    · (intro w hSw; (try dsimp only at hSw); go_simp)
                      first | done | with_reducible rfl
                    simp only [Act.put, List.getElem_toArray, List.getElem_cons_zero, List.getElem_cons_succ, List.setIfInBounds_toArray, List.set_cons_zero, List.set_cons_succ]
                    refine wpAnyH_take (i := 22) (v := ?_) rfl (by kernel_rfl) (by kernel_rfl) (by kernel_rfl) (fun _ _ _ h => h) (Or.inl ⟨by rfl, ?_⟩) (by assumption) ?_
                    rotate_left
                    · (intro w hSw; (try dsimp only at hSw); go_simp)
                      first | done | with_reducible rfl
                    simp only [Act.put, List.getElem_toArray, List.getElem_cons_zero, List.getElem_cons_succ, List.setIfInBounds_toArray, List.set_cons_zero, List.set_cons_succ]
                    refine wpAnyH_take (i := 23) (v := ?_) rfl (by kernel_rfl) (by kernel_rfl) (by kernel_rfl) (fun _ _ _ h => h) (Or.inl ⟨by rfl, ?_⟩) (by assumption) ?_
                    rotate_left
                    · (intro w hSw; (try dsimp only at hSw); go_simp)
                      first | done | with_reducible rfl
                    simp only [Act.put, List.getElem_toArray, List.getElem_cons_zero, List.getElem_cons_succ, List.setIfInBounds_toArray, List.set_cons_zero, List.set_cons_succ]
                    refine wpAnyH_take (i := 24) (v := ?_) rfl (by kernel_rfl) (by kernel_rfl) (by kernel_rfl) (fun _ _ _ h => h) (Or.inl ⟨by rfl, ?_⟩) (by assumption) ?_
                    rotate_left
                    · (intro w hSw; (try dsimp only at hSw); go_simp)
                      first | done | with_reducible rfl
                    simp only [Act.put, List.getElem_toArray, List.getElem_cons_zero, List.getElem_cons_succ, List.setIfInBounds_toArray, List.set_cons_zero, List.set_cons_succ]
                    refine wpAnyH_take (i := 25) (v := ?_) rfl (by kernel_rfl) (by kernel_rfl) (by kernel_rfl) (fun _ _ _ h => h) (Or.inl ⟨by rfl, ?_⟩) (by assumption) ?_
                    rotate_left
                    · (intro w hSw; (try dsimp only at hSw); go_simp)
                      first | done | with_reducible rfl
                    simp only [Act.put, List.getElem_toArray, List.getElem_cons_zero, List.getElem_cons_succ, List.setIfInBounds_toArray, List.set_cons_zero, List.set_cons_succ]
                    refine wpAnyH_take (i := 26) (v := ?_) rfl (by kernel_rfl) (by kernel_rfl) (by kernel_rfl) (fun _ _ _ h => h) (Or.inl ⟨by rfl, ?_⟩) (by assumption) ?_
                    rotate_left
                    · (intro w hSw; (try dsimp only at hSw); go_simp)
                      first | done | with_reducible rfl
                    simp only [Act.put, List.getElem_toArray, List.getElem_cons_zero, List.getElem_cons_succ, List.setIfInBounds_toArray, List.set_cons_zero, List.set_cons_succ]
                    refine wpAnyH_take (i := 27) (v := ?_) rfl (by kernel_rfl) (by kernel_rfl) (by kernel_rfl) (fun _ _ _ h => h) (Or.inl ⟨by rfl, ?_⟩) (by assumption) ?_
                    rotate_left
                    · (intro w hSw; (try dsimp only at hSw); go_simp)
                      first | done | with_reducible rfl
                    simp only [Act.put, List.getElem_toArray, List.getElem_cons_zero, List.getElem_cons_succ, List.setIfInBounds_toArray, List.set_cons_zero, List.set_cons_succ]
                    refine wpAnyH_take (i := 28) (v := ?_) rfl (by kernel_rfl) (by kernel_rfl) (by kernel_rfl) (fun _ _ _ h => h) (Or.inl ⟨by rfl, ?_⟩) (by assumption) ?_
                    rotate_left
                    · (intro w hSw; (try dsimp only at hSw); go_simp)
                      first | done | with_reducible rfl
                    simp only [Act.put, List.getElem_toArray, List.getElem_cons_zero, List.getElem_cons_succ, List.setIfInBounds_toArray, List.set_cons_zero, List.set_cons_succ]
                    refine wpAnyH_done (by kernel_rfl) ?_ _
                    have HU9 := Lib.hid (HU.out.drew.trans hu1)
                    clear HU hHeld x0 q0
                    go_wp2_with fail
                    go_ret
                    exact ⟨by rw [HRR.out]; rfl, HU9.out⟩
                  | true =>
                    rw [hbl] at HLP hcmp hcmp2
                    have hbl3 : Op.bytesLess pv s = true := hbl
                    have HA3 := Lib.hid (show allF (labP labs) (k + 1) (labs.length - (k + 1)) = allF (labP labs) 0 labs.length by rw [HA2.out, HLP.out]; simp)
                    clear HA2 HLP hbl
                    go_wp2_with fail
                    refine wp_region_held_drew (S := fun w' => w'.cell? ⟨b1, o1 + k, none⟩ = some (es s) ∧ w'.cell? ⟨b1, o1 + (k - 1), none⟩ = some (es pv)) (by kernel_rfl) ?_ (fun hHeld => ?_)
                    · exact ⟨x0, q0⟩
                    refine wpAnyH_take (i := 0) (v := ?_) rfl (by kernel_rfl) (by kernel_rfl) (by kernel_rfl) (fun _ _ _ h => h) (Or.inl ⟨by rfl, ?_⟩) (by assumption) ?_
                    rotate_left
                    · (intro w hSw; (try dsimp only at hSw); go_simp)
                      first | done | with_reducible rfl
                    simp only [Act.put, List.getElem_toArray, List.getElem_cons_zero, List.setIfInBounds_toArray, List.set_cons_zero, List.set_cons_succ]
                    refine wpAnyH_take (i := 1) (v := ?_) rfl (by kernel_rfl) (by kernel_rfl) (by kernel_rfl) (fun _ _ _ h => h) (Or.inl ⟨by rfl, ?_⟩) (by assumption) ?_
                    rotate_left
                    · (intro w hSw; (try dsimp only at hSw); go_simp)
                      first | done | with_reducible rfl
                    simp only [Act.put, List.getElem_toArray, List.getElem_cons_zero, List.getElem_cons_succ, List.setIfInBounds_toArray, List.set_cons_zero, List.set_cons_succ]
                    refine wpAnyH_take (i := 2) (v := ?_) rfl (by kernel_rfl) (by kernel_rfl) (by kernel_rfl) (fun _ _ _ h => h) (Or.inl ⟨by rfl, ?_⟩) (by assumption) ?_
                    rotate_left
                    · (intro w hSw; (try dsimp only at hSw); go_simp)
                      first | done | with_reducible rfl
                    simp only [Act.put, List.getElem_toArray, List.getElem_cons_zero, List.getElem_cons_succ, List.setIfInBounds_toArray, List.set_cons_zero, List.set_cons_succ]
                    refine wpAnyH_take (i := 3) (v := ?_) rfl (by kernel_rfl) (by kernel_rfl) (by kernel_rfl) (fun _ _ _ h => h) (Or.inl ⟨by rfl, ?_⟩) (by assumption) ?_
                    rotate_left
                    · (intro w hSw; (try dsimp only at hSw); go_simp)
                      first | done | with_reducible rfl
                    simp only [Act.put, List.getElem_toArray, List.getElem_cons_zero, List.getElem_cons_succ, List.setIfInBounds_toArray, List.set_cons_zero, List.set_cons_succ]
                    refine wpAnyH_ready (rs := [4]) (by kernel_rfl) (by simp) ?_
                    refine AllReadyH.cons rfl (fun K hK => ?_) AllReadyH.nil
                    go_simp
                    refine (SL.out _).mono ?_
                    rintro e w4 ⟨rfl, hu1⟩
                    refine hK.out _ _ ?_ (fun hHeld => ?_)
                    · exact ⟨hu1.keep hHeld.1, hu1.keep hHeld.2⟩
                    clear hK K
                    try simp only [Act.put, List.getElem_toArray, List.getElem_cons_zero, List.getElem_cons_succ, List.setIfInBounds_toArray, List.set_cons_zero, List.set_cons_succ]
                    refine wpAnyH_take (i := 5) (v := ?_) rfl (by kernel_rfl) (by kernel_rfl) (by kernel_rfl) (fun _ _ _ h => h) (Or.inl ⟨by rfl, ?_⟩) (by assumption) ?_
                    rotate_left
                    · (intro w hSw; (try dsimp only at hSw); go_simp)
                      first | done | with_reducible rfl
                    simp only [Act.put, List.getElem_toArray, List.getElem_cons_zero, List.getElem_cons_succ, List.setIfInBounds_toArray, List.set_cons_zero, List.set_cons_succ]
                    refine wpAnyH_take (i := 6) (v := ?_) rfl (by kernel_rfl) (by kernel_rfl) (by kernel_rfl) (fun _ _ _ h => h) (Or.inl ⟨by rfl, ?_⟩) (by assumption) ?_
                    rotate_left
                    · (intro w hSw; (try dsimp only at hSw); go_simp)
                      first | done | with_reducible rfl
                    simp only [Act.put, List.getElem_toArray, List.getElem_cons_zero, List.getElem_cons_succ, List.setIfInBounds_toArray, List.set_cons_zero, List.set_cons_succ]
                    refine wpAnyH_take (i := 7) (v := ?_) rfl (by kernel_rfl) (by kernel_rfl) (by kernel_rfl) (fun _ _ _ h => h) (Or.inl ⟨by rfl, ?_⟩) (by assumption) ?_
                    rotate_left
                    · (intro w hSw; (try dsimp only at hSw); go_simp)
                      first | done | with_reducible rfl
                    simp only [Act.put, List.getElem_toArray, List.getElem_cons_zero, List.getElem_cons_succ, List.setIfInBounds_toArray, List.set_cons_zero, List.set_cons_succ]
                    refine wpAnyH_take (i := 8) (v := ?_) rfl (by kernel_rfl) (by kernel_rfl) (by kernel_rfl) (fun _ _ _ h => h) (Or.inl ⟨by rfl, ?_⟩) (by assumption) ?_
                    rotate_left
                    · (intro w hSw; (try dsimp only at hSw); go_simp)
                      first | done | with_reducible rfl
                    simp only [Act.put, List.getElem_toArray, List.getElem_cons_zero, List.getElem_cons_succ, List.setIfInBounds_toArray, List.set_cons_zero, List.set_cons_succ]
                    refine wpAnyH_take (i := 9) (v := ?_) rfl (by kernel_rfl) (by kernel_rfl) (by kernel_rfl) (fun _ _ _ h => h) (Or.inl ⟨by rfl, ?_⟩) (by assumption) ?_
                    rotate_left
                    · (intro w hSw; (try dsimp only at hSw); go_simp)
                      first | done | with_reducible rfl
                    simp only [Act.put, List.getElem_toArray, List.getElem_cons_zero, List.getElem_cons_succ, List.setIfInBounds_toArray, List.set_cons_zero, List.set_cons_succ]
                    refine wpAnyH_take (i := 10) (v := ?_) rfl (by kernel_rfl) (by kernel_rfl) (by kernel_rfl) (fun _ _ _ h => h) (Or.inl ⟨by rfl, ?_⟩) (by assumption) ?_
                    rotate_left
                    · (intro w hSw; (try dsimp only at hSw); go_simp)
                      first | done | with_reducible rfl
                    simp only [Act.put, List.getElem_toArray, List.getElem_cons_zero, List.getElem_cons_succ, List.setIfInBounds_toArray, List.set_cons_zero, List.set_cons_succ]
                    refine wpAnyH_take (i := 11) (v := ?_) rfl (by kernel_rfl) (by kernel_rfl) (by kernel_rfl) (fun _ _ _ h => h) (Or.inl ⟨by rfl, ?_⟩) (by assumption) ?_
                    rotate_left
                    · (intro w hSw; (try dsimp only at hSw); go_simp)
                      first | done | with_reducible rfl
                    simp only [Act.put, List.getElem_toArray, List.getElem_cons_zero, List.getElem_cons_succ, List.setIfInBounds_toArray, List.set_cons_zero, List.set_cons_succ]
                    refine wpAnyH_take (i := 12) (v := ?_) rfl (by kernel_rfl) (by kernel_rfl) (by kernel_rfl) (fun _ _ _ h => h) (Or.inl ⟨by rfl, ?_⟩) (by assumption) ?_
                    rotate_left
                    · (intro w hSw; (try dsimp only at hSw); go_simp)
                      first | done | with_reducible rfl
                    simp only [Act.put, List.getElem_toArray, List.getElem_cons_zero, List.getElem_cons_succ, List.setIfInBounds_toArray, List.set_cons_zero, List.set_cons_succ]
                    refine wpAnyH_take (i := 13) (v := ?_) rfl (by kernel_rfl) (by kernel_rfl) (by kernel_rfl) (fun _ _ _ h => h) (Or.inl ⟨by rfl, ?_⟩) (by assumption) ?_
                    rotate_left
                    · (intro w hSw; (try dsimp only at hSw); go_simp)
                      first | done | with_reducible rfl
                    simp only [Act.put, List.getElem_toArray, List.getElem_cons_zero, List.getElem_cons_succ, List.setIfInBounds_toArray, List.set_cons_zero, List.set_cons_succ]
                    refine wpAnyH_take (i := 14) (v := ?_) rfl (by kernel_rfl) (by kernel_rfl) (by kernel_rfl) (fun _ _ _ h => h) (Or.inl ⟨by rfl, ?_⟩) (by assumption) ?_
                    rotate_left
                    · (intro w hSw; (try dsimp only at hSw); go_simp)
                      first | done | with_reducible rfl
                    simp only [Act.put, List.getElem_toArray, List.getElem_cons_zero, List.getElem_cons_succ, List.setIfInBounds_toArray, List.set_cons_zero, List.set_cons_succ]
                    refine wpAnyH_take (i := 15) (v := ?_) rfl (by kernel_rfl) (by kernel_rfl) (by kernel_rfl) (fun _ _ _ h => h) (Or.inl ⟨by rfl, ?_⟩) (by assumption) ?_
                    rotate_left
                    · (intro w hSw; (try dsimp only at hSw); go_simp)
                      first | done | with_reducible rfl
                    simp only [Act.put, List.getElem_toArray, List.getElem_cons_zero, List.getElem_cons_succ, List.setIfInBounds_toArray, List.set_cons_zero, List.set_cons_succ]
                    try simp only [kN]
                    try simp only [kI]
                    refine wpAnyH_take (i := 16) (v := ?_) rfl (by kernel_rfl) (by kernel_rfl) (by kernel_rfl) (fun _ _ _ h => h) (Or.inl ⟨by rfl, ?_⟩) (by assumption) ?_
                    rotate_left
                    · (intro w hSw; (try dsimp only at hSw); go_simp)
                      first | done | with_reducible rfl
                    simp only [Act.put, List.getElem_toArray, List.getElem_cons_zero, List.getElem_cons_succ, List.setIfInBounds_toArray, List.set_cons_zero, List.set_cons_succ]
                    refine wpAnyH_take (i := 17) (v := ?_) rfl (by kernel_rfl) (by kernel_rfl) (by kernel_rfl) (fun _ _ _ h => h) (Or.inl ⟨by rfl, ?_⟩) (by assumption) ?_
                    rotate_left
                    · (intro w hSw; (try dsimp only at hSw); go_simp)
                      first | done | with_reducible rfl
                    simp only [Act.put, List.getElem_toArray, List.getElem_cons_zero, List.getElem_cons_succ, List.setIfInBounds_toArray, List.set_cons_zero, List.set_cons_succ]
                    refine wpAnyH_take (i := 18) (v := ?_) rfl (by kernel_rfl) (by kernel_rfl) (by kernel_rfl) (fun _ _ _ h => h) (Or.inl ⟨by rfl, ?_⟩) (by assumption) ?_
                    rotate_left
                    · (intro w hSw; (try dsimp only at hSw); go_simp)
                      first | done | with_reducible rfl
                    simp only [Act.put, List.getElem_toArray, List.getElem_cons_zero, List.getElem_cons_succ, List.setIfInBounds_toArray, List.set_cons_zero, List.set_cons_succ]
                    refine wpAnyH_take (i := 19) (v := ?_) rfl (by kernel_rfl) (by kernel_rfl) (by kernel_rfl) (fun _ _ _ h => h) (Or.inl ⟨by rfl, ?_⟩) (by assumption) ?_
                    rotate_left
                    · (intro w hSw; (try dsimp only at hSw); go_simp)
                      first | done | with_reducible rfl
                    simp only [Act.put, List.getElem_toArray, List.getElem_cons_zero, List.getElem_cons_succ, List.setIfInBounds_toArray, List.set_cons_zero, List.set_cons_succ]
                    try simp only [i0]
                    refine wpAnyH_take (i := 20) (v := ?_) rfl (by kernel_rfl) (by kernel_rfl) (by kernel_rfl) (fun _ _ _ h => h) (Or.inl ⟨by rfl, ?_⟩) (by assumption) ?_
                    rotate_left
                    · (intro w hSw; (try dsimp only at hSw); go_simp)
                      first | done | with_reducible rfl
                    simp only [Act.put, List.getElem_toArray, List.getElem_cons_zero, List.getElem_cons_succ, List.setIfInBounds_toArray, List.set_cons_zero, List.set_cons_succ]
                    try simp only [i1]
                    refine wpAnyH_take (i := 21) (v := ?_) rfl (by kernel_rfl) (by kernel_rfl) (by kernel_rfl) (fun _ _ _ h => h) (Or.inl ⟨by rfl, ?_⟩) (by assumption) ?_
                    rotate_left
                    · (intro w hSw; (try dsimp only at hSw); go_simp)
                      first | done | with_reducible rfl
                    simp only [Act.put, List.getElem_toArray, List.getElem_cons_zero, List.getElem_cons_succ, List.setIfInBounds_toArray, List.set_cons_zero, List.set_cons_succ]
                    refine wpAnyH_take (i := 22) (v := ?_) rfl (by kernel_rfl) (by kernel_rfl) (by kernel_rfl) (fun _ _ _ h => h) (Or.inl ⟨by rfl, ?_⟩) (by assumption) ?_
                    rotate_left
                    · (intro w hSw; (try dsimp only at hSw); go_simp)
                      first | done | with_reducible rfl
                    simp only [Act.put, List.getElem_toArray, List.getElem_cons_zero, List.getElem_cons_succ, List.setIfInBounds_toArray, List.set_cons_zero, List.set_cons_succ]
                    refine wpAnyH_take (i := 23) (v := ?_) rfl (by kernel_rfl) (by kernel_rfl) (by kernel_rfl) (fun _ _ _ h => h) (Or.inl ⟨by rfl, ?_⟩) (by assumption) ?_
                    rotate_left
                    · (intro w hSw; (try dsimp only at hSw); go_simp)
                      first | done | with_reducible rfl
                    simp only [Act.put, List.getElem_toArray, List.getElem_cons_zero, List.getElem_cons_succ, List.setIfInBounds_toArray, List.set_cons_zero, List.set_cons_succ]
                    refine wpAnyH_take (i := 24) (v := ?_) rfl (by kernel_rfl) (by kernel_rfl) (by kernel_rfl) (fun _ _ _ h => h) (Or.inl ⟨by rfl, ?_⟩) (by assumption) ?_
                    rotate_left
                    · (intro w hSw; (try dsimp only at hSw); go_simp)
                      first | done | with_reducible rfl
                    simp only [Act.put, List.getElem_toArray, List.getElem_cons_zero, List.getElem_cons_succ, List.setIfInBounds_toArray, List.set_cons_zero, List.set_cons_succ]
                    refine wpAnyH_take (i := 25) (v := ?_) rfl (by kernel_rfl) (by kernel_rfl) (by kernel_rfl) (fun _ _ _ h => h) (Or.inl ⟨by rfl, ?_⟩) (by assumption) ?_
                    rotate_left
                    · (intro w hSw; (try dsimp only at hSw); go_simp)
                      first | done | with_reducible rfl
                    simp only [Act.put, List.getElem_toArray, List.getElem_cons_zero, List.getElem_cons_succ, List.setIfInBounds_toArray, List.set_cons_zero, List.set_cons_succ]
                    refine wpAnyH_take (i := 26) (v := ?_) rfl (by kernel_rfl) (by kernel_rfl) (by kernel_rfl) (fun _ _ _ h => h) (Or.inl ⟨by rfl, ?_⟩) (by assumption) ?_
                    rotate_left
                    · (intro w hSw; (try dsimp only at hSw); go_simp)
                      first | done | with_reducible rfl
                    simp only [Act.put, List.getElem_toArray, List.getElem_cons_zero, List.getElem_cons_succ, List.setIfInBounds_toArray, List.set_cons_zero, List.set_cons_succ]
                    refine wpAnyH_take (i := 27) (v := ?_) rfl (by kernel_rfl) (by kernel_rfl) (by kernel_rfl) (fun _ _ _ h => h) (Or.inl ⟨by rfl, ?_⟩) (by assumption) ?_
                    rotate_left
                    · (intro w hSw; (try dsimp only at hSw); go_simp)
                      first | done | with_reducible rfl
                    simp only [Act.put, List.getElem_toArray, List.getElem_cons_zero, List.getElem_cons_succ, List.setIfInBounds_toArray, List.set_cons_zero, List.set_cons_succ]
                    refine wpAnyH_take (i := 28) (v := ?_) rfl (by kernel_rfl) (by kernel_rfl) (by kernel_rfl) (fun _ _ _ h => h) (Or.inl ⟨by rfl, ?_⟩) (by assumption) ?_
                    rotate_left
                    · (intro w hSw; (try dsimp only at hSw); go_simp)
                      first | done | with_reducible rfl
                    simp only [Act.put, List.getElem_toArray, List.getElem_cons_zero, List.getElem_cons_succ, List.setIfInBounds_toArray, List.set_cons_zero, List.set_cons_succ]
                    refine wpAnyH_done (by kernel_rfl) ?_ _
                    have HU9 := Lib.hid (HU.out.drew.trans hu1)
                    clear HU hHeld x0 q0
                    go_wp2_with fail
                    go_roundw
                    case rel => exact ⟨k + 1, by omega, by omega, by go_num, HA3, HU9.out⟩
                    case measure => simp [intOf]; omega
                · have kI : decide ((1 : Int) < (k : Int)) = false := decide_eq_false (by omega)
                  have kN : decide (1 < k) = false := decide_eq_false h1k
                  have kP : ¬ (1 : Int) < (k : Int) := by omega
                  rw [kN] at HLP
                  have HA3 := Lib.hid (show allF (labP labs) (k + 1) (labs.length - (k + 1)) = allF (labP labs) 0 labs.length by rw [HA2.out, HLP.out]; simp)
                  clear HA2 HLP
                  go_wp2_with fail
                  refine wp_region_held_drew (S := fun w' => w'.cell? ⟨b1, o1 + k, none⟩ = some (es s) ∧ w'.cell? ⟨b1, o1 + (k - 1), none⟩ = some (es pv)) (by kernel_rfl) ?_ (fun hHeld => ?_)
                  · exact ⟨x0, q0⟩
                  refine wpAnyH_take (i := 0) (v := ?_) rfl (by kernel_rfl) (by kernel_rfl) (by kernel_rfl) (fun _ _ _ h => h) (Or.inl ⟨by rfl, ?_⟩) (by assumption) ?_
                  rotate_left
                  · (intro w hSw; (try dsimp only at hSw); go_simp)
                    first | done | with_reducible rfl
                  simp only [Act.put, List.getElem_toArray, List.getElem_cons_zero, List.setIfInBounds_toArray, List.set_cons_zero, List.set_cons_succ]
                  refine wpAnyH_take (i := 1) (v := ?_) rfl (by kernel_rfl) (by kernel_rfl) (by kernel_rfl) (fun _ _ _ h => h) (Or.inl ⟨by rfl, ?_⟩) (by assumption) ?_
                  rotate_left
                  · (intro w hSw; (try dsimp only at hSw); go_simp)
                    first | done | with_reducible rfl
                  simp only [Act.put, List.getElem_toArray, List.getElem_cons_zero, List.getElem_cons_succ, List.setIfInBounds_toArray, List.set_cons_zero, List.set_cons_succ]
                  refine wpAnyH_take (i := 2) (v := ?_) rfl (by kernel_rfl) (by kernel_rfl) (by kernel_rfl) (fun _ _ _ h => h) (Or.inl ⟨by rfl, ?_⟩) (by assumption) ?_
                  rotate_left
                  · (intro w hSw; (try dsimp only at hSw); go_simp)
                    first | done | with_reducible rfl
                  simp only [Act.put, List.getElem_toArray, List.getElem_cons_zero, List.getElem_cons_succ, List.setIfInBounds_toArray, List.set_cons_zero, List.set_cons_succ]
                  refine wpAnyH_take (i := 3) (v := ?_) rfl (by kernel_rfl) (by kernel_rfl) (by kernel_rfl) (fun _ _ _ h => h) (Or.inl ⟨by rfl, ?_⟩) (by assumption) ?_
                  rotate_left
                  · (intro w hSw; (try dsimp only at hSw); go_simp)
                    first | done | with_reducible rfl
                  simp only [Act.put, List.getElem_toArray, List.getElem_cons_zero, List.getElem_cons_succ, List.setIfInBounds_toArray, List.set_cons_zero, List.set_cons_succ]
                  refine wpAnyH_ready (rs := [4]) (by kernel_rfl) (by simp) ?_
                  refine AllReadyH.cons rfl (fun K hK => ?_) AllReadyH.nil
                  go_simp
                  refine (SL.out _).mono ?_
                  rintro e w4 ⟨rfl, hu1⟩
                  refine hK.out _ _ ?_ (fun hHeld => ?_)
                  · exact ⟨hu1.keep hHeld.1, hu1.keep hHeld.2⟩
                  clear hK K
                  try simp only [Act.put, List.getElem_toArray, List.getElem_cons_zero, List.getElem_cons_succ, List.setIfInBounds_toArray, List.set_cons_zero, List.set_cons_succ]
                  refine wpAnyH_take (i := 5) (v := ?_) rfl (by kernel_rfl) (by kernel_rfl) (by kernel_rfl) (fun _ _ _ h => h) (Or.inl ⟨by rfl, ?_⟩) (by assumption) ?_
                  rotate_left
                  · (intro w hSw; (try dsimp only at hSw); go_simp)
                    first | done | with_reducible rfl
                  simp only [Act.put, List.getElem_toArray, List.getElem_cons_zero, List.getElem_cons_succ, List.setIfInBounds_toArray, List.set_cons_zero, List.set_cons_succ]
                  refine wpAnyH_take (i := 6) (v := ?_) rfl (by kernel_rfl) (by kernel_rfl) (by kernel_rfl) (fun _ _ _ h => h) (Or.inl ⟨by rfl, ?_⟩) (by assumption) ?_
                  rotate_left
                  · (intro w hSw; (try dsimp only at hSw); go_simp)
                    first | done | with_reducible rfl
                  simp only [Act.put, List.getElem_toArray, List.getElem_cons_zero, List.getElem_cons_succ, List.setIfInBounds_toArray, List.set_cons_zero, List.set_cons_succ]
                  refine wpAnyH_take (i := 7) (v := ?_) rfl (by kernel_rfl) (by kernel_rfl) (by kernel_rfl) (fun _ _ _ h => h) (Or.inl ⟨by rfl, ?_⟩) (by assumption) ?_
                  rotate_left
                  · (intro w hSw; (try dsimp only at hSw); go_simp)
                    first | done | with_reducible rfl
                  simp only [Act.put, List.getElem_toArray, List.getElem_cons_zero, List.getElem_cons_succ, List.setIfInBounds_toArray, List.set_cons_zero, List.set_cons_succ]
                  refine wpAnyH_take (i := 8) (v := ?_) rfl (by kernel_rfl) (by kernel_rfl) (by kernel_rfl) (fun _ _ _ h => h) (Or.inl ⟨by rfl, ?_⟩) (by assumption) ?_
                  rotate_left
                  · (intro w hSw; (try dsimp only at hSw); go_simp)
                    first | done | with_reducible rfl
                  simp only [Act.put, List.getElem_toArray, List.getElem_cons_zero, List.getElem_cons_succ, List.setIfInBounds_toArray, List.set_cons_zero, List.set_cons_succ]
                  refine wpAnyH_take (i := 9) (v := ?_) rfl (by kernel_rfl) (by kernel_rfl) (by kernel_rfl) (fun _ _ _ h => h) (Or.inl ⟨by rfl, ?_⟩) (by assumption) ?_
                  rotate_left
                  · (intro w hSw; (try dsimp only at hSw); go_simp)
                    first | done | with_reducible rfl
                  simp only [Act.put, List.getElem_toArray, List.getElem_cons_zero, List.getElem_cons_succ, List.setIfInBounds_toArray, List.set_cons_zero, List.set_cons_succ]
                  refine wpAnyH_take (i := 10) (v := ?_) rfl (by kernel_rfl) (by kernel_rfl) (by kernel_rfl) (fun _ _ _ h => h) (Or.inl ⟨by rfl, ?_⟩) (by assumption) ?_
                  rotate_left
                  · (intro w hSw; (try dsimp only at hSw); go_simp)
                    first | done | with_reducible rfl
                  simp only [Act.put, List.getElem_toArray, List.getElem_cons_zero, List.getElem_cons_succ, List.setIfInBounds_toArray, List.set_cons_zero, List.set_cons_succ]
                  refine wpAnyH_take (i := 11) (v := ?_) rfl (by kernel_rfl) (by kernel_rfl) (by kernel_rfl) (fun _ _ _ h => h) (Or.inl ⟨by rfl, ?_⟩) (by assumption) ?_
                  rotate_left
                  · (intro w hSw; (try dsimp only at hSw); go_simp)
                    first | done | with_reducible rfl
                  simp only [Act.put, List.getElem_toArray, List.getElem_cons_zero, List.getElem_cons_succ, List.setIfInBounds_toArray, List.set_cons_zero, List.set_cons_succ]
                  refine wpAnyH_take (i := 12) (v := ?_) rfl (by kernel_rfl) (by kernel_rfl) (by kernel_rfl) (fun _ _ _ h => h) (Or.inl ⟨by rfl, ?_⟩) (by assumption) ?_
                  rotate_left
                  · (intro w hSw; (try dsimp only at hSw); go_simp)
                    first | done | with_reducible rfl
                  simp only [Act.put, List.getElem_toArray, List.getElem_cons_zero, List.getElem_cons_succ, List.setIfInBounds_toArray, List.set_cons_zero, List.set_cons_succ]
                  refine wpAnyH_take (i := 13) (v := ?_) rfl (by kernel_rfl) (by kernel_rfl) (by kernel_rfl) (fun _ _ _ h => h) (Or.inl ⟨by rfl, ?_⟩) (by assumption) ?_
                  rotate_left
                  · (intro w hSw; (try dsimp only at hSw); go_simp)
                    first | done | with_reducible rfl
                  simp only [Act.put, List.getElem_toArray, List.getElem_cons_zero, List.getElem_cons_succ, List.setIfInBounds_toArray, List.set_cons_zero, List.set_cons_succ]
                  refine wpAnyH_take (i := 14) (v := ?_) rfl (by kernel_rfl) (by kernel_rfl) (by kernel_rfl) (fun _ _ _ h => h) (Or.inl ⟨by rfl, ?_⟩) (by assumption) ?_
                  rotate_left
                  · (intro w hSw; (try dsimp only at hSw); go_simp)
                    first | done | with_reducible rfl
                  simp only [Act.put, List.getElem_toArray, List.getElem_cons_zero, List.getElem_cons_succ, List.setIfInBounds_toArray, List.set_cons_zero, List.set_cons_succ]
                  refine wpAnyH_take (i := 15) (v := ?_) rfl (by kernel_rfl) (by kernel_rfl) (by kernel_rfl) (fun _ _ _ h => h) (Or.inl ⟨by rfl, ?_⟩) (by assumption) ?_
                  rotate_left
                  · (intro w hSw; (try dsimp only at hSw); go_simp)
                    first | done | with_reducible rfl
                  simp only [Act.put, List.getElem_toArray, List.getElem_cons_zero, List.getElem_cons_succ, List.setIfInBounds_toArray, List.set_cons_zero, List.set_cons_succ]
                  try simp only [kN]
                  try simp only [kI]
                  refine wpAnyH_take (i := 16) (v := ?_) rfl (by kernel_rfl) (by kernel_rfl) (by kernel_rfl) (fun _ _ _ h => h) (Or.inl ⟨by rfl, ?_⟩) (by assumption) ?_
                  rotate_left
                  · (intro w hSw; (try dsimp only at hSw); go_simp)
                    first | done | with_reducible rfl
                  simp only [Act.put, List.getElem_toArray, List.getElem_cons_zero, List.getElem_cons_succ, List.setIfInBounds_toArray, List.set_cons_zero, List.set_cons_succ]
                  refine wpAnyH_take (i := 17) rfl (by kernel_rfl) (by kernel_rfl) (by kernel_rfl) (fun _ _ _ h => h) (Or.inr ⟨by rfl, rfl⟩) (by assumption) ?_
                  simp only [Act.put, List.getElem_toArray, List.getElem_cons_zero, List.getElem_cons_succ, List.setIfInBounds_toArray, List.set_cons_zero, List.set_cons_succ]
                  refine wpAnyH_take (i := 18) rfl (by kernel_rfl) (by kernel_rfl) (by kernel_rfl) (fun _ _ _ h => h) (Or.inr ⟨by rfl, rfl⟩) (by assumption) ?_
                  simp only [Act.put, List.getElem_toArray, List.getElem_cons_zero, List.getElem_cons_succ, List.setIfInBounds_toArray, List.set_cons_zero, List.set_cons_succ]
                  refine wpAnyH_take (i := 19) rfl (by kernel_rfl) (by kernel_rfl) (by kernel_rfl) (fun _ _ _ h => h) (Or.inr ⟨by rfl, rfl⟩) (by assumption) ?_
                  simp only [Act.put, List.getElem_toArray, List.getElem_cons_zero, List.getElem_cons_succ, List.setIfInBounds_toArray, List.set_cons_zero, List.set_cons_succ]
                  refine wpAnyH_take (i := 20) rfl (by kernel_rfl) (by kernel_rfl) (by kernel_rfl) (fun _ _ _ h => h) (Or.inr ⟨by rfl, rfl⟩) (by assumption) ?_
                  simp only [Act.put, List.getElem_toArray, List.getElem_cons_zero, List.getElem_cons_succ, List.setIfInBounds_toArray, List.set_cons_zero, List.set_cons_succ]
                  refine wpAnyH_take (i := 21) rfl (by kernel_rfl) (by kernel_rfl) (by kernel_rfl) (fun _ _ _ h => h) (Or.inr ⟨by rfl, rfl⟩) (by assumption) ?_
                  simp only [Act.put, List.getElem_toArray, List.getElem_cons_zero, List.getElem_cons_succ, List.setIfInBounds_toArray, List.set_cons_zero, List.set_cons_succ]
                  refine wpAnyH_take (i := 22) rfl (by kernel_rfl) (by kernel_rfl) (by kernel_rfl) (fun _ _ _ h => h) (Or.inr ⟨by rfl, rfl⟩) (by assumption) ?_
                  simp only [Act.put, List.getElem_toArray, List.getElem_cons_zero, List.getElem_cons_succ, List.setIfInBounds_toArray, List.set_cons_zero, List.set_cons_succ]
                  refine wpAnyH_take (i := 23) rfl (by kernel_rfl) (by kernel_rfl) (by kernel_rfl) (fun _ _ _ h => h) (Or.inr ⟨by rfl, rfl⟩) (by assumption) ?_
                  simp only [Act.put, List.getElem_toArray, List.getElem_cons_zero, List.getElem_cons_succ, List.setIfInBounds_toArray, List.set_cons_zero, List.set_cons_succ]
                  refine wpAnyH_take (i := 24) rfl (by kernel_rfl) (by kernel_rfl) (by kernel_rfl) (fun _ _ _ h => h) (Or.inr ⟨by rfl, rfl⟩) (by assumption) ?_
                  simp only [Act.put, List.getElem_toArray, List.getElem_cons_zero, List.getElem_cons_succ, List.setIfInBounds_toArray, List.set_cons_zero, List.set_cons_succ]
                  refine wpAnyH_take (i := 25) rfl (by kernel_rfl) (by kernel_rfl) (by kernel_rfl) (fun _ _ _ h => h) (Or.inr ⟨by rfl, rfl⟩) (by assumption) ?_
                  simp only [Act.put, List.getElem_toArray, List.getElem_cons_zero, List.getElem_cons_succ, List.setIfInBounds_toArray, List.set_cons_zero, List.set_cons_succ]
                  refine wpAnyH_take (i := 26) rfl (by kernel_rfl) (by kernel_rfl) (by kernel_rfl) (fun _ _ _ h => h) (Or.inr ⟨by rfl, rfl⟩) (by assumption) ?_
                  simp only [Act.put, List.getElem_toArray, List.getElem_cons_zero, List.getElem_cons_succ, List.setIfInBounds_toArray, List.set_cons_zero, List.set_cons_succ]
                  refine wpAnyH_take (i := 27) (v := ?_) rfl (by kernel_rfl) (by kernel_rfl) (by kernel_rfl) (fun _ _ _ h => h) (Or.inl ⟨by rfl, ?_⟩) (by assumption) ?_
                  rotate_left
                  · (intro w hSw; (try dsimp only at hSw); go_simp)
                    first | done | with_reducible rfl
                  simp only [Act.put, List.getElem_toArray, List.getElem_cons_zero, List.getElem_cons_succ, List.setIfInBounds_toArray, List.set_cons_zero, List.set_cons_succ]
                  refine wpAnyH_take (i := 28) (v := ?_) rfl (by kernel_rfl) (by kernel_rfl) (by kernel_rfl) (fun _ _ _ h => h) (Or.inl ⟨by rfl, ?_⟩) (by assumption) ?_
                  rotate_left
                  · (intro w hSw; (try dsimp only at hSw); go_simp)
                    first | done | with_reducible rfl
                  simp only [Act.put, List.getElem_toArray, List.getElem_cons_zero, List.getElem_cons_succ, List.setIfInBounds_toArray, List.set_cons_zero, List.set_cons_succ]
                  refine wpAnyH_done (by kernel_rfl) ?_ _
                  have HU9 := Lib.hid (HU.out.drew.trans hu1)
                  clear HU hHeld x0 q0
                  go_wp2_with fail
                  go_roundw
                  case rel => exact ⟨k + 1, by omega, by omega, by go_num, HA3, HU9.out⟩
                  case measure => simp [intOf]; omega
          · obtain rfl : k = labs.length := by omega
            have HRR := Lib.hid (show labsOk labs = true by rw [HLO2.out, ← HA.out]; exact allF_end _ _)
            have HU := Lib.hid hU
            clear hlt hk HA hU HLO2 p0 HR1
            go_wp2_with fail
            go_ret
            exact ⟨by rw [HRR.out]; rfl, HU.out⟩
      · have HRR := Lib.hid (show labsOk labs = false by
          have := HA0.out
          rw [HLP0.out, show (s0 == tauL) = false by simpa using ht0] at this
          rw [Nat.sub_zero] at this
          rw [HLO2.out, this]; simp)
        have g1 : (s0 == [116, 97, 117]) = false := by simpa [tauL] using ht0
        have g1n : (s0 != [116, 97, 117]) = true := by simp [bne, g1]
        clear HA0 HLP0 ht0 HLO2 HR1 HP
        go_enter Tryz.func74, Tryz.ntmps74
        go_wp2_with fail
        go_ret
        exact ⟨by rw [HRR.out]; rfl, Upd.refl _ _⟩

end Go.Proofs.YtlogbiacnadcaaaGreatDoor
