/-
  The helpers of the laws: lists held against each other; the relation that the reference draws; SpanOf.
-/
import Derived.Test.YtkcafdobiloeiaaClosure2
import Derived.Test.YtkcafdobiloeiaaSrc
import Derived.Deep.QuietTactic
import Derived.BigQuiet
namespace Go.Proofs.Ytkcafdobiloeiaa
open Go.RowKit

set_option maxHeartbeats 400000 in
theorem nums1 (v1 v2 : Value) (xs ys : List Int) (w : World) (f1 f2 : List Nat) (h1 : R1 f1 w [v1] xs) (h2 : R1 f2 w [v2] ys) :
    Calls Try.prog 30 #[v1, v2] w fun e w' => e = .returned (.bool (xs == ys)) ∧ ∃ n, w' = w.drewN n := by
  obtain ⟨a1, c1, rfl, hl1, hm1, hc1⟩ := slF1_open h1
  obtain ⟨a2, c2, rfl, hl2, hm2, hc2⟩ := slF1_open h2
  unfold maxLen at hm1 hm2
  clear h1 h2
  by_cases hl : xs.length = ys.length
  · have hres : (xs == ys) = (xs.drop 0 == ys.drop 0) := rfl
    have HL := Lib.hid hl
    have hle : xs.length ≤ ys.length := by omega
    have hbe : ((xs.length : Int) != (ys.length : Int)) = false := by rw [hl]; simp
    have HR := Lib.hid hres
    clear hl hres
    go_enter Try.func30, Try.ntmps30
    go_wp2
    go_loopw [5] (fun i wr => ∃ k n : Nat, k ≤ xs.length ∧ i = .int .i64 k ∧ wr = w.drewN n ∧ (xs.drop k == ys.drop k) = (xs == ys)) (fun i _ => xs.length - (intOf i).toNat)
    case atStart => exact ⟨0, 0, Nat.zero_le _, rfl, rfl, HR.out.symm⟩
    case round =>
      obtain ⟨k, n, hk, rfl, rfl, hF⟩ := hrel
      by_cases hlt : k < xs.length
      · obtain ⟨b1, o1, rfl, -, -, hcell1⟩ := hc1 k hlt
        obtain ⟨b2, o2, rfl, -, -, hcell2⟩ := hc2 k (by omega)
        have hlt2 : k < ys.length := by omega
        have HF := Lib.hid hF
        clear hF hc1 hc2
        by_cases hx : xs[k] = ys[k]
        · have hne : (xs[k] != ys[k]) = false := by simp [hx]
          have HX := Lib.hid hx
          clear hx
          go_wp2
          go_quiet (fail)
          go_wp2
          go_roundw
          case rel => exact ⟨k+1, _, by omega, by go_num, rfl, by rw [← HF.out, drop_step xs ys k hlt hlt2]; simp [HX.out]⟩
          case measure => simp [intOf]; omega
        · have hne : (xs[k] != ys[k]) = true := by simp [hx]
          clear hx
          go_wp2
          go_quiet (fail)
          go_wp2
          go_ret
          exact ⟨by rw [← HF.out, drop_step xs ys k hlt hlt2]; simp at hne; simp [hne], _, drewN_add _ _ _⟩
      · have hge : xs.length ≤ k := by omega
        have HF := Lib.hid hF
        clear hF hc1 hc2
        go_wp2
        go_ret
        exact ⟨by rw [← HF.out, List.drop_of_length_le hge, List.drop_of_length_le (by have := HL.out; omega)]; rfl, _, rfl⟩
  · have hbe : ¬ ((xs.length : Int) != (ys.length : Int)) = false := by simp; omega
    have hne : (xs == ys) = false := by
      rw [beq_eq_false_iff_ne]; intro h; exact hl (by rw [h])
    have HN := Lib.hid hne
    clear hl hne
    go_enter Try.func30, Try.ntmps30
    go_wp2
    go_ret
    exact ⟨by rw [HN.out]; rfl, 0, rfl⟩

set_option maxHeartbeats 400000 in
theorem rows2 (v1 v2 : Value) (xs ys : List (List Int)) (w : World) (f1 f2 : List Nat) (h1 : R2 f1 w [v1] xs) (h2 : R2 f2 w [v2] ys) :
    Calls Try.prog 29 #[v1, v2] w fun e w' => e = .returned (.bool (xs == ys)) ∧ ∃ n, w' = w.drewN n := by
  obtain ⟨a1, c1, rfl, hl1, hm1, hc1⟩ := slP_open h1
  obtain ⟨a2, c2, rfl, hl2, hm2, hc2⟩ := slP_open h2
  unfold maxLen at hm1 hm2
  clear h1 h2
  by_cases hl : xs.length = ys.length
  · have hres : (xs == ys) = (xs.drop 0 == ys.drop 0) := rfl
    have HL := Lib.hid hl
    have hle : xs.length ≤ ys.length := by omega
    have hbe : ((xs.length : Int) != (ys.length : Int)) = false := by rw [hl]; simp
    have HR := Lib.hid hres
    clear hl hres
    go_enter Try.func29, Try.ntmps29
    go_wp2
    go_loopw [5] (fun i wr => ∃ k n : Nat, k ≤ xs.length ∧ i = .int .i64 k ∧ wr = w.drewN n ∧ (xs.drop k == ys.drop k) = (xs == ys)) (fun i _ => xs.length - (intOf i).toNat)
    case atStart => exact ⟨0, 0, Nat.zero_le _, rfl, rfl, HR.out.symm⟩
    case round =>
      obtain ⟨k, n, hk, rfl, hw, hF⟩ := hrel
      have HW := Lib.hid hw
      clear hw
      by_cases hlt : k < xs.length
      · obtain ⟨b1, o1, u1, g1, rfl, -, -, hcell1, -, hr1⟩ := hc1 k hlt
        obtain ⟨b2, o2, u2, g2, rfl, -, -, hcell2, -, hr2⟩ := hc2 k (by omega)
        have hlt2 : k < ys.length := by omega
        have HF := Lib.hid hF
        have hcall : ∀ n', Calls Try.prog 30 #[u1, u2] (wr.drewN n') fun e w'' => e = .returned (.bool (xs[k] == ys[k])) ∧ ∃ m, w'' = wr.drewN m :=
          fun n' => Calls.quiet_of (nums1 u1 u2 _ _ _ _ _ (R1k.drewN (by rw [HW.out]; exact R1k.drewN hr1 _) _) (R1k.drewN (by rw [HW.out]; exact R1k.drewN hr2 _) _))
        have hcell1' : wr.cell? ⟨b1, o1 + k, none⟩ = some u1 := by rw [HW.out]; exact hcell1
        have hcell2' : wr.cell? ⟨b2, o2 + k, none⟩ = some u2 := by rw [HW.out]; exact hcell2
        clear hcell1 hcell2
        have HC := Lib.hid hcall
        clear hF hc1 hc2 hr1 hr2 hcall
        by_cases hx : (xs[k] == ys[k]) = true
        · go_wp2
          go_quiet ((go_at_call 30; exact HC.out _))
          go_wp2
          go_roundw
          case rel => exact ⟨k+1, _, by omega, by go_num, by rw [HW.out, drewN_add], by rw [← HF.out, drop_step xs ys k hlt hlt2]; simp [hx]⟩
          case measure => simp [intOf]; omega
        · have hx' : (xs[k] == ys[k]) = false := by simpa using hx
          clear hx
          go_wp2
          go_quiet ((go_at_call 30; exact HC.out _))
          go_wp2
          go_ret
          exact ⟨by rw [← HF.out, drop_step xs ys k hlt hlt2, hx']; rfl, _, by rw [HW.out, drewN_add]⟩
      · have hge : xs.length ≤ k := by omega
        have HF := Lib.hid hF
        clear hF hc1 hc2
        go_wp2
        go_ret
        exact ⟨by rw [← HF.out, List.drop_of_length_le hge, List.drop_of_length_le (by have := HL.out; omega)]; rfl, _, HW.out⟩
  · have hbe : ¬ ((xs.length : Int) != (ys.length : Int)) = false := by simp; omega
    have hne : (xs == ys) = false := by
      rw [beq_eq_false_iff_ne]; intro h; exact hl (by rw [h])
    have HN := Lib.hid hne
    clear hl hne
    go_enter Try.func29, Try.ntmps29
    go_wp2
    go_ret
    exact ⟨by rw [HN.out]; rfl, 0, rfl⟩



theorem b10Long (v : Value) (code : List Int) (w : World) (fc : List Nat) (hR : R_B fc w [v] code) :
    Calls Try.prog 25 #[v] w fun e w' => e = .returned (.bool (decide (1048576 < (code.length : Int)))) ∧ w = w' := by
  obtain ⟨a, cap, rfl, h1, h2, -⟩ := slF1_open hR
  unfold maxLen at h2
  go_enter Try.func25, Try.ntmps25
  go_wp2_with fail
  go_ret
  exact ⟨by simp, rfl⟩

noncomputable def spanRes (n : Int) (r : List (List Int)) : List Int × Int := if relB n r then (normL (leadL n.toNat r), 0) else ([], 1)

set_option maxRecDepth 20000 in
theorem spanOf (m : Nat) (r : List (List Int)) (v : Value) (w : World) (fp : List Nat) (hr : relB m r = true) (hR : R2 fp w [v] r) :
    Calls Try.prog 28 #[.int .i64 m, v] w fun e w' => (∃ v', e = .returned (.tuple #[v', .int .i64 0]) ∧ New R1 w w' v' (normL (leadL m r))) ∧ Upd [] w w' := by
  have hn := relB_n hr
  have S1 := isRelation m v r w fp (by omega) (by omega) hR
  rw [hr] at S1
  have HS1 := Lib.hid S1
  have S2 := Lib.hid (span m r v w fp hr hR)
  clear hr S1
  go_enter Try.func28, Try.ntmps28
  go_wp2_with fail
  refine HS1.out.mono ?_
  rintro e w1 ⟨rfl, rfl⟩
  go_wp2_with fail
  refine S2.out.mono ?_
  rintro e w1 ⟨⟨v1, rfl, hn1⟩, hu1⟩
  have HN := Lib.hid (And.intro hn1 hu1)
  clear hn1 hu1
  go_wp2_with fail
  go_ret2
  exact ⟨⟨_, rfl, HN.out.1⟩, HN.out.2⟩

def RelOut (w : World) (e : Ending) (w' : World) : Prop := (∃ (m : Nat) (r : List (List Int)) (v' : Value) (fp : List Nat), e = .returned (.tuple #[.int .i64 m, v']) ∧ relB m r = true ∧ R2 fp w' [v'] r) ∧ Upd [] w w'

set_option maxRecDepth 20000 in
set_option maxHeartbeats 2000000 in
theorem b10Relation (v : Value) (code : List Int) (w : World) (fc : List Nat) (hR : R_B fc w [v] code) (hb : bytesOk code) (hl : code.length ≤ 1048576) :
    Calls Try.prog 26 #[v] w (RelOut w) := by
  obtain ⟨i1, ki, kz0, kz1, kz2⟩ := info_parts Try.infoB
  have S1 := Lib.hid (srcFrom v code w fc hR hb hl)
  clear hR hb
  go_enter Try.func26, Try.ntmps26
  go_wp2_with fail
  refine S1.out.mono ?_
  rintro e w1 ⟨⟨p, rfl, hs1, hp⟩, hu1⟩
  have S2 := Lib.hid (srcPick 0 p 6 w1 (by omega) hs1 (by omega) (by omega))
  clear hs1 S1
  go_wp2_with fail
  refine S2.out.mono ?_
  rintro e w2 ⟨⟨x, rfl, hx0, hx1⟩, hs2, hu2⟩
  have hU2 : Upd [] w w2 := hu1.fresh hu2 (fun b hb => Or.inl (by simp at hb; omega))
  obtain ⟨m, hm⟩ : ∃ m : Nat, (1 : Int) + x = m := ⟨(1 + x).toNat, by omega⟩
  have hm1 : 1 ≤ m ∧ m ≤ 6 := by omega
  obtain rfl : x = (m : Int) - 1 := by omega
  have hm2 : i1.bytes * (m * m) ≤ 281474976710656 := by rw [kz2]; have := mul_bd (i := m) (j := m) (n := m) (Nat.le_refl _) (Nat.le_refl _) (by omega); omega
  have hbd := mul_bd (i := m) (j := m) (n := m) (Nat.le_refl _) (Nat.le_refl _) (by omega)
  have hone : (1 : Int) + ((m : Int) - 1) = m := by omega
  have HS2 := Lib.hid hs2
  clear S2 hu1 hu2 hm hs2
  go_wp2_with (first
    | (at_make; refine wpList_make_full _ rfl _ _ 70 rfl w2.heap.size 4 i1 (.bool false) 1 Try.underlying70 ki kz0 kz1 .i64 .i64 _ _ (m * m) rfl rfl (Int.natCast_mul m m).symm (Int.natCast_mul m m).symm hm2 (by unfold maxLen; omega) (Nat.le_refl _) ?_; intro w3 hrow hgrow)
    | fail)
  rw [made_one _ rfl, flat_false_map Value.bool m] at hrow
  obtain ⟨fo, hf1, ho1, hge⟩ := New.ofOwns (w := w2) (e := 4) (enc := Value.bool) (xs := flat m fun _ _ => false) (by simpa using hrow)
  have hu3 : Upd [] w2 w3 := (Upd.refl _ _).grown hgrow (by simp)
  have hs3 := HS2.out.upd hu3
  have hpl : p < w2.heap.size := HS2.out.lt
  have HPF := Lib.hid (show p ∉ fo from fun hm => by have := hge p hm; omega)
  have HGE := Lib.hid (show ∀ b ∈ fo, w.heap.size ≤ b from fun b hb => by have := hge b hb; have := hU2.size; omega)
  have S3 := Lib.hid (srcPick (0 + 2) p 8 w3 (by omega) hs3 (by omega) (by omega))
  have HF := Lib.hid (And.intro hf1 ho1)
  have HU3 := Lib.hid (hU2.trans hu3)
  have hsz2 := hU2.size
  have hbl2 : w2.heap.size < w3.heap.size := by
    have := hrow.lt w2.heap.size rfl; omega
  clear hrow hgrow hf1 ho1 hge hu3 hs3 hm2 hU2 HS2 hx0 hx1
  refine S3.out.mono ?_
  rintro e w4 ⟨⟨k0, rfl, hk0, hk1⟩, hs4, hu4⟩
  have hpd : ∀ b ∈ [p], b ∉ fo := fun b hb hm => by simp at hb; subst hb; exact HPF.out hm
  have hpd2 : ∀ b ∈ fo, b ∉ [p] := fun b hb hm => by simp at hm; subst hm; exact HPF.out hb
  obtain ⟨K, rfl⟩ : ∃ K : Nat, k0 = K := ⟨k0.toNat, by omega⟩
  have HST := Lib.hid (And.intro (hs4.mono (show 0 + 2 + 2 ≤ 20 - 2 * K by omega)) (And.intro (HU3.out.fresh hu4 (fun b hb => Or.inl (by simp at hb; omega))) (And.intro (Rbk.upd HF.out.1 hu4 hpd2) (HF.out.2.upd hu4 hpd2))))
  have hbl4 : w2.heap.size < w4.heap.size := Nat.lt_of_lt_of_le hbl2 hu4.size
  have HPD := Lib.hid hpd2
  clear S3 HF HU3 hs4 hu4 hpd hpd2
  go_wp2_with fail
  go_loopw [7] (fun kv wr => ∃ (K : Nat) (F : Nat → Nat → Bool), K ≤ 7 ∧ kv = .int .i64 K ∧ IsSrc (20 - 2 * K) p wr ∧ Upd [] w wr ∧ Rb fo wr [.slice (some ⟨w2.heap.size, 0, none⟩) (m * m) (m * m)] (flat m F) ∧ Own fo wr) (fun kv _ => (intOf kv).toNat)
  case atStart => exact ⟨K, _, by omega, rfl, HST.out.1, HST.out.2.1, HST.out.2.2.1, HST.out.2.2.2⟩
  case round =>
    clear HST
    obtain ⟨K, F, hK, rfl, hs, hU, hf, ho⟩ := hrel
    by_cases hpos : 0 < K
    · have S4 := Lib.hid (srcPick (20 - 2 * K) p ((m : Int) * m) wr (by omega) hs (by omega) (by omega))
      have hp2 : p < wr.heap.size := hs.lt
      have HF := Lib.hid (And.intro hf ho)
      have HU := Lib.hid hU
      have hmm : (1 : Int) ≤ (m : Int) * m := by
        have := Nat.mul_le_mul hm1.1 hm1.1; rw [← Int.natCast_mul]; omega
      clear hf ho hs hU
      go_wp2_with fail
      refine S4.out.mono ?_
      rintro e w5 ⟨⟨q, rfl, hq0, hq1⟩, hs5, hu5⟩
      obtain ⟨Q, rfl⟩ : ∃ Q : Nat, q = Q := ⟨q.toNat, by omega⟩
      have hQ : Q < m * m := by
        have : (Q : Int) < (m : Int) * m := by omega
        rw [← Int.natCast_mul] at this; omega
      have hf5 := Rbk.upd HF.out.1 hu5 HPD.out
      have ho5 := HF.out.2.upd hu5 HPD.out
      have hqi : Q / m < m := Nat.div_lt_of_lt_mul hQ
      have hqj : Q % m < m := Nat.mod_lt _ (by omega)
      obtain ⟨b4, o4, c4, hv4, -, -, hfp, r2, hset⟩ := flatF_cell hf5 (Q / m) (Q % m) hqi hqj
      simp only [Value.slice.injEq, Option.some.injEq, Addr.mk.injEq, and_true, true_and] at hv4
      obtain ⟨⟨rfl, rfl⟩, rfl⟩ := hv4
      have hidx : Q / m * m + Q % m = Q := by rw [Nat.mul_comm]; exact Nat.div_add_mod Q m
      rw [Nat.zero_add, hidx] at r2 hset
      have hset := hset true
      have hfr : w5.frozen? ⟨w2.heap.size, Q, none⟩ = false := ho5.frozen (by rw [hfp]; simp) _
      generalize F (Q / m) (Q % m) = z at r2
      have hu6 : Upd [w2.heap.size] w5 (w5.setCell ⟨w2.heap.size, Q, none⟩ (.bool true)) := (Upd.refl _ _).setCell (by simp) _
      have hs6 : IsSrc (20 - 2 * (K - 1)) p (w5.setCell ⟨w2.heap.size, Q, none⟩ (.bool true)) := IsSrc.other (hs5.mono (by omega)) hu6 (by simpa using hpl)
      have HP := Lib.hid (And.intro hs6 (And.intro ((HU.out.fresh hu5 (fun b hb => Or.inl (by simp at hb; omega))).setCell (p := ⟨w2.heap.size, Q, none⟩) (Or.inl hsz2) (.bool true)) (And.intro hset (ho5.setCell ⟨w2.heap.size, Q, none⟩ (.bool true)))))
      clear hset hs6 hu6 ho5 hf5 hs5 hu5 S4 hidx hqi hqj hfp
      go_wp2_with fail
      go_roundw
      case rel => exact ⟨K - 1, _, by omega, by go_num, HP.out.1, HP.out.2.1, HP.out.2.2.1, HP.out.2.2.2⟩
      case measure => simp [intOf]; omega
    · obtain rfl : K = 0 := by omega
      have S5 := Lib.hid (l02List m F _ wr fo (by omega) hf)
      have HU := Lib.hid hU
      have HR := Lib.hid (relB_allTo m F hm1.1 (by omega))
      clear hf ho hs hU
      go_wp2_with fail
      refine S5.out.mono ?_
      rintro e w6 ⟨⟨v6, rfl, f6, h6, -, -⟩, hu6⟩
      have HP := Lib.hid (And.intro h6 (HU.out.trans hu6))
      clear h6 hu6 S5
      go_wp2_with fail
      go_ret2
      exact ⟨⟨m, _, _, _, rfl, HR.out, HP.out.1⟩, HP.out.2⟩

end Go.Proofs.Ytkcafdobiloeiaa
