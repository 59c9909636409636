/-
  The laws' helper functions over lists of texts.
-/
import Derived.Test.YtnfghgaadnobbaaHarnN
import Derived.Test.YtnfghgaadnobbaaLabB
import Derived.Deep.RegionHeld3
namespace Go.Proofs.Ytnfghgaadnobbaa
open Go.RowKit

abbrev R_S1 : Rp (List (List UInt8)) := RS
theorem R_S1k : Kept R_S1 := RSk
def totS (x : List (List UInt8)) : Int := (x.map (fun r => (r.length : Int))).sum
def szF_S1 (x : List (List UInt8)) : Int := x.length + totS x
def mkF_S1 (x : List (List UInt8)) : Int := x.length
theorem totS_nonneg (x : List (List UInt8)) : 0 ≤ totS x := by
  unfold totS; induction x with
  | nil => simp
  | cons r rs ih => simp only [List.map_cons, List.sum_cons]; omega
theorem totS_snoc (x : List (List UInt8)) (k : Nat) (h : k < x.length) : totS (x.take (k + 1)) = totS (x.take k) + x[k].length := by
  unfold totS; rw [List.take_succ_eq_append_getElem h, List.map_append, List.sum_append]; simp
theorem totS_take_le (x : List (List UInt8)) (k : Nat) : totS (x.take k) ≤ totS x := by
  conv => rhs; rw [← List.take_append_drop k x]
  have := totS_nonneg (x.drop k)
  unfold totS at *; simp only [List.map_append, List.sum_append]; omega
theorem totS_mem (x : List (List UInt8)) (p : List UInt8) (h : p ∈ x) : (p.length : Int) ≤ totS x := by
  obtain ⟨k, hk, rfl⟩ := List.mem_iff_getElem.1 h
  have h1 := totS_snoc x k hk
  have h2 := totS_take_le x (k + 1)
  have h3 := totS_nonneg (x.take k)
  omega
theorem szF_S1_nonneg (x : List (List UInt8)) : 0 ≤ szF_S1 x := by have := totS_nonneg x; unfold szF_S1; omega
theorem mkF_S1_nonneg (x : List (List UInt8)) : 0 ≤ mkF_S1 x := by unfold mkF_S1; omega
theorem mkF_S1_le (x : List (List UInt8)) : mkF_S1 x ≤ 16 * szF_S1 x := by have := totS_nonneg x; unfold mkF_S1 szF_S1; omega
theorem str_cat (a b : List UInt8) : (ByteArray.mk a.toArray ++ ByteArray.mk b.toArray) = ByteArray.mk (a ++ b).toArray := ByteArray.mk_append_mk a b

/-- no text is longer than a machine's memory. -/
def strsOk (x : List (List UInt8)) : Prop := ∀ p ∈ x, p.length ≤ 9223372036854775807

/-- the text that marks the number k. -/
def mtx (k : Int) : List UInt8 := 109 :: Lib.decDigits k.toNat

set_option maxRecDepth 20000 in
set_option maxHeartbeats 2000000 in
theorem markText (k0 : Int) (w : World) (h0 : 0 ≤ k0) (h1 : k0 ≤ 9223372036854775807) :
    Calls Try.prog 65 #[.int .i64 k0] w fun e w' => e = .returned (es (mtx k0)) ∧ Upd [] w w' := by
  obtain ⟨k, rfl⟩ : ∃ k : Nat, k0 = k := ⟨k0.toNat, by omega⟩
  by_cases hk : k = 0
  · subst hk
    have HR := Lib.hid (show mtx ((0 : Nat) : Int) = [109, 48] by simp [mtx, Lib.decDigits])
    go_enter Try.func65, Try.ntmps65
    go_wp2_with fail
    go_ret
    exact ⟨by rw [HR.out]; rfl, Upd.refl _ _⟩
  · have HR := Lib.hid (show mtx (k : Int) = 109 :: Lib.decDigits k by simp [mtx])
    have hpos : 0 < k := by omega
    have HK := Lib.hid hk
    clear hk
    go_enter Try.func65, Try.ntmps65
    go_wp2_with fail
    go_loopw [0, 3] (fun kv ov wr => ∃ (M j : Nat) (D : List UInt8), kv = .int .i64 M ∧ M ≤ k ∧ ov = es D ∧ D.length + j = 20 ∧ M < 10 ^ j ∧ Hid ((if M = 0 then [] else Lib.decDigits M) ++ D = Lib.decDigits k) ∧ Upd [] w wr) (fun kv _ _ => (intOf kv).toNat)
    case atStart => exact ⟨k, 20, [], rfl, Nat.le_refl _, rfl, rfl, by omega, Lib.hid (by simp [HK.out]), Upd.refl _ _⟩
    case round =>
      obtain ⟨M, j, D, rfl, hM, rfl, hj, hlt, HD, hU⟩ := hrel
      have hDl : D.length ≤ 20 := by omega
      have HJ := Lib.hid (And.intro hj hlt)
      have HU := Lib.hid hU
      have hszr := hU.size
      clear hj hlt hU
      by_cases hM0 : M = 0
      · subst hM0
        have hD : D = Lib.decDigits k := by simpa using HD.out
        have HD2 := Lib.hid hD
        clear hD HD
        go_wp2_with fail
        go_ret
        exact ⟨by rw [HR.out, ← HD2.out]; first | rfl | simp [es], HU.out⟩
      · have hst := dig_step M (by omega) D.reverse
        have HS := Lib.hid (show (if M / 10 = 0 then [] else Lib.decDigits (M / 10)) ++ (UInt8.ofNat (48 + M % 10) :: D) = Lib.decDigits k by
          have h2 := HD.out
          rw [if_neg hM0] at h2
          rw [← h2]
          simpa using hst)
        have hb : eb (UInt8.ofNat (48 + M % 10)) = .int .u8 (48 + (M : Int) % 10) := by
          simp only [Value.int.injEq, true_and]
          rw [UInt8.toNat_ofNat_of_lt' (by show 48 + M % 10 < 256; omega)]; omega
        have hcv := run_convert_bytes_back (P := Try.prog) (wr.alloc (.cells #[.int .u8 (48 + (M : Int) % 10)] 5)) 114 9 5 ⟨wr.heap.size, 0, none⟩ 1 [UInt8.ofNat (48 + M % 10)] Try.underlying114 Try.underlying5 Try.underlying9 (fun j hj => by
          obtain rfl : j = 0 := by simpa using hj
          rw [addr_add]
          exact cell_new wr _ _ _ rfl _ _ (by simpa using hb.symm))
        have hMp : 0 < M := by omega
        generalize UInt8.ofNat (48 + M % 10) = b at *
        have hcat := str_cat [b] D
        simp only [List.length_cons, List.length_nil, Nat.zero_add] at hcv
        obtain ⟨S, hS⟩ : ∃ S, S = [b] ++ D := ⟨_, rfl⟩
        rw [← hS] at hcat
        have HSS := Lib.hid hS
        clear hst hb hM0 hS HD
        go_wp2_with fail
        clear hcv hcat
        go_roundw
        case rel =>
          obtain ⟨hq1, hq2⟩ := HJ.out
          obtain ⟨q, rfl⟩ : ∃ q, j = q + 1 := ⟨j - 1, by
            rcases Nat.eq_zero_or_pos j with h | h
            · subst h; simp at hq2; omega
            · omega⟩
          refine ⟨M / 10, q, S, by go_num, by omega, rfl, by rw [HSS.out]; simp; omega, ?_, Lib.hid (by rw [HSS.out]; exact HS.out), HU.out.alloc _⟩
          rw [Nat.pow_succ] at hq2
          omega
        case measure => simp [intOf]; omega

set_option maxRecDepth 20000 in
set_option maxHeartbeats 400000 in
theorem sz_S1 (v : Value) (xs : List (List UInt8)) (left : Int) (w : World) (fp : List Nat) (hl : 0 ≤ left) (hl2 : left ≤ 1048576) (hR : R_S1 fp w [v] xs) (hS : strsOk xs) :
    Calls Try.prog 23 #[v, .int .i64 left] w fun e w' => (∃ r : Int, e = .returned (.int .i64 r) ∧ (r = -1 ∨ (0 ≤ r ∧ r + szF_S1 xs = left))) ∧ w = w' := by
  obtain ⟨a, cap, rfl, h1, h2, hc⟩ := slF1_open hR
  unfold maxLen at h2
  unfold szF_S1
  have HS := Lib.hid hS
  clear hR hS
  by_cases hlt : left - (xs.length : Int) < 0
  · go_enter Try.func23, Try.ntmps23
    go_wp2_with fail
    go_ret
    exact ⟨⟨-1, rfl, Or.inl rfl⟩, rfl⟩
  · have hge : 0 ≤ left - (xs.length : Int) := by omega
    clear hlt
    go_enter Try.func23, Try.ntmps23
    go_wp2_with fail
    go_loop [1, 5] (fun kk i => ∃ (k : Nat) (l : Int), k ≤ xs.length ∧ i = .int .i64 k ∧ kk = .int .i64 l ∧ 0 ≤ l ∧ Hid (l + xs.length + totS (xs.take k) = left)) (fun _ i => xs.length - (intOf i).toNat)
    case atStart => exact ⟨0, _, Nat.zero_le _, rfl, rfl, hge, Lib.hid (by simp [totS])⟩
    case round =>
      obtain ⟨k, l, hk, rfl, rfl, hl0, HL⟩ := hrel
      by_cases hlt : k < xs.length
      · obtain ⟨b, off, rfl, -, -, hcell⟩ := hc k hlt
        have ht := totS_nonneg (xs.take k)
        have HT := Lib.hid (totS_snoc xs k hlt)
        have hb2 : l ≤ 1048576 := by have := HL.out; omega
        have hx3 := HS.out xs[k] (List.getElem_mem hlt)
        clear hc ht
        generalize xs[k] = x at *
        by_cases hneg : l - (x.length : Int) < 0
        · go_wp2_with fail
          go_ret
          exact ⟨⟨-1, rfl, Or.inl rfl⟩, rfl⟩
        · go_wp2_with fail
          go_round
          case rel => exact ⟨k + 1, l - x.length, by omega, by go_num, rfl, by omega, Lib.hid (by have := HL.out; rw [HT.out]; omega)⟩
          case measure => simp [intOf]; omega
      · obtain rfl : k = xs.length := by omega
        clear hc
        go_wp2_with fail
        go_ret
        exact ⟨⟨l, rfl, Or.inr ⟨hl0, by have := HL.out; rw [List.take_length] at this; omega⟩⟩, rfl⟩

set_option maxRecDepth 20000 in
set_option maxHeartbeats 400000 in
theorem to_S1 (v : Value) (xs : List (List UInt8)) (w : World) (fp : List Nat) (hl : szF_S1 xs ≤ 1048576) (hR : R_S1 fp w [v] xs) :
    Calls Try.prog 25 #[v] w fun e w' => (∃ v', e = .returned v' ∧ New R_S1 w w' v' xs) ∧ Upd [] w w' := by
  obtain ⟨i0, hi, hz0, hz1, hz2⟩ := info_parts Try.info9
  obtain ⟨a, cap, rfl, h1, h2, hc⟩ := slF1_open hR
  unfold maxLen at h2
  have hxl : xs.length ≤ 1048576 := by have := totS_nonneg xs; unfold szF_S1 at hl; omega
  have hm1 : i0.bytes * xs.length ≤ 281474976710656 := by rw [hz2]; omega
  clear hl hR
  go_enter Try.func25, Try.ntmps25
  go_wp2_with (first
    | (at_make; refine wpList_make_full _ rfl _ _ 43 rfl w.heap.size 9 i0 (es []) 1 Try.underlying43 hi hz0 hz1 .i64 .i64 _ _ xs.length rfl rfl rfl rfl hm1 (by unfold maxLen; omega) (Nat.le_refl _) ?_; intro w1 hown hgrow)
    | fail)
  rw [made_one _ rfl, fill_zero es] at hown
  have hU : Upd [] w w1 := (Upd.refl _ _).grown hgrow (by simp)
  clear hgrow hm1
  go_loopw [4] (fun i wr => ∃ k : Nat, k ≤ xs.length ∧ i = .int .i64 k ∧ Upd [] w wr ∧
      wr.ownsRow w.heap.size 9 1 (.slice (some ⟨w.heap.size, 0, none⟩) xs.length xs.length) xs.length ((xs.take k).map es ++ List.replicate (xs.length - k) (es [])))
    (fun i _ => xs.length - (intOf i).toNat)
  case atStart => exact ⟨0, Nat.zero_le _, rfl, hU, hown⟩
  case round =>
    obtain ⟨k, hk, rfl, hU, hown⟩ := hrel
    by_cases hlt : k < xs.length
    · obtain ⟨b, off, rfl, rfl, hb, hcx⟩ := hc k hlt
      have hcell : wr.cell? ⟨b, off + k, none⟩ = some (es xs[k]) := (hU.below.cell hb).trans hcx
      have hcell2 : wr.cell? ⟨w.heap.size, k, none⟩ = some (es []) := by rw [hown.cellAt k (by omega), fill_at _ _ _ _ hlt]
      have hfr : wr.frozen? ⟨w.heap.size, k, none⟩ = false := hown.frozenAt k
      have hst := (hown.stored k (es xs[k]))
      rw [set_fill _ _ _ _ hlt] at hst
      have HS := Lib.hid hst
      clear hst hown hc
      generalize xs[k] = x at *
      go_wp2
      go_roundw
      case rel => exact ⟨k + 1, by omega, by go_num, hU.setCell (Or.inl (Nat.le_refl _)) _, HS.out.1⟩
      case measure => simp [intOf]; omega
    · obtain rfl : k = xs.length := by omega
      clear hc
      go_wp2
      go_ret
      refine ⟨⟨_, rfl, New.ofOwns (e := 9) ?_⟩, hU⟩
      simpa using hown

set_option maxRecDepth 20000 in
set_option maxHeartbeats 400000 in
theorem eq_S1 (v1 v2 : Value) (xs ys : List (List UInt8)) (w : World) (f1 f2 : List Nat) (h1 : R_S1 f1 w [v1] xs) (h2 : R_S1 f2 w [v2] ys) :
    Calls Try.prog 27 #[v1, v2] w fun e w' => e = .returned (.bool (xs == ys)) ∧ Upd [] w w' := by
  obtain ⟨a1, c1, rfl, hl1, hm1, hc1⟩ := slF1_open h1
  obtain ⟨a2, c2, rfl, hl2, hm2, hc2⟩ := slF1_open h2
  unfold maxLen at hm1 hm2
  clear h1 h2
  by_cases hl : xs.length = ys.length
  · have hres : (xs == ys) = (xs.drop 0 == ys.drop 0) := rfl
    have HL := Lib.hid hl
    have hle : xs.length ≤ ys.length := by omega
    have hbe : ((xs.length : Int) != (ys.length : Int)) = false := by rw [hl]; simp
    have HR := Lib.hid hres
    clear hl hres
    go_enter Try.func27, Try.ntmps27
    go_wp2
    go_loopw [5] (fun i wr => ∃ k n : Nat, k ≤ xs.length ∧ i = .int .i64 k ∧ wr = w.drewN n ∧ (xs.drop k == ys.drop k) = (xs == ys)) (fun i _ => xs.length - (intOf i).toNat)
    case atStart => exact ⟨0, 0, Nat.zero_le _, rfl, rfl, HR.out.symm⟩
    case round =>
      obtain ⟨k, n, hk, rfl, rfl, hF⟩ := hrel
      by_cases hlt : k < xs.length
      · obtain ⟨b1, o1, rfl, -, -, hcell1⟩ := hc1 k hlt
        obtain ⟨b2, o2, rfl, -, -, hcell2⟩ := hc2 k (by omega)
        have hlt2 : k < ys.length := by omega
        have HF := Lib.hid (hF.symm.trans (drop_step xs ys k hlt hlt2))
        clear hF hc1 hc2
        generalize xs[k] = x at *
        generalize ys[k] = y at *
        by_cases hx : x = y
        · have hne : (x != y) = false := by simp [hx]
          have hne2 : (x == y) = true := by simp [hx]
          have HX := Lib.hid hx
          clear hx
          go_wp2
          go_quiet (fail)
          go_wp2
          go_roundw
          case rel => exact ⟨k+1, _, by omega, by go_num, rfl, by rw [HF.out]; simp [HX.out]⟩
          case measure => simp [intOf]; omega
        · have hne : (x != y) = true := by simp [hx]
          have hne2 : (x == y) = false := by simp [hx]
          clear hx
          go_wp2
          go_quiet (fail)
          go_wp2
          go_ret
          exact ⟨by rw [HF.out]; simp [hne2], by rw [drewN_add]; exact (Upd.refl _ _).drewN _⟩
      · have hge : xs.length ≤ k := by omega
        have HF := Lib.hid hF
        clear hF hc1 hc2
        go_wp2
        go_ret
        exact ⟨by rw [← HF.out, List.drop_of_length_le hge, List.drop_of_length_le (by have := HL.out; omega)]; rfl, (Upd.refl _ _).drewN _⟩
  · have hbe : ¬ ((xs.length : Int) != (ys.length : Int)) = false := by simp; omega
    have hne : (xs == ys) = false := by
      rw [beq_eq_false_iff_ne]; intro h; exact hl (by rw [h])
    have HN := Lib.hid hne
    clear hl hne
    go_enter Try.func27, Try.ntmps27
    go_wp2
    go_ret
    exact ⟨by rw [HN.out]; rfl, Upd.refl _ _⟩

/-- n marks from k on. -/
def mkS (k : Int) (n : Nat) : List (List UInt8) := (upFrom k n).map mtx
@[simp] theorem mkS_length (k : Int) (n : Nat) : (mkS k n).length = n := by simp [mkS]
theorem mkS_get (k : Int) (n i : Nat) (h : i < n) : (mkS k n)[i]? = some (mtx (k + i)) := by
  unfold mkS; rw [List.getElem?_map, upFrom_get k n i h]; rfl
theorem mkS_set (xs : List (List UInt8)) (k0 : Int) (k : Nat) (hk : k < xs.length) : (mkS k0 k ++ xs.drop k).set k (mtx (k0 + k)) = mkS k0 (k + 1) ++ xs.drop (k + 1) := by
  rw [List.set_append_right _ _ (by simp), mkS_length, Nat.sub_self, List.drop_eq_getElem_cons hk, List.set_cons_zero]
  unfold mkS
  rw [upFrom_snoc, List.map_append]
  simp

set_option maxRecDepth 20000 in
set_option maxHeartbeats 400000 in
theorem mark_S1 (v : Value) (xs : List (List UInt8)) (k0 : Int) (w : World) (fp : List Nat) (hk0 : 0 ≤ k0) (hk1 : k0 + mkF_S1 xs ≤ 4611686018427387904) (hR : R_S1 fp w [v] xs) (hO : Own fp w) :
    Calls Try.prog 28 #[v, .int .i64 k0] w fun e w' => e = .returned (.int .i64 (k0 + mkF_S1 xs)) ∧ R_S1 fp w' [v] (mkS k0 xs.length) ∧ Own fp w' ∧ Upd fp w w' := by
  obtain ⟨a, cap, rfl, h1, h2, -⟩ := slF1_open hR
  unfold mkF_S1 at hk1
  unfold maxLen at h2
  have HM := Lib.hid (show mkF_S1 xs = xs.length from rfl)
  have HR := Lib.hid hR
  have HO := Lib.hid hO
  clear hR hO
  go_enter Try.func28, Try.ntmps28
  go_wp2_with fail
  go_loopw [1, 5] (fun kk i wr => ∃ k : Nat, k ≤ xs.length ∧ i = .int .i64 k ∧ kk = .int .i64 (k0 + k) ∧ Upd fp w wr ∧ Own fp wr ∧ RS fp wr [.slice a xs.length cap] (mkS k0 k ++ xs.drop k)) (fun _ i _ => xs.length - (intOf i).toNat)
  case atStart => exact ⟨0, Nat.zero_le _, rfl, by simp, Upd.refl _ _, HO.out, by simpa [mkS, upFrom] using HR.out⟩
  case round =>
    clear HR HO
    obtain ⟨k, hk, rfl, rfl, hU, hO, hF⟩ := hrel
    by_cases hlt : k < xs.length
    · have S1 := Lib.hid (markText (k0 + k) wr (by omega) (by omega))
      have HP := Lib.hid (And.intro hU (And.intro hO hF))
      have HSET := Lib.hid (mkS_set xs k0 k hlt)
      clear hU hO hF
      go_wp2_with fail
      refine S1.out.mono ?_
      rintro e w1 ⟨rfl, hu1⟩
      have hd : ∀ b ∈ fp, b ∉ ([] : List Nat) := by simp
      obtain ⟨b, off, cap', hv, -, -, hfp, hbl, hcell, hset⟩ := slF1_cell (RSk.upd HP.out.2.2 hu1 hd) k (by simp; omega)
      have hlen : (mkS k0 k ++ xs.drop k).length = xs.length := by simp; omega
      rw [hlen] at hv
      simp only [Value.slice.injEq] at hv
      obtain ⟨rfl, -, rfl⟩ := hv
      have hfr : w1.frozen? ⟨b, off + k, none⟩ = false := (HP.out.2.1.upd hu1 hd).frozen (by rw [hfp]; simp) _
      have hs := hset (mtx (k0 + k))
      rw [HSET.out] at hs
      obtain ⟨z, hz⟩ : ∃ z : List UInt8, w1.cell? ⟨b, off + k, none⟩ = some (es z) := ⟨_, hcell⟩
      have HQ := Lib.hid (And.intro ((HP.out.1.trans (hu1.mono (by simp))).setCell (p := ⟨b, off + k, none⟩) (Or.inr (by rw [hfp]; simp)) (es (mtx (k0 + k)))) (And.intro ((HP.out.2.1.upd hu1 hd).setCell ⟨b, off + k, none⟩ (es (mtx (k0 + k)))) hs))
      clear hs hset hcell hlen hd hfp hu1 HP S1 HSET
      generalize mtx (k0 + k) = T at *
      go_wp2_with fail
      go_roundw
      case rel => exact ⟨k + 1, by omega, by go_num, by go_num, HQ.out.1, HQ.out.2.1, HQ.out.2.2⟩
      case measure => simp [intOf]; omega
    · obtain rfl : k = xs.length := by omega
      have HP := Lib.hid (And.intro hU (And.intro hO hF))
      clear hU hO hF
      go_wp2_with fail
      go_ret
      refine ⟨by rw [HM.out]; rfl, by simpa using HP.out.2.2, HP.out.2.1, HP.out.1⟩

end Go.Proofs.Ytnfghgaadnobbaa
