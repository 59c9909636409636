/-
  The laws' helper functions over terms (a kind and a value) and lists of terms.
-/
import Derived.Test.YtnfghgaadnobbaaGreatDoorHarnN
import Derived.Deep.RegionHeld3
import Derived.Deep.RegionWith
namespace Go.Proofs.YtnfghgaadnobbaaGreatDoor
open Go.RowKit Go.ChangeShapes

abbrev Tm := Int × Int
abbrev R_T1 : Rp (List Tm) := slF 2 (fun t => [ei t.1, ei t.2])
theorem R_T1k : Kept R_T1 := slF_kept _ _
def szF_T1 (x : List Tm) : Int := x.length
def mkF_T1 (x : List Tm) : Int := 2 * x.length
theorem szF_T1_nonneg (x : List Tm) : 0 ≤ szF_T1 x := by unfold szF_T1; omega
theorem mkF_T1_nonneg (x : List Tm) : 0 ≤ mkF_T1 x := by unfold mkF_T1; omega
theorem mkF_T1_le (x : List Tm) : mkF_T1 x ≤ 16 * szF_T1 x := by unfold mkF_T1 szF_T1; omega

theorem Tryz.infoT : (Tryz.prog.info? 78).map (fun i => (i.zero, i.size, i.bytes)) = some (some (.agg #[.int .i64 0, .int .i64 0]), 2, 16) := by kernel_rfl

set_option maxRecDepth 20000 in
set_option maxHeartbeats 400000 in
theorem sz_T1 (v : Value) (xs : List Tm) (left : Int) (w : World) (fp : List Nat) (hl : 0 ≤ left) (hl2 : left ≤ 1048576) (hR : R_T1 fp w [v] xs) :
    Calls Tryz.prog 49 #[v, .int .i64 left] w fun e w' => (∃ r : Int, e = .returned (.int .i64 r) ∧ (r = -1 ∨ (0 ≤ r ∧ r + szF_T1 xs = left))) ∧ w = w' := by
  obtain ⟨a, cap, rfl, h1, h2, -⟩ := slF2_open hR
  unfold maxLen at h2
  unfold szF_T1
  clear hR
  by_cases hlt : left - (xs.length : Int) < 0
  · go_enter Tryz.func49, Tryz.ntmps49
    go_wp2
    go_ret
    exact ⟨⟨-1, rfl, Or.inl rfl⟩, rfl⟩
  · go_enter Tryz.func49, Tryz.ntmps49
    go_wp2
    go_ret
    exact ⟨⟨left - xs.length, rfl, Or.inr ⟨by omega, by omega⟩⟩, rfl⟩

set_option maxRecDepth 20000 in
set_option maxHeartbeats 400000 in
theorem toTerm (a b : Int) (w : World) : Calls Tryz.prog 79 #[.agg #[ei a, ei b]] w fun e w' => e = .returned (.agg #[ei a, ei b]) ∧ Upd [] w w' := by
  go_enter Tryz.func79, Tryz.ntmps79
  go_wp2
  refine bodyPost_ret (v := .agg #[ei a, ei b]) (by simp [results, Tryz.results79, go_sem]) rfl ⟨rfl, ?_⟩
  exact (((Upd.refl _ _).alloc _).alloc _).alloc _

set_option maxRecDepth 20000 in
set_option maxHeartbeats 400000 in
theorem eqTerm (a b c d : Int) (w : World) : Calls Tryz.prog 93 #[.agg #[ei a, ei b], .agg #[ei c, ei d]] w fun e w' => e = .returned (.bool (a == c && b == d)) ∧ Upd [] w w' := by
  by_cases h1 : a = c
  · have h1' : (a != c) = false := by simp [h1]
    have H1 := Lib.hid h1
    clear h1
    by_cases h2 : b = d
    · have h2' : (b != d) = false := by simp [h2]
      have H2 := Lib.hid h2
      clear h2
      go_enter Tryz.func93, Tryz.ntmps93
      go_wp2
      go_ret
      exact ⟨by simp [H1.out, H2.out], ((Upd.refl _ _).alloc _).alloc _⟩
    · have h2' : ¬ (b != d) = false := by simp [h2]
      have H2 := Lib.hid h2
      clear h2
      go_enter Tryz.func93, Tryz.ntmps93
      go_wp2
      go_ret
      exact ⟨by simp [H2.out], ((Upd.refl _ _).alloc _).alloc _⟩
  · have h1' : ¬ (a != c) = false := by simp [h1]
    have H1 := Lib.hid h1
    clear h1
    go_enter Tryz.func93, Tryz.ntmps93
    go_wp2
    go_ret
    exact ⟨by simp [H1.out], ((Upd.refl _ _).alloc _).alloc _⟩

set_option maxRecDepth 20000 in
set_option maxHeartbeats 800000 in
theorem eq_T1 (v1 v2 : Value) (xs ys : List Tm) (w : World) (f1 f2 : List Nat) (h1 : R_T1 f1 w [v1] xs) (h2 : R_T1 f2 w [v2] ys) :
    Calls Tryz.prog 74 #[v1, v2] w fun e w' => e = .returned (.bool (xs == ys)) ∧ Upd [] w w' := by
  obtain ⟨a1, c1, rfl, hl1, hm1, hc1⟩ := slF2_open h1
  obtain ⟨a2, c2, rfl, hl2, hm2, hc2⟩ := slF2_open h2
  unfold maxLen at hm1 hm2
  clear h1 h2
  by_cases hl : xs.length = ys.length
  · have hres : (xs == ys) = (xs.drop 0 == ys.drop 0) := rfl
    have HL := Lib.hid hl
    have hle : xs.length ≤ ys.length := by omega
    have hbe : ((xs.length : Int) != (ys.length : Int)) = false := by rw [hl]; simp
    have HR := Lib.hid hres
    clear hl hres
    go_enter Tryz.func74, Tryz.ntmps74
    go_wp2
    go_loopw [5] (fun i wr => ∃ k : Nat, k ≤ xs.length ∧ i = .int .i64 k ∧ Upd [] w wr ∧ (xs.drop k == ys.drop k) = (xs == ys)) (fun i _ => xs.length - (intOf i).toNat)
    case atStart => exact ⟨0, Nat.zero_le _, rfl, Upd.refl _ _, HR.out.symm⟩
    case round =>
      obtain ⟨k, hk, rfl, hU, hF⟩ := hrel
      have HF := Lib.hid hF
      clear hF
      by_cases hlt : k < xs.length
      · have hlt2 : k < ys.length := by omega
        obtain ⟨b1, o1, rfl, -, hb1, p1, p2⟩ := hc1 k hlt
        obtain ⟨b2, o2, rfl, -, hb2, p3, p4⟩ := hc2 k hlt2
        have q1 : wr.cell? ⟨b1, o1 + k * 2, none⟩ = some (ei xs[k].1) := (hU.below.cell hb1).trans p1
        have q2 : wr.cell? ⟨b1, o1 + k * 2 + 1, none⟩ = some (ei xs[k].2) := (hU.below.cell hb1).trans p2
        have q3 : wr.cell? ⟨b2, o2 + k * 2, none⟩ = some (ei ys[k].1) := (hU.below.cell hb2).trans p3
        have q4 : wr.cell? ⟨b2, o2 + k * 2 + 1, none⟩ = some (ei ys[k].2) := (hU.below.cell hb2).trans p4
        have hs := drop_step xs ys k hlt hlt2
        have hxy : (xs[k] == ys[k]) = (xs[k].1 == ys[k].1 && xs[k].2 == ys[k].2) := rfl
        rw [hxy] at hs
        have HS := Lib.hid hs
        generalize xs[k].1 = x1 at *
        generalize xs[k].2 = x2 at *
        generalize ys[k].1 = y1 at *
        generalize ys[k].2 = y2 at *
        clear hc1 hc2 p1 p2 p3 p4 hs hxy
        cases hx : (x1 == y1 && x2 == y2)
        · go_wp2
          go_region_held3 (fun w' => w'.cell? ⟨b1, o1 + k * 2, none⟩ = some (ei x1) ∧ w'.cell? ⟨b1, o1 + k * 2 + 1, none⟩ = some (ei x2) ∧ w'.cell? ⟨b2, o2 + k * 2, none⟩ = some (ei y1) ∧ w'.cell? ⟨b2, o2 + k * 2 + 1, none⟩ = some (ei y2)) (go_keep) ((refine (eqTerm x1 x2 y1 y2 _).mono ?_; rintro e w1 ⟨rfl, hu1⟩; have t1 := hu1.keep q1; have t2 := hu1.keep q2; have t3 := hu1.keep q3; have t4 := hu1.keep q4))
          have hU1 := hU.drew.trans hu1
          go_wp2_with fail
          go_ret
          exact ⟨by rw [← HF.out, HS.out, hx]; rfl, hU1⟩
        · go_wp2
          go_region_held3 (fun w' => w'.cell? ⟨b1, o1 + k * 2, none⟩ = some (ei x1) ∧ w'.cell? ⟨b1, o1 + k * 2 + 1, none⟩ = some (ei x2) ∧ w'.cell? ⟨b2, o2 + k * 2, none⟩ = some (ei y1) ∧ w'.cell? ⟨b2, o2 + k * 2 + 1, none⟩ = some (ei y2)) (go_keep) ((refine (eqTerm x1 x2 y1 y2 _).mono ?_; rintro e w1 ⟨rfl, hu1⟩; have t1 := hu1.keep q1; have t2 := hu1.keep q2; have t3 := hu1.keep q3; have t4 := hu1.keep q4))
          have hU1 := hU.drew.trans hu1
          clear hu1 hU
          go_wp2_with fail
          go_roundw
          case rel => exact ⟨k + 1, by omega, by go_num, hU1, by rw [← HF.out, HS.out, hx]; rfl⟩
          case measure => simp [intOf]; omega
      · have hge : xs.length ≤ k := by omega
        clear hc1 hc2
        go_wp2
        go_ret
        exact ⟨by rw [← HF.out, List.drop_of_length_le hge, List.drop_of_length_le (by have := HL.out; omega)]; rfl, hU⟩
  · have hbe : ¬ ((xs.length : Int) != (ys.length : Int)) = false := by simp; omega
    have hne : (xs == ys) = false := by
      rw [beq_eq_false_iff_ne]; intro h; exact hl (by rw [h])
    have HN := Lib.hid hne
    clear hl hne
    go_enter Tryz.func74, Tryz.ntmps74
    go_wp2
    go_ret
    exact ⟨by rw [HN.out]; rfl, Upd.refl _ _⟩

theorem fill2 (xs : List Tm) (k : Nat) (hk : k < xs.length) :
    (((xs.take k ++ List.replicate (xs.length - k) (0, 0)).flatMap fun t : Tm => [ei t.1, ei t.2])[k * 2]? = some (ei 0) ∧ ((xs.take k ++ List.replicate (xs.length - k) (0, 0)).flatMap fun t : Tm => [ei t.1, ei t.2])[k * 2 + 1]? = some (ei 0)) ∧
    (xs.take k ++ List.replicate (xs.length - k) ((0, 0) : Tm)).set k xs[k] = xs.take (k + 1) ++ List.replicate (xs.length - (k + 1)) (0, 0) := by
  have hl : (xs.take k).length = k := by simp; omega
  have hlen : (xs.take k ++ List.replicate (xs.length - k) ((0, 0) : Tm)).length = xs.length := by simp; omega
  have hel : (xs.take k ++ List.replicate (xs.length - k) ((0, 0) : Tm))[k]'(by omega) = (0, 0) := by
    rw [List.getElem_append_right (by omega)]; simp
  refine ⟨?_, ?_⟩
  · have := flatMap_two_get (fun t : Tm => ei t.1) (fun t : Tm => ei t.2) (xs.take k ++ List.replicate (xs.length - k) (0, 0)) k (by omega)
    rw [hel] at this
    exact this
  · rw [List.set_append_right _ _ (by omega), hl, Nat.sub_self, show xs.length - k = (xs.length - (k + 1)) + 1 from by omega, List.replicate_succ, List.set_cons_zero, List.take_succ_eq_append_getElem hk, List.append_assoc, List.singleton_append]

set_option maxRecDepth 20000 in
set_option maxHeartbeats 800000 in
theorem to_T1 (v : Value) (xs : List Tm) (w : World) (fp : List Nat) (hl : szF_T1 xs ≤ 1048576) (hR : R_T1 fp w [v] xs) :
    Calls Tryz.prog 58 #[v] w fun e w' => (∃ v', e = .returned v' ∧ New R_T1 w w' v' xs) ∧ Upd [] w w' := by
  obtain ⟨i0, hi, hz0, hz1, hz2⟩ := info_parts Tryz.infoT
  obtain ⟨a, cap, rfl, h1, h2, hc⟩ := slF2_open hR
  unfold maxLen at h2
  unfold szF_T1 at hl
  clear hR
  have hm1 : i0.bytes * xs.length ≤ 281474976710656 := by rw [hz2]; omega
  go_enter Tryz.func58, Tryz.ntmps58
  go_wp2_with (first
    | (at_make; refine wpList_make_full _ rfl _ _ 45 rfl w.heap.size 78 i0 (.agg #[.int .i64 0, .int .i64 0]) 2 Tryz.underlying45 hi hz0 hz1 .i64 .i64 _ _ xs.length rfl rfl rfl rfl hm1 (by unfold maxLen; omega) (Nat.le_refl _) ?_; intro w1 hown hgrow)
    | fail)
  rw [made_two] at hown
  obtain ⟨fo, hT, hO, hb0⟩ := New.ofOwns2 (w := w) (e := 78) (xs := List.replicate xs.length ((0, 0) : Tm)) (e1 := fun t => ei t.1) (e2 := fun t => ei t.2) (by
    have e : ((List.replicate xs.length ()).flatMap fun _ => [Value.int .i64 0, Value.int .i64 0]) = (List.replicate xs.length ((0, 0) : Tm)).flatMap fun t => [ei t.1, ei t.2] := by
      generalize xs.length = n
      induction n with
      | zero => rfl
      | succ n ih => simp only [List.replicate_succ, List.flatMap_cons, ih]
    rw [← e]; simpa using hown)
  have hU : Upd [] w w1 := (Upd.refl _ _).grown hgrow (by simp)
  have HB := Lib.hid hb0
  clear hgrow hm1 hown hb0
  go_loopw [4] (fun i wr => ∃ k : Nat, k ≤ xs.length ∧ i = .int .i64 k ∧ Upd [] w wr ∧ Own fo wr ∧
      R_T1 fo wr [.slice (some ⟨w.heap.size, 0, none⟩) xs.length xs.length] (xs.take k ++ List.replicate (xs.length - k) (0, 0)))
    (fun i _ => xs.length - (intOf i).toNat)
  case atStart => exact ⟨0, Nat.zero_le _, rfl, hU, hO, by simpa using hT⟩
  case round =>
    clear hT hO hU
    obtain ⟨k, hk, rfl, hU, hO, hT⟩ := hrel
    have hlen : (xs.take k ++ List.replicate (xs.length - k) ((0, 0) : Tm)).length = xs.length := by simp; omega
    by_cases hlt : k < xs.length
    · obtain ⟨b, off, rfl, -, hb, p1, p2⟩ := hc k hlt
      have q1 : wr.cell? ⟨b, off + k * 2, none⟩ = some (ei xs[k].1) := (hU.below.cell hb).trans p1
      have q2 : wr.cell? ⟨b, off + k * 2 + 1, none⟩ = some (ei xs[k].2) := (hU.below.cell hb).trans p2
      have HF2 := Lib.hid (fill2 xs k hlt)
      have HLEN := Lib.hid hlen
      clear p1 p2 hc hlen
      go_wp2_with fail
      refine (toTerm _ _ _).mono ?_
      rintro e w2 ⟨rfl, hu2⟩
      have hT2 := R_T1k.upd hT hu2 (by simp)
      have hO2 := hO.upd hu2 (by simp)
      have hU2 := hU.trans hu2
      obtain ⟨a', cap', hv, -, -, hcell⟩ := slF2_open hT2
      obtain ⟨b', off', rfl, hfo, hb', r1, r2⟩ := hcell k (by rw [HLEN.out]; exact hlt)
      simp only [Value.slice.injEq, Option.some.injEq, Addr.mk.injEq, and_true] at hv
      obtain ⟨⟨rfl, rfl⟩, -, rfl⟩ := hv
      rw [Nat.zero_add] at r1 r2
      have hfr1 : w2.frozen? ⟨w.heap.size, k * 2, none⟩ = false := hO2.frozen (by rw [hfo]; simp) _
      have hfr2 : w2.frozen? ⟨w.heap.size, k * 2 + 1, none⟩ = false := hO2.frozen (by rw [hfo]; simp) _
      have hset := slF2_set (b := w.heap.size) (off := 0) (cap := xs.length) (by rw [HLEN.out]; exact hT2) k (by rw [HLEN.out]; exact hlt) xs[k]
      rw [HLEN.out, HF2.out.2, Nat.zero_add] at hset
      have HS := Lib.hid (And.intro hset ((hO2.setCell ⟨w.heap.size, k * 2, none⟩ (ei xs[k].1)).setCell ⟨w.heap.size, k * 2 + 1, none⟩ (ei xs[k].2)))
      generalize (List.take k xs ++ List.replicate (xs.length - k) ((0, 0) : Tm))[k]'_ = el at r1 r2
      clear hset hT hT2 hO hO2 hU hu2 hcell hfo q1 q2 HF2 HLEN
      go_wp2_with fail
      go_roundw
      case rel => exact ⟨k + 1, by omega, by go_num, (hU2.setCell (Or.inl (Nat.le_refl _)) _).setCell (Or.inl (Nat.le_refl _)) _, HS.out.2, HS.out.1⟩
      case measure => simp [intOf]; omega
    · obtain rfl : k = xs.length := by omega
      clear hc
      go_wp2
      go_ret
      exact ⟨⟨_, rfl, fo, by simpa using hT, hO, HB.out⟩, hU⟩

/-- the terms numbered through from k0 on. -/
def upT (k0 : Int) : Nat → List Tm
  | 0 => []
  | n + 1 => (k0, k0 + 1) :: upT (k0 + 2) n
@[simp] theorem upT_length (k0 : Int) (n : Nat) : (upT k0 n).length = n := by
  induction n generalizing k0 with
  | zero => rfl
  | succ n ih => simp [upT, ih]
theorem upT_snoc (k0 : Int) (n : Nat) : upT k0 (n + 1) = upT k0 n ++ [(k0 + 2 * n, k0 + 2 * n + 1)] := by
  induction n generalizing k0 with
  | zero => simp [upT]
  | succ n ih =>
    rw [upT, ih, upT, List.cons_append, show k0 + 2 + 2 * (n : Int) = k0 + 2 * ((n + 1 : Nat) : Int) from by omega]
theorem upT_get (k0 : Int) (n i : Nat) (h : i < n) : (upT k0 n)[i]'(by simpa using h) = (k0 + 2 * i, k0 + 2 * i + 1) := by
  induction n generalizing k0 i with
  | zero => omega
  | succ n ih =>
    cases i with
    | zero => simp [upT]
    | succ i => simp only [upT, List.getElem_cons_succ]; rw [ih _ _ (by omega)]; simp; omega
theorem upT_set (xs : List Tm) (k0 : Int) (k : Nat) (hk : k < xs.length) :
    (upT k0 k ++ xs.drop k).set k (k0 + 2 * k, k0 + 2 * k + 1) = upT k0 (k + 1) ++ xs.drop (k + 1) := by
  rw [List.set_append_right _ _ (by simp), upT_length, Nat.sub_self, List.drop_eq_getElem_cons hk, List.set_cons_zero, upT_snoc]
  simp

theorem opens_T1 : Opens Tryz.prog 57 R_T1 (fun xs => ∀ t ∈ xs, (Lit.int .i64 t.1).wf = true ∧ (Lit.int .i64 t.2).wf = true) :=
  opens_slF2 Tryz.underlying57 (by kernel_rfl) (by
    intro H enc w fuel u v x hx
    obtain ⟨y0, y1, n, -, -, h0, h1⟩ := trod_struct2 Tryz.underlying119 hx
    obtain ⟨a, e0, -, wa⟩ := DataW.trod_int Tryz.underlying2 h0
    obtain ⟨b, e1, -, wb⟩ := DataW.trod_int Tryz.underlying2 h1
    have c1 : Tryz.prog.cellsOf 2 = 1 := by kernel_rfl
    simp [c1] at e0 e1
    exact ⟨(a, b), e0, e1, wa, wb⟩)

end Go.Proofs.YtnfghgaadnobbaaGreatDoor
