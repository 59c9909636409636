/-
  ComposeRelations, both sides; a relation as a matrix.
-/
import Derived.Test.YtkcafdobiloeiaaInv
namespace Go.Proofs.Ytkcafdobiloeiaa
open Go.RowKit

theorem pair_cells {fp : List Nat} {w : World} {v : Value} {r : List (List Int)} (hR : R2 fp w [v] r) (k : Nat) (hk : k < r.length) (x y : Int) (h : r[k] = [x, y]) :
    ∃ b off cap b2 o2 c2, v = .slice (some ⟨b, off, none⟩) r.length cap ∧ r.length ≤ cap ∧ cap ≤ maxLen ∧ b < w.heap.size ∧ w.cell? ⟨b, off + k, none⟩ = some (.slice (some ⟨b2, o2, none⟩) 2 c2) ∧ 2 ≤ c2 ∧ c2 ≤ maxLen ∧ b2 < w.heap.size ∧
      w.cell? ⟨b2, o2, none⟩ = some (ei x) ∧ w.cell? ⟨b2, o2 + 1, none⟩ = some (ei y) := by
  obtain ⟨a, cap, rfl, h1, h2, hc⟩ := slP_open hR
  obtain ⟨b, off, u, g, rfl, -, hbl, hcx, -, hr⟩ := hc k hk
  obtain ⟨a2, c2, rfl, g1, g2, g3⟩ := slF1_open hr
  have hrl : r[k].length = 2 := by rw [h]; rfl
  obtain ⟨b2, o2, rfl, -, hb2, q0⟩ := g3 0 (by omega)
  have q1 : w.cell? ⟨b2, o2 + 1, none⟩ = some (ei y) := by
    obtain ⟨b3, o3, e3, -, -, q1⟩ := g3 1 (by omega)
    cases e3
    rw [q1]; simp [h]
  have q0' : w.cell? ⟨b2, o2, none⟩ = some (ei x) := by
    rw [Nat.add_zero] at q0; rw [q0]; simp [h]
  rw [hrl] at hcx g1
  exact ⟨b, off, cap, b2, o2, c2, rfl, h1, h2, hbl, hcx, g1, g2, hb2, q0', q1⟩

/-- the pair p is (i, j). -/
def IsP (p : List Int) (i j : Nat) : Prop := p.getD 0 0 = (i : Int) ∧ p.getD 1 0 = (j : Int)
theorem IsP_mk (x y i j : Nat) : IsP [(x : Int), (y : Int)] i j ↔ i = x ∧ j = y := by
  simp [IsP]; omega
open Classical in
/-- the relation as a function. -/
noncomputable def hasF (r : List (List Int)) : Nat → Nat → Bool := fun i j => decide (∃ p ∈ r, IsP p i j)
theorem hasF_iff (r : List (List Int)) (i j : Nat) : hasF r i j = true ↔ ∃ p ∈ r, IsP p i j := by simp [hasF]
theorem fun_ext2 {f g : Nat → Nat → Bool} (h : ∀ i j, f i j = true ↔ g i j = true) : f = g := by
  funext i j; rw [Bool.eq_iff_iff]; exact h i j
theorem upd_iff (f : Nat → Nat → Bool) (a b i j : Nat) : upd f a b true i j = true ↔ (i = a ∧ j = b) ∨ f i j = true := by
  unfold upd; split
  · rename_i h; simp [h]
  · rename_i h; simp [h]
theorem hasF_take (r : List (List Int)) (k x y : Nat) (hk : k < r.length) (h : r[k] = [(x : Int), (y : Int)]) : upd (hasF (r.take k)) x y true = hasF (r.take (k + 1)) := by
  apply fun_ext2
  intro i j
  rw [upd_iff, hasF_iff, hasF_iff, List.take_succ_eq_append_getElem hk, h]
  simp only [List.mem_append, List.mem_singleton]
  constructor
  · rintro (h | ⟨p, hp, hi⟩)
    · exact ⟨_, Or.inr rfl, (IsP_mk x y i j).2 h⟩
    · exact ⟨p, Or.inl hp, hi⟩
  · rintro ⟨p, hp | rfl, hi⟩
    · exact Or.inr ⟨p, hp, hi⟩
    · exact Or.inl ((IsP_mk x y i j).1 hi)
theorem hasF_nil : hasF [] = fun _ _ => false := by
  apply fun_ext2; intro i j; rw [hasF_iff]; simp

theorem matF_cell {fp : List Nat} {w : World} {v : Value} {m : Nat} {F : Nat → Nat → Bool} (h : Rm fp w [v] (mat m F)) (hO : Own fp w) (i j : Nat) (hi : i < m) (hj : j < m) :
    ∃ cap b off b2 o2 c2, v = .slice (some ⟨b, off, none⟩) m cap ∧ m ≤ cap ∧ cap ≤ 9223372036854775807 ∧ w.cell? ⟨b, off + i, none⟩ = some (.slice (some ⟨b2, o2, none⟩) m c2) ∧ m ≤ c2 ∧ c2 ≤ 9223372036854775807 ∧
      w.cell? ⟨b2, o2 + j, none⟩ = some (.bool (F i j)) ∧ w.frozen? ⟨b2, o2 + j, none⟩ = false ∧ b2 ∈ fp ∧
      ∀ x, Rm fp (w.setCell ⟨b2, o2 + j, none⟩ (.bool x)) [v] (mat m (Go.Proofs.Ytkcafdobiloeiaa.upd F i j x)) ∧ Own fp (w.setCell ⟨b2, o2 + j, none⟩ (.bool x)) := by
  obtain ⟨cap, b, off, b2, o2, c2, rfl, g1, g2, -, g3, g4, g5, -, g6, g7, g8⟩ := mat_cell h i j (by simpa using hi) (by rw [mat_rowlen]; exact hj)
  obtain ⟨k8, g9⟩ := g8 hO
  clear g8
  simp only [mat_length, mat_rowlen] at *
  unfold maxLen at g2 g5
  refine ⟨cap, b, off, b2, o2, c2, rfl, g1, by omega, g3, g4, by omega, ?_, k8, g7, fun x => ?_⟩
  · rw [g6]; simp [mat]
  · have := g9 x
    rwa [mat_set _ _ _ _ _ hi] at this

theorem flatF_cell {fp : List Nat} {w : World} {v : Value} {m : Nat} {F : Nat → Nat → Bool} (h : Rb fp w [v] (flat m F)) (i j : Nat) (hi : i < m) (hj : j < m) :
    ∃ b off cap, v = .slice (some ⟨b, off, none⟩) (m * m) cap ∧ m * m ≤ cap ∧ cap ≤ 9223372036854775807 ∧ fp = [b] ∧ w.cell? ⟨b, off + (i * m + j), none⟩ = some (.bool (F i j)) ∧
      ∀ x, Rb fp (w.setCell ⟨b, off + (i * m + j), none⟩ (.bool x)) [v] (flat m (Go.Proofs.Ytkcafdobiloeiaa.upd F i j x)) := by
  have hix := idx_lt hi hj
  obtain ⟨b, off, cap, rfl, g1, g2, g3, -, g4, g5⟩ := slF1_cell h (i * m + j) (by simpa using hix)
  simp only [flat_length] at *
  unfold maxLen at g2
  refine ⟨b, off, cap, rfl, g1, by omega, g3, ?_, fun x => ?_⟩
  · rw [g4]
    have := flat_get m F i j hi hj
    rw [List.getElem?_eq_getElem (by simpa using hix)] at this
    rw [Option.some.inj this]
  · have := g5 x
    rwa [flat_set _ _ _ _ _ hj] at this

set_option maxHeartbeats 1000000 in
theorem matrixOf (m : Nat) (r : List (List Int)) (v : Value) (w : World) (fp : List Nat) (hr : relB m r = true) (hR : R2 fp w [v] r) :
    Calls Try.prog 58 #[.int .i64 m, v] w fun e w' => (∃ v', e = .returned v' ∧ New Rm w w' v' (mat m (hasF r))) ∧ Upd [] w w' := by
  have hn := relB_n hr
  have HP := Lib.hid (relB_pair hr)
  obtain ⟨a, cap, rfl, h1, h2, -⟩ := slP_open hR
  unfold maxLen at h2
  clear hr
  go_enter Try.func58, Try.ntmps58
  go_wp2_with fail
  refine (newMatrix m _ (by omega)).mono ?_
  rintro e w1 ⟨⟨v1, rfl, fp1, hm1, ho1, hf1⟩, hU⟩
  rw [← hasF_nil, ← List.take_zero (l := r)] at hm1
  have HF1 := Lib.hid hf1
  clear hf1
  go_wp2_with fail
  go_loopw [12] (fun i wr => ∃ k : Nat, k ≤ r.length ∧ i = .int .i64 k ∧ Upd [] w wr ∧ Rm fp1 wr [v1] (mat m (hasF (r.take k))) ∧ Own fp1 wr) (fun i _ => r.length - (intOf i).toNat)
  case atStart => exact ⟨0, Nat.zero_le _, rfl, hU, hm1, ho1⟩
  case round =>
    clear hU hm1 ho1
    obtain ⟨k, hk, rfl, hU, hm1, ho1⟩ := hrel
    by_cases hlt : k < r.length
    · obtain ⟨x, y, hxy, hx, hy⟩ := HP.out k hlt
      obtain ⟨b, off, cap', b2, o2, c2, hv, -, -, -, hcell, g1, g2, -, q0, q1⟩ := pair_cells (R2k.upd hR hU (by simp)) k hlt x y hxy
      simp only [Value.slice.injEq] at hv
      obtain ⟨rfl, -, rfl⟩ := hv
      obtain ⟨c3, b4, o4, b5, o5, c5, rfl, -, e2, r1, -, e3, r2, hfr, hin, hset⟩ := matF_cell hm1 ho1 x y (by omega) (by omega)
      have hset := hset true
      rw [hasF_take r k x y hlt hxy] at hset
      unfold maxLen at g2
      have HS := Lib.hid hset
      have hge := HF1.out _ hin
      have hx' : x < m := by omega
      have hy' : y < m := by omega
      clear hset hxy hm1 ho1 HP hin hR
      go_wp2_with fail
      go_region
      go_wp2
      go_roundw
      case rel => exact ⟨k + 1, by omega, by go_num, (hU.setCell (Or.inl hge) _).drew, Rmk.drew HS.out.1, HS.out.2.drew⟩
      case measure => simp [intOf]; omega
    · obtain rfl : k = r.length := by omega
      rw [List.take_length] at hm1
      go_wp2_with fail
      go_ret
      exact ⟨⟨_, rfl, fp1, hm1, ho1, HF1.out⟩, hU⟩

set_option maxHeartbeats 1000000 in
theorem l02Matrix (m : Nat) (r : List (List Int)) (v : Value) (w : World) (fp : List Nat) (hr : relB m r = true) (hR : R2 fp w [v] r) :
    Calls Try.prog 55 #[.int .i64 m, v] w fun e w' => (∃ v', e = .returned v' ∧ New Rb w w' v' (flat m (hasF r))) ∧ Upd [] w w' := by
  obtain ⟨i1, ki, kz0, kz1, kz2⟩ := info_parts Try.infoB
  have hn := relB_n hr
  have HP := Lib.hid (relB_pair hr)
  obtain ⟨a, cap, rfl, h1, h2, -⟩ := slP_open hR
  unfold maxLen at h2
  have hbd := mul_bd (i := m) (j := m) (n := m) (Nat.le_refl _) (Nat.le_refl _) (by omega)
  have hm2 : i1.bytes * (m * m) ≤ 281474976710656 := by rw [kz2]; omega
  clear hr
  go_enter Try.func55, Try.ntmps55
  go_wp2_with (first
    | (at_make; refine wpList_make_full _ rfl _ _ 70 rfl w.heap.size 4 i1 (.bool false) 1 Try.underlying70 ki kz0 kz1 .i64 .i64 _ _ (m * m) rfl rfl (Int.natCast_mul m m).symm (Int.natCast_mul m m).symm hm2 (by unfold maxLen; omega) (Nat.le_refl _) ?_; intro w2 hrow hgrow)
    | fail)
  rw [made_one _ rfl, flat_false_map Value.bool m] at hrow
  obtain ⟨fp1, hm1, ho1, hf1⟩ := New.ofOwns (w := w) (e := 4) (enc := Value.bool) (xs := flat m fun _ _ => false) (by simpa using hrow)
  have hU : Upd [] w w2 := (Upd.refl _ _).grown hgrow (by simp)
  rw [← hasF_nil, ← List.take_zero (l := r)] at hm1
  have HF1 := Lib.hid hf1
  clear hf1 hrow hgrow hm2
  go_loopw [6] (fun i wr => ∃ k : Nat, k ≤ r.length ∧ i = .int .i64 k ∧ Upd [] w wr ∧ Rb fp1 wr [.slice (some ⟨w.heap.size, 0, none⟩) (m * m) (m * m)] (flat m (hasF (r.take k))) ∧ Own fp1 wr) (fun i _ => r.length - (intOf i).toNat)
  case atStart => exact ⟨0, Nat.zero_le _, rfl, hU, hm1, ho1⟩
  case round =>
    clear hU hm1 ho1
    obtain ⟨k, hk, rfl, hU, hm1, ho1⟩ := hrel
    by_cases hlt : k < r.length
    · obtain ⟨x, y, hxy, hx, hy⟩ := HP.out k hlt
      obtain ⟨b, off, cap', b2, o2, c2, hv, -, -, -, hcell, g1, g2, -, q0, q1⟩ := pair_cells (R2k.upd hR hU (by simp)) k hlt x y hxy
      simp only [Value.slice.injEq] at hv
      obtain ⟨rfl, -, rfl⟩ := hv
      obtain ⟨b4, o4, c4, hv4, -, -, hfp, r2, hset⟩ := flatF_cell hm1 x y (by omega) (by omega)
      simp only [Value.slice.injEq, Option.some.injEq, Addr.mk.injEq, and_true, true_and] at hv4
      obtain ⟨⟨rfl, rfl⟩, rfl⟩ := hv4
      rw [Nat.zero_add] at r2 hset
      have hset := hset true
      rw [hasF_take r k x y hlt hxy] at hset
      have hfr : wr.frozen? ⟨w.heap.size, x * m + y, none⟩ = false := ho1.frozen (by rw [hfp]; simp) _
      have ho2 := ho1.setCell ⟨w.heap.size, x * m + y, none⟩ (.bool true)
      have hix : x * m + y < m * m := idx_lt (by omega) (by omega)
      have hbd2 := mul_bd (i := x) (j := m) (n := m) (by omega) (Nat.le_refl _) (by omega)
      unfold maxLen at g2
      have HS := Lib.hid (And.intro hset ho2)
      have hx' : x < m := by omega
      have hy' : y < m := by omega
      clear hset ho2 hxy hm1 ho1 HP hfp hR
      go_wp2_with fail
      go_region
      go_wp2
      go_roundw
      case rel => exact ⟨k + 1, by omega, by go_num, (hU.setCell (Or.inl (Nat.le_refl _)) _).drew, Rbk.drew HS.out.1, HS.out.2.drew⟩
      case measure => simp [intOf]; omega
    · obtain rfl : k = r.length := by omega
      rw [List.take_length] at hm1
      go_wp2_with fail
      go_ret
      exact ⟨⟨_, rfl, fp1, hm1, ho1, HF1.out⟩, hU⟩

/-- the pairs p, s meet in (i, j). -/
def M1 (p s : List Int) (i j : Nat) : Prop := p.getD 1 0 = s.getD 0 0 ∧ p.getD 0 0 = (i : Int) ∧ s.getD 1 0 = (j : Int)
theorem M1_mk (x y a b i j : Nat) : M1 [(x : Int), (y : Int)] [(a : Int), (b : Int)] i j ↔ y = a ∧ i = x ∧ j = b := by simp [M1]; omega
open Classical in
noncomputable def compF (r q : List (List Int)) : Nat → Nat → Bool := fun i j => decide (∃ p ∈ r, ∃ s ∈ q, M1 p s i j)
open Classical in
noncomputable def compTo (r q : List (List Int)) (k l : Nat) : Nat → Nat → Bool := fun i j => decide ((∃ p ∈ r.take k, ∃ s ∈ q, M1 p s i j) ∨ ∃ p, r[k]? = some p ∧ ∃ s ∈ q.take l, M1 p s i j)
open Classical in
noncomputable def compAt (r q : List (List Int)) (k c : Nat) : Nat → Nat → Bool := fun i j => decide ((∃ p ∈ r.take k, ∃ s ∈ q, M1 p s i j) ∨ ∃ p, r[k]? = some p ∧ ∃ s ∈ q, M1 p s i j ∧ j < c)
theorem compTo_iff (r q : List (List Int)) (k l i j : Nat) : compTo r q k l i j = true ↔ ((∃ p ∈ r.take k, ∃ s ∈ q, M1 p s i j) ∨ ∃ p, r[k]? = some p ∧ ∃ s ∈ q.take l, M1 p s i j) := by simp only [compTo, decide_eq_true_eq]
theorem compAt_iff (r q : List (List Int)) (k c i j : Nat) : compAt r q k c i j = true ↔ ((∃ p ∈ r.take k, ∃ s ∈ q, M1 p s i j) ∨ ∃ p, r[k]? = some p ∧ ∃ s ∈ q, M1 p s i j ∧ j < c) := by simp only [compAt, decide_eq_true_eq]
theorem compTo_zero (r q : List (List Int)) : compTo r q 0 0 = fun _ _ => false := by
  apply fun_ext2; intro i j; rw [compTo_iff]; simp
theorem compAt_zero (r q : List (List Int)) (k : Nat) : compAt r q k 0 = compTo r q k 0 := by
  apply fun_ext2; intro i j; rw [compTo_iff, compAt_iff]; simp
theorem compTo_end (r q : List (List Int)) : compTo r q r.length 0 = compF r q := by
  apply fun_ext2; intro i j; rw [compTo_iff]; simp [compF]
theorem compTo_row (r q : List (List Int)) (k : Nat) (hk : k < r.length) : compTo r q k q.length = compTo r q (k + 1) 0 := by
  apply fun_ext2; intro i j; rw [compTo_iff, compTo_iff, List.take_succ_eq_append_getElem hk, List.take_length]
  simp only [List.mem_append, List.mem_singleton, List.getElem?_eq_getElem hk, List.take_zero, List.not_mem_nil, false_and, exists_false, and_false, or_false, Option.some.injEq, exists_eq_left']
  constructor
  · rintro (⟨p, hp, h⟩ | h)
    · exact ⟨p, Or.inl hp, h⟩
    · exact ⟨_, Or.inr rfl, h⟩
  · rintro ⟨p, hp | rfl, h⟩
    · exact Or.inl ⟨p, hp, h⟩
    · exact Or.inr h
theorem compTo_hit (r q : List (List Int)) (k l x y z : Nat) (hk : k < r.length) (hl : l < q.length) (h1 : r[k] = [(x : Int), (y : Int)]) (h2 : q[l] = [(y : Int), (z : Int)]) :
    Go.Proofs.Ytkcafdobiloeiaa.upd (compTo r q k l) x z true = compTo r q k (l + 1) := by
  apply fun_ext2; intro i j
  rw [upd_iff, compTo_iff, compTo_iff, List.take_succ_eq_append_getElem hl, List.getElem?_eq_getElem hk, h1, h2]
  simp only [List.mem_append, List.mem_singleton, Option.some.injEq, exists_eq_left']
  constructor
  · rintro (h | h | ⟨s, hs, h⟩)
    · exact Or.inr ⟨_, Or.inr rfl, (M1_mk x y y z i j).2 ⟨rfl, h.1, h.2⟩⟩
    · exact Or.inl h
    · exact Or.inr ⟨s, Or.inl hs, h⟩
  · rintro (h | ⟨s, hs | rfl, h⟩)
    · exact Or.inr (Or.inl h)
    · exact Or.inr (Or.inr ⟨s, hs, h⟩)
    · have := (M1_mk x y y z i j).1 h; exact Or.inl this.2
theorem compTo_miss (r q : List (List Int)) (k l x y a z : Nat) (hk : k < r.length) (hl : l < q.length) (h1 : r[k] = [(x : Int), (y : Int)]) (h2 : q[l] = [(a : Int), (z : Int)]) (hne : y ≠ a) :
    compTo r q k l = compTo r q k (l + 1) := by
  apply fun_ext2; intro i j
  rw [compTo_iff, compTo_iff, List.take_succ_eq_append_getElem hl, List.getElem?_eq_getElem hk, h1, h2]
  simp only [List.mem_append, List.mem_singleton, Option.some.injEq, exists_eq_left']
  constructor
  · rintro (h | ⟨s, hs, h⟩)
    · exact Or.inl h
    · exact Or.inr ⟨s, Or.inl hs, h⟩
  · rintro (h | ⟨s, hs | rfl, h⟩)
    · exact Or.inl h
    · exact Or.inr ⟨s, hs, h⟩
    · have := (M1_mk x y a z i j).1 h; exact absurd this.1 hne
theorem compAt_hit (r q : List (List Int)) (k c x y : Nat) (hk : k < r.length) (h1 : r[k] = [(x : Int), (y : Int)]) (h2 : hasF q y c = true) :
    Go.Proofs.Ytkcafdobiloeiaa.upd (compAt r q k c) x c true = compAt r q k (c + 1) := by
  apply fun_ext2; intro i j
  rw [upd_iff, compAt_iff, compAt_iff, List.getElem?_eq_getElem hk, h1]
  simp only [Option.some.injEq, exists_eq_left']
  constructor
  · rintro (⟨rfl, rfl⟩ | h | ⟨s, hs, h, hj⟩)
    · rw [hasF_iff] at h2
      obtain ⟨s, hs, h3, h4⟩ := h2
      exact Or.inr ⟨s, hs, ⟨by simpa using h3.symm, by simp, h4⟩, by omega⟩
    · exact Or.inl h
    · exact Or.inr ⟨s, hs, h, by omega⟩
  · rintro (h | ⟨s, hs, h, hj⟩)
    · exact Or.inr (Or.inl h)
    · by_cases e : j = c
      · have h3 := h.2.1; simp at h3; exact Or.inl ⟨by omega, e⟩
      · exact Or.inr (Or.inr ⟨s, hs, h, by omega⟩)
theorem compAt_miss (r q : List (List Int)) (k c x y : Nat) (hk : k < r.length) (h1 : r[k] = [(x : Int), (y : Int)]) (h2 : hasF q y c = false) : compAt r q k c = compAt r q k (c + 1) := by
  apply fun_ext2; intro i j
  rw [compAt_iff, compAt_iff, List.getElem?_eq_getElem hk, h1]
  simp only [Option.some.injEq, exists_eq_left']
  constructor
  · rintro (h | ⟨s, hs, h, hj⟩)
    · exact Or.inl h
    · exact Or.inr ⟨s, hs, h, by omega⟩
  · rintro (h | ⟨s, hs, h, hj⟩)
    · exact Or.inl h
    · by_cases e : j = c
      · exfalso
        subst e
        have : hasF q y j = true := (hasF_iff _ _ _).2 ⟨s, hs, by have := h.1; simpa using this.symm, h.2.2⟩
        rw [this] at h2; cases h2
      · exact Or.inr ⟨s, hs, h, by omega⟩
theorem compAt_row (r q : List (List Int)) (k m : Nat) (hk : k < r.length) (hq : relB m q = true) : compAt r q k m = compTo r q (k + 1) 0 := by
  rw [← compTo_row r q k hk]
  apply fun_ext2; intro i j
  rw [compAt_iff, compTo_iff, List.take_length]
  constructor
  · rintro (h | ⟨p, hp, s, hs, h, -⟩)
    · exact Or.inl h
    · exact Or.inr ⟨p, hp, s, hs, h⟩
  · rintro (h | ⟨p, hp, s, hs, h⟩)
    · exact Or.inl h
    · refine Or.inr ⟨p, hp, s, hs, h, ?_⟩
      obtain ⟨l, hl, rfl⟩ := List.mem_iff_getElem.1 hs
      obtain ⟨a, b, e, ha, hb⟩ := relB_pair hq l hl
      have h3 := h.2.2
      rw [e] at h3; simp at h3; omega

noncomputable def compRes (n : Int) (r q : List (List Int)) : List (List Int) × Int :=
  if relB n r && relB n q then (allTo n.toNat (compF r q) n.toNat, 0) else ([], 1)

set_option maxHeartbeats 2000000 in
theorem comp_i (n : Int) (r : List (List Int)) (v : Value) (q : List (List Int)) (v2 : Value) (w : World) (b : -9223372036854775808 ≤ n ∧ n ≤ 9223372036854775807) (fp : List Nat) (hR : R_N2 fp w [v] r) (fq : List Nat) (hQ : R_N2 fq w [v2] q) :
    Calls Try.prog 24 #[.int .i64 n, v, v2] w fun e w' => (∃ v', e = .returned (.tuple #[v', .int .i64 (compRes n r q).2]) ∧ New R_N2 w w' v' (compRes n r q).1) ∧ Upd [] w w' := by
  cases hb : relB n r
  · have hres : compRes n r q = ([], 1) := by simp [compRes, hb]
    have HR := Lib.hid hres
    clear hres
    go_enter Try.func24, Try.ntmps24
    go_wp2_with (go_at_call 49; refine (isRelation _ _ _ _ _ b.1 b.2 hR).mono ?_; rintro e w' ⟨rfl, rfl⟩)
    go_ret2
    rw [HR.out]
    exact ⟨⟨_, rfl, New.nilP _ _ _⟩, Upd.refl _ _⟩
  · cases hc : relB n q
    · have hres : compRes n r q = ([], 1) := by simp [compRes, hc]
      have HR := Lib.hid hres
      clear hres
      go_enter Try.func24, Try.ntmps24
      go_wp2_with fail
      refine (isRelation _ _ _ _ _ b.1 b.2 hR).mono ?_
      rintro e w' ⟨rfl, rfl⟩
      go_wp2_with fail
      refine (isRelation _ _ _ _ _ b.1 b.2 hQ).mono ?_
      rintro e w' ⟨rfl, rfl⟩
      go_wp2_with fail
      go_ret2
      rw [HR.out]
      exact ⟨⟨_, rfl, New.nilP _ _ _⟩, Upd.refl _ _⟩
    · have hnn := relB_n hb
      obtain ⟨m, rfl⟩ := Int.eq_ofNat_of_zero_le (show 0 ≤ n by omega)
      have hres : compRes m r q = (allTo m (compF r q) m, 0) := by simp [compRes, hb, hc]
      have HR := Lib.hid hres
      have HP := Lib.hid (relB_pair hb)
      have HQ := Lib.hid (relB_pair hc)
      obtain ⟨a1, cap1, rfl, g1, g2, -⟩ := slP_open hR
      obtain ⟨a2, cap2, rfl, g3, g4, -⟩ := slP_open hQ
      unfold maxLen at g2 g4
      clear hres
      go_enter Try.func24, Try.ntmps24
      go_wp2_with fail
      refine (isRelation _ _ _ _ _ b.1 b.2 hR).mono ?_
      rintro e w' ⟨rfl, rfl⟩
      go_wp2_with fail
      refine (isRelation _ _ _ _ _ b.1 b.2 hQ).mono ?_
      rintro e w' ⟨rfl, rfl⟩
      go_wp2_with fail
      clear hb hc
      refine (newMatrix m _ (by omega)).mono ?_
      rintro e w1 ⟨⟨v1, rfl, fp1, hm1, ho1, hf1⟩, hU⟩
      rw [← compTo_zero r q] at hm1
      have HF1 := Lib.hid hf1
      clear hf1
      go_wp2_with fail
      go_loopw [27] (fun i wr => ∃ k : Nat, k ≤ r.length ∧ i = .int .i64 k ∧ Upd [] w wr ∧ Rm fp1 wr [v1] (mat m (compTo r q k 0)) ∧ Own fp1 wr) (fun i _ => r.length - (intOf i).toNat)
      case atStart => exact ⟨0, Nat.zero_le _, rfl, hU, hm1, ho1⟩
      case round =>
        clear hU hm1 ho1
        obtain ⟨k, hk, rfl, hU, hm1, ho1⟩ := hrel
        by_cases hlt : k < r.length
        · obtain ⟨x, y, hxy, hx, hy⟩ := HP.out k hlt
          obtain ⟨bk, off, cap', b2, o2, c2, hv, -, -, hbk, hcell, q1, q2, hb2, q0, q3⟩ := pair_cells hR k hlt x y hxy
          simp only [Value.slice.injEq] at hv
          obtain ⟨rfl, -, rfl⟩ := hv
          unfold maxLen at q2
          have hcell' : wr.cell? ⟨bk, off + k, none⟩ = some (.slice (some ⟨b2, o2, none⟩) 2 c2) := (hU.below.cell hbk).trans hcell
          have HXY := Lib.hid hxy
          clear hxy
          go_wp2_with fail
          clear hcell hcell'
          obtain ⟨wo, rfl⟩ : ∃ wo : World, wo = wr := ⟨_, rfl⟩
          go_loopw [33] (fun i wr => ∃ l : Nat, l ≤ q.length ∧ i = .int .i64 l ∧ Upd [] w wr ∧ Rm fp1 wr [v1] (mat m (compTo r q k l)) ∧ Own fp1 wr) (fun i _ => q.length - (intOf i).toNat)
          case atStart => exact ⟨0, Nat.zero_le _, rfl, hU, hm1, ho1⟩
          case round =>
            clear hU hm1 ho1
            obtain ⟨l, hl, rfl, hU, hm1, ho1⟩ := hrel
            have q0' : wr.cell? ⟨b2, o2, none⟩ = some (ei x) := (hU.below.cell hb2).trans q0
            have q3' : wr.cell? ⟨b2, o2 + 1, none⟩ = some (ei y) := (hU.below.cell hb2).trans q3
            by_cases hll : l < q.length
            · obtain ⟨x2, y2, hxy2, hx2, hy2⟩ := HQ.out l hll
              obtain ⟨bl, offl, cap'', b3, o3, c3, hv, -, -, hbl, hcell, q5, q6, hb3, q7, q8⟩ := pair_cells (R2k.upd hQ hU (by simp)) l hll x2 y2 hxy2
              simp only [Value.slice.injEq] at hv
              obtain ⟨rfl, -, rfl⟩ := hv
              unfold maxLen at q6
              have hx' : x < m := by omega
              have hz' : y2 < m := by omega
              by_cases hyx : y = x2
              · subst hyx
                obtain ⟨c4, b4, o4, b5, o5, c5, rfl, -, e2, r1, -, e3, r2, hfr, hin, hset⟩ := matF_cell hm1 ho1 x y2 hx' hz'
                have hset := hset true
                rw [compTo_hit r q k l x y y2 hlt hll HXY.out hxy2] at hset
                have HS := Lib.hid hset
                have hge := HF1.out _ hin
                have hee : ((y : Int) == (y : Int)) = true := by simp
                clear hset hxy2 hm1 ho1 hin q0 q3
                go_wp2_with fail
                go_region
                go_wp2_with fail
                go_region
                go_wp2_with fail
                go_roundw
                case rel => exact ⟨l + 1, by omega, by go_num, ((hU.setCell (Or.inl hge) _).drew).drew, Rmk.drew (Rmk.drew HS.out.1), HS.out.2.drew.drew⟩
                case measure => simp [intOf]; omega
              · have hnx : compTo r q k l = compTo r q k (l + 1) := compTo_miss r q k l x y x2 y2 hlt hll HXY.out hxy2 hyx
                rw [hnx] at hm1
                have hee : ((y : Int) == (x2 : Int)) = false := by simp; omega
                clear hxy2 hnx q0 q3
                go_wp2_with fail
                go_region
                go_wp2_with fail
                go_roundw
                case rel => exact ⟨l + 1, by omega, by go_num, hU.drew, Rmk.drew hm1, ho1.drew⟩
                case measure => simp [intOf]; omega
            · obtain rfl : l = q.length := by omega
              rw [compTo_row r q k hlt] at hm1
              clear q0 q3
              go_wp2_with fail
              go_roundw
              case rel => exact ⟨k + 1, by omega, by go_num, hU, hm1, ho1⟩
              case measure => simp [intOf]; omega
        · obtain rfl : k = r.length := by omega
          rw [compTo_end] at hm1
          go_wp2_with fail
          refine (list51 m _ _ _ fp1 (by omega) hm1).mono ?_
          rintro e w2 ⟨⟨v2, rfl, hn⟩, hU2⟩
          go_wp2_with fail
          go_ret2
          rw [HR.out]
          obtain ⟨f2, k1, k2, k3⟩ := hn
          exact ⟨⟨_, rfl, f2, k1, k2, fun b hb => by have := k3 b hb; have := hU.size; omega⟩, hU.trans hU2⟩

set_option maxHeartbeats 2000000 in
theorem comp_s (n : Int) (r : List (List Int)) (v : Value) (q : List (List Int)) (v2 : Value) (w : World) (_b : -9223372036854775808 ≤ n ∧ n ≤ 9223372036854775807) (fp : List Nat) (hR : R_N2 fp w [v] r) (fq : List Nat) (hQ : R_N2 fq w [v2] q) :
    Calls Try.prog 23 #[.int .i64 n, v, v2] w fun e w' => (∃ v', e = .returned (.tuple #[v', .int .i64 (compRes n r q).2]) ∧ New R_N2 w w' v' (compRes n r q).1) ∧ Upd [] w w' := by
  cases hb : relB n r
  · have hres : compRes n r q = ([], 1) := by simp [compRes, hb]
    have HR := Lib.hid hres
    clear hres
    go_enter Try.func23, Try.ntmps23
    go_wp2_with fail
    refine (l02Relation _ _ _ _ _ hR).mono ?_
    rintro e w1 ⟨rfl, d, hw1⟩
    have hU : Upd [] w w1 := by rw [hw1]; exact (Upd.refl _ _).drewN _
    clear hw1
    go_wp2_with fail
    go_ret2
    rw [HR.out]
    exact ⟨⟨_, rfl, New.nilP _ _ _⟩, hU⟩
  · cases hc : relB n q
    · have hres : compRes n r q = ([], 1) := by simp [compRes, hc]
      have HR := Lib.hid hres
      clear hres
      go_enter Try.func23, Try.ntmps23
      go_wp2_with fail
      refine (l02Relation _ _ _ _ _ hR).mono ?_
      rintro e w1 ⟨rfl, d, hw1⟩
      have hU : Upd [] w w1 := by rw [hw1]; exact (Upd.refl _ _).drewN _
      clear hw1
      go_wp2_with fail
      refine (l02Relation _ _ _ _ _ (R2k.upd hQ hU (by simp))).mono ?_
      rintro e w2 ⟨rfl, d2, hw2⟩
      have hU2 : Upd [] w w2 := by rw [hw2]; exact hU.drewN _
      clear hw2 hU
      go_wp2_with fail
      go_ret2
      rw [HR.out]
      exact ⟨⟨_, rfl, New.nilP _ _ _⟩, hU2⟩
    · have hnn := relB_n hb
      obtain ⟨m, rfl⟩ := Int.eq_ofNat_of_zero_le (show 0 ≤ n by omega)
      obtain ⟨i1, ki, kz0, kz1, kz2⟩ := info_parts Try.infoB
      have hres : compRes m r q = (allTo m (compF r q) m, 0) := by simp [compRes, hb, hc]
      have HR := Lib.hid hres
      have HP := Lib.hid (relB_pair hb)
      have HC := Lib.hid hc
      obtain ⟨a1, cap1, rfl, g1, g2, -⟩ := slP_open hR
      obtain ⟨a2, cap2, rfl, g3, g4, -⟩ := slP_open hQ
      unfold maxLen at g2 g4
      have hbd := mul_bd (i := m) (j := m) (n := m) (Nat.le_refl _) (Nat.le_refl _) (by omega)
      have hm2 : i1.bytes * (m * m) ≤ 281474976710656 := by rw [kz2]; omega
      clear hres
      go_enter Try.func23, Try.ntmps23
      go_wp2_with fail
      refine (l02Relation _ _ _ _ _ hR).mono ?_
      rintro e w1 ⟨rfl, d, hw1⟩
      have hU : Upd [] w w1 := by rw [hw1]; exact (Upd.refl _ _).drewN _
      clear hw1
      go_wp2_with fail
      refine (l02Relation _ _ _ _ _ (R2k.upd hQ hU (by simp))).mono ?_
      rintro e w2 ⟨rfl, d2, hw2⟩
      have hU2 : Upd [] w w2 := by rw [hw2]; exact hU.drewN _
      clear hw2 hU
      go_wp2_with fail
      clear hb hc
      refine (l02Matrix m q _ _ fq HC.out (R2k.upd hQ hU2 (by simp))).mono ?_
      rintro e w3 ⟨⟨vq, rfl, fm, hq0, hqo, hqf⟩, hu3⟩
      have hU3 := hU2.trans hu3
      have hqlt := Rbk.lt hq0
      have hU3s := hU2.size
      have HMF := Lib.hid (fun b hb => Nat.le_trans hU3s (hqf b hb) : ∀ b ∈ fm, w.heap.size ≤ b)
      clear hu3 hU2 hqf hU3s
      go_wp2_with (first
        | (at_make; refine wpList_make_full _ rfl _ _ 70 rfl w3.heap.size 4 i1 (.bool false) 1 Try.underlying70 ki kz0 kz1 .i64 .i64 _ _ (m * m) rfl rfl (Int.natCast_mul m m).symm (Int.natCast_mul m m).symm hm2 (by unfold maxLen; omega) (Nat.le_refl _) ?_; intro w4 hrow hgrow)
        | fail)
      rw [made_one _ rfl, flat_false_map Value.bool m] at hrow
      obtain ⟨fp1, hm1, ho1, hf1⟩ := New.ofOwns (w := w3) (e := 4) (enc := Value.bool) (xs := flat m fun _ _ => false) (by simpa using hrow)
      have hu4 : Upd [] w3 w4 := (Upd.refl _ _).grown hgrow (by simp)
      have hU4 := hU3.trans hu4
      have hq1 := Rbk.upd hq0 hu4 (by simp)
      rw [← compTo_zero r q] at hm1
      have h3s := hU3.size
      have HF1 := Lib.hid (fun b hb => Nat.le_trans h3s (hf1 b hb) : ∀ b ∈ fp1, w.heap.size ≤ b)
      have HDJ := Lib.hid (show ∀ b ∈ fm, b ∉ fp1 from fun b hb hm => by have := hqlt b hb; have := hf1 b hm; omega)
      clear hf1 hrow hgrow hm2 hu4 hU3 hq0 hqlt h3s
      go_loopw [10] (fun i wr => ∃ k : Nat, k ≤ r.length ∧ i = .int .i64 k ∧ Upd [] w wr ∧ Rb fp1 wr [.slice (some ⟨w3.heap.size, 0, none⟩) (m * m) (m * m)] (flat m (compTo r q k 0)) ∧ Own fp1 wr ∧ Rb fm wr [vq] (flat m (hasF q))) (fun i _ => r.length - (intOf i).toNat)
      case atStart => exact ⟨0, Nat.zero_le _, rfl, hU4, hm1, ho1, hq1⟩
      case round =>
        clear hU4 hm1 ho1 hq1
        obtain ⟨k, hk, rfl, hU, hm1, ho1, hq1⟩ := hrel
        by_cases hlt : k < r.length
        · obtain ⟨x, y, hxy, hx, hy⟩ := HP.out k hlt
          obtain ⟨bk, off, cap', b2, o2, c2, hv, -, -, hbk, hcell, q1, q2, hb2, q0, q3⟩ := pair_cells hR k hlt x y hxy
          simp only [Value.slice.injEq] at hv
          obtain ⟨rfl, -, rfl⟩ := hv
          unfold maxLen at q2
          have HXY := Lib.hid hxy
          rw [← compAt_zero] at hm1
          clear hxy
          go_wp2_with fail
          obtain ⟨wo, rfl⟩ : ∃ wo : World, wo = wr := ⟨_, rfl⟩
          go_loopw [11] (fun i wr => ∃ c : Nat, c ≤ m ∧ i = .int .i64 c ∧ Upd [] w wr ∧ Rb fp1 wr [.slice (some ⟨w3.heap.size, 0, none⟩) (m * m) (m * m)] (flat m (compAt r q k c)) ∧ Own fp1 wr ∧ Rb fm wr [vq] (flat m (hasF q))) (fun i _ => m - (intOf i).toNat)
          case atStart => exact ⟨0, Nat.zero_le _, rfl, hU, hm1, ho1, hq1⟩
          case round =>
            clear hU hm1 ho1 hq1
            obtain ⟨c, hcm, rfl, hU, hm1, ho1, hq1⟩ := hrel
            have hcell' : wr.cell? ⟨bk, off + k, none⟩ = some (.slice (some ⟨b2, o2, none⟩) 2 c2) := (hU.below.cell hbk).trans hcell
            have q0' : wr.cell? ⟨b2, o2, none⟩ = some (ei x) := (hU.below.cell hb2).trans q0
            have q3' : wr.cell? ⟨b2, o2 + 1, none⟩ = some (ei y) := (hU.below.cell hb2).trans q3
            by_cases hll : c < m
            · have hx' : x < m := by omega
              have hy' : y < m := by omega
              obtain ⟨b6, o6, c6, rfl, e6, e7, hfq, r6, -⟩ := flatF_cell hq1 y c hy' hll
              have hbd2 := mul_bd (i := y) (j := m) (n := m) (by omega) (Nat.le_refl _) (by omega)
              have hix2 : y * m + c < m * m := idx_lt hy' hll
              cases hf : hasF q y c
              · rw [hf] at r6
                rw [compAt_miss r q k c x y hlt HXY.out hf] at hm1
                clear hf q0 q3 hcell hfq
                go_wp2_with fail
                go_roundw
                case rel => exact ⟨c + 1, by omega, by go_num, hU, hm1, ho1, hq1⟩
                case measure => simp [intOf]; omega
              · rw [hf] at r6
                obtain ⟨b4, o4, c4, hv4, -, -, hfp, r2, hset⟩ := flatF_cell hm1 x c hx' hll
                simp only [Value.slice.injEq, Option.some.injEq, Addr.mk.injEq, and_true, true_and] at hv4
                obtain ⟨⟨rfl, rfl⟩, rfl⟩ := hv4
                rw [Nat.zero_add] at r2 hset
                have hset := hset true
                rw [compAt_hit r q k c x y hlt HXY.out hf] at hset
                have hfr : wr.frozen? ⟨w3.heap.size, x * m + c, none⟩ = false := ho1.frozen (by rw [hfp]; simp) _
                have ho2 := ho1.setCell ⟨w3.heap.size, x * m + c, none⟩ (.bool true)
                have hq2 : Rb fm (wr.setCell ⟨w3.heap.size, x * m + c, none⟩ (.bool true)) [.slice (some ⟨b6, o6, none⟩) (m * m) c6] (flat m (hasF q)) :=
                  Rbk.upd hq1 (f := fp1) ((Upd.refl _ _).setCell (by rw [hfp]; simp) _) HDJ.out
                have hge : w.heap.size ≤ w3.heap.size := HF1.out _ (by rw [hfp]; simp)
                have hix : x * m + c < m * m := idx_lt hx' hll
                have hbd3 := mul_bd (i := x) (j := m) (n := m) (by omega) (Nat.le_refl _) (by omega)
                have HS := Lib.hid (And.intro hset (And.intro ho2 hq2))
                clear hset ho2 hq2 hm1 ho1 hfp hf hq1 q0 q3 hcell hfq
                go_wp2_with fail
                go_roundw
                case rel => exact ⟨c + 1, by omega, by go_num, hU.setCell (Or.inl hge) _, HS.out.1, HS.out.2.1, HS.out.2.2⟩
                case measure => simp [intOf]; omega
            · obtain rfl : c = m := by omega
              rw [compAt_row r q k c hlt HC.out] at hm1
              clear q0 q3 hcell
              go_wp2_with fail
              go_roundw
              case rel => exact ⟨k + 1, by omega, by go_num, hU, hm1, ho1, hq1⟩
              case measure => simp [intOf]; omega
        · obtain rfl : k = r.length := by omega
          rw [compTo_end] at hm1
          go_wp2_with fail
          refine (l02List m _ _ _ fp1 (by omega) hm1).mono ?_
          rintro e w5 ⟨⟨v2, rfl, hn⟩, hU5⟩
          go_wp2_with fail
          go_ret2
          rw [HR.out]
          obtain ⟨f2, k1, k2, k3⟩ := hn
          exact ⟨⟨_, rfl, f2, k1, k2, fun b hb => by have := k3 b hb; have := hU.size; omega⟩, hU.trans hU5⟩

theorem comp_b (n : Int) (r q : List (List Int)) : mkF_N2 (compRes n r q).1 ≤ 3200 := by
  unfold compRes mkF_N2
  split
  · rename_i h; exact pairs_tot _ _ (by rw [Bool.and_eq_true] at h; have := relB_n h.1; omega)
  · simp [tot]

end Go.Proofs.Ytkcafdobiloeiaa
