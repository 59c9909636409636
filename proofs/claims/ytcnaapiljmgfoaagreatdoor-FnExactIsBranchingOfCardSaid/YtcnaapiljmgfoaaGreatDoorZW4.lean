/-
  Texts joined in one file: Mat, RelW, BisX, BisZ, BisMB, BisHB, Norm, BisK, BisP, BisA, BisB.
-/
import Derived.Test.YtcnaapiljmgfoaaGreatDoorZW1
import Derived.Test.YtcnaapiljmgfoaaGreatDoorZW2
import Derived.Test.YtcnaapiljmgfoaaGreatDoorZW3
import Derived.StillTailTactics
import Derived.Maps.OwnSet
import Derived.Maps.OwnOps
import Derived.Maps.RangeWalk
import Derived.DeepKeys5
import Derived.Deep.RegionLaw
/-
  Matrices of bools as functions, and the pairs that they list: plain facts.
-/
namespace Go.Proofs.YtcnaapiljmgfoaaGreatDoor

def mat (n : Nat) (f : Nat → Nat → Bool) : List (List Bool) := (List.range n).map fun i => (List.range n).map (f i)
def upd (f : Nat → Nat → Bool) (i j : Nat) (b : Bool) : Nat → Nat → Bool := fun i' j' => if i' = i ∧ j' = j then b else f i' j'
def flat (n : Nat) (f : Nat → Nat → Bool) : List Bool := (List.range (n * n)).map fun k => f (k / n) (k % n)

@[simp] theorem mat_length (n : Nat) (f : Nat → Nat → Bool) : (mat n f).length = n := by simp [mat]
theorem mat_row (n : Nat) (f : Nat → Nat → Bool) (i : Nat) (h : i < n) : (mat n f)[i]'(by simpa using h) = (List.range n).map (f i) := by simp [mat]
theorem mat_rowlen (n : Nat) (f : Nat → Nat → Bool) (i : Nat) (h : i < (mat n f).length) : ((mat n f)[i]'h).length = n := by simp [mat]
theorem mat_set (n : Nat) (f : Nat → Nat → Bool) (i j : Nat) (b : Bool) (hi : i < n) :
    (mat n f).set i (((mat n f)[i]'(by simpa using hi)).set j b) = mat n (upd f i j b) := by
  apply List.ext_getElem
  · simp
  · intro a h1 h2
    simp at h1
    rw [List.getElem_set]
    split
    · subst i
      apply List.ext_getElem
      · simp [mat]
      · intro c h3 h4
        simp [mat] at h3 h4
        rw [List.getElem_set]
        simp only [mat, List.getElem_map, List.getElem_range, upd, true_and]
        split
        · subst c; simp
        · rw [if_neg (by omega)]
    · rename_i hne
      simp only [mat, List.getElem_map, List.getElem_range]
      apply List.map_congr_left
      intro c _
      simp only [upd]
      rw [if_neg (by omega)]

@[simp] theorem flat_length (n : Nat) (f : Nat → Nat → Bool) : (flat n f).length = n * n := by simp [flat]
theorem idx_lt {n i j : Nat} (hi : i < n) (hj : j < n) : i * n + j < n * n := by
  have : (i + 1) * n ≤ n * n := Nat.mul_le_mul_right _ hi
  rw [Nat.add_mul] at this; omega
theorem idx_div {n i j : Nat} (hj : j < n) : (i * n + j) / n = i := by
  rw [Nat.mul_comm, Nat.mul_add_div (by omega), Nat.div_eq_of_lt hj, Nat.add_zero]
theorem idx_mod {n i j : Nat} (hj : j < n) : (i * n + j) % n = j := by
  rw [Nat.mul_comm, Nat.mul_add_mod, Nat.mod_eq_of_lt hj]
theorem flat_get (n : Nat) (f : Nat → Nat → Bool) (i j : Nat) (hi : i < n) (hj : j < n) : (flat n f)[i * n + j]? = some (f i j) := by
  simp [flat, idx_lt hi hj, idx_div hj, idx_mod hj]
theorem flat_set (n : Nat) (f : Nat → Nat → Bool) (i j : Nat) (b : Bool) (hj : j < n) :
    (flat n f).set (i * n + j) b = flat n (upd f i j b) := by
  apply List.ext_getElem
  · simp
  · intro k h1 h2
    simp at h1
    rw [List.getElem_set]
    simp only [flat, List.getElem_map, List.getElem_range, upd]
    split
    · subst k; rw [idx_div hj, idx_mod hj]; simp
    · rename_i hne
      rw [if_neg]
      rintro ⟨h3, h4⟩
      apply hne
      have := Nat.div_add_mod k n
      rw [h3, h4, Nat.mul_comm] at this
      exact this
theorem flat_false (n : Nat) : flat n (fun _ _ => false) = List.replicate (n * n) false := by
  apply List.ext_getElem <;> simp [flat]

theorem flat_false_map {β : Type} (g : Bool → β) (n : Nat) : List.replicate (n * n) (g false) = (flat n (fun _ _ => false)).map g := by
  rw [flat_false, List.map_replicate]

/-- the pairs of row i up to column k. -/
def rowTo (f : Nat → Nat → Bool) (i k : Nat) : List (List Int) := (List.range k).flatMap fun j => if f i j then [[(i : Int), (j : Int)]] else []
/-- the pairs of the rows up to i. -/
def allTo (n : Nat) (f : Nat → Nat → Bool) (i : Nat) : List (List Int) := (List.range i).flatMap fun a => rowTo f a n
theorem rowTo_succ (f : Nat → Nat → Bool) (i k : Nat) : rowTo f i (k + 1) = rowTo f i k ++ if f i k then [[(i : Int), (k : Int)]] else [] := by
  simp [rowTo, List.range_succ, List.flatMap_append]
theorem allTo_succ (n : Nat) (f : Nat → Nat → Bool) (i : Nat) : allTo n f (i + 1) = allTo n f i ++ rowTo f i n := by
  simp [allTo, List.range_succ, List.flatMap_append]
theorem rowTo_length (f : Nat → Nat → Bool) (i k : Nat) : (rowTo f i k).length ≤ k := by
  induction k with
  | zero => simp [rowTo]
  | succ k ih => rw [rowTo_succ, List.length_append]; split <;> simp <;> omega
theorem allTo_length (n : Nat) (f : Nat → Nat → Bool) (i : Nat) : (allTo n f i).length ≤ i * n := by
  induction i with
  | zero => simp [allTo]
  | succ i ih => rw [allTo_succ, List.length_append, Nat.add_mul]; have := rowTo_length f i n; omega
theorem rowTo_congr {f g : Nat → Nat → Bool} {i k : Nat} (h : ∀ j, j < k → f i j = g i j) : rowTo f i k = rowTo g i k := by
  induction k with
  | zero => rfl
  | succ k ih => rw [rowTo_succ, rowTo_succ, ih (fun j hj => h j (by omega)), h k (by omega)]
theorem allTo_congr {n : Nat} {f g : Nat → Nat → Bool} {i : Nat} (h : ∀ a j, a < i → j < n → f a j = g a j) : allTo n f i = allTo n g i := by
  induction i with
  | zero => rfl
  | succ i ih => rw [allTo_succ, allTo_succ, ih (fun a j ha hj => h a j (by omega) hj), rowTo_congr (fun j hj => h i j (by omega) hj)]

end Go.Proofs.YtcnaapiljmgfoaaGreatDoor

/-
  The matrices behind the relations' functions, made, written and listed.
-/
namespace Go.Proofs.YtcnaapiljmgfoaaGreatDoor
open Go.RowKit

abbrev Rb : Rp (List Bool) := slF 1 (fun b => [Value.bool b])
abbrev Rm : Rp (List (List Bool)) := slP Rb
theorem Rbk : Kept Rb := slF_kept _ _
theorem Rmk : Kept Rm := slP_kept Rbk

theorem Tryz.infoB : (Tryz.prog.info? 4).map (fun i => (i.zero, i.size, i.bytes)) = some (some (.bool false), 1, 1) := by kernel_rfl
theorem Tryz.infoR : (Tryz.prog.info? 61).map (fun i => (i.zero, i.size, i.bytes)) = some (some (.slice none 0 0), 1, 24) := by kernel_rfl

theorem newRow {w wr w2 : World} {n k : Nat} {e : TypeId} {us : List Value} {xs : List (List Bool)} (hU : Upd [] w wr) (hsz : w.heap.size < wr.heap.size)
    (hown : wr.ownsRow w.heap.size e 1 (.slice (some ⟨w.heap.size, 0, none⟩) n n) n (us ++ List.replicate (n - k) (.slice none 0 0))) (hrows : Rows Rb w.heap.size [w.heap.size] wr us xs) (hx : xs.length = k) (hk : k < n)
    (hrow : w2.ownsRow wr.heap.size 4 1 (.slice (some ⟨wr.heap.size, 0, none⟩) n n) n (madeCells (Value.bool false).cells (n * 1)).toList) (hgrow : wr.grownBy w2 none) :
    w2.cell? ⟨w.heap.size, k, none⟩ = some (.slice none 0 0) ∧ w2.frozen? ⟨w.heap.size, k, none⟩ = false ∧
      Hid ((w2.setCell ⟨w.heap.size, k, none⟩ (.slice (some ⟨wr.heap.size, 0, none⟩) n n)).ownsRow w.heap.size e 1 (.slice (some ⟨w.heap.size, 0, none⟩) n n) n ((us ++ [.slice (some ⟨wr.heap.size, 0, none⟩) n n]) ++ List.replicate (n - (k + 1)) (.slice none 0 0)) ∧
        Rows Rb w.heap.size [w.heap.size] (w2.setCell ⟨w.heap.size, k, none⟩ (.slice (some ⟨wr.heap.size, 0, none⟩) n n)) (us ++ [.slice (some ⟨wr.heap.size, 0, none⟩) n n]) (xs ++ [List.replicate n false]) ∧
        Upd [] w (w2.setCell ⟨w.heap.size, k, none⟩ (.slice (some ⟨wr.heap.size, 0, none⟩) n n)) ∧ w.heap.size < (w2.setCell ⟨w.heap.size, k, none⟩ (.slice (some ⟨wr.heap.size, 0, none⟩) n n)).heap.size) :=
  fill_push Rbk hU hsz (Nat.le_refl _) (Nat.le_refl _) hown hrows hx hk ((Upd.refl [] wr).grown hgrow (by simp))
    (New.ofOwns (e := 4) (xs := List.replicate n false) (by rw [made_one _ rfl] at hrow; simpa using hrow) : New Rb wr w2 (.slice (some ⟨wr.heap.size, 0, none⟩) n n) (List.replicate n false))

/-- what is true of a relation's pairs up to k, turned round. -/
def invTo (r : List (List Int)) (k : Nat) : Nat → Nat → Bool := fun i j => (r.take k).any fun p => p.getD 1 0 == (i : Int) && p.getD 0 0 == (j : Int)
theorem invTo_zero (r : List (List Int)) : invTo r 0 = fun _ _ => false := by funext i j; simp [invTo]
theorem invTo_succ (r : List (List Int)) (k : Nat) (a b : Nat) (hk : k < r.length) (h : r[k] = [(b : Int), (a : Int)]) : invTo r (k + 1) = Go.Proofs.YtcnaapiljmgfoaaGreatDoor.upd (invTo r k) a b true := by
  funext i j
  unfold invTo Go.Proofs.YtcnaapiljmgfoaaGreatDoor.upd
  rw [List.take_succ_eq_append_getElem hk, List.any_append, h]
  by_cases e : i = a ∧ j = b
  · rw [if_pos e]; obtain ⟨rfl, rfl⟩ := e; simp
  · rw [if_neg e]
    have : ([[(b : Int), (a : Int)]].any fun p => p.getD 1 0 == (i : Int) && p.getD 0 0 == (j : Int)) = false := by
      simp; omega
    rw [this, Bool.or_false]

theorem relB_pair {n : Int} {r : List (List Int)} (h : relB n r = true) (k : Nat) (hk : k < r.length) : ∃ a b : Nat, r[k] = [(a : Int), (b : Int)] ∧ (a : Int) < n ∧ (b : Int) < n := by
  rw [relB, Bool.and_eq_true] at h
  have h1 := relTo_at h.2 hk
  rw [relOk, Bool.and_eq_true] at h1
  obtain ⟨a, b, e, a1, a2, b1, b2⟩ := pair_get h1.1
  have eg : r.getD k [] = r[k] := by simp [List.getD, hk]
  rw [eg] at e
  refine ⟨a.toNat, b.toNat, ?_, by omega, by omega⟩
  rw [e, Int.toNat_of_nonneg a1, Int.toNat_of_nonneg b1]
theorem relB_n {n : Int} {r : List (List Int)} (h : relB n r = true) : 1 ≤ n ∧ n ≤ 40 := by
  rw [relB, Bool.and_eq_true] at h; exact inB_true h.1

set_option maxHeartbeats 1000000 in
theorem list51 (n : Nat) (f : Nat → Nat → Bool) (v : Value) (w : World) (fp : List Nat) (hn : n ≤ 40) (hR : Rm fp w [v] (mat n f)) :
    Calls Tryz.prog 46 #[v] w fun e w' => (∃ v', e = .returned v' ∧ New R2 w w' v' (allTo n f n)) ∧ Upd [] w w' := by
  obtain ⟨i0, hi, hz0, hz1, hz2⟩ := info_parts Tryz.info45
  obtain ⟨a, cap, rfl, h1, h2, hc⟩ := slP_open hR
  simp only [mat_length] at *
  unfold maxLen at h2
  go_enter Tryz.func46, Tryz.ntmps46
  go_wp2
  go_loopw [3, 10] (fun vo i wr => ∃ k : Nat, k ≤ n ∧ i = .int .i64 k ∧ Upd [] w wr ∧ Acc R1 w 45 wr vo (allTo n f k)) (fun _ i _ => n - (intOf i).toNat)
  case atStart => exact ⟨0, Nat.zero_le _, rfl, Upd.refl _ _, Acc.nil _ _ _ _⟩
  case round =>
    obtain ⟨k, hk, rfl, hU, hacc⟩ := hrel
    by_cases hlt : k < n
    · obtain ⟨b, off, u, g, rfl, -, hb, hcx, hg, hr⟩ := hc k hlt
      have hcell : wr.cell? ⟨b, off + k, none⟩ = some u := (hU.below.cell hb).trans hcx
      rw [mat_row n f k hlt] at hr
      obtain ⟨a2, c2, rfl, g1, g2, g3⟩ := slF1_open hr
      simp only [List.length_map, List.length_range, List.getElem_map, List.getElem_range] at *
      unfold maxLen at g2
      clear hr hc
      go_wp2_with fail
      obtain ⟨wo, rfl⟩ : ∃ wo : World, wo = wr := ⟨_, rfl⟩
      go_loopw [3, 17] (fun vo i wr => ∃ j : Nat, j ≤ n ∧ i = .int .i64 j ∧ Upd [] w wr ∧ Acc R1 w 45 wr vo (allTo n f k ++ rowTo f k j)) (fun _ i _ => n - (intOf i).toNat)
      case atStart => exact ⟨0, Nat.zero_le _, rfl, hU, by simpa [rowTo] using hacc⟩
      case round =>
        obtain ⟨j, hj, rfl, hU, hacc⟩ := hrel
        by_cases hjn : j < n
        · obtain ⟨b3, o3, rfl, -, hb3, hc3⟩ := g3 j hjn
          have hcell3 : wr.cell? ⟨b3, o3 + j, none⟩ = some (.bool (f k j)) := (hU.below.cell hb3).trans hc3
          have hrs := rowTo_succ f k j
          cases hf : f k j
          · rw [hf] at hcell3 hrs
            have HR := Lib.hid hrs
            clear hf hrs g3
            go_wp2_with fail
            go_roundw
            case rel => exact ⟨j + 1, by omega, by go_num, hU, by rw [HR.out]; simpa using hacc⟩
            case measure => simp [intOf]; omega
          · rw [hf] at hcell3 hrs
            have HR := Lib.hid hrs
            obtain ⟨us, hown, hrows⟩ := hacc
            have hbd : (allTo n f k).length + (rowTo f k j).length ≤ 1600 := by
              have q1 := allTo_length n f k
              have q2 := rowTo_length f k j
              have q3 : k * n ≤ 39 * 40 := Nat.mul_le_mul (by omega) hn
              omega
            have hsz := hU.size
            clear hf hrs g3
            go_wp2_with (first
              | (at_builtin; refine wpList_append_tight _ rfl _ _ 26 rfl w.heap.size 45 i0 (.slice none 0 0) 1 24 Tryz.underlying26 hi hz0 hz1 hz2 rfl (by decide) _ _ _ rfl ((hown.alloc _).alloc _) ⟨wr.heap.size + 1, 0, none⟩ 1 1 [.slice (some ⟨wr.heap.size, 0, none⟩) 2 2] rfl rfl ?c1 ?c2 ?c3 ?c4 ?c5 ?_)
              | fail)
            case c2 => rfl
            case c3 => unfold maxLen; omega
            case c4 => omega
            case c5 => omega
            intro v2 w2 hown2 hg2 ht2
            have hnew : New R1 wr (wr.alloc (.cells #[.int .i64 k, .int .i64 j] 2)) (.slice (some ⟨wr.heap.size, 0, none⟩) 2 2) [(k : Int), (j : Int)] :=
              new_lit (enc := ei) wr 2 [(k : Int), (j : Int)] (by simp [maxLen])
            have hU2 : Upd [] w w2 := ((hU.alloc _).alloc _).grown hg2 (fun b hb => Or.inl ((hown.lt b hb).1))
            have hacc2 := Acc.push R1k hown hrows hsz ((Upd.refl [] wr).alloc _) hnew _ (by simpa using hown2) hg2 (by simpa using ht2)
            rw [List.append_assoc, show rowTo f k j ++ [[(k : Int), (j : Int)]] = rowTo f k (j + 1) from by rw [HR.out]; simp] at hacc2
            clear hown hrows hown2 hg2 ht2 hnew hbd hU
            go_wp2_with fail
            go_roundw
            case rel => exact ⟨j + 1, by omega, by go_num, hU2, hacc2⟩
            case measure => simp [intOf]; omega
        · obtain rfl : j = n := by omega
          have has := allTo_succ j f k
          have HA := Lib.hid has
          clear has g3
          go_wp2_with fail
          go_roundw
          case rel => exact ⟨k + 1, by omega, by go_num, hU, by rw [HA.out]; exact hacc⟩
          case measure => simp [intOf]; omega
    · obtain rfl : k = n := by omega
      clear hc
      go_wp2
      go_ret
      exact ⟨⟨_, rfl, hacc.new⟩, hU⟩

def invRes (n : Int) (r : List (List Int)) : List (List Int) × Int :=
  if relB n r then (allTo n.toNat (invTo r r.length) n.toNat, 0) else ([], 1)

theorem mul_bd {i j n : Nat} (hi : i ≤ n) (hj : j ≤ n) (hn : n ≤ 40) : (0 : Int) ≤ (i : Int) * (j : Int) ∧ (i : Int) * (j : Int) ≤ 1600 ∧ i * j ≤ 1600 := by
  have h : i * j ≤ 40 * 40 := Nat.mul_le_mul (by omega) (by omega)
  have e : (i : Int) * (j : Int) = ((i * j : Nat) : Int) := (Int.natCast_mul i j).symm
  omega

theorem pairs_tot (n : Nat) (f : Nat → Nat → Bool) (hn : n ≤ 40) : tot (allTo n f n) ≤ 3200 := by
  have h : ∀ (L : List (List Int)), (∀ p ∈ L, p.length = 2) → tot L = 2 * L.length := by
    intro L
    induction L with
    | nil => intro _; rfl
    | cons p L ih =>
      intro hp
      have h1 := hp p (by simp)
      have h2 := ih (fun q hq => hp q (by simp [hq]))
      unfold tot at *
      simp only [List.map_cons, List.sum_cons, h1, h2, List.length_cons]; omega
  have h2 : ∀ p ∈ allTo n f n, p.length = 2 := by
    intro p hp
    simp only [allTo, rowTo, List.mem_flatMap] at hp
    obtain ⟨a, -, j, -, hp⟩ := hp
    split at hp
    · simp at hp; subst hp; rfl
    · simp at hp
  rw [h _ h2]
  have := allTo_length n f n
  have : n * n ≤ 40 * 40 := Nat.mul_le_mul hn hn
  omega

end Go.Proofs.YtcnaapiljmgfoaaGreatDoor

/-
  Relations between systems, the reference's parts for branching: l15In, l15Inert, l15Reach.
-/
namespace Go.Proofs.YtcnaapiljmgfoaaGreatDoor
open Go.RowKit

theorem sys_eds2 {x : Sys} (h : sysOk x = true) : ∀ e ∈ x.eds, (0 ≤ e.fr ∧ e.fr < x.st) ∧ (0 ≤ e.to ∧ e.to < x.st) := by
  intro e he
  unfold sysOk at h
  simp only [Bool.and_eq_true] at h
  obtain ⟨i, hi, rfl⟩ := List.getElem_of_mem he
  have := allF_get h.2 i (by omega) (by omega)
  rw [edP_at _ _ hi] at this
  simp only [Bool.and_eq_true] at this
  have r1 := inB_true this.1.1.1
  have r2 := inB_true this.1.1.2
  omega
/-- a pair is related, or turned round. -/
def inPF (R : List (List Int)) (x y : Int) (back : Bool) : Bool := if back then hasP R y x else hasP R x y

set_option maxRecDepth 20000 in
theorem inPS (v : Value) (R : List (List Int)) (x y : Int) (back : Bool) (w : World) (fp : List Nat) (hR : R_N2 fp w [v] R) (h2 : ∀ p ∈ R, p.length = 2) :
    Calls Tryz.prog 97 #[v, .int .i64 x, .int .i64 y, .bool back] w fun e w' => e = .returned (.bool (inPF R x y back)) ∧ w = w' := by
  have S1 := Lib.hid (hasPS v R y x w fp hR h2)
  have S2 := Lib.hid (hasPS v R x y w fp hR h2)
  have HZ := Lib.hid (show inPF R x y back = if back then hasP R y x else hasP R x y from rfl)
  generalize inPF R x y back = Z at *
  clear hR h2
  go_enter Tryz.func97, Tryz.ntmps97
  cases back with
  | true =>
    have HE := Lib.hid (show Z = hasP R y x from HZ.out)
    clear S2 HZ
    go_wp2_with fail
    refine S1.out.mono ?_
    rintro e w1 ⟨rfl, rfl⟩
    rw [← HE.out]
    clear S1
    go_wp2_with fail
    go_ret
    exact ⟨rfl, rfl⟩
  | false =>
    have HE := Lib.hid (show Z = hasP R x y from HZ.out)
    clear S1 HZ
    go_wp2_with fail
    refine S2.out.mono ?_
    rintro e w1 ⟨rfl, rfl⟩
    rw [← HE.out]
    clear S2
    go_wp2_with fail
    go_ret
    exact ⟨rfl, rfl⟩

set_option maxRecDepth 20000 in
set_option maxHeartbeats 2000000 in
theorem inertS (x : Ed) (p o n : Nat) (v : Value) (w : World) (fp : List Nat) (c1 : w.cell? ⟨p, o, none⟩ = some (ei x.fr)) (c2 : w.cell? ⟨p, o + 1, none⟩ = some (ei x.lb)) (c3 : w.cell? ⟨p, o + 2, none⟩ = some (ei x.to))
    (hR : R1 fp w [v] (List.replicate n 0)) (h1 : 0 ≤ x.fr ∧ x.fr < n) (h2 : 0 ≤ x.to ∧ x.to < n) :
    Calls Tryz.prog 119 #[.pointer (some ⟨p, o, none⟩), v] w fun e w' => e = .returned (.bool (x.lb == 0)) ∧ ∃ m, w' = w.drewN m := by
  obtain ⟨x1, x2, x3⟩ := x
  simp only at *
  obtain ⟨a, cap, rfl, l1, l2, hc⟩ := slF1_open hR
  simp only [List.length_replicate] at *
  obtain ⟨y1, rfl⟩ : ∃ N : Nat, x1 = N := ⟨x1.toNat, by omega⟩
  obtain ⟨y3, rfl⟩ : ∃ N : Nat, x3 = N := ⟨x3.toNat, by omega⟩
  obtain ⟨b, off, rfl, -, -, q1⟩ := hc y1 (by omega)
  obtain ⟨b', off', hb, -, -, q3⟩ := hc y3 (by omega)
  cases hb
  simp only [List.getElem_replicate] at q1 q3
  have i1 : (y1 : Int) < (n : Int) := by omega
  have i3 : (y3 : Int) < (n : Int) := by omega
  clear hR hc h1 h2
  go_enter Tryz.func119, Tryz.ntmps119
  go_upto_region 1 with (fail)
  cases hl : (x2 == 0) with
  | false =>
    go_quiet (fail)
    go_wp2_with fail
    go_ret
    exact ⟨by rw [hl]; rfl, _, rfl⟩
  | true =>
    go_quiet (fail)
    go_wp2_with fail
    go_ret
    exact ⟨by rw [hl]; rfl, _, rfl⟩

theorem tau_lab {labs : List (List UInt8)} (h : labsOk labs = true) {n : Int} (h0 : 0 ≤ n) (h1 : n < labs.length) : labs.getD n.toNat [] = tauL ↔ n = 0 := by
  have ht : labs.getD 0 [] = tauL := by
    have h' := h
    unfold labsOk at h'
    simp only [Bool.and_eq_true] at h'
    have := allF_get h'.2 0 (by omega) (by omega)
    unfold labP at this
    simp only [Bool.and_eq_true, beq_iff_eq] at this
    have h1 := this.1.2
    simpa using h1
  constructor
  · intro he
    have := labs_inj h n.toNat 0 (by omega) (by omega) (he.trans ht.symm)
    omega
  · intro he
    subst he
    exact ht
theorem tauS_iff {T : Sys} (h : sysOk T = true) (k j : Int) : TauS T k j ↔ ∃ e ∈ T.eds, e.fr = k ∧ e.to = j ∧ e.lb = 0 := by
  have hl : labsOk T.labs = true := by
    have h' := h
    unfold sysOk at h'
    simp only [Bool.and_eq_true] at h'
    exact h'.1.1.2
  unfold TauS folF folP
  simp only [List.mem_map, List.mem_filter, Bool.and_eq_true, List.contains_cons, List.contains_nil, Bool.or_false, beq_iff_eq]
  constructor
  · rintro ⟨e, ⟨h1, h2, h3⟩, rfl⟩
    have := sys_labs h e h1
    exact ⟨e, h1, h3, rfl, (tau_lab hl this.1 this.2).1 h2⟩
  · rintro ⟨e, h1, rfl, rfl, h4⟩
    have := sys_labs h e h1
    exact ⟨e, ⟨h1, (tau_lab hl this.1 this.2).2 h4, rfl⟩, rfl⟩

/-- a block of truths. -/
def BlkB (b : Nat) (w : World) (S : List Bool) : Prop := w.heap[b]? = some (.cells (S.map Value.bool).toArray 4 (0, 0))
theorem BlkB.lt {b : Nat} {w : World} {S : List Bool} (h : BlkB b w S) : b < w.heap.size := (Array.getElem?_eq_some_iff.1 h).1
theorem BlkB.cell {b : Nat} {w : World} {S : List Bool} (h : BlkB b w S) (j : Nat) (hj : j < S.length) : w.cell? ⟨b, j, none⟩ = some (.bool S[j]) := by
  unfold BlkB at h
  simp [World.cell?, h, hj]
theorem BlkB.frozen {b : Nat} {w : World} {S : List Bool} (h : BlkB b w S) (j : Nat) : w.frozen? ⟨b, j, none⟩ = false := by
  unfold BlkB at h
  simp [World.frozen?, h]
theorem BlkB.upd {b : Nat} {w w1 : World} {S : List Bool} (h : BlkB b w S) {f : List Nat} (hu : Upd f w w1) (hf : b ∉ f) : BlkB b w1 S := by
  unfold BlkB at *
  rw [hu.block b (Array.getElem?_eq_some_iff.1 h).1 hf]; exact h
theorem BlkB.set {b : Nat} {w : World} {S : List Bool} (h : BlkB b w S) (j : Nat) (c : Bool) : BlkB b (w.setCell ⟨b, j, none⟩ (.bool c)) (S.set j c) := by
  unfold BlkB at *
  have := heap_setCell_same w b j _ _ (.bool c) h
  rw [this, List.map_set]
  simp
/-- how many places of a block of truths are false. -/
def falseAt (w : World) (b : Nat) : Nat := match w.heap[b]? with
  | some (.cells cs _ _) => cs.toList.countP fun v => match v with | .bool false => true | _ => false
  | _ => 0
theorem BlkB.falseAt {b : Nat} {w : World} {S : List Bool} (h : BlkB b w S) : falseAt w b = S.count false := by
  unfold BlkB at h
  unfold Go.Proofs.YtcnaapiljmgfoaaGreatDoor.falseAt
  rw [h]
  simp only [List.countP_map, List.count]
  refine List.countP_congr fun x _ => ?_
  cases x <;> simp
theorem BlkB.ofRow {w : World} {b n : Nat} (h : w.ownsRow b 4 1 (.slice (some ⟨b, 0, none⟩) n n) n (List.replicate n (.bool false))) : BlkB b w (List.replicate n false) := by
  obtain ⟨-, ⟨h1, -⟩ | ⟨g, cap, cur, hv, -, hc, -, -, h3, h4⟩⟩ := h
  · cases h1
  · cases hv
    unfold BlkB
    rw [hc, List.map_replicate, ← h4]
    have : cur.toList.take (n * 1) = cur.toList := List.take_of_length_le (by simp [h3])
    rw [this]

/-- what is marked is reached. -/
structure ReInv (B : Sys) (y : Int) (S : List Bool) : Prop where
  len : (S.length : Int) = B.st
  self : S.getD y.toNat false = true
  from' : ∀ j : Nat, S.getD j false = true → ReachT B y j
def ShutAt (S : List Bool) (g : Ed) : Prop := S.getD g.fr.toNat false = true → g.lb = 0 → S.getD g.to.toNat false = true
theorem ReInv.push {B : Sys} {y : Int} {S : List Bool} (h : ReInv B y S) (hok : sysOk B = true) {g : Ed} (hg : g ∈ B.eds) (hf : S.getD g.fr.toNat false = true) (hl : g.lb = 0) : ReInv B y (S.set g.to.toNat true) := by
  have hb := sys_eds2 hok g hg
  refine ⟨by simpa using h.len, ?_, fun j hj => ?_⟩
  · rw [List.getD_eq_getElem?_getD, List.getElem?_set]
    have := h.self
    rw [List.getD_eq_getElem?_getD] at this
    split
    · split
      · rfl
      · rename_i h1 h2; rw [h1] at h2; rw [List.getElem?_eq_none (by omega)] at this; exact this
    · exact this
  · by_cases e : g.to.toNat = j
    · have h1 := h.from' _ hf
      have e1 : ((g.fr.toNat : Nat) : Int) = g.fr := by omega
      have e2 : (j : Int) = g.to := by omega
      rw [e1] at h1
      rw [e2]
      exact h1.step ((tauS_iff hok _ _).2 ⟨g, hg, rfl, rfl, hl⟩)
    · rw [List.getD_eq_getElem?_getD, List.getElem?_set_ne e, ← List.getD_eq_getElem?_getD] at hj
      exact h.from' j hj
theorem ReInv.done {B : Sys} {y : Int} {S : List Bool} (h : ReInv B y S) (hok : sysOk B = true) (_hy : 0 ≤ y) (hs : ∀ g ∈ B.eds, ShutAt S g) (j : Nat) : S.getD j false = true ↔ ReachT B y j := by
  refine ⟨h.from' j, fun hr => ?_⟩
  have key : ∀ k : Int, ReachT B y k → S.getD k.toNat false = true := by
    intro k hk
    induction hk with
    | refl => exact h.self
    | step _ h2 ih =>
      obtain ⟨e, he, rfl, rfl, hl⟩ := (tauS_iff hok _ _).1 h2
      exact hs e he ih hl
  have := key j hr
  simpa using this

end Go.Proofs.YtcnaapiljmgfoaaGreatDoor

/-
  Relations between systems, the reference's l15Reach: what internal edges reach.
-/
namespace Go.Proofs.YtcnaapiljmgfoaaGreatDoor
open Go.RowKit

def oneIf : Value → Nat
  | .bool true => 1
  | _ => 0
theorem count_push {S : List Bool} {j : Nat} (hj : j < S.length) (h : S[j] = false) : (S.set j true).count false < S.count false := by
  have h1 := List.count_set (l := S) (i := j) (a := true) (b := false) hj
  have h2 : 0 < S.count false := List.count_pos_iff.2 (h ▸ List.getElem_mem hj)
  rw [h1, h]
  simp
  omega
set_option maxRecDepth 20000 in
set_option maxHeartbeats 8000000 in
theorem reachS (B : Sys) (Tb : Nat) (b2 v : Value) (y : Int) (w : World) (f4 fz : List Nat) (z0 : w.cell? ⟨Tb, 0, none⟩ = some (ei B.st)) (z3 : w.cell? ⟨Tb, 3, none⟩ = some b2) (hE : R_E1 f4 w [b2] B.eds)
    (hP : R1 fz w [v] (List.replicate B.st.toNat 0)) (hok : sysOk B = true) (hy0 : 0 ≤ y) (hy1 : y < B.st) :
    Calls Tryz.prog 98 #[.pointer (some ⟨Tb, 0, none⟩), v, .int .i64 y] w fun e w' => (∃ (b : Nat) (S : List Bool), e = .returned (.slice (some ⟨b, 0, none⟩) S.length S.length) ∧ BlkB b w' S ∧ w.heap.size ≤ b ∧ (S.length : Int) = B.st ∧ ∀ j : Nat, S.getD j false = true ↔ ReachT B y j) ∧ Upd [] w w' := by
  obtain ⟨i1, ki, kz0, kz1, kz2⟩ := info_parts Tryz.infoB
  obtain ⟨hst, -, -, heds, -, -⟩ := sys_parts hok
  obtain ⟨n, hn⟩ : ∃ n : Nat, B.st = n := ⟨B.st.toNat, by omega⟩
  obtain ⟨yn, rfl⟩ : ∃ N : Nat, y = N := ⟨y.toNat, by omega⟩
  have hrep : List.replicate B.st.toNat (0 : Int) = List.replicate n 0 := by congr 1; omega
  rw [hrep] at hP
  obtain ⟨pa, pc, rfl, -, -, -⟩ := slF1_open hP
  rw [List.length_replicate] at hP ⊢
  obtain ⟨a, cap, rfl, l1, l2, hc⟩ := slF3_open hE
  unfold maxLen at l2
  have HC := Lib.hid hc
  have hm2 : i1.bytes * n ≤ 281474976710656 := by rw [kz2]; omega
  have HBD := Lib.hid (sys_eds2 hok)
  have HOK := Lib.hid hok
  have HN := Lib.hid hn
  have HPP := Lib.hid (fun W (hu : Upd [] w W) => R1k.upd hP hu (by simp))
  rw [hn] at z0
  have HZ3 := Lib.hid z3
  have hyn : yn < n := by omega
  have INS := Lib.hid (fun (g : Ed) (hg : g ∈ B.eds) (p : Nat) W (hu : Upd [] w W) c1 c2 c3 => inertS g p 0 n (.slice pa n pc) W fz c1 c2 c3 (HPP.out W hu) ⟨(HBD.out g hg).1.1, by have := (HBD.out g hg).1.2; omega⟩ ⟨(HBD.out g hg).2.1, by have := (HBD.out g hg).2.2; omega⟩)
  clear hE hP hc hok hrep
  go_enter Tryz.func98, Tryz.ntmps98
  go_wp2_with (first
    | (at_make; refine wpList_make_full _ rfl _ _ 61 rfl w.heap.size 4 i1 (.bool false) 1 Tryz.underlying61 ki kz0 kz1 .i64 .i64 _ _ n rfl rfl rfl rfl hm2 (by unfold maxLen; omega) (Nat.le_refl _) ?_; intro w2 hrow hgrow; rw [made_one _ rfl] at hrow; have hbk := BlkB.ofRow hrow; have hcl := hbk.cell yn (by simpa using hyn); have hfz := hbk.frozen yn; have hyi : (yn : Int) < (n : Int) := by omega)
    | fail)
  obtain ⟨BS, hBS⟩ : ∃ BS, BS = w.heap.size := ⟨_, rfl⟩
  have hinv : ReInv B yn ((List.replicate n false).set yn true) := by
    refine ⟨by simp; omega, ?_, fun j hj => ?_⟩
    · rw [List.getD_eq_getElem?_getD]
      simp [hyn]
    · by_cases e : yn = j
      · subst e; exact ReachT.refl _
      · rw [List.getD_eq_getElem?_getD, List.getElem?_set_ne e, List.getElem?_replicate] at hj
        split at hj <;> simp at hj
  have HI0 := Lib.hid hinv
  have HK0 := Lib.hid (hbk.set yn true)
  have HU0 := Lib.hid (((Upd.refl [] w).grown hgrow (by simp)).setCell (p := ⟨w.heap.size, yn, none⟩) (Or.inl (by simp)) (.bool true))
  generalize (List.replicate n false).set yn true = S0 at *
  rw [← hBS] at HK0 HU0 ⊢
  have HBS := Lib.hid hBS
  clear hrow hgrow hbk hcl hfz hinv hBS z0 z3 hm2
  go_loopw [8] (fun mv wr => ∃ (S : List Bool) (m : Bool), mv = .bool m ∧ Hid (ReInv B yn S) ∧ Hid (BlkB BS wr S) ∧ Hid (Upd [] w wr) ∧ Hid (m = false → ∀ g ∈ B.eds, ShutAt S g)) (fun mv wr => 2 * falseAt wr BS + oneIf mv)
  case atStart => exact ⟨S0, true, rfl, HI0, HK0, HU0, Lib.hid (fun h => by cases h)⟩
  case round =>
    clear HI0 HK0 HU0
    obtain ⟨wq, rfl⟩ : ∃ wq : World, wq = wr := ⟨_, rfl⟩
    obtain ⟨S, m, rfl, HI, HK, HU, HS⟩ := hrel
    cases m with
    | false =>
      have HD := Lib.hid (fun j => HI.out.done HOK.out hy0 (HS.out rfl) j)
      have HL := Lib.hid (show S.length = n by have h1 := HI.out.len; have h2 := HN.out; omega)
      clear HI HS
      go_wp2_with fail
      go_ret
      exact ⟨⟨BS, S, by rw [HL.out]; rfl, HK.out, by rw [HBS.out]; exact Nat.le_refl _, by rw [HL.out]; exact HN.out.symm, HD.out⟩, HU.out⟩
    | true =>
      have HQ := Lib.hid HK.out.falseAt
      have zz := HU.out.keep HZ3.out
      go_wp2_with fail
      go_loopw [8, 9] (fun mv iv wr => ∃ (S' : List Bool) (m : Bool) (i : Nat), i ≤ B.eds.length ∧ iv = .int .i64 i ∧ mv = .bool m ∧ Hid (ReInv B yn S') ∧ Hid (BlkB BS wr S') ∧ Hid (Upd [] w wr) ∧ Hid (S'.count false ≤ S.count false) ∧ Hid (m = true → S'.count false < S.count false) ∧ Hid (m = false → ∀ g ∈ B.eds.take i, ShutAt S' g)) (fun _ iv _ => B.eds.length - (intOf iv).toNat)
      case atStart => exact ⟨S, false, 0, Nat.zero_le _, rfl, rfl, HI, HK, HU, Lib.hid (Nat.le_refl _), Lib.hid (fun h => by cases h), Lib.hid (fun _ g hg => by simp at hg)⟩
      case round =>
        clear HI HK HU HS zz
        obtain ⟨wo, rfl⟩ : ∃ wo : World, wo = wr := ⟨_, rfl⟩
        obtain ⟨S', m, i, hi, rfl, rfl, HI, HK, HU, HL1, HL2, HS⟩ := hrel
        have zz := HU.out.keep HZ3.out
        by_cases hlt : i < B.eds.length
        · obtain ⟨eb, eo, rfl, -, -, p1, p2, p3⟩ := HC.out i hlt
          have p1 := HU.out.keep p1
          have p2 := HU.out.keep p2
          have p3 := HU.out.keep p3
          have hg := List.getElem_mem hlt
          have hil : (i : Int) < (B.eds.length : Int) := by omega
          have hst2 : B.eds.take (i + 1) = B.eds.take i ++ [B.eds[i]] := List.take_succ_eq_append_getElem hlt
          have HTK := Lib.hid hst2
          have hbd := HBD.out _ hg
          have HPU := Lib.hid (fun (hf : S'.getD B.eds[i].fr.toNat false = true) (hl : B.eds[i].lb = 0) => HI.out.push HOK.out hg hf hl)
          have IN1 := Lib.hid (INS.out _ hg)
          generalize B.eds[i] = e at *
          obtain ⟨e1, e2, e3⟩ := e
          simp only at p1 p2 p3 hbd HPU
          obtain ⟨y1, rfl⟩ : ∃ N : Nat, e1 = N := ⟨e1.toNat, by omega⟩
          obtain ⟨y3, rfl⟩ : ∃ N : Nat, e3 = N := ⟨e3.toNat, by omega⟩
          have hSl : S'.length = n := by have h1 := HI.out.len; have h2 := HN.out; omega
          have b1' : (y1 : Int) < (n : Int) := by have h2 := HN.out; omega
          have b3' : (y3 : Int) < (n : Int) := by have h2 := HN.out; omega
          have d1 : y1 < S'.length := by omega
          have d3 : y3 < S'.length := by omega
          have g1 : S'.getD y1 false = S'[y1] := by rw [List.getD_eq_getElem?_getD, List.getElem?_eq_getElem d1]; rfl
          have g3 : S'.getD y3 false = S'[y3] := by rw [List.getD_eq_getElem?_getD, List.getElem?_eq_getElem d3]; rfl
          obtain ⟨wB, hwB⟩ : ∃ wB, wB = wo.alloc (.cells #[.int .i64 y1, .int .i64 e2, .int .i64 y3] 74) := ⟨_, rfl⟩
          have UB : Upd [] wo wB := by rw [hwB]; exact (Upd.refl _ _).alloc _
          have HUB := Lib.hid (HU.out.trans UB)
          have HKB := Lib.hid (HK.out.upd UB (by simp))
          have t0 : wB.cell? ⟨wo.heap.size, 0, none⟩ = some (ei y1) := by rw [hwB]; exact cell_new wo _ _ _ rfl 0 _ rfl
          have t1 : wB.cell? ⟨wo.heap.size, 1, none⟩ = some (ei e2) := by rw [hwB]; exact cell_new wo _ _ _ rfl 1 _ rfl
          have t2 : wB.cell? ⟨wo.heap.size, 2, none⟩ = some (ei y3) := by rw [hwB]; exact cell_new wo _ _ _ rfl 2 _ rfl
          have s1 := HKB.out.cell y1 d1
          have s3 := HKB.out.cell y3 d3
          have T1 := Lib.hid (IN1.out wo.heap.size wB HUB.out t0 t1 t2)
          have HSH := Lib.hid (fun (hsh : ShutAt S' ⟨y1, e2, y3⟩) (hm : m = false) => show ∀ g ∈ B.eds.take (i + 1), ShutAt S' g from fun g hgm => by
            rw [HTK.out] at hgm
            rcases List.mem_append.1 hgm with h | h
            · exact HS.out hm g h
            · simp at h; subst h; exact hsh)
          simp only [Int.toNat_natCast, g1] at HPU
          have HG3 := Lib.hid (And.intro g1 g3)
          obtain ⟨BE, hBE⟩ : ∃ BE, BE = wo.heap.size := ⟨_, rfl⟩
          rw [← hBE] at t0 t1 t2 T1
          have HCN := Lib.hid (fun (h : S'[y3] = false) => count_push d3 h)
          go_upto_region 10 with (fail)
          rw [← hwB, ← hBE]
          clear hwB hBE p1 p2 p3 HU HK hg hbd hst2 UB IN1 g1 g3
          cases h1 : S'[y1] with
          | false =>
            rw [h1] at s1
            have HS9 := Lib.hid (HSH.out (fun hf _ => by simp only [Int.toNat_natCast] at hf; rw [HG3.out.1, h1] at hf; cases hf))
            clear HSH HPU HCN HS T1
            go_wp2_with fail
            go_roundw
            case rel => exact ⟨S', m, i + 1, by omega, by go_num, rfl, HI, HKB, HUB, HL1, HL2, HS9⟩
            case measure => simp [intOf]; omega
          | true =>
            rw [h1] at s1
            cases h3 : S'[y3] with
            | true =>
              rw [h3] at s3
              have HS9 := Lib.hid (HSH.out (fun _ _ => by simp only [Int.toNat_natCast]; rw [HG3.out.2, h3]))
              clear HSH HPU HCN HS T1
              go_wp2_with fail
              go_roundw
              case rel => exact ⟨S', m, i + 1, by omega, by go_num, rfl, HI, HKB, HUB, HL1, HL2, HS9⟩
              case measure => simp [intOf]; omega
            | false =>
              rw [h3] at s3
              go_wp2_with fail
              refine T1.out.mono ?_
              rintro e w5 ⟨rfl, q, rfl⟩
              have HKD := Lib.hid (HKB.out.upd ((Upd.refl [] wB).drewN q) (by simp))
              have HUD := Lib.hid (HUB.out.drewN q)
              have r3 := HKD.out.cell y3 d3
              rw [h3] at r3
              have fz := HKD.out.frozen y3
              clear T1
              cases hl : (e2 == 0) with
              | false =>
                have HS9 := Lib.hid (HSH.out (fun _ hl9 => by simp only at hl9; rw [hl9] at hl; simp at hl))
                clear HSH HPU HCN HS
                go_wp2_with fail
                go_roundw
                case rel => exact ⟨S', m, i + 1, by omega, by go_num, rfl, HI, HKD, HUD, HL1, HL2, HS9⟩
                case measure => simp [intOf]; omega
              | true =>
                have HI9 := Lib.hid (HPU.out h1 (by simpa using hl))
                have hcn := HCN.out h3
                have HL9 := Lib.hid (show (S'.set y3 true).count false < S.count false by have := HL1.out; omega)
                have HK9 := Lib.hid (HKD.out.set y3 true)
                have HU9 := Lib.hid (HUD.out.setCell (p := ⟨BS, y3, none⟩) (Or.inl (by rw [HBS.out]; exact Nat.le_refl _)) (.bool true))
                clear HSH HPU HCN HS hcn HKD HUD HKB HUB HI HL1 HL2
                go_wp2_with fail
                go_roundw
                case rel => exact ⟨S'.set y3 true, true, i + 1, by omega, by go_num, rfl, HI9, HK9, HU9, Lib.hid (Nat.le_of_lt HL9.out), Lib.hid (fun _ => HL9.out), Lib.hid (fun h => by cases h)⟩
                case measure => simp [intOf]; omega
        · obtain rfl : i = B.eds.length := by omega
          have HS9 := Lib.hid (show m = false → ∀ g ∈ B.eds, ShutAt S' g from fun hm g hg => HS.out hm g (by rw [List.take_length]; exact hg))
          have HQ9 := Lib.hid HK.out.falseAt
          clear HS
          go_wp2_with fail
          go_roundw
          case rel => exact ⟨S', m, rfl, HI, HK, HU, HS9⟩
          case measure =>
            rw [HQ.out, HQ9.out]
            have h1 := HL1.out
            cases m with
            | false => simp [oneIf]; omega
            | true => have h2 := HL2.out rfl; simp [oneIf]; omega

end Go.Proofs.YtcnaapiljmgfoaaGreatDoor

/-
  Relations between systems, the reference's l15Met. (The loop is printed twice by tools/genbismb.py.)
-/
namespace Go.Proofs.YtcnaapiljmgfoaaGreatDoor
open Go.RowKit

/-- an edge g answers e. -/
def GoodG (A B : Sys) (R : List (List Int)) (back : Bool) (e : Ed) (y : Int) (g : Ed) : Prop := ReachT B y g.fr ∧ (B.labs.getD g.lb.toNat [] == A.labs.getD e.lb.toNat []) = true ∧ inPF R e.fr g.fr back = true ∧ inPF R e.to g.to back = true
open Classical in
/-- an edge is met. -/
noncomputable def metB (A B : Sys) (R : List (List Int)) (back : Bool) (e : Ed) (y : Int) : Bool := decide ((e.lb = 0 ∧ inPF R e.to y back = true) ∨ ∃ g ∈ B.eds, GoodG A B R back e y g)
theorem metB_iff (A B : Sys) (R : List (List Int)) (back : Bool) (e : Ed) (y : Int) : metB A B R back e y = true ↔ ((e.lb = 0 ∧ inPF R e.to y back = true) ∨ ∃ g ∈ B.eds, GoodG A B R back e y g) := by
  classical
  unfold metB
  rw [decide_eq_true_iff]
theorem row_zeros {w : World} {b n : Nat} (h : w.ownsRow b 2 1 (.slice (some ⟨b, 0, none⟩) n n) n (List.replicate n (.int .i64 0))) : ∃ f, R1 f w [.slice (some ⟨b, 0, none⟩) n n] (List.replicate n 0) := by
  have h2 : w.ownsRow b 2 1 (.slice (some ⟨b, 0, none⟩) n n) (List.replicate n (0 : Int)).length ((List.replicate n (0 : Int)).map ei) := by simpa using h
  obtain ⟨fp, h1, -⟩ := Flat.ofOwns h2
  exact ⟨fp, _, rfl, by rw [flatG]; exact h1⟩

set_option maxRecDepth 20000 in
set_option maxHeartbeats 16000000 in
theorem metBS (A B : Sys) (Ta Tb : Nat) (a1 b1 b2 v : Value) (R : List (List Int)) (e : Ed) (p o : Nat) (y : Int) (back : Bool) (w : World) (f1 f3 f4 fr : List Nat)
    (za2 : w.cell? ⟨Ta, 2, none⟩ = some a1) (zb0 : w.cell? ⟨Tb, 0, none⟩ = some (ei B.st)) (zb2 : w.cell? ⟨Tb, 2, none⟩ = some b1) (zb3 : w.cell? ⟨Tb, 3, none⟩ = some b2)
    (hA1 : RS f1 w [a1] A.labs) (hB1 : RS f3 w [b1] B.labs) (hB2 : R_E1 f4 w [b2] B.eds) (hR : R_N2 fr w [v] R) (hR2 : ∀ p ∈ R, p.length = 2) (hokB : sysOk B = true)
    (c1 : w.cell? ⟨p, o, none⟩ = some (ei e.fr)) (c2 : w.cell? ⟨p, o + 1, none⟩ = some (ei e.lb)) (c3 : w.cell? ⟨p, o + 2, none⟩ = some (ei e.to)) (hel : 0 ≤ e.lb ∧ e.lb < A.labs.length) (hy0 : 0 ≤ y) (hy1 : y < B.st) :
    Calls Tryz.prog 69 #[.pointer (some ⟨Ta, 0, none⟩), .pointer (some ⟨Tb, 0, none⟩), .pointer (some ⟨p, o, none⟩), .int .i64 y, v, .bool back] w fun r w' => r = .returned (.bool (metB A B R back e y)) ∧ Upd [] w w' := by
  obtain ⟨i1, ki, kz0, kz1, kz2⟩ := info_parts Tryz.info2
  obtain ⟨hst, -, hlb1, heds, -, -⟩ := sys_parts hokB
  obtain ⟨n, hn⟩ : ∃ n : Nat, B.st = n := ⟨B.st.toNat, by omega⟩
  have hm2 : i1.bytes * n ≤ 281474976710656 := by rw [kz2]; omega
  have hHL := Lib.hid (sys_labs hokB)
  have HBD := Lib.hid (sys_eds2 hokB)
  have IP := Lib.hid (fun (x z : Int) W (hu : Upd [] w W) => inPS v R x z back W fr (R_N2k.upd hR hu (by simp)) hR2)
  have RE := Lib.hid (fun (q : Value) W (f : List Nat) (hu : Upd [] w W) (hq : R1 f W [q] (List.replicate n 0)) => reachS B Tb b2 q y W f4 f (hu.keep zb0) (hu.keep zb3) (R_E1k.upd hB2 hu (by simp)) (by rw [show B.st.toNat = n by omega]; exact hq) hokB hy0 hy1)
  obtain ⟨rv, rc, hv, -, -, -⟩ := slP_open hR
  subst hv
  obtain ⟨la, ca, rfl, la1, la2, hca⟩ := slF1_open hA1
  obtain ⟨lb, cb, rfl, lb1, lb2, hcb⟩ := slF1_open hB1
  obtain ⟨ebk, ecap, rfl, el1, el2, hce⟩ := slF3_open hB2
  unfold maxLen at la2 lb2 el2
  have HCB := Lib.hid hcb
  have HCE := Lib.hid hce
  have hnn : (n : Int) = B.st := hn.symm
  have HNN := Lib.hid hn
  have zb0' : w.cell? ⟨Tb, 0, none⟩ = some (ei (n : Int)) := by rw [hnn]; exact zb0
  have HGG := Lib.hid (fun g => show GoodG A B R back e y g ↔ (ReachT B y g.fr ∧ (B.labs.getD g.lb.toNat [] == A.labs.getD e.lb.toNat []) = true ∧ inPF R e.fr g.fr back = true ∧ inPF R e.to g.to back = true) from Iff.rfl)
  have HZ := Lib.hid (metB_iff A B R back e y)
  generalize GoodG A B R back e y = GG at *
  generalize metB A B R back e y = Z at *
  obtain ⟨e1, e2, e3⟩ := e
  simp only at c1 c2 c3 hel HZ HGG
  obtain ⟨le, rfl⟩ : ∃ N : Nat, e2 = N := ⟨e2.toNat, by omega⟩
  have hle : le < A.labs.length := by omega
  have hlei : (le : Int) < (A.labs.length : Int) := by omega
  obtain ⟨ba, oa, rfl, -, -, pA⟩ := hca le hle
  have gA : A.labs.getD le [] = A.labs[le] := by rw [List.getD_eq_getElem?_getD, List.getElem?_eq_getElem hle]; rfl
  simp only [Int.toNat_natCast, gA] at HGG
  clear gA hel hA1 hB1 hB2 hR hR2 hokB hca hcb hce hnn
  generalize A.labs[le] = sa at *
  have HCELLS := Lib.hid (And.intro za2 (And.intro zb2 (And.intro zb3 (And.intro c1 (And.intro c2 (And.intro c3 pA))))))
  have ZB3 := Lib.hid zb3
  clear zb0
  go_enter Tryz.func69, Tryz.ntmps69
  cases hl0 : ((le : Int) == 0) with
  | true =>
    have T1 := Lib.hid (IP.out e3 y w (Upd.refl _ _))
    cases hb : inPF R e3 y back with
    | true =>
      have HE := Lib.hid (show Z = true from HZ.out.2 (Or.inl ⟨by simpa using hl0, hb⟩))
      rw [hb] at T1
      clear HZ hb IP RE
      go_wp2_with fail
      refine T1.out.mono ?_
      rintro r w1 ⟨rfl, rfl⟩
      clear T1
      go_wp2_with fail
      go_ret
      exact ⟨by rw [HE.out]; rfl, Upd.refl _ _⟩
    | false =>
      have HZ2 := Lib.hid (show Z = true ↔ ∃ g ∈ B.eds, GG g by rw [HZ.out]; simp [hb])
      rw [hb] at T1
      clear HZ hb
      go_wp2_with fail
      refine T1.out.mono ?_
      rintro r w1 ⟨rfl, rfl⟩
      clear T1
      go_wp2_with (first
        | (at_make; refine wpList_make_full _ rfl _ _ 45 rfl w.heap.size 2 i1 (.int .i64 0) 1 Tryz.underlying45 ki kz0 kz1 .i64 .i64 _ _ n rfl rfl rfl rfl hm2 (by unfold maxLen; omega) (Nat.le_refl _) ?_; intro w2 hrow hgrow; rw [made_one _ rfl] at hrow)
        | fail)
      obtain ⟨fz, hz⟩ := row_zeros hrow
      have U2 := Lib.hid ((Upd.refl [] w).grown hgrow (by simp))
      have T3 := Lib.hid (RE.out _ w2 fz U2.out hz)
      clear hrow hgrow hz RE
      refine T3.out.mono ?_
      rintro r w3 ⟨⟨bs, S, rfl, hbk, hge, hsl, hre⟩, hu3⟩
      have U3 := Lib.hid (U2.out.trans hu3)
      have HBK := Lib.hid hbk
      have HRE := Lib.hid hre
      have hSn : S.length = n := by have := HNN.out; omega
      clear T3 hu3 hbk hge hsl hre
      have zb3 := U3.out.keep ZB3.out
      go_wp2_with fail
      go_loopw [14] (fun iv wr => ∃ i : Nat, i ≤ B.eds.length ∧ iv = .int .i64 i ∧ Hid (∀ g ∈ B.eds.take i, ¬ GG g) ∧ Hid (Upd [] w3 wr)) (fun iv _ => B.eds.length - (intOf iv).toNat)
      case atStart => exact ⟨0, Nat.zero_le _, rfl, Lib.hid (fun g hg => by simp at hg), Lib.hid (Upd.refl _ _)⟩
      case round =>
        obtain ⟨wo, rfl⟩ : ∃ wo : World, wo = wr := ⟨_, rfl⟩
        obtain ⟨i, hi, rfl, HI, HU⟩ := hrel
        have zb3 := HU.out.keep (U3.out.keep ZB3.out)
        by_cases hlt : i < B.eds.length
        · obtain ⟨eb, eo, rfl, -, -, p1, p2, p3⟩ := HCE.out i hlt
          have p1 := HU.out.keep (U3.out.keep p1)
          have p2 := HU.out.keep (U3.out.keep p2)
          have p3 := HU.out.keep (U3.out.keep p3)
          have hg := List.getElem_mem hlt
          have hil : (i : Int) < (B.eds.length : Int) := by omega
          have hst2 : B.eds.take (i + 1) = B.eds.take i ++ [B.eds[i]] := List.take_succ_eq_append_getElem hlt
          have HTK := Lib.hid hst2
          have hbd := (HBD.out _ hg).1
          have hlg := hHL.out _ hg
          have HGX := Lib.hid (HGG.out B.eds[i])
          have HIN := Lib.hid hg
          generalize B.eds[i] = g at *
          obtain ⟨g1, g2, g3⟩ := g
          simp only at p1 p2 p3 hbd hlg HGX
          obtain ⟨y1, rfl⟩ : ∃ N : Nat, g1 = N := ⟨g1.toNat, by omega⟩
          obtain ⟨lg, rfl⟩ : ∃ N : Nat, g2 = N := ⟨g2.toNat, by omega⟩
          have hlg2 : lg < B.labs.length := by omega
          have hlgi : (lg : Int) < (B.labs.length : Int) := by omega
          have hy1i : (y1 : Int) < (S.length : Int) := by have := HNN.out; omega
          have d1 : y1 < S.length := by omega
          obtain ⟨bb, ob, rfl, -, -, pB⟩ := HCB.out lg hlg2
          have gB : B.labs.getD lg [] = B.labs[lg] := by rw [List.getD_eq_getElem?_getD, List.getElem?_eq_getElem hlg2]; rfl
          have gS : S.getD y1 false = S[y1] := by rw [List.getD_eq_getElem?_getD, List.getElem?_eq_getElem d1]; rfl
          have HRX := Lib.hid (HRE.out y1)
          rw [gS] at HRX
          simp only [Int.toNat_natCast, gB] at HGX
          clear gB gS hlg hbd hst2
          generalize B.labs[lg] = sb at *
          obtain ⟨wB, hwB⟩ : ∃ wB, wB = wo.alloc (.cells #[.int .i64 y1, .int .i64 lg, .int .i64 g3] 74) := ⟨_, rfl⟩
          have UB : Upd [] wo wB := by rw [hwB]; exact (Upd.refl _ _).alloc _
          have HUB := Lib.hid (HU.out.trans UB)
          have UW := Lib.hid (U3.out.trans HUB.out)
          have t0 : wB.cell? ⟨wo.heap.size, 0, none⟩ = some (ei y1) := by rw [hwB]; exact cell_new wo _ _ _ rfl 0 _ rfl
          have t1 : wB.cell? ⟨wo.heap.size, 1, none⟩ = some (ei lg) := by rw [hwB]; exact cell_new wo _ _ _ rfl 1 _ rfl
          have t2 : wB.cell? ⟨wo.heap.size, 2, none⟩ = some (ei g3) := by rw [hwB]; exact cell_new wo _ _ _ rfl 2 _ rfl
          have s1 := (HBK.out.upd HUB.out (by simp)).cell y1 d1
          obtain ⟨za2, zb2, -, c1, c2, c3, pA⟩ := HCELLS.out
          have za2 := UW.out.keep za2
          have zb2 := UW.out.keep zb2
          have c1 := UW.out.keep c1
          have c2 := UW.out.keep c2
          have c3 := UW.out.keep c3
          have pA := UW.out.keep pA
          have pB := UW.out.keep pB
          have SQ1 := Lib.hid (fun n => (IP.out e1 y1 (wB.drewN n) (UW.out.drewN _)).mono (R' := fun r w' => r = .returned (.bool (inPF R e1 y1 back)) ∧ ∃ m, w' = wB.drewN m) (fun r w' h => ⟨h.1, n, h.2.symm⟩))
          have SQ2 := Lib.hid (fun n => (IP.out e3 g3 (wB.drewN n) (UW.out.drewN _)).mono (R' := fun r w' => r = .returned (.bool (inPF R e3 g3 back)) ∧ ∃ m, w' = wB.drewN m) (fun r w' h => ⟨h.1, n, h.2.symm⟩))
          have HI9 := Lib.hid (fun (h : ¬ GG ⟨y1, lg, g3⟩) => show ∀ g ∈ B.eds.take (i + 1), ¬ GG g from fun g hgm => by
            rw [HTK.out] at hgm
            rcases List.mem_append.1 hgm with h1 | h1
            · exact HI.out g h1
            · simp at h1; subst h1; exact h)
          obtain ⟨BE, hBE⟩ : ∃ BE, BE = wo.heap.size := ⟨_, rfl⟩
          rw [← hBE] at t0 t1 t2
          go_upto_region 8 with (fail)
          rw [← hwB, ← hBE]
          clear hwB hBE p1 p2 p3 HU UB hg zb3 HI
          cases hS : S[y1] with
          | false =>
            have HI8 := Lib.hid (HI9.out (fun h => by have := HRX.out.2 (HGX.out.1 h).1; rw [hS] at this; cases this))
            rw [hS] at s1
            clear HI9 HGX HRX SQ1 SQ2
            go_quiet (fail)
            have HU9 := Lib.hid (HUB.out.drewN nq)
            clear HUB UW
            go_wp2_with fail
            go_roundw
            case rel => exact ⟨i + 1, by omega, by go_num, HI8, HU9⟩
            case measure => simp [intOf]; omega
          | true =>
            rw [hS] at s1
            cases hab : (sb == sa) with
            | false =>
              have hne : (sb != sa) = true := by simp [bne, hab]
              have HI8 := Lib.hid (HI9.out (fun h => by have := (HGX.out.1 h).2.1; rw [hab] at this; cases this))
              clear HI9 HGX HRX SQ1 SQ2
              go_quiet (fail)
              have HU9 := Lib.hid (HUB.out.drewN nq)
              clear HUB UW
              go_wp2_with fail
              go_roundw
              case rel => exact ⟨i + 1, by omega, by go_num, HI8, HU9⟩
              case measure => simp [intOf]; omega
            | true =>
              have hne : (sb != sa) = false := by simp [bne, hab]
              cases hi1 : inPF R e1 y1 back with
              | false =>
                have HI8 := Lib.hid (HI9.out (fun h => by have := (HGX.out.1 h).2.2.1; rw [hi1] at this; cases this))
                rw [hi1] at SQ1
                clear HI9 HGX HRX SQ2
                go_quiet ((go_at_call 97; first | exact SQ1.out _ | (simp only [drewN_add]; exact SQ1.out _)))
                have HU9 := Lib.hid (HUB.out.drewN nq)
                clear HUB UW
                go_wp2_with fail
                go_roundw
                case rel => exact ⟨i + 1, by omega, by go_num, HI8, HU9⟩
                case measure => simp [intOf]; omega
              | true =>
                rw [hi1] at SQ1
                cases hi2 : inPF R e3 g3 back with
                | false =>
                  have HI8 := Lib.hid (HI9.out (fun h => by have := (HGX.out.1 h).2.2.2; rw [hi2] at this; cases this))
                  rw [hi2] at SQ2
                  clear HI9 HGX HRX
                  go_quiet ((go_at_call 97; first | (with_reducible exact SQ1.out _) | (with_reducible exact SQ2.out _) | (exact SQ1.out _) | (exact SQ2.out _) | (simp only [drewN_add]; first | (exact SQ1.out _) | (exact SQ2.out _))))
                  have HU9 := Lib.hid (HUB.out.drewN nq)
                  clear HUB UW
                  go_wp2_with fail
                  go_roundw
                  case rel => exact ⟨i + 1, by omega, by go_num, HI8, HU9⟩
                  case measure => simp [intOf]; omega
                | true =>
                  have HE := Lib.hid (show Z = true from HZ2.out.2 ⟨_, HIN.out, HGX.out.2 ⟨HRX.out.1 hS, hab, hi1, hi2⟩⟩)
                  rw [hi2] at SQ2
                  clear HI9 HGX HRX
                  go_quiet ((go_at_call 97; first | (with_reducible exact SQ1.out _) | (with_reducible exact SQ2.out _) | (exact SQ1.out _) | (exact SQ2.out _) | (simp only [drewN_add]; first | (exact SQ1.out _) | (exact SQ2.out _))))
                  have HU9 := Lib.hid (UW.out.drewN nq)
                  clear HUB UW
                  go_wp2_with fail
                  go_ret
                  exact ⟨by rw [HE.out]; rfl, HU9.out⟩
        · obtain rfl : i = B.eds.length := by omega
          have HE := Lib.hid (show Z = false by
            rw [Bool.eq_false_iff]
            intro hz
            obtain ⟨g, hg, hgg⟩ := HZ2.out.1 hz
            exact HI.out g (by rw [List.take_length]; exact hg) hgg)
          clear HI
          go_wp2_with fail
          go_ret
          exact ⟨by rw [HE.out]; rfl, U3.out.trans HU.out⟩
  | false =>
    have HZ2 := Lib.hid (show Z = true ↔ ∃ g ∈ B.eds, GG g by
      rw [HZ.out]
      have : (le : Int) ≠ 0 := by simpa using hl0
      constructor
      · rintro (⟨h, -⟩ | h)
        · exact absurd h this
        · exact h
      · exact Or.inr)
    clear HZ
    go_wp2_with (first
      | (at_make; refine wpList_make_full _ rfl _ _ 45 rfl w.heap.size 2 i1 (.int .i64 0) 1 Tryz.underlying45 ki kz0 kz1 .i64 .i64 _ _ n rfl rfl rfl rfl hm2 (by unfold maxLen; omega) (Nat.le_refl _) ?_; intro w2 hrow hgrow; rw [made_one _ rfl] at hrow)
      | fail)
    obtain ⟨fz, hz⟩ := row_zeros hrow
    have U2 := Lib.hid ((Upd.refl [] w).grown hgrow (by simp))
    have T3 := Lib.hid (RE.out _ w2 fz U2.out hz)
    clear hrow hgrow hz RE
    refine T3.out.mono ?_
    rintro r w3 ⟨⟨bs, S, rfl, hbk, hge, hsl, hre⟩, hu3⟩
    have U3 := Lib.hid (U2.out.trans hu3)
    have HBK := Lib.hid hbk
    have HRE := Lib.hid hre
    have hSn : S.length = n := by have := HNN.out; omega
    clear T3 hu3 hbk hge hsl hre
    have zb3 := U3.out.keep ZB3.out
    go_wp2_with fail
    go_loopw [14] (fun iv wr => ∃ i : Nat, i ≤ B.eds.length ∧ iv = .int .i64 i ∧ Hid (∀ g ∈ B.eds.take i, ¬ GG g) ∧ Hid (Upd [] w3 wr)) (fun iv _ => B.eds.length - (intOf iv).toNat)
    case atStart => exact ⟨0, Nat.zero_le _, rfl, Lib.hid (fun g hg => by simp at hg), Lib.hid (Upd.refl _ _)⟩
    case round =>
      obtain ⟨wo, rfl⟩ : ∃ wo : World, wo = wr := ⟨_, rfl⟩
      obtain ⟨i, hi, rfl, HI, HU⟩ := hrel
      have zb3 := HU.out.keep (U3.out.keep ZB3.out)
      by_cases hlt : i < B.eds.length
      · obtain ⟨eb, eo, rfl, -, -, p1, p2, p3⟩ := HCE.out i hlt
        have p1 := HU.out.keep (U3.out.keep p1)
        have p2 := HU.out.keep (U3.out.keep p2)
        have p3 := HU.out.keep (U3.out.keep p3)
        have hg := List.getElem_mem hlt
        have hil : (i : Int) < (B.eds.length : Int) := by omega
        have hst2 : B.eds.take (i + 1) = B.eds.take i ++ [B.eds[i]] := List.take_succ_eq_append_getElem hlt
        have HTK := Lib.hid hst2
        have hbd := (HBD.out _ hg).1
        have hlg := hHL.out _ hg
        have HGX := Lib.hid (HGG.out B.eds[i])
        have HIN := Lib.hid hg
        generalize B.eds[i] = g at *
        obtain ⟨g1, g2, g3⟩ := g
        simp only at p1 p2 p3 hbd hlg HGX
        obtain ⟨y1, rfl⟩ : ∃ N : Nat, g1 = N := ⟨g1.toNat, by omega⟩
        obtain ⟨lg, rfl⟩ : ∃ N : Nat, g2 = N := ⟨g2.toNat, by omega⟩
        have hlg2 : lg < B.labs.length := by omega
        have hlgi : (lg : Int) < (B.labs.length : Int) := by omega
        have hy1i : (y1 : Int) < (S.length : Int) := by have := HNN.out; omega
        have d1 : y1 < S.length := by omega
        obtain ⟨bb, ob, rfl, -, -, pB⟩ := HCB.out lg hlg2
        have gB : B.labs.getD lg [] = B.labs[lg] := by rw [List.getD_eq_getElem?_getD, List.getElem?_eq_getElem hlg2]; rfl
        have gS : S.getD y1 false = S[y1] := by rw [List.getD_eq_getElem?_getD, List.getElem?_eq_getElem d1]; rfl
        have HRX := Lib.hid (HRE.out y1)
        rw [gS] at HRX
        simp only [Int.toNat_natCast, gB] at HGX
        clear gB gS hlg hbd hst2
        generalize B.labs[lg] = sb at *
        obtain ⟨wB, hwB⟩ : ∃ wB, wB = wo.alloc (.cells #[.int .i64 y1, .int .i64 lg, .int .i64 g3] 74) := ⟨_, rfl⟩
        have UB : Upd [] wo wB := by rw [hwB]; exact (Upd.refl _ _).alloc _
        have HUB := Lib.hid (HU.out.trans UB)
        have UW := Lib.hid (U3.out.trans HUB.out)
        have t0 : wB.cell? ⟨wo.heap.size, 0, none⟩ = some (ei y1) := by rw [hwB]; exact cell_new wo _ _ _ rfl 0 _ rfl
        have t1 : wB.cell? ⟨wo.heap.size, 1, none⟩ = some (ei lg) := by rw [hwB]; exact cell_new wo _ _ _ rfl 1 _ rfl
        have t2 : wB.cell? ⟨wo.heap.size, 2, none⟩ = some (ei g3) := by rw [hwB]; exact cell_new wo _ _ _ rfl 2 _ rfl
        have s1 := (HBK.out.upd HUB.out (by simp)).cell y1 d1
        obtain ⟨za2, zb2, -, c1, c2, c3, pA⟩ := HCELLS.out
        have za2 := UW.out.keep za2
        have zb2 := UW.out.keep zb2
        have c1 := UW.out.keep c1
        have c2 := UW.out.keep c2
        have c3 := UW.out.keep c3
        have pA := UW.out.keep pA
        have pB := UW.out.keep pB
        have SQ1 := Lib.hid (fun n => (IP.out e1 y1 (wB.drewN n) (UW.out.drewN _)).mono (R' := fun r w' => r = .returned (.bool (inPF R e1 y1 back)) ∧ ∃ m, w' = wB.drewN m) (fun r w' h => ⟨h.1, n, h.2.symm⟩))
        have SQ2 := Lib.hid (fun n => (IP.out e3 g3 (wB.drewN n) (UW.out.drewN _)).mono (R' := fun r w' => r = .returned (.bool (inPF R e3 g3 back)) ∧ ∃ m, w' = wB.drewN m) (fun r w' h => ⟨h.1, n, h.2.symm⟩))
        have HI9 := Lib.hid (fun (h : ¬ GG ⟨y1, lg, g3⟩) => show ∀ g ∈ B.eds.take (i + 1), ¬ GG g from fun g hgm => by
          rw [HTK.out] at hgm
          rcases List.mem_append.1 hgm with h1 | h1
          · exact HI.out g h1
          · simp at h1; subst h1; exact h)
        obtain ⟨BE, hBE⟩ : ∃ BE, BE = wo.heap.size := ⟨_, rfl⟩
        rw [← hBE] at t0 t1 t2
        go_upto_region 8 with (fail)
        rw [← hwB, ← hBE]
        clear hwB hBE p1 p2 p3 HU UB hg zb3 HI
        cases hS : S[y1] with
        | false =>
          have HI8 := Lib.hid (HI9.out (fun h => by have := HRX.out.2 (HGX.out.1 h).1; rw [hS] at this; cases this))
          rw [hS] at s1
          clear HI9 HGX HRX SQ1 SQ2
          go_quiet (fail)
          have HU9 := Lib.hid (HUB.out.drewN nq)
          clear HUB UW
          go_wp2_with fail
          go_roundw
          case rel => exact ⟨i + 1, by omega, by go_num, HI8, HU9⟩
          case measure => simp [intOf]; omega
        | true =>
          rw [hS] at s1
          cases hab : (sb == sa) with
          | false =>
            have hne : (sb != sa) = true := by simp [bne, hab]
            have HI8 := Lib.hid (HI9.out (fun h => by have := (HGX.out.1 h).2.1; rw [hab] at this; cases this))
            clear HI9 HGX HRX SQ1 SQ2
            go_quiet (fail)
            have HU9 := Lib.hid (HUB.out.drewN nq)
            clear HUB UW
            go_wp2_with fail
            go_roundw
            case rel => exact ⟨i + 1, by omega, by go_num, HI8, HU9⟩
            case measure => simp [intOf]; omega
          | true =>
            have hne : (sb != sa) = false := by simp [bne, hab]
            cases hi1 : inPF R e1 y1 back with
            | false =>
              have HI8 := Lib.hid (HI9.out (fun h => by have := (HGX.out.1 h).2.2.1; rw [hi1] at this; cases this))
              rw [hi1] at SQ1
              clear HI9 HGX HRX SQ2
              go_quiet ((go_at_call 97; first | exact SQ1.out _ | (simp only [drewN_add]; exact SQ1.out _)))
              have HU9 := Lib.hid (HUB.out.drewN nq)
              clear HUB UW
              go_wp2_with fail
              go_roundw
              case rel => exact ⟨i + 1, by omega, by go_num, HI8, HU9⟩
              case measure => simp [intOf]; omega
            | true =>
              rw [hi1] at SQ1
              cases hi2 : inPF R e3 g3 back with
              | false =>
                have HI8 := Lib.hid (HI9.out (fun h => by have := (HGX.out.1 h).2.2.2; rw [hi2] at this; cases this))
                rw [hi2] at SQ2
                clear HI9 HGX HRX
                go_quiet ((go_at_call 97; first | (with_reducible exact SQ1.out _) | (with_reducible exact SQ2.out _) | (exact SQ1.out _) | (exact SQ2.out _) | (simp only [drewN_add]; first | (exact SQ1.out _) | (exact SQ2.out _))))
                have HU9 := Lib.hid (HUB.out.drewN nq)
                clear HUB UW
                go_wp2_with fail
                go_roundw
                case rel => exact ⟨i + 1, by omega, by go_num, HI8, HU9⟩
                case measure => simp [intOf]; omega
              | true =>
                have HE := Lib.hid (show Z = true from HZ2.out.2 ⟨_, HIN.out, HGX.out.2 ⟨HRX.out.1 hS, hab, hi1, hi2⟩⟩)
                rw [hi2] at SQ2
                clear HI9 HGX HRX
                go_quiet ((go_at_call 97; first | (with_reducible exact SQ1.out _) | (with_reducible exact SQ2.out _) | (exact SQ1.out _) | (exact SQ2.out _) | (simp only [drewN_add]; first | (exact SQ1.out _) | (exact SQ2.out _))))
                have HU9 := Lib.hid (UW.out.drewN nq)
                clear HUB UW
                go_wp2_with fail
                go_ret
                exact ⟨by rw [HE.out]; rfl, HU9.out⟩
      · obtain rfl : i = B.eds.length := by omega
        have HE := Lib.hid (show Z = false by
          rw [Bool.eq_false_iff]
          intro hz
          obtain ⟨g, hg, hgg⟩ := HZ2.out.1 hz
          exact HI.out g (by rw [List.take_length]; exact hg) hgg)
        clear HI
        go_wp2_with fail
        go_ret
        exact ⟨by rw [HE.out]; rfl, U3.out.trans HU.out⟩

end Go.Proofs.YtcnaapiljmgfoaaGreatDoor

/-
  IsBranchingOf: what the reference's call returns.
-/
namespace Go.Proofs.YtcnaapiljmgfoaaGreatDoor
open Go.RowKit

/-- the edges of one side of all pairs are met. -/
noncomputable def holdB (A B : Sys) (R : List (List Int)) (back : Bool) : Bool :=
  R.all fun p => (outF A.eds (if back then p.getD 1 0 else p.getD 0 0)).all fun e => metB A B R back e (if back then p.getD 0 0 else p.getD 1 0)

set_option maxRecDepth 20000 in
set_option maxHeartbeats 16000000 in
theorem holdBS (A B : Sys) (Ta Tb : Nat) (a1 a2 b1 b2 v : Value) (R : List (List Int)) (back : Bool) (w : World) (f1 f2 f3 f4 fr : List Nat)
    (za2 : w.cell? ⟨Ta, 2, none⟩ = some a1) (za3 : w.cell? ⟨Ta, 3, none⟩ = some a2) (zb0 : w.cell? ⟨Tb, 0, none⟩ = some (ei B.st)) (zb2 : w.cell? ⟨Tb, 2, none⟩ = some b1) (zb3 : w.cell? ⟨Tb, 3, none⟩ = some b2)
    (hA1 : RS f1 w [a1] A.labs) (hA2 : R_E1 f2 w [a2] A.eds) (hB1 : RS f3 w [b1] B.labs) (hB2 : R_E1 f4 w [b2] B.eds) (hR : R_N2 fr w [v] R) (hR2 : ∀ p ∈ R, p.length = 2) (hokA : sysOk A = true) (hokB : sysOk B = true)
    (hbd : ∀ p ∈ R, 0 ≤ (if back then p.getD 0 0 else p.getD 1 0) ∧ (if back then p.getD 0 0 else p.getD 1 0) < B.st) :
    Calls Tryz.prog 39 #[.pointer (some ⟨Ta, 0, none⟩), .pointer (some ⟨Tb, 0, none⟩), v, .bool back] w fun r w' => r = .returned (.bool (holdB A B R back)) ∧ Upd [] w w' := by
  obtain ⟨-, -, -, hAl, -, -⟩ := sys_parts hokA
  have OUT := Lib.hid (fun (x : Int) W (hu : Upd [] w W) => outES Ta a2 A.eds x W f2 (hu.keep za3) (R_E1k.upd hA2 hu (by simp)) (by omega))
  have MET := Lib.hid (fun (e : Ed) (he : 0 ≤ e.lb ∧ e.lb < A.labs.length) (p o : Nat) (y : Int) (hy : 0 ≤ y ∧ y < B.st) W (hu : Upd [] w W) c1 c2 c3 => metBS A B Ta Tb a1 b1 b2 v R e p o y back W f1 f3 f4 fr (hu.keep za2) (hu.keep zb0) (hu.keep zb2) (hu.keep zb3) (RSk.upd hA1 hu (by simp)) (RSk.upd hB1 hu (by simp)) (R_E1k.upd hB2 hu (by simp)) (R_N2k.upd hR hu (by simp)) hR2 hokB c1 c2 c3 he hy.1 hy.2)
  have HLA := Lib.hid (sys_labs hokA)
  have HBD := Lib.hid hbd
  have H2 := Lib.hid hR2
  have HC := Lib.hid (fun i (hi : i < R.length) => And.intro (mat_cell hR i 0 hi (by have := H2.out R[i] (List.getElem_mem hi); omega)) (mat_cell hR i 1 hi (by have := H2.out R[i] (List.getElem_mem hi); omega)))
  obtain ⟨av, cap, rfl, l1, l2, -⟩ := slP_open hR
  unfold maxLen at l2
  have HH := Lib.hid (show holdB A B R back = (R.drop 0).all fun p => (outF A.eds (if back then p.getD 1 0 else p.getD 0 0)).all fun e => metB A B R back e (if back then p.getD 0 0 else p.getD 1 0) from rfl)
  clear za2 za3 zb0 zb2 zb3 hA1 hA2 hB1 hB2 hR hR2 hokA hokB hbd
  generalize holdB A B R back = Z at *
  go_enter Tryz.func39, Tryz.ntmps39
  go_wp2_with fail
  go_loopw [9] (fun iv wr => ∃ k : Nat, k ≤ R.length ∧ iv = .int .i64 k ∧ Hid (((R.drop k).all fun p => (outF A.eds (if back then p.getD 1 0 else p.getD 0 0)).all fun e => metB A B R back e (if back then p.getD 0 0 else p.getD 1 0)) = Z) ∧ Hid (Upd [] w wr)) (fun iv _ => R.length - (intOf iv).toNat)
  case atStart => exact ⟨0, Nat.zero_le _, rfl, Lib.hid HH.out.symm, Lib.hid (Upd.refl _ _)⟩
  case round =>
    clear HH
    obtain ⟨wo, rfl⟩ : ∃ wo : World, wo = wr := ⟨_, rfl⟩
    obtain ⟨k, hk, rfl, HA, HU⟩ := hrel
    by_cases hlt : k < R.length
    · obtain ⟨⟨cp, bR, oR, b2', o2, c2, hv, -, -, -, p1, g1, g2, -, p2, -, -⟩, ⟨cp', b', o', b2'', o2', c2', hv', -, -, -, p1', -, -, -, p3, -, -⟩⟩ := HC.out k hlt
      cases hv
      cases hv'
      rw [p1] at p1'
      simp only [Option.some.injEq, Value.slice.injEq, Addr.mk.injEq, and_true] at p1'
      obtain ⟨⟨rfl, rfl⟩, -, rfl⟩ := p1'
      have hl2 := H2.out R[k] (List.getElem_mem hlt)
      have hS := HA.out
      have hB := HBD.out R[k] (List.getElem_mem hlt)
      rw [List.drop_eq_getElem_cons hlt, List.all_cons] at hS
      have e0 : R[k].getD 0 0 = R[k][0] := by rw [List.getD_eq_getElem?_getD, List.getElem?_eq_getElem (by omega)]; rfl
      have e1 : R[k].getD 1 0 = R[k][1] := by rw [List.getD_eq_getElem?_getD, List.getElem?_eq_getElem (by omega)]; rfl
      rw [e0, e1] at hS hB
      rw [hl2] at p1
      rw [Nat.add_zero] at p2
      have HS := Lib.hid hS
      unfold maxLen at g2
      have q0 := HU.out.keep p1
      have q1 := HU.out.keep p2
      have q2 := HU.out.keep p3
      clear hS HA g1 e0 e1 p1 p2 p3
      generalize R[k][0] = P0 at *
      generalize R[k][1] = P1 at *
      have hkl : (k : Int) < (R.length : Int) := by omega
      cases back with
      | false =>
        have hB1 : 0 ≤ P1 ∧ P1 < B.st := by simpa using hB
        have HS1 := Lib.hid (show ((outF A.eds P0).all (fun e => metB A B R false e P1) && (R.drop (k + 1)).all fun p => (outF A.eds (if false then p.getD 1 0 else p.getD 0 0)).all fun e => metB A B R false e (if false then p.getD 0 0 else p.getD 1 0)) = Z from by simpa using HS.out)
        have T1 := Lib.hid (OUT.out P0 wo HU.out)
        have HOA := Lib.hid (fun e (h : e ∈ outF A.eds P0) => HLA.out e (outF_mem h))
        have HM0 := Lib.hid (show (outF A.eds P0).all (fun e => metB A B R false e P1) = ((outF A.eds P0).drop 0).all (fun e => metB A B R false e P1) from rfl)
        generalize (outF A.eds P0).all (fun e => metB A B R false e P1) = M at *
        generalize outF A.eds P0 = OA at *
        clear HS hB OUT
        go_wp2_with fail
        refine T1.out.mono ?_
        rintro r w1 ⟨⟨vl, rfl, fl, rl, -, -⟩, hu1⟩
        obtain ⟨lb1, cl, rfl, ll1, ll2, hcl⟩ := slF3_open rl
        unfold maxLen at ll2
        have HCL := Lib.hid hcl
        have U1 := Lib.hid (HU.out.trans hu1)
        clear T1 hu1 rl hcl HU
        go_wp2_with fail
        go_loopw [13] (fun jv wr => ∃ j : Nat, j ≤ OA.length ∧ jv = .int .i64 j ∧ Hid ((OA.drop j).all (fun e => metB A B R false e P1) = M) ∧ Hid (Upd [] w1 wr)) (fun jv _ => OA.length - (intOf jv).toNat)
        case atStart => exact ⟨0, Nat.zero_le _, rfl, Lib.hid HM0.out.symm, Lib.hid (Upd.refl _ _)⟩
        case round =>
          clear HM0
          obtain ⟨wi, rfl⟩ : ∃ wi : World, wi = wr := ⟨_, rfl⟩
          obtain ⟨j, hj, rfl, HM, HV⟩ := hrel
          by_cases hjl : j < OA.length
          · obtain ⟨bl, ol, rfl, -, -, p1, p2, p3⟩ := HCL.out j hjl
            have p1 := HV.out.keep p1
            have p2 := HV.out.keep p2
            have p3 := HV.out.keep p3
            have hlab := HOA.out OA[j] (List.getElem_mem hjl)
            have hji : (j : Int) < (OA.length : Int) := by omega
            have hM := HM.out
            rw [List.drop_eq_getElem_cons hjl, List.all_cons] at hM
            have HMM := Lib.hid hM
            have T2 := Lib.hid (MET.out OA[j] hlab bl (ol + j * 3) P1 hB1 wi (U1.out.trans HV.out) p1 p2 p3)
            clear hM HM p1 p2 p3
            generalize metB A B R false OA[j] P1 = mb at *
            go_wp2_with fail
            refine T2.out.mono ?_
            rintro r w2 ⟨rfl, hu2⟩
            have HV2 := Lib.hid (HV.out.trans hu2)
            clear T2 hu2 HV
            cases mb with
            | false =>
              have HE := Lib.hid (show Z = false by rw [← HS1.out, ← HMM.out]; rfl)
              clear HMM HS1
              go_wp2_with fail
              go_ret
              exact ⟨by rw [HE.out]; rfl, U1.out.trans HV2.out⟩
            | true =>
              have HM9 := Lib.hid (show (OA.drop (j + 1)).all (fun e => metB A B R false e P1) = M by rw [← HMM.out]; rfl)
              clear HMM
              go_wp2_with fail
              go_roundw
              case rel => exact ⟨j + 1, by omega, by go_num, HM9, HV2⟩
              case measure => simp [intOf]; omega
          · obtain rfl : j = OA.length := by omega
            have HMt := Lib.hid (show M = true by rw [← HM.out, List.drop_length]; rfl)
            have HS9 := Lib.hid (show ((R.drop (k + 1)).all fun p => (outF A.eds (if false then p.getD 1 0 else p.getD 0 0)).all fun e => metB A B R false e (if false then p.getD 0 0 else p.getD 1 0)) = Z by rw [← HS1.out, HMt.out]; rfl)
            have HU9 := Lib.hid (U1.out.trans HV.out)
            clear HM HS1
            go_wp2_with fail
            go_roundw
            case rel => exact ⟨k + 1, by omega, by go_num, HS9, HU9⟩
            case measure => simp [intOf]; omega
      | true =>
        have hB1 : 0 ≤ P0 ∧ P0 < B.st := by simpa using hB
        have HS1 := Lib.hid (show ((outF A.eds P1).all (fun e => metB A B R true e P0) && (R.drop (k + 1)).all fun p => (outF A.eds (if true then p.getD 1 0 else p.getD 0 0)).all fun e => metB A B R true e (if true then p.getD 0 0 else p.getD 1 0)) = Z from by simpa using HS.out)
        have T1 := Lib.hid (OUT.out P1 wo HU.out)
        have HOA := Lib.hid (fun e (h : e ∈ outF A.eds P1) => HLA.out e (outF_mem h))
        have HM0 := Lib.hid (show (outF A.eds P1).all (fun e => metB A B R true e P0) = ((outF A.eds P1).drop 0).all (fun e => metB A B R true e P0) from rfl)
        generalize (outF A.eds P1).all (fun e => metB A B R true e P0) = M at *
        generalize outF A.eds P1 = OA at *
        clear HS hB OUT
        go_wp2_with fail
        refine T1.out.mono ?_
        rintro r w1 ⟨⟨vl, rfl, fl, rl, -, -⟩, hu1⟩
        obtain ⟨lb1, cl, rfl, ll1, ll2, hcl⟩ := slF3_open rl
        unfold maxLen at ll2
        have HCL := Lib.hid hcl
        have U1 := Lib.hid (HU.out.trans hu1)
        clear T1 hu1 rl hcl HU
        go_wp2_with fail
        go_loopw [13] (fun jv wr => ∃ j : Nat, j ≤ OA.length ∧ jv = .int .i64 j ∧ Hid ((OA.drop j).all (fun e => metB A B R true e P0) = M) ∧ Hid (Upd [] w1 wr)) (fun jv _ => OA.length - (intOf jv).toNat)
        case atStart => exact ⟨0, Nat.zero_le _, rfl, Lib.hid HM0.out.symm, Lib.hid (Upd.refl _ _)⟩
        case round =>
          clear HM0
          obtain ⟨wi, rfl⟩ : ∃ wi : World, wi = wr := ⟨_, rfl⟩
          obtain ⟨j, hj, rfl, HM, HV⟩ := hrel
          by_cases hjl : j < OA.length
          · obtain ⟨bl, ol, rfl, -, -, p1, p2, p3⟩ := HCL.out j hjl
            have p1 := HV.out.keep p1
            have p2 := HV.out.keep p2
            have p3 := HV.out.keep p3
            have hlab := HOA.out OA[j] (List.getElem_mem hjl)
            have hji : (j : Int) < (OA.length : Int) := by omega
            have hM := HM.out
            rw [List.drop_eq_getElem_cons hjl, List.all_cons] at hM
            have HMM := Lib.hid hM
            have T2 := Lib.hid (MET.out OA[j] hlab bl (ol + j * 3) P0 hB1 wi (U1.out.trans HV.out) p1 p2 p3)
            clear hM HM p1 p2 p3
            generalize metB A B R true OA[j] P0 = mb at *
            go_wp2_with fail
            refine T2.out.mono ?_
            rintro r w2 ⟨rfl, hu2⟩
            have HV2 := Lib.hid (HV.out.trans hu2)
            clear T2 hu2 HV
            cases mb with
            | false =>
              have HE := Lib.hid (show Z = false by rw [← HS1.out, ← HMM.out]; rfl)
              clear HMM HS1
              go_wp2_with fail
              go_ret
              exact ⟨by rw [HE.out]; rfl, U1.out.trans HV2.out⟩
            | true =>
              have HM9 := Lib.hid (show (OA.drop (j + 1)).all (fun e => metB A B R true e P0) = M by rw [← HMM.out]; rfl)
              clear HMM
              go_wp2_with fail
              go_roundw
              case rel => exact ⟨j + 1, by omega, by go_num, HM9, HV2⟩
              case measure => simp [intOf]; omega
          · obtain rfl : j = OA.length := by omega
            have HMt := Lib.hid (show M = true by rw [← HM.out, List.drop_length]; rfl)
            have HS9 := Lib.hid (show ((R.drop (k + 1)).all fun p => (outF A.eds (if true then p.getD 1 0 else p.getD 0 0)).all fun e => metB A B R true e (if true then p.getD 0 0 else p.getD 1 0)) = Z by rw [← HS1.out, HMt.out]; rfl)
            have HU9 := Lib.hid (U1.out.trans HV.out)
            clear HM HS1
            go_wp2_with fail
            go_roundw
            case rel => exact ⟨k + 1, by omega, by go_num, HS9, HU9⟩
            case measure => simp [intOf]; omega
    · obtain rfl : k = R.length := by omega
      have HE := Lib.hid (show Z = true by rw [← HA.out, List.drop_length]; rfl)
      clear HA
      go_wp2_with fail
      go_ret
      exact ⟨by rw [HE.out]; rfl, HU.out⟩

end Go.Proofs.YtcnaapiljmgfoaaGreatDoor

/-
  Numbering by first occurrence: plainly, and the program's walk with a map.
-/
namespace Go.Proofs.YtcnaapiljmgfoaaGreatDoor
open Go.RowKit Go.Maps

def seen (xs : List Int) : List Int := xs.foldl (fun s x => if x ∈ s then s else s ++ [x]) []
def normL (xs : List Int) : List Int := xs.map (fun x => ((seen xs).idxOf x : Int))

theorem seen_snoc (xs : List Int) (x : Int) : seen (xs ++ [x]) = if x ∈ seen xs then seen xs else seen xs ++ [x] := by
  unfold seen; rw [List.foldl_append]; rfl
theorem seen_take (xs : List Int) (k : Nat) (h : k < xs.length) : seen (xs.take (k + 1)) = if xs[k] ∈ seen (xs.take k) then seen (xs.take k) else seen (xs.take k) ++ [xs[k]] := by
  rw [List.take_succ_eq_append_getElem h, seen_snoc]
theorem foldl_prefix : ∀ (xs s : List Int), s <+: xs.foldl (fun s x => if x ∈ s then s else s ++ [x]) s
  | [], s => List.prefix_refl _
  | x :: xs, s => by
    rw [List.foldl_cons]
    refine List.IsPrefix.trans ?_ (foldl_prefix xs _)
    split
    · exact List.prefix_refl _
    · exact List.prefix_append _ _
theorem seen_prefix (xs : List Int) (k : Nat) : seen (xs.take k) <+: seen xs := by
  conv => rhs; rw [← List.take_append_drop k xs]
  unfold seen
  rw [List.foldl_append]
  exact foldl_prefix _ _
theorem mem_seen : ∀ (xs : List Int) (x : Int), x ∈ seen xs ↔ x ∈ xs := by
  have key : ∀ (xs s : List Int) (x : Int), x ∈ xs.foldl (fun s x => if x ∈ s then s else s ++ [x]) s ↔ x ∈ s ∨ x ∈ xs := by
    intro xs
    induction xs with
    | nil => simp
    | cons y ys ih =>
      intro s x
      rw [List.foldl_cons, ih]
      split
      · rename_i h
        constructor
        · rintro (h1 | h1)
          · exact Or.inl h1
          · exact Or.inr (List.mem_cons_of_mem _ h1)
        · rintro (h1 | h1)
          · exact Or.inl h1
          · rcases List.mem_cons.1 h1 with rfl | h1
            · exact Or.inl h
            · exact Or.inr h1
      · simp only [List.mem_append, List.mem_cons, List.not_mem_nil, or_false, or_assoc]
  intro xs x
  simpa [seen] using key xs [] x
theorem idx_new {S s : List Int} {x : Int} (h : s ++ [x] <+: S) (hx : x ∉ s) : S.idxOf x = s.length := by
  obtain ⟨r, rfl⟩ := h
  rw [List.append_assoc, List.idxOf_append, if_neg hx]
  simp
theorem seen_len (xs : List Int) : (seen xs).length ≤ xs.length := by
  have key : ∀ (xs s : List Int), (xs.foldl (fun s x => if x ∈ s then s else s ++ [x]) s).length ≤ s.length + xs.length := by
    intro xs
    induction xs with
    | nil => simp
    | cons y ys ih =>
      intro s
      rw [List.foldl_cons]
      by_cases h : y ∈ s
      · rw [if_pos h]; have := ih s; simp; omega
      · rw [if_neg h]; have := ih (s ++ [y]); simp at this ⊢; omega
  simpa [seen] using key xs []

theorem keyI : Keyed Tryz.prog 2 := int_keyed Tryz.underlying2
theorem zeroI64 (w : World) : (zeroValue 2).run Tryz.prog w = .ok (.int .i64 0) w := by kernel_rfl

/-- what a map of numbers reads as, behind k elements. -/
def NMap (S s : List Int) (D : DataW Unit) : Prop := Maps.Tidy D ∧ Maps.size D = s.length ∧ (∀ n : Int, Maps.has D (.int .i64 n) = decide (n ∈ s)) ∧ ∀ n ∈ s, D.atKey (.int .i64 n) (.lit (.int .i64 0)) = .lit (.int .i64 (S.idxOf n))

theorem NMap.put {S s : List Int} {D : DataW Unit} (h : NMap S s D) {x : Int} (hw : (Lit.int .i64 x).wf = true) (hx : x ∉ s) (hp : s ++ [x] <+: S) : NMap S (s ++ [x]) (D.put (.int .i64 x) (.lit (.int .i64 (s.length : Int)))) := by
  obtain ⟨h1, h2, h3, h4⟩ := h
  have hk : WideAt.IsKeyLit (.int .i64 x) := keyI.key (keyOf_int_mk Tryz.underlying2 hw)
  have hxi := idx_new hp hx
  refine ⟨h1.put hk _, ?_, ?_, ?_⟩
  · rw [size_put h1, h3 x, if_neg (by simpa using hx), h2, List.length_append]; rfl
  · intro n
    by_cases hn : n = x
    · subst hn; rw [has_put_same h1.isMap hk]; simp
    · rw [has_put_other (by intro e; injection e with _ e2; exact hn e2), h3 n]; simp [hn]
  · intro n hn
    by_cases hnx : n = x
    · subst hnx; rw [atKey_put_same h1.isMap hk, hxi]
    · rw [atKey_put_other (by intro e; injection e with _ e2; exact hnx e2)]
      exact h4 n (by simpa [hnx] using hn)

theorem ownsMap_upd {H : Type} {P : Program} {w w' : World} {f : List Nat} {k : TypeId} {R : Value → Option (DataW H × List MemPlace)} {b n : Nat} {D : DataW H} (h : w.ownsMap P k R b n D) (hu : Upd f w w') (hb : b ∉ f) : w'.ownsMap P k R b n D := by
  obtain ⟨es, clock, h1, h2, h3, h4⟩ := h
  exact ⟨es, clock, (hu.block b (Array.getElem?_eq_some_iff.1 h1).1 hb).trans h1, h2, h3, h4⟩

theorem norm_set (xs : List Int) (k : Nat) (hk : k < xs.length) : ((normL xs).take k ++ List.replicate (xs.length - k) 0).set k ((seen xs).idxOf xs[k] : Int) = (normL xs).take (k + 1) ++ List.replicate (xs.length - (k + 1)) 0 := by
  have hl : ((normL xs).take k).length = k := by simp [normL]; omega
  rw [List.set_append_right _ _ (by omega), hl, Nat.sub_self, show xs.length - k = (xs.length - (k + 1)) + 1 from by omega, List.replicate_succ, List.set_cons_zero, List.take_succ_eq_append_getElem (by simp [normL]; omega)]
  simp [normL]

end Go.Proofs.YtcnaapiljmgfoaaGreatDoor

/-
  Maps whose keys are pairs of numbers: the program's set of pairs.
-/
namespace Go.Proofs.YtcnaapiljmgfoaaGreatDoor
open Go.RowKit Go.Maps

theorem laidOutP : laidOutB Tryz.prog = true := by kernel_rfl
theorem rowP : (108 : TypeId) < Tryz.prog.types.size := of_decide_eq_true (by kernel_rfl)
theorem wideP : (match Tryz.prog.underlying 108 with | some (.array _ _) | some (.struct _) => true | _ => false) = true := by rw [Tryz.underlying108]
set_option maxRecDepth 20000 in
theorem lawP : WideMaps.KeyLaw Tryz.prog 108 := deep_law_laid laidOutP (m := 2) (by omega) rowP (by kernel_rfl) wideP
theorem keyP : Keyed Tryz.prog 108 := Keyed.of_law lawP
def In64 (a : Int) : Prop := (Lit.int .i64 a).wf = true
theorem in64_of {a : Int} (h : 0 ≤ a ∧ a ≤ 2000000) : In64 a := by
  obtain ⟨h1, h2⟩ := h
  unfold In64 Lit.wf
  simp only [IntKind.min, IntKind.max, IntKind.signed, IntKind.bits, decide_eq_true_eq, Bool.and_eq_true]
  omega
def klP (a b : Int) : Lit := .string (keyBytes [.int .i64 a, .int .i64 b])
theorem keyOfP {a b : Int} (ha : In64 a) (hb : In64 b) : keyOf Tryz.prog 108 (.agg #[ei a, ei b]) = some (klP a b) := by
  have h1 : Tryz.prog.keyType 108 = true := by kernel_rfl
  have h2 : Tryz.prog.cellsOf 108 = 2 := by kernel_rfl
  have h3 : Tryz.prog.cellsOf 2 = 1 := by kernel_rfl
  obtain ⟨m, hm⟩ : ∃ m, Tryz.prog.types.size = m + 1 := ⟨Tryz.prog.types.size - 1, by have h9 : 108 < Tryz.prog.types.size := rowP; omega⟩
  have e1 : ∀ c, In64 c → Tryz.prog.keyLits (m + 1) 2 [ei c] = some [.int .i64 c] := by
    intro c hc
    unfold Program.keyLits
    rw [Tryz.underlying2]
    unfold In64 at hc
    simp [hc]
  have e2 : Tryz.prog.keyLits (m + 1 + 1) 108 [ei a, ei b] = some [.int .i64 a, .int .i64 b] := by
    unfold Program.keyLits
    rw [Tryz.underlying108]
    simp only [h2, h3, List.length_cons, List.length_nil]
    rw [if_pos trivial, show List.range 2 = [0, 1] from rfl]
    simp [List.mapM_cons, e1 a ha, e1 b hb]
  unfold keyOf
  rw [Tryz.underlying108]
  simp only [h1, Value.formed, Tryz.underlying108, h2, hm, Value.cells]
  simp [e2, klP]
theorem klP_inj {a b c d : Int} (ha : In64 a) (hb : In64 b) (hc : In64 c) (hd : In64 d) (h : klP a b = klP c d) : a = c ∧ b = d := by
  have h1 := keyP.inj (keyOfP ha hb) (h ▸ keyOfP hc hd)
  simp [ei] at h1
  exact h1
theorem klP_key {a b : Int} (ha : In64 a) (hb : In64 b) : WideAt.IsKeyLit (klP a b) := keyP.key (keyOfP ha hb)
set_option maxRecDepth 20000 in
/-- a key that is read is a pair. -/
theorem keyOfP_inv {key : Value} {kl : Lit} (h : keyOf Tryz.prog 108 key = some kl) : ∃ x : Int × Int, key = .agg #[ei x.1, ei x.2] ∧ In64 x.1 ∧ In64 x.2 ∧ kl = klP x.1 x.2 := by
  have h0 := h
  have h2 : Tryz.prog.cellsOf 108 = 2 := by kernel_rfl
  have h3 : Tryz.prog.cellsOf 2 = 1 := by kernel_rfl
  obtain ⟨m, hm⟩ : ∃ m, Tryz.prog.types.size = m + 1 := ⟨Tryz.prog.types.size - 1, by have h9 : 108 < Tryz.prog.types.size := rowP; omega⟩
  have e1 : ∀ v ls, Tryz.prog.keyLits (m + 1) 2 [v] = some ls → ∃ c, v = ei c ∧ In64 c := by
    intro v ls hv
    unfold Program.keyLits at hv
    rw [Tryz.underlying2] at hv
    cases v <;> simp at hv
    exact ⟨_, by rw [ei, hv.1.1], hv.1.2⟩
  unfold keyOf at h
  rw [Tryz.underlying108] at h
  simp only [hm] at h
  split at h
  · rename_i hf
    simp only [Bool.and_eq_true] at hf
    cases key <;> simp only [Value.formed, Tryz.underlying108, Bool.false_eq_true, and_false] at hf
    rename_i cs
    rw [h2, beq_iff_eq] at hf
    obtain ⟨l, rfl⟩ : ∃ l : List Value, cs = l.toArray := ⟨cs.toList, by simp⟩
    match l, hf.2 with
    | [u, v], _ =>
      simp only [Value.cells, Option.map_eq_some_iff] at h
      obtain ⟨ls, h, rfl⟩ := h
      unfold Program.keyLits at h
      rw [Tryz.underlying108] at h
      simp only [h2, h3, List.length_cons, List.length_nil] at h
      rw [if_pos trivial, show List.range 2 = [0, 1] from rfl] at h
      simp [List.mapM_cons] at h
      cases hu : Tryz.prog.keyLits (m + 1) 2 [u] with
      | none => rw [hu] at h; exact absurd h (by simp)
      | some l1 =>
        cases hv : Tryz.prog.keyLits (m + 1) 2 [v] with
        | none => rw [hu, hv] at h; exact absurd h (by simp)
        | some l2 =>
          obtain ⟨a, rfl, ha⟩ := e1 u l1 hu
          obtain ⟨b, rfl, hb⟩ := e1 v l2 hv
          rw [keyOfP ha hb] at h0
          exact ⟨(a, b), rfl, ha, hb, (Option.some.inj h0).symm⟩
  · exact absurd h (by simp)

/-- a map of pairs that are there. -/
def PMap (S : List (Int × Int)) (D : DataW Unit) : Prop := Maps.Tidy D ∧ (∀ a b : Int, In64 a → In64 b → Maps.has D (klP a b) = decide ((a, b) ∈ S)) ∧ ∀ a b : Int, In64 a → In64 b → D.atKey (klP a b) (.lit (.bool false)) = .lit (.bool (decide ((a, b) ∈ S)))
theorem PMap.empty : PMap [] (.map []) := ⟨tidy_empty, fun a b _ _ => by simp [Maps.has], fun a b _ _ => by simp [atKey_of_not_has (D := (.map [] : DataW Unit)) (by simp [Maps.has])]⟩
theorem PMap.put {S : List (Int × Int)} {D : DataW Unit} (h : PMap S D) {x y : Int} (hx : In64 x) (hy : In64 y) : PMap (S ++ [(x, y)]) (D.put (klP x y) (.lit (.bool true))) := by
  obtain ⟨h1, h2, h3⟩ := h
  have hk := klP_key hx hy
  refine ⟨h1.put hk _, ?_, ?_⟩
  · intro a b ha hb
    by_cases he : klP a b = klP x y
    · obtain ⟨rfl, rfl⟩ := klP_inj ha hb hx hy he
      rw [has_put_same h1.isMap hk]; simp
    · rw [has_put_other he, h2 a b ha hb]
      have hne : (a, b) ≠ (x, y) := fun e => he (by cases e; rfl)
      simp [hne]
  · intro a b ha hb
    by_cases he : klP a b = klP x y
    · obtain ⟨rfl, rfl⟩ := klP_inj ha hb hx hy he
      rw [atKey_put_same h1.isMap hk]; simp
    · rw [atKey_put_other he, h3 a b ha hb]
      have hne : (a, b) ≠ (x, y) := fun e => he (by cases e; rfl)
      simp [hne]

theorem plainElem_bool_inv {H : Type} {P : Program} {e : TypeId} (he : P.underlying e = some .bool) {v : Value} {z : DataW H × List MemPlace} (h : plainElem P e v = some z) : ∃ x, v = .bool x ∧ z = (.lit (.bool x), []) := by
  unfold plainElem at h
  rw [he] at h
  cases v <;> simp at h
  exact ⟨_, rfl, h.symm⟩
noncomputable abbrev ElB : Value → Option (DataW Unit × List MemPlace) := plainElem (H := Unit) Tryz.prog 4
/-- a look-up in a set of pairs. -/
theorem run_pairs {w : World} {b n : Nat} {S : List (Int × Int)} {D : DataW Unit} (h : w.ownsMap Tryz.prog 108 ElB b n D) (hp : PMap S D) {x y : Int} (hx : In64 x) (hy : In64 y) :
    (Instr.lookup 105 (.map (some b)) (.agg #[.int .i64 x, .int .i64 y]) false).run Tryz.prog w = .ok (.bool (decide ((x, y) ∈ S))) w := by
  obtain ⟨v, ps, h1, h2⟩ := h.lookup keyP Tryz.underlying105 (z := .bool false) (by kernel_rfl) (plainElem_bool Tryz.underlying4 false) (keyOfP hx hy)
  rw [hp.2.2 x y hx hy] at h2
  obtain ⟨c, rfl, h3⟩ := plainElem_bool_inv Tryz.underlying4 h2
  simp only [Prod.mk.injEq, DataW.lit.injEq, Lit.bool.injEq] at h3
  rw [h3.1]
  exact h1

/-- 'm[k] = v' at a step of a region that draws. -/
theorem step_mapUpdate {H : Type} {P : Program} {ops : Array Oper} {o : Oper} {a : Act} {w : World} {K : Act → World → Prop} {Q : Exit → Act → World → Prop} {E : Prop} (hgd : o.guard = none) (m x v : Operand) (t : TypeId) (hop : o.op = Op.mapUpdate t m x v)
    (k e : TypeId) (KY : Keyed P k) (ht : P.underlying t = some (.map k e)) (R : Value → Option (DataW H × List MemPlace)) (b n : Nat) (D : DataW H)
    (hm : a.eval m = .map (some b)) (hown : w.ownsMap P k R b n D) (hn : n < maxLen) (key val : Value) (kl : Lit) (hx : a.eval x = key) (hv : a.eval v = val) (hkey : keyOf P k key = some kl)
    (d : DataW H) (ps : List MemPlace) (hval : R val = some (d, ps))
    (h : ∀ w', w'.ownsMap P k R b (n + 1) (D.put kl d) → w.grownBy w' (some b) → K (a.put o.dst undef) w') :
    if Region.wanted o (yielded ops a.tmps) = true then Oper.wp P o a w K Q else E := by
  have hw : Region.wanted o (yielded ops a.tmps) = true := by simp [Region.wanted, hgd]
  rw [if_pos hw]
  obtain ⟨w', hrun, r1, r2⟩ := hown.update KY ht hn hkey hval
  unfold Oper.wp
  simp [execOp, hop, hm, hx, hv, hrun, Result.andThen]
  exact h w' r1 r2

/-- a step of a range over a set of pairs. -/
theorem wpList_next_pairs {w : World} {ops : Array Oper} {rest : List Oper} {o : Oper} {a : Act} {Q : Exit → Act → World → Prop} (hg : o.guard = none) (it : Operand) (hop : o.op = Op.next it false) (b r n : Nat) (S : List (Int × Int)) (D : DataW Unit) (left : Lit → Bool) (cnt : Nat)
    (hp : PMap S D) (hit : a.eval it = .pointer (some ⟨r, 0, none⟩)) (h : w.ranges Tryz.prog 108 ElB b r n D left cnt)
    (hDone : (∀ kl, left kl = false) → wpList Tryz.prog ops Q rest (a.put o.dst (.tuple #[.bool false])) w)
    (hMore : ∀ (x y : Int) (w' : World) (cnt' : Nat), (x, y) ∈ S → In64 x → In64 y → w'.ranges Tryz.prog 108 ElB b r n D (fun z => left z && !z.sameKey (klP x y)) cnt' → cnt' < cnt →
      w.grownBy w' (some r) → w'.heap.size = w.heap.size → (Instr.entry (.pointer (some ⟨r, 0, none⟩))).run Tryz.prog w' = .ok (.tuple #[.agg #[ei x, ei y], .bool true]) w' → wpList Tryz.prog ops Q rest (a.put o.dst (.tuple #[.bool true, .agg #[ei x, ei y], .bool true])) w') :
    wpList Tryz.prog ops Q (o :: rest) a w := by
  refine wpList_next_ranges _ hg it hop 108 keyP ElB (fun p : Int × Int => .agg #[ei p.1, ei p.2]) Value.bool (fun key kl hk => by obtain ⟨x, rfl, _⟩ := keyOfP_inv hk; exact ⟨x, rfl⟩) (fun v y hv => by obtain ⟨c, rfl, _⟩ := plainElem_bool_inv Tryz.underlying4 hv; exact ⟨c, rfl⟩) b r n D left cnt hit h (fun _ => hDone) ?_
  rintro ⟨x, y⟩ c kl yy w1 cnt1 hkey hlk hy hat hrg1 hlt hg1 hs1 hen
  obtain ⟨⟨x', y'⟩, hxe, hxi, hyi, rfl⟩ := keyOfP_inv hkey
  have hxx : x = x' ∧ y = y' := by simpa [ei] using hxe
  obtain ⟨rfl, rfl⟩ := hxx
  have hin : (x, y) ∈ S := by
    have h1 := has_true_of_atKey hat
    rw [hp.2.1 x y hxi hyi] at h1
    simpa using h1
  have hc : c = true := by
    have h1 := hat (.lit (.bool false))
    rw [hp.2.2 x y hxi hyi] at h1
    obtain ⟨c', e1, e2⟩ := plainElem_bool_inv Tryz.underlying4 hy
    cases e1
    rw [e2] at h1
    simp [hin] at h1
    exact h1
  subst hc
  exact hMore x y w1 cnt1 hin hxi hyi hrg1 hlt hg1 hs1 hen

end Go.Proofs.YtcnaapiljmgfoaaGreatDoor

/-
  Relations between systems, the program's pairsOk: a set of pairs out of a strictly rising list. (The drawn region's ways are printed by tools/genbisp.py.)
-/
namespace Go.Proofs.YtcnaapiljmgfoaaGreatDoor
open Go.RowKit Go.Maps

def pairsOf (R : List (List Int)) : List (Int × Int) := R.map fun p => (p.getD 0 0, p.getD 1 0)
theorem pairsOf_step (R : List (List Int)) (k : Nat) (h : k < R.length) : pairsOf (R.take (k + 1)) = pairsOf (R.take k) ++ [(R[k].getD 0 0, R[k].getD 1 0)] := by
  unfold pairsOf
  rw [List.take_succ_eq_append_getElem h, List.map_append]; rfl
/-- what the program's pairsOk leaves. -/
def PairsOkP (R : List (List Int)) (sa sb : Int) (w : World) (e : Ending) (w' : World) : Prop :=
  (pairsF R sa sb = false ∧ e = .returned (.tuple #[.map none, .bool false])) ∨
  (pairsF R sa sb = true ∧ ∃ (b n : Nat) (D : DataW Unit), e = .returned (.tuple #[.map (some b), .bool true]) ∧ w.heap.size ≤ b ∧ w'.ownsMap Tryz.prog 108 ElB b n D ∧ PMap (pairsOf R) D)

set_option maxRecDepth 20000 in
set_option maxHeartbeats 16000000 in
theorem pairsOkI (sa ia sb ib : Int) (a1 a2 b1 b2 v : Value) (R : List (List Int)) (w : World) (fr : List Nat) (hR : R_N2 fr w [v] R) (ha0 : 1 ≤ sa) (ha1 : sa ≤ 40) (hb0 : 1 ≤ sb) (hb1 : sb ≤ 40) (hR9 : R.length ≤ 2000000) :
    Calls Tryz.prog 90 #[.agg #[ei sa, ei ia, a1, a2], .agg #[ei sb, ei ib, b1, b2], v] w fun e w' => PairsOkP R sa sb w e w' ∧ Upd [] w w' := by
  obtain ⟨av, cap, rfl, l1, l2, hc⟩ := slP_open hR
  unfold maxLen at l2
  have HC := Lib.hid hc
  have HR9 := Lib.hid hR9
  have HA := Lib.hid (show pairsF R sa sb = allF (pairP R sa sb) 0 R.length from rfl)
  obtain ⟨wA, hwA⟩ : ∃ wA, wA = (w.alloc (.cells #[ei sa, ei ia, a1, a2] 32)).alloc (.cells #[ei sb, ei ib, b1, b2] 32) := ⟨_, rfl⟩
  have HUA := Lib.hid (show Upd [] w wA by rw [hwA]; exact ((Upd.refl _ _).alloc _).alloc _)
  have HZ := Lib.hid (show ∀ W, Upd [] wA W → SysAt w.heap.size W sa ia a1 a2 ∧ SysAt (w.heap.size + 1) W sb ib b1 b2 from fun W hu => by
    have s1 : SysAt w.heap.size (w.alloc (.cells #[ei sa, ei ia, a1, a2] 32)) sa ia a1 a2 := heap_alloc_new w _
    have s2 : SysAt (w.alloc (.cells #[ei sa, ei ia, a1, a2] 32)).heap.size wA sb ib b1 b2 := by rw [hwA]; exact heap_alloc_new _ _
    have s3 : SysAt w.heap.size wA sa ia a1 a2 := by rw [hwA]; exact s1.upd ((Upd.refl [] _).alloc _) (by simp)
    refine ⟨s3.upd hu (by simp), ?_⟩
    have := s2.upd hu (by simp)
    simpa using this)
  have hszA : wA.heap.size = w.heap.size + 2 := by rw [hwA]; simp
  obtain ⟨BA, hBA⟩ : ∃ BA, BA = w.heap.size := ⟨_, rfl⟩
  obtain ⟨BB, hBB⟩ : ∃ BB, BB = BA + 1 := ⟨_, rfl⟩
  obtain ⟨BM, hBM⟩ : ∃ BM, BM = wA.heap.size := ⟨_, rfl⟩
  have HBM := Lib.hid (show w.heap.size ≤ BM by omega)
  have HBMA := Lib.hid hBM
  rw [← hBA] at HZ
  rw [← hBB] at HZ
  have IA0 := Lib.hid (fun (n : Int) W => isStateI sa ia a1 a2 n W ha0 ha1)
  have IB0 := Lib.hid (fun (n : Int) W => isStateI sb ib b1 b2 n W hb0 hb1)
  have HI0 := Lib.hid (fun (x : Int) (h : inB x 0 (sa - 1) = true) => in64_of (a := x) (by have := inB_true h; omega))
  have HI1 := Lib.hid (fun (x : Int) (h : inB x 0 (sb - 1) = true) => in64_of (a := x) (by have := inB_true h; omega))
  have hmm := @run_makeMap Tryz.prog
  have HMAP := Lib.hid (World.ownsMap_made wA Tryz.prog 108 ElB)
  rw [← hBM] at HMAP
  clear hR hc hR9 hszA ha0 ha1 hb0 hb1
  go_enter Tryz.func90, Tryz.ntmps90
  go_upto_region 1 with (fail)
  rw [← hwA, ← hBA]
  rw [← hBB]
  clear hwA hBA hBB
  go_wp2_with fail
  rw [← hBM]
  clear hBM hmm
  go_loopw [14] (fun iv wr => ∃ (k : Nat) (D : DataW Unit), k ≤ R.length ∧ iv = .int .i64 k ∧ Hid (allF (pairP R sa sb) k (R.length - k) = pairsF R sa sb) ∧ Hid (Upd [] wA wr) ∧ Hid (wr.ownsMap Tryz.prog 108 ElB BM k D) ∧ Hid (PMap (pairsOf (R.take k)) D)) (fun iv _ => R.length - (intOf iv).toNat)
  case atStart => exact ⟨0, _, Nat.zero_le _, rfl, Lib.hid (by rw [HA.out]; rfl), Lib.hid ((Upd.refl _ _).alloc _), HMAP, Lib.hid PMap.empty⟩
  case round =>
    clear HA HMAP
    obtain ⟨wo, rfl⟩ : ∃ wo : World, wo = wr := ⟨_, rfl⟩
    obtain ⟨k, D, hk, rfl, HF, HU, HM, HP⟩ := hrel
    by_cases hlt : k < R.length
    · obtain ⟨bb, off, u, fr2, hbb, -, -, hcell, -, hr⟩ := HC.out k hlt
      subst hbb
      have q0 := HU.out.keep (HUA.out.keep hcell)
      have gk : R.getD k [] = R[k] := by rw [List.getD_eq_getElem?_getD, List.getElem?_eq_getElem hlt]; rfl
      have hF := HF.out
      rw [allF_step _ k R.length hlt] at hF
      unfold pairP at hF
      rw [gk] at hF
      have hkl : (k : Int) < (R.length : Int) := by omega
      have HRK := Lib.hid (R1k.upd (R1k.upd hr HUA.out (by simp)) HU.out (by simp))
      obtain ⟨ra, rc, hu, m1, m2, hcs⟩ := slF1_open hr
      subst hu
      unfold maxLen at m2
      obtain ⟨⟨za0, za1, za2, za3, -⟩, ⟨zb0, zb1, zb2, zb3, -⟩⟩ := And.intro (HZ.out wo HU.out).1.facts (HZ.out wo HU.out).2.facts
      by_cases h2 : R[k].length = 2
      · obtain ⟨b2r, o2r, rfl, -, -, p1⟩ := hcs 0 (by omega)
        obtain ⟨b2', o2', hb2, -, -, p2⟩ := hcs 1 (by omega)
        cases hb2
        have q1 := HU.out.keep (HUA.out.keep p1)
        have q2 := HU.out.keep (HUA.out.keep p2)
        rw [Nat.add_zero] at q1
        have e0 : R[k].getD 0 0 = R[k][0] := by rw [List.getD_eq_getElem?_getD, List.getElem?_eq_getElem (by omega)]; rfl
        have e1 : R[k].getD 1 0 = R[k][1] := by rw [List.getD_eq_getElem?_getD, List.getElem?_eq_getElem (by omega)]; rfl
        rw [e0, e1] at hF
        have hst := pairsOf_step R k hlt
        rw [e0, e1] at hst
        have HST := Lib.hid hst
        have HK := Lib.hid (show 0 < k → ∃ (u : Value) (f : List Nat), wo.cell? ⟨bb, off + (k - 1), none⟩ = some u ∧ R1 f wo [u] (R.getD (k - 1) []) from fun h0 => by
          have hl1 : k - 1 < R.length := by omega
          obtain ⟨b9, o9, u9, f9, h9, -, -, c9, -, r9⟩ := HC.out (k - 1) hl1
          cases h9
          refine ⟨u9, f9, HU.out.keep (HUA.out.keep c9), ?_⟩
          rw [List.getD_eq_getElem?_getD, List.getElem?_eq_getElem hl1]
          exact R1k.upd (R1k.upd r9 HUA.out (by simp)) HU.out (by simp))
        rw [h2] at q0
        have hF2 : (true && inB R[k][0] 0 (sa - 1) && inB R[k][1] 0 (sb - 1) && (decide (k = 0) || decide (cmpQ (R.getD (k - 1) []) R[k] < 0)) && allF (pairP R sa sb) (k + 1) (R.length - (k + 1))) = pairsF R sa sb := by
          rw [← hF, show (R[k].length == 2) = true from by simpa using h2]
          rfl
        have HFF := Lib.hid hF2
        clear hF2 hst
        have SC := Lib.hid (fun (u : Value) (f : List Nat) (p : List Int) (hp : R1 f wo [u] p) (W : World) (hu : Upd [] wo W) => compareSl u (.slice (some ⟨b2r, o2r, none⟩) R[k].length rc) p R[k] W f fr2 (R1k.upd hp hu (by simp)) (R1k.upd HRK.out hu (by simp)))
        rw [h2] at SC
        have IA := Lib.hid (fun W (_ : Upd [] wo W) => IA0.out R[k][0] W)
        have IB := Lib.hid (fun W (_ : Upd [] wo W) => IB0.out R[k][1] W)
        clear hF HF gk hcs p1 p2 e0 e1 hr hcell m1 HRK
        generalize hP0 : R[k][0] = P0 at *
        generalize hP1 : R[k][1] = P1 at *
        clear hP0 hP1
        cases hi1 : inB P0 0 (sa - 1) with
        | false =>
          rw [hi1] at IA
          have HE := Lib.hid (show pairsF R sa sb = false by rw [← HFF.out, hi1]; simp)
          clear HFF hi1 SC HK IB
          go_upto_region 5 with (fail)
          refine wp_region_held_drew (S := fun w' => w'.cell? ⟨BA, 0, none⟩ = some (ei sa) ∧ w'.cell? ⟨BA, 1, none⟩ = some (ei ia) ∧ w'.cell? ⟨BA, 2, none⟩ = some a1 ∧ w'.cell? ⟨BA, 3, none⟩ = some a2 ∧ w'.cell? ⟨BB, 0, none⟩ = some (ei sb) ∧ w'.cell? ⟨BB, 1, none⟩ = some (ei ib) ∧ w'.cell? ⟨BB, 2, none⟩ = some b1 ∧ w'.cell? ⟨BB, 3, none⟩ = some b2 ∧ w'.cell? ⟨b2r, o2r, none⟩ = some (ei P0) ∧ w'.cell? ⟨b2r, o2r + 1, none⟩ = some (ei P1)) (by kernel_rfl) ?_ (fun hHeld => ?_)
          · exact ⟨za0, za1, za2, za3, zb0, zb1, zb2, zb3, q1, q2⟩
          refine wpAnyH_take (i := 0) (v := ?_) rfl (by kernel_rfl) (by kernel_rfl) (by kernel_rfl) (fun _ _ _ h => h) (Or.inl ⟨by rfl, ?_⟩) (by assumption) ?_
          rotate_left
          · (intro w hSw; (try dsimp only at hSw); go_simp)
            first | done | with_reducible rfl
          simp only [Act.put, List.getElem_toArray, List.getElem_cons_zero, List.setIfInBounds_toArray, List.set_cons_zero, List.set_cons_succ]
          refine wpAnyH_take (i := 1) (v := ?_) rfl (by kernel_rfl) (by kernel_rfl) (by kernel_rfl) (fun _ _ _ h => h) (Or.inl ⟨by rfl, ?_⟩) (by assumption) ?_
          rotate_left
          · (intro w hSw; (try dsimp only at hSw); go_simp)
            first | done | with_reducible rfl
          simp only [Act.put, List.getElem_toArray, List.getElem_cons_zero, List.getElem_cons_succ, List.setIfInBounds_toArray, List.set_cons_zero, List.set_cons_succ]
          refine wpAnyH_take (i := 2) (v := ?_) rfl (by kernel_rfl) (by kernel_rfl) (by kernel_rfl) (fun _ _ _ h => h) (Or.inl ⟨by rfl, ?_⟩) (by assumption) ?_
          rotate_left
          · (intro w hSw; (try dsimp only at hSw); go_simp)
            first | done | with_reducible rfl
          simp only [Act.put, List.getElem_toArray, List.getElem_cons_zero, List.getElem_cons_succ, List.setIfInBounds_toArray, List.set_cons_zero, List.set_cons_succ]
          refine wpAnyH_take (i := 3) (v := ?_) rfl (by kernel_rfl) (by kernel_rfl) (by kernel_rfl) (fun _ _ _ h => h) (Or.inl ⟨by rfl, ?_⟩) (by assumption) ?_
          rotate_left
          · (intro w hSw; (try dsimp only at hSw); go_simp)
            first | done | with_reducible rfl
          simp only [Act.put, List.getElem_toArray, List.getElem_cons_zero, List.getElem_cons_succ, List.setIfInBounds_toArray, List.set_cons_zero, List.set_cons_succ]
          refine wpAnyH_take (i := 4) (v := ?_) rfl (by kernel_rfl) (by kernel_rfl) (by kernel_rfl) (fun _ _ _ h => h) (Or.inl ⟨by rfl, ?_⟩) (by assumption) ?_
          rotate_left
          · (intro w hSw; (try dsimp only at hSw); go_simp)
            first | done | with_reducible rfl
          simp only [Act.put, List.getElem_toArray, List.getElem_cons_zero, List.getElem_cons_succ, List.setIfInBounds_toArray, List.set_cons_zero, List.set_cons_succ]
          refine wpAnyH_take (i := 5) (v := ?_) rfl (by kernel_rfl) (by kernel_rfl) (by kernel_rfl) (fun _ _ _ h => h) (Or.inl ⟨by rfl, ?_⟩) (by assumption) ?_
          rotate_left
          · (intro w hSw; (try dsimp only at hSw); go_simp)
            first | done | with_reducible rfl
          simp only [Act.put, List.getElem_toArray, List.getElem_cons_zero, List.getElem_cons_succ, List.setIfInBounds_toArray, List.set_cons_zero, List.set_cons_succ]
          refine wpAnyH_take (i := 6) (v := ?_) rfl (by kernel_rfl) (by kernel_rfl) (by kernel_rfl) (fun _ _ _ h => h) (Or.inl ⟨by rfl, ?_⟩) (by assumption) ?_
          rotate_left
          · (intro w hSw; (try dsimp only at hSw); go_simp)
            first | done | with_reducible rfl
          simp only [Act.put, List.getElem_toArray, List.getElem_cons_zero, List.getElem_cons_succ, List.setIfInBounds_toArray, List.set_cons_zero, List.set_cons_succ]
          refine wpAnyH_take (i := 7) (v := ?_) rfl (by kernel_rfl) (by kernel_rfl) (by kernel_rfl) (fun _ _ _ h => h) (Or.inl ⟨by rfl, ?_⟩) (by assumption) ?_
          rotate_left
          · (intro w hSw; (try dsimp only at hSw); go_simp)
            first | done | with_reducible rfl
          simp only [Act.put, List.getElem_toArray, List.getElem_cons_zero, List.getElem_cons_succ, List.setIfInBounds_toArray, List.set_cons_zero, List.set_cons_succ]
          refine wpAnyH_ready (rs := [8]) (by kernel_rfl) (by simp) ?_
          refine AllReadyH.cons rfl (fun K hK => ?_) AllReadyH.nil
          go_simp
          refine (IA.out _ ((Upd.refl [] wo).drew)).mono ?_
          rintro e w8 ⟨rfl, hu1⟩
          have hv1 : Upd [] wo w8 := (Upd.refl [] wo).drew.trans hu1
          refine hK.out _ _ ?_ (fun hHeld => ?_)
          · exact ⟨hu1.keep hHeld.1, hu1.keep hHeld.2.1, hu1.keep hHeld.2.2.1, hu1.keep hHeld.2.2.2.1, hu1.keep hHeld.2.2.2.2.1, hu1.keep hHeld.2.2.2.2.2.1, hu1.keep hHeld.2.2.2.2.2.2.1, hu1.keep hHeld.2.2.2.2.2.2.2.1, hu1.keep hHeld.2.2.2.2.2.2.2.2.1, hu1.keep hHeld.2.2.2.2.2.2.2.2.2⟩
          clear hK K
          try simp only [Act.put, List.getElem_toArray, List.getElem_cons_zero, List.getElem_cons_succ, List.setIfInBounds_toArray, List.set_cons_zero, List.set_cons_succ]
          refine wpAnyH_take (i := 9) (v := ?_) rfl (by kernel_rfl) (by kernel_rfl) (by kernel_rfl) (fun _ _ _ h => h) (Or.inl ⟨by rfl, ?_⟩) (by assumption) ?_
          rotate_left
          · (intro w hSw; (try dsimp only at hSw); go_simp)
            first | done | with_reducible rfl
          simp only [Act.put, List.getElem_toArray, List.getElem_cons_zero, List.getElem_cons_succ, List.setIfInBounds_toArray, List.set_cons_zero, List.set_cons_succ]
          refine wpAnyH_take (i := 10) (v := ?_) rfl (by kernel_rfl) (by kernel_rfl) (by kernel_rfl) (fun _ _ _ h => h) (Or.inl ⟨by rfl, ?_⟩) (by assumption) ?_
          rotate_left
          · (intro w hSw; (try dsimp only at hSw); go_simp)
            first | done | with_reducible rfl
          simp only [Act.put, List.getElem_toArray, List.getElem_cons_zero, List.getElem_cons_succ, List.setIfInBounds_toArray, List.set_cons_zero, List.set_cons_succ]
          refine wpAnyH_take (i := 11) (v := ?_) rfl (by kernel_rfl) (by kernel_rfl) (by kernel_rfl) (fun _ _ _ h => h) (Or.inl ⟨by rfl, ?_⟩) (by assumption) ?_
          rotate_left
          · (intro w hSw; (try dsimp only at hSw); go_simp)
            first | done | with_reducible rfl
          simp only [Act.put, List.getElem_toArray, List.getElem_cons_zero, List.getElem_cons_succ, List.setIfInBounds_toArray, List.set_cons_zero, List.set_cons_succ]
          refine wpAnyH_take (i := 12) rfl (by kernel_rfl) (by kernel_rfl) (by kernel_rfl) (fun _ _ _ h => h) (Or.inr ⟨by rfl, rfl⟩) (by assumption) ?_
          simp only [Act.put, List.getElem_toArray, List.getElem_cons_zero, List.getElem_cons_succ, List.setIfInBounds_toArray, List.set_cons_zero, List.set_cons_succ]
          refine wpAnyH_take (i := 13) rfl (by kernel_rfl) (by kernel_rfl) (by kernel_rfl) (fun _ _ _ h => h) (Or.inr ⟨by rfl, rfl⟩) (by assumption) ?_
          simp only [Act.put, List.getElem_toArray, List.getElem_cons_zero, List.getElem_cons_succ, List.setIfInBounds_toArray, List.set_cons_zero, List.set_cons_succ]
          refine wpAnyH_take (i := 14) rfl (by kernel_rfl) (by kernel_rfl) (by kernel_rfl) (fun _ _ _ h => h) (Or.inr ⟨by rfl, rfl⟩) (by assumption) ?_
          simp only [Act.put, List.getElem_toArray, List.getElem_cons_zero, List.getElem_cons_succ, List.setIfInBounds_toArray, List.set_cons_zero, List.set_cons_succ]
          refine wpAnyH_take (i := 15) rfl (by kernel_rfl) (by kernel_rfl) (by kernel_rfl) (fun _ _ _ h => h) (Or.inr ⟨by rfl, rfl⟩) (by assumption) ?_
          simp only [Act.put, List.getElem_toArray, List.getElem_cons_zero, List.getElem_cons_succ, List.setIfInBounds_toArray, List.set_cons_zero, List.set_cons_succ]
          refine wpAnyH_take (i := 16) rfl (by kernel_rfl) (by kernel_rfl) (by kernel_rfl) (fun _ _ _ h => h) (Or.inr ⟨by rfl, rfl⟩) (by assumption) ?_
          simp only [Act.put, List.getElem_toArray, List.getElem_cons_zero, List.getElem_cons_succ, List.setIfInBounds_toArray, List.set_cons_zero, List.set_cons_succ]
          refine wpAnyH_take (i := 17) rfl (by kernel_rfl) (by kernel_rfl) (by kernel_rfl) (fun _ _ _ h => h) (Or.inr ⟨by rfl, rfl⟩) (by assumption) ?_
          simp only [Act.put, List.getElem_toArray, List.getElem_cons_zero, List.getElem_cons_succ, List.setIfInBounds_toArray, List.set_cons_zero, List.set_cons_succ]
          refine wpAnyH_take (i := 18) (v := ?_) rfl (by kernel_rfl) (by kernel_rfl) (by kernel_rfl) (fun _ _ _ h => h) (Or.inl ⟨by rfl, ?_⟩) (by assumption) ?_
          rotate_left
          · (intro w hSw; (try dsimp only at hSw); go_simp)
            first | done | with_reducible rfl
          simp only [Act.put, List.getElem_toArray, List.getElem_cons_zero, List.getElem_cons_succ, List.setIfInBounds_toArray, List.set_cons_zero, List.set_cons_succ]
          refine wpAnyH_take (i := 19) (v := ?_) rfl (by kernel_rfl) (by kernel_rfl) (by kernel_rfl) (fun _ _ _ h => h) (Or.inl ⟨by rfl, ?_⟩) (by assumption) ?_
          rotate_left
          · (intro w hSw; (try dsimp only at hSw); go_simp)
            first | done | with_reducible rfl
          simp only [Act.put, List.getElem_toArray, List.getElem_cons_zero, List.getElem_cons_succ, List.setIfInBounds_toArray, List.set_cons_zero, List.set_cons_succ]
          refine wpAnyH_take (i := 20) rfl (by kernel_rfl) (by kernel_rfl) (by kernel_rfl) (fun _ _ _ h => h) (Or.inr ⟨by rfl, rfl⟩) (by assumption) ?_
          simp only [Act.put, List.getElem_toArray, List.getElem_cons_zero, List.getElem_cons_succ, List.setIfInBounds_toArray, List.set_cons_zero, List.set_cons_succ]
          refine wpAnyH_take (i := 21) rfl (by kernel_rfl) (by kernel_rfl) (by kernel_rfl) (fun _ _ _ h => h) (Or.inr ⟨by rfl, rfl⟩) (by assumption) ?_
          simp only [Act.put, List.getElem_toArray, List.getElem_cons_zero, List.getElem_cons_succ, List.setIfInBounds_toArray, List.set_cons_zero, List.set_cons_succ]
          refine wpAnyH_take (i := 22) rfl (by kernel_rfl) (by kernel_rfl) (by kernel_rfl) (fun _ _ _ h => h) (Or.inr ⟨by rfl, rfl⟩) (by assumption) ?_
          simp only [Act.put, List.getElem_toArray, List.getElem_cons_zero, List.getElem_cons_succ, List.setIfInBounds_toArray, List.set_cons_zero, List.set_cons_succ]
          refine wpAnyH_take (i := 23) rfl (by kernel_rfl) (by kernel_rfl) (by kernel_rfl) (fun _ _ _ h => h) (Or.inr ⟨by rfl, rfl⟩) (by assumption) ?_
          simp only [Act.put, List.getElem_toArray, List.getElem_cons_zero, List.getElem_cons_succ, List.setIfInBounds_toArray, List.set_cons_zero, List.set_cons_succ]
          refine wpAnyH_take (i := 24) rfl (by kernel_rfl) (by kernel_rfl) (by kernel_rfl) (fun _ _ _ h => h) (Or.inr ⟨by rfl, rfl⟩) (by assumption) ?_
          simp only [Act.put, List.getElem_toArray, List.getElem_cons_zero, List.getElem_cons_succ, List.setIfInBounds_toArray, List.set_cons_zero, List.set_cons_succ]
          refine wpAnyH_take (i := 25) rfl (by kernel_rfl) (by kernel_rfl) (by kernel_rfl) (fun _ _ _ h => h) (Or.inr ⟨by rfl, rfl⟩) (by assumption) ?_
          simp only [Act.put, List.getElem_toArray, List.getElem_cons_zero, List.getElem_cons_succ, List.setIfInBounds_toArray, List.set_cons_zero, List.set_cons_succ]
          refine wpAnyH_take (i := 26) rfl (by kernel_rfl) (by kernel_rfl) (by kernel_rfl) (fun _ _ _ h => h) (Or.inr ⟨by rfl, rfl⟩) (by assumption) ?_
          simp only [Act.put, List.getElem_toArray, List.getElem_cons_zero, List.getElem_cons_succ, List.setIfInBounds_toArray, List.set_cons_zero, List.set_cons_succ]
          refine wpAnyH_take (i := 27) rfl (by kernel_rfl) (by kernel_rfl) (by kernel_rfl) (fun _ _ _ h => h) (Or.inr ⟨by rfl, rfl⟩) (by assumption) ?_
          simp only [Act.put, List.getElem_toArray, List.getElem_cons_zero, List.getElem_cons_succ, List.setIfInBounds_toArray, List.set_cons_zero, List.set_cons_succ]
          refine wpAnyH_take (i := 28) rfl (by kernel_rfl) (by kernel_rfl) (by kernel_rfl) (fun _ _ _ h => h) (Or.inr ⟨by rfl, rfl⟩) (by assumption) ?_
          simp only [Act.put, List.getElem_toArray, List.getElem_cons_zero, List.getElem_cons_succ, List.setIfInBounds_toArray, List.set_cons_zero, List.set_cons_succ]
          refine wpAnyH_take (i := 29) rfl (by kernel_rfl) (by kernel_rfl) (by kernel_rfl) (fun _ _ _ h => h) (Or.inr ⟨by rfl, rfl⟩) (by assumption) ?_
          simp only [Act.put, List.getElem_toArray, List.getElem_cons_zero, List.getElem_cons_succ, List.setIfInBounds_toArray, List.set_cons_zero, List.set_cons_succ]
          refine wpAnyH_take (i := 30) rfl (by kernel_rfl) (by kernel_rfl) (by kernel_rfl) (fun _ _ _ h => h) (Or.inr ⟨by rfl, rfl⟩) (by assumption) ?_
          simp only [Act.put, List.getElem_toArray, List.getElem_cons_zero, List.getElem_cons_succ, List.setIfInBounds_toArray, List.set_cons_zero, List.set_cons_succ]
          refine wpAnyH_take (i := 31) rfl (by kernel_rfl) (by kernel_rfl) (by kernel_rfl) (fun _ _ _ h => h) (Or.inr ⟨by rfl, rfl⟩) (by assumption) ?_
          simp only [Act.put, List.getElem_toArray, List.getElem_cons_zero, List.getElem_cons_succ, List.setIfInBounds_toArray, List.set_cons_zero, List.set_cons_succ]
          refine wpAnyH_take (i := 32) (v := ?_) rfl (by kernel_rfl) (by kernel_rfl) (by kernel_rfl) (fun _ _ _ h => h) (Or.inl ⟨by rfl, ?_⟩) (by assumption) ?_
          rotate_left
          · (intro w hSw; (try dsimp only at hSw); go_simp)
            first | done | with_reducible rfl
          simp only [Act.put, List.getElem_toArray, List.getElem_cons_zero, List.getElem_cons_succ, List.setIfInBounds_toArray, List.set_cons_zero, List.set_cons_succ]
          refine wpAnyH_done (by kernel_rfl) ?_ _
          have HU9 := Lib.hid (HU.out.trans hv1)
          clear HU hHeld q1 q2 za0 za1 za2 za3 zb0 zb1 zb2 zb3
          go_wp2_with fail
          go_ret2
          exact ⟨Or.inl ⟨HE.out, rfl⟩, HUA.out.trans HU9.out⟩
        | true =>
          rw [hi1] at IA
          cases hi2 : inB P1 0 (sb - 1) with
          | false =>
            rw [hi2] at IB
            have HE := Lib.hid (show pairsF R sa sb = false by rw [← HFF.out, hi1, hi2]; simp)
            clear HFF hi1 hi2 SC HK
            go_upto_region 5 with (fail)
            refine wp_region_held_drew (S := fun w' => w'.cell? ⟨BA, 0, none⟩ = some (ei sa) ∧ w'.cell? ⟨BA, 1, none⟩ = some (ei ia) ∧ w'.cell? ⟨BA, 2, none⟩ = some a1 ∧ w'.cell? ⟨BA, 3, none⟩ = some a2 ∧ w'.cell? ⟨BB, 0, none⟩ = some (ei sb) ∧ w'.cell? ⟨BB, 1, none⟩ = some (ei ib) ∧ w'.cell? ⟨BB, 2, none⟩ = some b1 ∧ w'.cell? ⟨BB, 3, none⟩ = some b2 ∧ w'.cell? ⟨b2r, o2r, none⟩ = some (ei P0) ∧ w'.cell? ⟨b2r, o2r + 1, none⟩ = some (ei P1)) (by kernel_rfl) ?_ (fun hHeld => ?_)
            · exact ⟨za0, za1, za2, za3, zb0, zb1, zb2, zb3, q1, q2⟩
            refine wpAnyH_take (i := 0) (v := ?_) rfl (by kernel_rfl) (by kernel_rfl) (by kernel_rfl) (fun _ _ _ h => h) (Or.inl ⟨by rfl, ?_⟩) (by assumption) ?_
            rotate_left
            · (intro w hSw; (try dsimp only at hSw); go_simp)
              first | done | with_reducible rfl
            simp only [Act.put, List.getElem_toArray, List.getElem_cons_zero, List.setIfInBounds_toArray, List.set_cons_zero, List.set_cons_succ]
            refine wpAnyH_take (i := 1) (v := ?_) rfl (by kernel_rfl) (by kernel_rfl) (by kernel_rfl) (fun _ _ _ h => h) (Or.inl ⟨by rfl, ?_⟩) (by assumption) ?_
            rotate_left
            · (intro w hSw; (try dsimp only at hSw); go_simp)
              first | done | with_reducible rfl
            simp only [Act.put, List.getElem_toArray, List.getElem_cons_zero, List.getElem_cons_succ, List.setIfInBounds_toArray, List.set_cons_zero, List.set_cons_succ]
            refine wpAnyH_take (i := 2) (v := ?_) rfl (by kernel_rfl) (by kernel_rfl) (by kernel_rfl) (fun _ _ _ h => h) (Or.inl ⟨by rfl, ?_⟩) (by assumption) ?_
            rotate_left
            · (intro w hSw; (try dsimp only at hSw); go_simp)
              first | done | with_reducible rfl
            simp only [Act.put, List.getElem_toArray, List.getElem_cons_zero, List.getElem_cons_succ, List.setIfInBounds_toArray, List.set_cons_zero, List.set_cons_succ]
            refine wpAnyH_take (i := 3) (v := ?_) rfl (by kernel_rfl) (by kernel_rfl) (by kernel_rfl) (fun _ _ _ h => h) (Or.inl ⟨by rfl, ?_⟩) (by assumption) ?_
            rotate_left
            · (intro w hSw; (try dsimp only at hSw); go_simp)
              first | done | with_reducible rfl
            simp only [Act.put, List.getElem_toArray, List.getElem_cons_zero, List.getElem_cons_succ, List.setIfInBounds_toArray, List.set_cons_zero, List.set_cons_succ]
            refine wpAnyH_take (i := 4) (v := ?_) rfl (by kernel_rfl) (by kernel_rfl) (by kernel_rfl) (fun _ _ _ h => h) (Or.inl ⟨by rfl, ?_⟩) (by assumption) ?_
            rotate_left
            · (intro w hSw; (try dsimp only at hSw); go_simp)
              first | done | with_reducible rfl
            simp only [Act.put, List.getElem_toArray, List.getElem_cons_zero, List.getElem_cons_succ, List.setIfInBounds_toArray, List.set_cons_zero, List.set_cons_succ]
            refine wpAnyH_take (i := 5) (v := ?_) rfl (by kernel_rfl) (by kernel_rfl) (by kernel_rfl) (fun _ _ _ h => h) (Or.inl ⟨by rfl, ?_⟩) (by assumption) ?_
            rotate_left
            · (intro w hSw; (try dsimp only at hSw); go_simp)
              first | done | with_reducible rfl
            simp only [Act.put, List.getElem_toArray, List.getElem_cons_zero, List.getElem_cons_succ, List.setIfInBounds_toArray, List.set_cons_zero, List.set_cons_succ]
            refine wpAnyH_take (i := 6) (v := ?_) rfl (by kernel_rfl) (by kernel_rfl) (by kernel_rfl) (fun _ _ _ h => h) (Or.inl ⟨by rfl, ?_⟩) (by assumption) ?_
            rotate_left
            · (intro w hSw; (try dsimp only at hSw); go_simp)
              first | done | with_reducible rfl
            simp only [Act.put, List.getElem_toArray, List.getElem_cons_zero, List.getElem_cons_succ, List.setIfInBounds_toArray, List.set_cons_zero, List.set_cons_succ]
            refine wpAnyH_take (i := 7) (v := ?_) rfl (by kernel_rfl) (by kernel_rfl) (by kernel_rfl) (fun _ _ _ h => h) (Or.inl ⟨by rfl, ?_⟩) (by assumption) ?_
            rotate_left
            · (intro w hSw; (try dsimp only at hSw); go_simp)
              first | done | with_reducible rfl
            simp only [Act.put, List.getElem_toArray, List.getElem_cons_zero, List.getElem_cons_succ, List.setIfInBounds_toArray, List.set_cons_zero, List.set_cons_succ]
            refine wpAnyH_ready (rs := [8]) (by kernel_rfl) (by simp) ?_
            refine AllReadyH.cons rfl (fun K hK => ?_) AllReadyH.nil
            go_simp
            refine (IA.out _ ((Upd.refl [] wo).drew)).mono ?_
            rintro e w8 ⟨rfl, hu1⟩
            have hv1 : Upd [] wo w8 := (Upd.refl [] wo).drew.trans hu1
            refine hK.out _ _ ?_ (fun hHeld => ?_)
            · exact ⟨hu1.keep hHeld.1, hu1.keep hHeld.2.1, hu1.keep hHeld.2.2.1, hu1.keep hHeld.2.2.2.1, hu1.keep hHeld.2.2.2.2.1, hu1.keep hHeld.2.2.2.2.2.1, hu1.keep hHeld.2.2.2.2.2.2.1, hu1.keep hHeld.2.2.2.2.2.2.2.1, hu1.keep hHeld.2.2.2.2.2.2.2.2.1, hu1.keep hHeld.2.2.2.2.2.2.2.2.2⟩
            clear hK K
            try simp only [Act.put, List.getElem_toArray, List.getElem_cons_zero, List.getElem_cons_succ, List.setIfInBounds_toArray, List.set_cons_zero, List.set_cons_succ]
            refine wpAnyH_take (i := 9) (v := ?_) rfl (by kernel_rfl) (by kernel_rfl) (by kernel_rfl) (fun _ _ _ h => h) (Or.inl ⟨by rfl, ?_⟩) (by assumption) ?_
            rotate_left
            · (intro w hSw; (try dsimp only at hSw); go_simp)
              first | done | with_reducible rfl
            simp only [Act.put, List.getElem_toArray, List.getElem_cons_zero, List.getElem_cons_succ, List.setIfInBounds_toArray, List.set_cons_zero, List.set_cons_succ]
            refine wpAnyH_take (i := 10) (v := ?_) rfl (by kernel_rfl) (by kernel_rfl) (by kernel_rfl) (fun _ _ _ h => h) (Or.inl ⟨by rfl, ?_⟩) (by assumption) ?_
            rotate_left
            · (intro w hSw; (try dsimp only at hSw); go_simp)
              first | done | with_reducible rfl
            simp only [Act.put, List.getElem_toArray, List.getElem_cons_zero, List.getElem_cons_succ, List.setIfInBounds_toArray, List.set_cons_zero, List.set_cons_succ]
            refine wpAnyH_take (i := 11) (v := ?_) rfl (by kernel_rfl) (by kernel_rfl) (by kernel_rfl) (fun _ _ _ h => h) (Or.inl ⟨by rfl, ?_⟩) (by assumption) ?_
            rotate_left
            · (intro w hSw; (try dsimp only at hSw); go_simp)
              first | done | with_reducible rfl
            simp only [Act.put, List.getElem_toArray, List.getElem_cons_zero, List.getElem_cons_succ, List.setIfInBounds_toArray, List.set_cons_zero, List.set_cons_succ]
            refine wpAnyH_take (i := 12) (v := ?_) rfl (by kernel_rfl) (by kernel_rfl) (by kernel_rfl) (fun _ _ _ h => h) (Or.inl ⟨by rfl, ?_⟩) (by assumption) ?_
            rotate_left
            · (intro w hSw; (try dsimp only at hSw); go_simp)
              first | done | with_reducible rfl
            simp only [Act.put, List.getElem_toArray, List.getElem_cons_zero, List.getElem_cons_succ, List.setIfInBounds_toArray, List.set_cons_zero, List.set_cons_succ]
            refine wpAnyH_take (i := 13) (v := ?_) rfl (by kernel_rfl) (by kernel_rfl) (by kernel_rfl) (fun _ _ _ h => h) (Or.inl ⟨by rfl, ?_⟩) (by assumption) ?_
            rotate_left
            · (intro w hSw; (try dsimp only at hSw); go_simp)
              first | done | with_reducible rfl
            simp only [Act.put, List.getElem_toArray, List.getElem_cons_zero, List.getElem_cons_succ, List.setIfInBounds_toArray, List.set_cons_zero, List.set_cons_succ]
            refine wpAnyH_take (i := 14) (v := ?_) rfl (by kernel_rfl) (by kernel_rfl) (by kernel_rfl) (fun _ _ _ h => h) (Or.inl ⟨by rfl, ?_⟩) (by assumption) ?_
            rotate_left
            · (intro w hSw; (try dsimp only at hSw); go_simp)
              first | done | with_reducible rfl
            simp only [Act.put, List.getElem_toArray, List.getElem_cons_zero, List.getElem_cons_succ, List.setIfInBounds_toArray, List.set_cons_zero, List.set_cons_succ]
            refine wpAnyH_take (i := 15) (v := ?_) rfl (by kernel_rfl) (by kernel_rfl) (by kernel_rfl) (fun _ _ _ h => h) (Or.inl ⟨by rfl, ?_⟩) (by assumption) ?_
            rotate_left
            · (intro w hSw; (try dsimp only at hSw); go_simp)
              first | done | with_reducible rfl
            simp only [Act.put, List.getElem_toArray, List.getElem_cons_zero, List.getElem_cons_succ, List.setIfInBounds_toArray, List.set_cons_zero, List.set_cons_succ]
            refine wpAnyH_ready (rs := [16]) (by kernel_rfl) (by simp) ?_
            refine AllReadyH.cons rfl (fun K hK => ?_) AllReadyH.nil
            go_simp
            refine (IB.out w8 hv1).mono ?_
            rintro e w16 ⟨rfl, hu2⟩
            have hv2 : Upd [] wo w16 := hv1.trans hu2
            refine hK.out _ _ ?_ (fun hHeld => ?_)
            · exact ⟨hu2.keep hHeld.1, hu2.keep hHeld.2.1, hu2.keep hHeld.2.2.1, hu2.keep hHeld.2.2.2.1, hu2.keep hHeld.2.2.2.2.1, hu2.keep hHeld.2.2.2.2.2.1, hu2.keep hHeld.2.2.2.2.2.2.1, hu2.keep hHeld.2.2.2.2.2.2.2.1, hu2.keep hHeld.2.2.2.2.2.2.2.2.1, hu2.keep hHeld.2.2.2.2.2.2.2.2.2⟩
            clear hK K
            try simp only [Act.put, List.getElem_toArray, List.getElem_cons_zero, List.getElem_cons_succ, List.setIfInBounds_toArray, List.set_cons_zero, List.set_cons_succ]
            refine wpAnyH_take (i := 17) (v := ?_) rfl (by kernel_rfl) (by kernel_rfl) (by kernel_rfl) (fun _ _ _ h => h) (Or.inl ⟨by rfl, ?_⟩) (by assumption) ?_
            rotate_left
            · (intro w hSw; (try dsimp only at hSw); go_simp)
              first | done | with_reducible rfl
            simp only [Act.put, List.getElem_toArray, List.getElem_cons_zero, List.getElem_cons_succ, List.setIfInBounds_toArray, List.set_cons_zero, List.set_cons_succ]
            refine wpAnyH_take (i := 18) (v := ?_) rfl (by kernel_rfl) (by kernel_rfl) (by kernel_rfl) (fun _ _ _ h => h) (Or.inl ⟨by rfl, ?_⟩) (by assumption) ?_
            rotate_left
            · (intro w hSw; (try dsimp only at hSw); go_simp)
              first | done | with_reducible rfl
            simp only [Act.put, List.getElem_toArray, List.getElem_cons_zero, List.getElem_cons_succ, List.setIfInBounds_toArray, List.set_cons_zero, List.set_cons_succ]
            refine wpAnyH_take (i := 19) (v := ?_) rfl (by kernel_rfl) (by kernel_rfl) (by kernel_rfl) (fun _ _ _ h => h) (Or.inl ⟨by rfl, ?_⟩) (by assumption) ?_
            rotate_left
            · (intro w hSw; (try dsimp only at hSw); go_simp)
              first | done | with_reducible rfl
            simp only [Act.put, List.getElem_toArray, List.getElem_cons_zero, List.getElem_cons_succ, List.setIfInBounds_toArray, List.set_cons_zero, List.set_cons_succ]
            refine wpAnyH_take (i := 20) rfl (by kernel_rfl) (by kernel_rfl) (by kernel_rfl) (fun _ _ _ h => h) (Or.inr ⟨by rfl, rfl⟩) (by assumption) ?_
            simp only [Act.put, List.getElem_toArray, List.getElem_cons_zero, List.getElem_cons_succ, List.setIfInBounds_toArray, List.set_cons_zero, List.set_cons_succ]
            refine wpAnyH_take (i := 21) rfl (by kernel_rfl) (by kernel_rfl) (by kernel_rfl) (fun _ _ _ h => h) (Or.inr ⟨by rfl, rfl⟩) (by assumption) ?_
            simp only [Act.put, List.getElem_toArray, List.getElem_cons_zero, List.getElem_cons_succ, List.setIfInBounds_toArray, List.set_cons_zero, List.set_cons_succ]
            refine wpAnyH_take (i := 22) rfl (by kernel_rfl) (by kernel_rfl) (by kernel_rfl) (fun _ _ _ h => h) (Or.inr ⟨by rfl, rfl⟩) (by assumption) ?_
            simp only [Act.put, List.getElem_toArray, List.getElem_cons_zero, List.getElem_cons_succ, List.setIfInBounds_toArray, List.set_cons_zero, List.set_cons_succ]
            refine wpAnyH_take (i := 23) rfl (by kernel_rfl) (by kernel_rfl) (by kernel_rfl) (fun _ _ _ h => h) (Or.inr ⟨by rfl, rfl⟩) (by assumption) ?_
            simp only [Act.put, List.getElem_toArray, List.getElem_cons_zero, List.getElem_cons_succ, List.setIfInBounds_toArray, List.set_cons_zero, List.set_cons_succ]
            refine wpAnyH_take (i := 24) rfl (by kernel_rfl) (by kernel_rfl) (by kernel_rfl) (fun _ _ _ h => h) (Or.inr ⟨by rfl, rfl⟩) (by assumption) ?_
            simp only [Act.put, List.getElem_toArray, List.getElem_cons_zero, List.getElem_cons_succ, List.setIfInBounds_toArray, List.set_cons_zero, List.set_cons_succ]
            refine wpAnyH_take (i := 25) rfl (by kernel_rfl) (by kernel_rfl) (by kernel_rfl) (fun _ _ _ h => h) (Or.inr ⟨by rfl, rfl⟩) (by assumption) ?_
            simp only [Act.put, List.getElem_toArray, List.getElem_cons_zero, List.getElem_cons_succ, List.setIfInBounds_toArray, List.set_cons_zero, List.set_cons_succ]
            refine wpAnyH_take (i := 26) rfl (by kernel_rfl) (by kernel_rfl) (by kernel_rfl) (fun _ _ _ h => h) (Or.inr ⟨by rfl, rfl⟩) (by assumption) ?_
            simp only [Act.put, List.getElem_toArray, List.getElem_cons_zero, List.getElem_cons_succ, List.setIfInBounds_toArray, List.set_cons_zero, List.set_cons_succ]
            refine wpAnyH_take (i := 27) rfl (by kernel_rfl) (by kernel_rfl) (by kernel_rfl) (fun _ _ _ h => h) (Or.inr ⟨by rfl, rfl⟩) (by assumption) ?_
            simp only [Act.put, List.getElem_toArray, List.getElem_cons_zero, List.getElem_cons_succ, List.setIfInBounds_toArray, List.set_cons_zero, List.set_cons_succ]
            refine wpAnyH_take (i := 28) rfl (by kernel_rfl) (by kernel_rfl) (by kernel_rfl) (fun _ _ _ h => h) (Or.inr ⟨by rfl, rfl⟩) (by assumption) ?_
            simp only [Act.put, List.getElem_toArray, List.getElem_cons_zero, List.getElem_cons_succ, List.setIfInBounds_toArray, List.set_cons_zero, List.set_cons_succ]
            refine wpAnyH_take (i := 29) rfl (by kernel_rfl) (by kernel_rfl) (by kernel_rfl) (fun _ _ _ h => h) (Or.inr ⟨by rfl, rfl⟩) (by assumption) ?_
            simp only [Act.put, List.getElem_toArray, List.getElem_cons_zero, List.getElem_cons_succ, List.setIfInBounds_toArray, List.set_cons_zero, List.set_cons_succ]
            refine wpAnyH_take (i := 30) rfl (by kernel_rfl) (by kernel_rfl) (by kernel_rfl) (fun _ _ _ h => h) (Or.inr ⟨by rfl, rfl⟩) (by assumption) ?_
            simp only [Act.put, List.getElem_toArray, List.getElem_cons_zero, List.getElem_cons_succ, List.setIfInBounds_toArray, List.set_cons_zero, List.set_cons_succ]
            refine wpAnyH_take (i := 31) rfl (by kernel_rfl) (by kernel_rfl) (by kernel_rfl) (fun _ _ _ h => h) (Or.inr ⟨by rfl, rfl⟩) (by assumption) ?_
            simp only [Act.put, List.getElem_toArray, List.getElem_cons_zero, List.getElem_cons_succ, List.setIfInBounds_toArray, List.set_cons_zero, List.set_cons_succ]
            refine wpAnyH_take (i := 32) (v := ?_) rfl (by kernel_rfl) (by kernel_rfl) (by kernel_rfl) (fun _ _ _ h => h) (Or.inl ⟨by rfl, ?_⟩) (by assumption) ?_
            rotate_left
            · (intro w hSw; (try dsimp only at hSw); go_simp)
              first | done | with_reducible rfl
            simp only [Act.put, List.getElem_toArray, List.getElem_cons_zero, List.getElem_cons_succ, List.setIfInBounds_toArray, List.set_cons_zero, List.set_cons_succ]
            refine wpAnyH_done (by kernel_rfl) ?_ _
            have HU9 := Lib.hid (HU.out.trans hv2)
            clear HU hHeld q1 q2 za0 za1 za2 za3 zb0 zb1 zb2 zb3
            go_wp2_with fail
            go_ret2
            exact ⟨Or.inl ⟨HE.out, rfl⟩, HUA.out.trans HU9.out⟩
          | true =>
            rw [hi2] at IB
            have HIN := Lib.hid (And.intro (HI0.out P0 hi1) (HI1.out P1 hi2))
            clear HI0 HI1
            by_cases k0 : k = 0
            · have HE := Lib.hid (show allF (pairP R sa sb) (k + 1) (R.length - (k + 1)) = pairsF R sa sb by rw [← HFF.out, hi1, hi2, decide_eq_true k0]; simp)
              have kk : decide (0 < k) = false := by rw [k0]; rfl
              clear HFF hi1 hi2 SC HK k0
              go_upto_region 5 with (fail)
              refine wp_region_held_drew (S := fun w' => w'.cell? ⟨BA, 0, none⟩ = some (ei sa) ∧ w'.cell? ⟨BA, 1, none⟩ = some (ei ia) ∧ w'.cell? ⟨BA, 2, none⟩ = some a1 ∧ w'.cell? ⟨BA, 3, none⟩ = some a2 ∧ w'.cell? ⟨BB, 0, none⟩ = some (ei sb) ∧ w'.cell? ⟨BB, 1, none⟩ = some (ei ib) ∧ w'.cell? ⟨BB, 2, none⟩ = some b1 ∧ w'.cell? ⟨BB, 3, none⟩ = some b2 ∧ w'.cell? ⟨b2r, o2r, none⟩ = some (ei P0) ∧ w'.cell? ⟨b2r, o2r + 1, none⟩ = some (ei P1)) (by kernel_rfl) ?_ (fun hHeld => ?_)
              · exact ⟨za0, za1, za2, za3, zb0, zb1, zb2, zb3, q1, q2⟩
              refine wpAnyH_take (i := 0) (v := ?_) rfl (by kernel_rfl) (by kernel_rfl) (by kernel_rfl) (fun _ _ _ h => h) (Or.inl ⟨by rfl, ?_⟩) (by assumption) ?_
              rotate_left
              · (intro w hSw; (try dsimp only at hSw); go_simp)
                first | done | with_reducible rfl
              simp only [Act.put, List.getElem_toArray, List.getElem_cons_zero, List.setIfInBounds_toArray, List.set_cons_zero, List.set_cons_succ]
              refine wpAnyH_take (i := 1) (v := ?_) rfl (by kernel_rfl) (by kernel_rfl) (by kernel_rfl) (fun _ _ _ h => h) (Or.inl ⟨by rfl, ?_⟩) (by assumption) ?_
              rotate_left
              · (intro w hSw; (try dsimp only at hSw); go_simp)
                first | done | with_reducible rfl
              simp only [Act.put, List.getElem_toArray, List.getElem_cons_zero, List.getElem_cons_succ, List.setIfInBounds_toArray, List.set_cons_zero, List.set_cons_succ]
              refine wpAnyH_take (i := 2) (v := ?_) rfl (by kernel_rfl) (by kernel_rfl) (by kernel_rfl) (fun _ _ _ h => h) (Or.inl ⟨by rfl, ?_⟩) (by assumption) ?_
              rotate_left
              · (intro w hSw; (try dsimp only at hSw); go_simp)
                first | done | with_reducible rfl
              simp only [Act.put, List.getElem_toArray, List.getElem_cons_zero, List.getElem_cons_succ, List.setIfInBounds_toArray, List.set_cons_zero, List.set_cons_succ]
              refine wpAnyH_take (i := 3) (v := ?_) rfl (by kernel_rfl) (by kernel_rfl) (by kernel_rfl) (fun _ _ _ h => h) (Or.inl ⟨by rfl, ?_⟩) (by assumption) ?_
              rotate_left
              · (intro w hSw; (try dsimp only at hSw); go_simp)
                first | done | with_reducible rfl
              simp only [Act.put, List.getElem_toArray, List.getElem_cons_zero, List.getElem_cons_succ, List.setIfInBounds_toArray, List.set_cons_zero, List.set_cons_succ]
              refine wpAnyH_take (i := 4) (v := ?_) rfl (by kernel_rfl) (by kernel_rfl) (by kernel_rfl) (fun _ _ _ h => h) (Or.inl ⟨by rfl, ?_⟩) (by assumption) ?_
              rotate_left
              · (intro w hSw; (try dsimp only at hSw); go_simp)
                first | done | with_reducible rfl
              simp only [Act.put, List.getElem_toArray, List.getElem_cons_zero, List.getElem_cons_succ, List.setIfInBounds_toArray, List.set_cons_zero, List.set_cons_succ]
              refine wpAnyH_take (i := 5) (v := ?_) rfl (by kernel_rfl) (by kernel_rfl) (by kernel_rfl) (fun _ _ _ h => h) (Or.inl ⟨by rfl, ?_⟩) (by assumption) ?_
              rotate_left
              · (intro w hSw; (try dsimp only at hSw); go_simp)
                first | done | with_reducible rfl
              simp only [Act.put, List.getElem_toArray, List.getElem_cons_zero, List.getElem_cons_succ, List.setIfInBounds_toArray, List.set_cons_zero, List.set_cons_succ]
              refine wpAnyH_take (i := 6) (v := ?_) rfl (by kernel_rfl) (by kernel_rfl) (by kernel_rfl) (fun _ _ _ h => h) (Or.inl ⟨by rfl, ?_⟩) (by assumption) ?_
              rotate_left
              · (intro w hSw; (try dsimp only at hSw); go_simp)
                first | done | with_reducible rfl
              simp only [Act.put, List.getElem_toArray, List.getElem_cons_zero, List.getElem_cons_succ, List.setIfInBounds_toArray, List.set_cons_zero, List.set_cons_succ]
              refine wpAnyH_take (i := 7) (v := ?_) rfl (by kernel_rfl) (by kernel_rfl) (by kernel_rfl) (fun _ _ _ h => h) (Or.inl ⟨by rfl, ?_⟩) (by assumption) ?_
              rotate_left
              · (intro w hSw; (try dsimp only at hSw); go_simp)
                first | done | with_reducible rfl
              simp only [Act.put, List.getElem_toArray, List.getElem_cons_zero, List.getElem_cons_succ, List.setIfInBounds_toArray, List.set_cons_zero, List.set_cons_succ]
              refine wpAnyH_ready (rs := [8]) (by kernel_rfl) (by simp) ?_
              refine AllReadyH.cons rfl (fun K hK => ?_) AllReadyH.nil
              go_simp
              refine (IA.out _ ((Upd.refl [] wo).drew)).mono ?_
              rintro e w8 ⟨rfl, hu1⟩
              have hv1 : Upd [] wo w8 := (Upd.refl [] wo).drew.trans hu1
              refine hK.out _ _ ?_ (fun hHeld => ?_)
              · exact ⟨hu1.keep hHeld.1, hu1.keep hHeld.2.1, hu1.keep hHeld.2.2.1, hu1.keep hHeld.2.2.2.1, hu1.keep hHeld.2.2.2.2.1, hu1.keep hHeld.2.2.2.2.2.1, hu1.keep hHeld.2.2.2.2.2.2.1, hu1.keep hHeld.2.2.2.2.2.2.2.1, hu1.keep hHeld.2.2.2.2.2.2.2.2.1, hu1.keep hHeld.2.2.2.2.2.2.2.2.2⟩
              clear hK K
              try simp only [Act.put, List.getElem_toArray, List.getElem_cons_zero, List.getElem_cons_succ, List.setIfInBounds_toArray, List.set_cons_zero, List.set_cons_succ]
              refine wpAnyH_take (i := 9) (v := ?_) rfl (by kernel_rfl) (by kernel_rfl) (by kernel_rfl) (fun _ _ _ h => h) (Or.inl ⟨by rfl, ?_⟩) (by assumption) ?_
              rotate_left
              · (intro w hSw; (try dsimp only at hSw); go_simp)
                first | done | with_reducible rfl
              simp only [Act.put, List.getElem_toArray, List.getElem_cons_zero, List.getElem_cons_succ, List.setIfInBounds_toArray, List.set_cons_zero, List.set_cons_succ]
              refine wpAnyH_take (i := 10) (v := ?_) rfl (by kernel_rfl) (by kernel_rfl) (by kernel_rfl) (fun _ _ _ h => h) (Or.inl ⟨by rfl, ?_⟩) (by assumption) ?_
              rotate_left
              · (intro w hSw; (try dsimp only at hSw); go_simp)
                first | done | with_reducible rfl
              simp only [Act.put, List.getElem_toArray, List.getElem_cons_zero, List.getElem_cons_succ, List.setIfInBounds_toArray, List.set_cons_zero, List.set_cons_succ]
              refine wpAnyH_take (i := 11) (v := ?_) rfl (by kernel_rfl) (by kernel_rfl) (by kernel_rfl) (fun _ _ _ h => h) (Or.inl ⟨by rfl, ?_⟩) (by assumption) ?_
              rotate_left
              · (intro w hSw; (try dsimp only at hSw); go_simp)
                first | done | with_reducible rfl
              simp only [Act.put, List.getElem_toArray, List.getElem_cons_zero, List.getElem_cons_succ, List.setIfInBounds_toArray, List.set_cons_zero, List.set_cons_succ]
              refine wpAnyH_take (i := 12) (v := ?_) rfl (by kernel_rfl) (by kernel_rfl) (by kernel_rfl) (fun _ _ _ h => h) (Or.inl ⟨by rfl, ?_⟩) (by assumption) ?_
              rotate_left
              · (intro w hSw; (try dsimp only at hSw); go_simp)
                first | done | with_reducible rfl
              simp only [Act.put, List.getElem_toArray, List.getElem_cons_zero, List.getElem_cons_succ, List.setIfInBounds_toArray, List.set_cons_zero, List.set_cons_succ]
              refine wpAnyH_take (i := 13) (v := ?_) rfl (by kernel_rfl) (by kernel_rfl) (by kernel_rfl) (fun _ _ _ h => h) (Or.inl ⟨by rfl, ?_⟩) (by assumption) ?_
              rotate_left
              · (intro w hSw; (try dsimp only at hSw); go_simp)
                first | done | with_reducible rfl
              simp only [Act.put, List.getElem_toArray, List.getElem_cons_zero, List.getElem_cons_succ, List.setIfInBounds_toArray, List.set_cons_zero, List.set_cons_succ]
              refine wpAnyH_take (i := 14) (v := ?_) rfl (by kernel_rfl) (by kernel_rfl) (by kernel_rfl) (fun _ _ _ h => h) (Or.inl ⟨by rfl, ?_⟩) (by assumption) ?_
              rotate_left
              · (intro w hSw; (try dsimp only at hSw); go_simp)
                first | done | with_reducible rfl
              simp only [Act.put, List.getElem_toArray, List.getElem_cons_zero, List.getElem_cons_succ, List.setIfInBounds_toArray, List.set_cons_zero, List.set_cons_succ]
              refine wpAnyH_take (i := 15) (v := ?_) rfl (by kernel_rfl) (by kernel_rfl) (by kernel_rfl) (fun _ _ _ h => h) (Or.inl ⟨by rfl, ?_⟩) (by assumption) ?_
              rotate_left
              · (intro w hSw; (try dsimp only at hSw); go_simp)
                first | done | with_reducible rfl
              simp only [Act.put, List.getElem_toArray, List.getElem_cons_zero, List.getElem_cons_succ, List.setIfInBounds_toArray, List.set_cons_zero, List.set_cons_succ]
              refine wpAnyH_ready (rs := [16]) (by kernel_rfl) (by simp) ?_
              refine AllReadyH.cons rfl (fun K hK => ?_) AllReadyH.nil
              go_simp
              refine (IB.out w8 hv1).mono ?_
              rintro e w16 ⟨rfl, hu2⟩
              have hv2 : Upd [] wo w16 := hv1.trans hu2
              refine hK.out _ _ ?_ (fun hHeld => ?_)
              · exact ⟨hu2.keep hHeld.1, hu2.keep hHeld.2.1, hu2.keep hHeld.2.2.1, hu2.keep hHeld.2.2.2.1, hu2.keep hHeld.2.2.2.2.1, hu2.keep hHeld.2.2.2.2.2.1, hu2.keep hHeld.2.2.2.2.2.2.1, hu2.keep hHeld.2.2.2.2.2.2.2.1, hu2.keep hHeld.2.2.2.2.2.2.2.2.1, hu2.keep hHeld.2.2.2.2.2.2.2.2.2⟩
              clear hK K
              try simp only [Act.put, List.getElem_toArray, List.getElem_cons_zero, List.getElem_cons_succ, List.setIfInBounds_toArray, List.set_cons_zero, List.set_cons_succ]
              refine wpAnyH_take (i := 17) (v := ?_) rfl (by kernel_rfl) (by kernel_rfl) (by kernel_rfl) (fun _ _ _ h => h) (Or.inl ⟨by rfl, ?_⟩) (by assumption) ?_
              rotate_left
              · (intro w hSw; (try dsimp only at hSw); go_simp)
                first | done | with_reducible rfl
              simp only [Act.put, List.getElem_toArray, List.getElem_cons_zero, List.getElem_cons_succ, List.setIfInBounds_toArray, List.set_cons_zero, List.set_cons_succ]
              refine wpAnyH_take (i := 18) (v := ?_) rfl (by kernel_rfl) (by kernel_rfl) (by kernel_rfl) (fun _ _ _ h => h) (Or.inl ⟨by rfl, ?_⟩) (by assumption) ?_
              rotate_left
              · (intro w hSw; (try dsimp only at hSw); go_simp)
                first | done | with_reducible rfl
              simp only [Act.put, List.getElem_toArray, List.getElem_cons_zero, List.getElem_cons_succ, List.setIfInBounds_toArray, List.set_cons_zero, List.set_cons_succ]
              refine wpAnyH_take (i := 19) (v := ?_) rfl (by kernel_rfl) (by kernel_rfl) (by kernel_rfl) (fun _ _ _ h => h) (Or.inl ⟨by rfl, ?_⟩) (by assumption) ?_
              rotate_left
              · (intro w hSw; (try dsimp only at hSw); go_simp)
                first | done | with_reducible rfl
              simp only [Act.put, List.getElem_toArray, List.getElem_cons_zero, List.getElem_cons_succ, List.setIfInBounds_toArray, List.set_cons_zero, List.set_cons_succ]
              refine wpAnyH_take (i := 20) (v := ?_) rfl (by kernel_rfl) (by kernel_rfl) (by kernel_rfl) (fun _ _ _ h => h) (Or.inl ⟨by rfl, ?_⟩) (by assumption) ?_
              rotate_left
              · (intro w hSw; (try dsimp only at hSw); go_simp)
                first | done | with_reducible rfl
              simp only [Act.put, List.getElem_toArray, List.getElem_cons_zero, List.getElem_cons_succ, List.setIfInBounds_toArray, List.set_cons_zero, List.set_cons_succ]
              refine wpAnyH_take (i := 21) (v := ?_) rfl (by kernel_rfl) (by kernel_rfl) (by kernel_rfl) (fun _ _ _ h => h) (Or.inl ⟨by rfl, ?_⟩) (by assumption) ?_
              rotate_left
              · (intro w hSw; (try dsimp only at hSw); go_simp)
                first | done | with_reducible rfl
              simp only [Act.put, List.getElem_toArray, List.getElem_cons_zero, List.getElem_cons_succ, List.setIfInBounds_toArray, List.set_cons_zero, List.set_cons_succ]
              refine wpAnyH_take (i := 22) (v := ?_) rfl (by kernel_rfl) (by kernel_rfl) (by kernel_rfl) (fun _ _ _ h => h) (Or.inl ⟨by rfl, ?_⟩) (by assumption) ?_
              rotate_left
              · (intro w hSw; (try dsimp only at hSw); go_simp)
                first | done | with_reducible rfl
              simp only [Act.put, List.getElem_toArray, List.getElem_cons_zero, List.getElem_cons_succ, List.setIfInBounds_toArray, List.set_cons_zero, List.set_cons_succ]
              refine wpAnyH_take (i := 23) rfl (by kernel_rfl) (by kernel_rfl) (by kernel_rfl) (fun _ _ _ h => h) (Or.inr ⟨by rfl, rfl⟩) (by assumption) ?_
              simp only [Act.put, List.getElem_toArray, List.getElem_cons_zero, List.getElem_cons_succ, List.setIfInBounds_toArray, List.set_cons_zero, List.set_cons_succ]
              refine wpAnyH_take (i := 24) rfl (by kernel_rfl) (by kernel_rfl) (by kernel_rfl) (fun _ _ _ h => h) (Or.inr ⟨by rfl, rfl⟩) (by assumption) ?_
              simp only [Act.put, List.getElem_toArray, List.getElem_cons_zero, List.getElem_cons_succ, List.setIfInBounds_toArray, List.set_cons_zero, List.set_cons_succ]
              refine wpAnyH_take (i := 25) rfl (by kernel_rfl) (by kernel_rfl) (by kernel_rfl) (fun _ _ _ h => h) (Or.inr ⟨by rfl, rfl⟩) (by assumption) ?_
              simp only [Act.put, List.getElem_toArray, List.getElem_cons_zero, List.getElem_cons_succ, List.setIfInBounds_toArray, List.set_cons_zero, List.set_cons_succ]
              refine wpAnyH_take (i := 26) rfl (by kernel_rfl) (by kernel_rfl) (by kernel_rfl) (fun _ _ _ h => h) (Or.inr ⟨by rfl, rfl⟩) (by assumption) ?_
              simp only [Act.put, List.getElem_toArray, List.getElem_cons_zero, List.getElem_cons_succ, List.setIfInBounds_toArray, List.set_cons_zero, List.set_cons_succ]
              refine wpAnyH_take (i := 27) rfl (by kernel_rfl) (by kernel_rfl) (by kernel_rfl) (fun _ _ _ h => h) (Or.inr ⟨by rfl, rfl⟩) (by assumption) ?_
              simp only [Act.put, List.getElem_toArray, List.getElem_cons_zero, List.getElem_cons_succ, List.setIfInBounds_toArray, List.set_cons_zero, List.set_cons_succ]
              refine wpAnyH_take (i := 28) rfl (by kernel_rfl) (by kernel_rfl) (by kernel_rfl) (fun _ _ _ h => h) (Or.inr ⟨by rfl, rfl⟩) (by assumption) ?_
              simp only [Act.put, List.getElem_toArray, List.getElem_cons_zero, List.getElem_cons_succ, List.setIfInBounds_toArray, List.set_cons_zero, List.set_cons_succ]
              refine wpAnyH_take (i := 29) rfl (by kernel_rfl) (by kernel_rfl) (by kernel_rfl) (fun _ _ _ h => h) (Or.inr ⟨by rfl, rfl⟩) (by assumption) ?_
              simp only [Act.put, List.getElem_toArray, List.getElem_cons_zero, List.getElem_cons_succ, List.setIfInBounds_toArray, List.set_cons_zero, List.set_cons_succ]
              refine wpAnyH_take (i := 30) rfl (by kernel_rfl) (by kernel_rfl) (by kernel_rfl) (fun _ _ _ h => h) (Or.inr ⟨by rfl, rfl⟩) (by assumption) ?_
              simp only [Act.put, List.getElem_toArray, List.getElem_cons_zero, List.getElem_cons_succ, List.setIfInBounds_toArray, List.set_cons_zero, List.set_cons_succ]
              refine wpAnyH_take (i := 31) (v := ?_) rfl (by kernel_rfl) (by kernel_rfl) (by kernel_rfl) (fun _ _ _ h => h) (Or.inl ⟨by rfl, ?_⟩) (by assumption) ?_
              rotate_left
              · (intro w hSw; (try dsimp only at hSw); go_simp)
                first | done | with_reducible rfl
              simp only [Act.put, List.getElem_toArray, List.getElem_cons_zero, List.getElem_cons_succ, List.setIfInBounds_toArray, List.set_cons_zero, List.set_cons_succ]
              refine wpAnyH_take (i := 32) (v := ?_) rfl (by kernel_rfl) (by kernel_rfl) (by kernel_rfl) (fun _ _ _ h => h) (Or.inl ⟨by rfl, ?_⟩) (by assumption) ?_
              rotate_left
              · (intro w hSw; (try dsimp only at hSw); go_simp)
                first | done | with_reducible rfl
              simp only [Act.put, List.getElem_toArray, List.getElem_cons_zero, List.getElem_cons_succ, List.setIfInBounds_toArray, List.set_cons_zero, List.set_cons_succ]
              refine wpAnyH_done (by kernel_rfl) ?_ _
              have HU9 := Lib.hid (HU.out.trans hv2)
              have HM9 := Lib.hid (ownsMap_upd HM.out hv2 (by simp))
              have q1 := hv2.keep q1
              have q2 := hv2.keep q2
              obtain ⟨in0, in1⟩ := HIN.out
              have HP9 := Lib.hid (HP.out.put in0 in1)
              obtain ⟨w10, hrun10, hm10, hg10⟩ := (ownsMap_upd HM9.out (Upd.refl [] w16).drew (by simp)).update keyP Tryz.underlying105 (show k < maxLen by unfold maxLen; have := HR9.out; omega) (keyOfP in0 in1) (plainElem_bool (H := Unit) Tryz.underlying4 true)
              have HU10 := Lib.hid ((HU9.out.drew).fresh ((Upd.refl [BM] (w16).drew).grown hg10 (fun j hj => Or.inr (by simp at hj ⊢; exact hj.symm))) (fun b hb => Or.inl (by simp at hb; have := HBMA.out; omega)))
              have HM10 := Lib.hid hm10
              have HP10 := Lib.hid (show PMap (pairsOf (R.take (k + 1))) _ by rw [HST.out]; exact HP9.out)
              clear HU HM HIN HP hHeld za0 za1 za2 za3 zb0 zb1 zb2 zb3 hm10 hg10 HU9 HM9 HP9 in0 in1 HST IA0 IB0 IA IB HC HZ
              go_upto_region 7 with (fail)
              go_region
              all_goals
                go_wp2_with fail
                go_roundw
                case rel => exact ⟨k + 1, _, by omega, by go_num, HE, HU10, HM10, HP10⟩
                case measure => simp [intOf]; omega
            · have kk : decide (0 < k) = true := decide_eq_true (by omega)
              have kd : decide (k = 0) = false := decide_eq_false k0
              have i0 : IntKind.i64.wrap ((k : Int) - 1) = (k : Int) - 1 := IntWalk.i64_in _ (by omega)
              have i1 : ((k : Int) - 1).toNat = k - 1 := by omega
              have i3 : (0 : Int) ≤ (k : Int) - 1 := by omega
              have i5 : (1 : Int) ≤ (k : Int) := by omega
              have i6 : (0 : Int) < (k : Int) := by omega
              have i4 : (k : Int) - 1 < (R.length : Int) := by omega
              obtain ⟨u9, f9, q9, r9⟩ := HK.out (by omega)
              have SC9 := Lib.hid (SC.out u9 f9 _ r9)
              clear HK r9 SC
              have hcq : pairsF R sa sb = (decide (cmpQ (R.getD (k - 1) []) R[k] < 0) && allF (pairP R sa sb) (k + 1) (R.length - (k + 1))) := by rw [← HFF.out, hi1, hi2, kd]; simp
              have HCQ := Lib.hid hcq
              clear HFF hi1 hi2 kd hcq k0
              generalize cmpQ (R.getD (k - 1) []) R[k] = c at *
              by_cases hc0 : c < 0
              · have hd : decide (0 ≤ c) = false := decide_eq_false (by omega)
                have hd2 : decide (c ≥ 0) = false := hd
                have HE := Lib.hid (show allF (pairP R sa sb) (k + 1) (R.length - (k + 1)) = pairsF R sa sb by rw [HCQ.out, decide_eq_true hc0]; simp)
                clear HCQ hc0
                go_upto_region 5 with (fail)
                refine wp_region_held_drew (S := fun w' => w'.cell? ⟨BA, 0, none⟩ = some (ei sa) ∧ w'.cell? ⟨BA, 1, none⟩ = some (ei ia) ∧ w'.cell? ⟨BA, 2, none⟩ = some a1 ∧ w'.cell? ⟨BA, 3, none⟩ = some a2 ∧ w'.cell? ⟨BB, 0, none⟩ = some (ei sb) ∧ w'.cell? ⟨BB, 1, none⟩ = some (ei ib) ∧ w'.cell? ⟨BB, 2, none⟩ = some b1 ∧ w'.cell? ⟨BB, 3, none⟩ = some b2 ∧ w'.cell? ⟨b2r, o2r, none⟩ = some (ei P0) ∧ w'.cell? ⟨b2r, o2r + 1, none⟩ = some (ei P1) ∧ w'.cell? ⟨bb, off + (k - 1), none⟩ = some u9) (by kernel_rfl) ?_ (fun hHeld => ?_)
                · exact ⟨za0, za1, za2, za3, zb0, zb1, zb2, zb3, q1, q2, q9⟩
                refine wpAnyH_take (i := 0) (v := ?_) rfl (by kernel_rfl) (by kernel_rfl) (by kernel_rfl) (fun _ _ _ h => h) (Or.inl ⟨by rfl, ?_⟩) (by assumption) ?_
                rotate_left
                · (intro w hSw; (try dsimp only at hSw); go_simp)
                  first | done | with_reducible rfl
                simp only [Act.put, List.getElem_toArray, List.getElem_cons_zero, List.setIfInBounds_toArray, List.set_cons_zero, List.set_cons_succ]
                refine wpAnyH_take (i := 1) (v := ?_) rfl (by kernel_rfl) (by kernel_rfl) (by kernel_rfl) (fun _ _ _ h => h) (Or.inl ⟨by rfl, ?_⟩) (by assumption) ?_
                rotate_left
                · (intro w hSw; (try dsimp only at hSw); go_simp)
                  first | done | with_reducible rfl
                simp only [Act.put, List.getElem_toArray, List.getElem_cons_zero, List.getElem_cons_succ, List.setIfInBounds_toArray, List.set_cons_zero, List.set_cons_succ]
                refine wpAnyH_take (i := 2) (v := ?_) rfl (by kernel_rfl) (by kernel_rfl) (by kernel_rfl) (fun _ _ _ h => h) (Or.inl ⟨by rfl, ?_⟩) (by assumption) ?_
                rotate_left
                · (intro w hSw; (try dsimp only at hSw); go_simp)
                  first | done | with_reducible rfl
                simp only [Act.put, List.getElem_toArray, List.getElem_cons_zero, List.getElem_cons_succ, List.setIfInBounds_toArray, List.set_cons_zero, List.set_cons_succ]
                refine wpAnyH_take (i := 3) (v := ?_) rfl (by kernel_rfl) (by kernel_rfl) (by kernel_rfl) (fun _ _ _ h => h) (Or.inl ⟨by rfl, ?_⟩) (by assumption) ?_
                rotate_left
                · (intro w hSw; (try dsimp only at hSw); go_simp)
                  first | done | with_reducible rfl
                simp only [Act.put, List.getElem_toArray, List.getElem_cons_zero, List.getElem_cons_succ, List.setIfInBounds_toArray, List.set_cons_zero, List.set_cons_succ]
                refine wpAnyH_take (i := 4) (v := ?_) rfl (by kernel_rfl) (by kernel_rfl) (by kernel_rfl) (fun _ _ _ h => h) (Or.inl ⟨by rfl, ?_⟩) (by assumption) ?_
                rotate_left
                · (intro w hSw; (try dsimp only at hSw); go_simp)
                  first | done | with_reducible rfl
                simp only [Act.put, List.getElem_toArray, List.getElem_cons_zero, List.getElem_cons_succ, List.setIfInBounds_toArray, List.set_cons_zero, List.set_cons_succ]
                refine wpAnyH_take (i := 5) (v := ?_) rfl (by kernel_rfl) (by kernel_rfl) (by kernel_rfl) (fun _ _ _ h => h) (Or.inl ⟨by rfl, ?_⟩) (by assumption) ?_
                rotate_left
                · (intro w hSw; (try dsimp only at hSw); go_simp)
                  first | done | with_reducible rfl
                simp only [Act.put, List.getElem_toArray, List.getElem_cons_zero, List.getElem_cons_succ, List.setIfInBounds_toArray, List.set_cons_zero, List.set_cons_succ]
                refine wpAnyH_take (i := 6) (v := ?_) rfl (by kernel_rfl) (by kernel_rfl) (by kernel_rfl) (fun _ _ _ h => h) (Or.inl ⟨by rfl, ?_⟩) (by assumption) ?_
                rotate_left
                · (intro w hSw; (try dsimp only at hSw); go_simp)
                  first | done | with_reducible rfl
                simp only [Act.put, List.getElem_toArray, List.getElem_cons_zero, List.getElem_cons_succ, List.setIfInBounds_toArray, List.set_cons_zero, List.set_cons_succ]
                refine wpAnyH_take (i := 7) (v := ?_) rfl (by kernel_rfl) (by kernel_rfl) (by kernel_rfl) (fun _ _ _ h => h) (Or.inl ⟨by rfl, ?_⟩) (by assumption) ?_
                rotate_left
                · (intro w hSw; (try dsimp only at hSw); go_simp)
                  first | done | with_reducible rfl
                simp only [Act.put, List.getElem_toArray, List.getElem_cons_zero, List.getElem_cons_succ, List.setIfInBounds_toArray, List.set_cons_zero, List.set_cons_succ]
                refine wpAnyH_ready (rs := [8]) (by kernel_rfl) (by simp) ?_
                refine AllReadyH.cons rfl (fun K hK => ?_) AllReadyH.nil
                go_simp
                refine (IA.out _ ((Upd.refl [] wo).drew)).mono ?_
                rintro e w8 ⟨rfl, hu1⟩
                have hv1 : Upd [] wo w8 := (Upd.refl [] wo).drew.trans hu1
                refine hK.out _ _ ?_ (fun hHeld => ?_)
                · exact ⟨hu1.keep hHeld.1, hu1.keep hHeld.2.1, hu1.keep hHeld.2.2.1, hu1.keep hHeld.2.2.2.1, hu1.keep hHeld.2.2.2.2.1, hu1.keep hHeld.2.2.2.2.2.1, hu1.keep hHeld.2.2.2.2.2.2.1, hu1.keep hHeld.2.2.2.2.2.2.2.1, hu1.keep hHeld.2.2.2.2.2.2.2.2.1, hu1.keep hHeld.2.2.2.2.2.2.2.2.2.1, hu1.keep hHeld.2.2.2.2.2.2.2.2.2.2⟩
                clear hK K
                try simp only [Act.put, List.getElem_toArray, List.getElem_cons_zero, List.getElem_cons_succ, List.setIfInBounds_toArray, List.set_cons_zero, List.set_cons_succ]
                refine wpAnyH_take (i := 9) (v := ?_) rfl (by kernel_rfl) (by kernel_rfl) (by kernel_rfl) (fun _ _ _ h => h) (Or.inl ⟨by rfl, ?_⟩) (by assumption) ?_
                rotate_left
                · (intro w hSw; (try dsimp only at hSw); go_simp)
                  first | done | with_reducible rfl
                simp only [Act.put, List.getElem_toArray, List.getElem_cons_zero, List.getElem_cons_succ, List.setIfInBounds_toArray, List.set_cons_zero, List.set_cons_succ]
                refine wpAnyH_take (i := 10) (v := ?_) rfl (by kernel_rfl) (by kernel_rfl) (by kernel_rfl) (fun _ _ _ h => h) (Or.inl ⟨by rfl, ?_⟩) (by assumption) ?_
                rotate_left
                · (intro w hSw; (try dsimp only at hSw); go_simp)
                  first | done | with_reducible rfl
                simp only [Act.put, List.getElem_toArray, List.getElem_cons_zero, List.getElem_cons_succ, List.setIfInBounds_toArray, List.set_cons_zero, List.set_cons_succ]
                refine wpAnyH_take (i := 11) (v := ?_) rfl (by kernel_rfl) (by kernel_rfl) (by kernel_rfl) (fun _ _ _ h => h) (Or.inl ⟨by rfl, ?_⟩) (by assumption) ?_
                rotate_left
                · (intro w hSw; (try dsimp only at hSw); go_simp)
                  first | done | with_reducible rfl
                simp only [Act.put, List.getElem_toArray, List.getElem_cons_zero, List.getElem_cons_succ, List.setIfInBounds_toArray, List.set_cons_zero, List.set_cons_succ]
                refine wpAnyH_take (i := 12) (v := ?_) rfl (by kernel_rfl) (by kernel_rfl) (by kernel_rfl) (fun _ _ _ h => h) (Or.inl ⟨by rfl, ?_⟩) (by assumption) ?_
                rotate_left
                · (intro w hSw; (try dsimp only at hSw); go_simp)
                  first | done | with_reducible rfl
                simp only [Act.put, List.getElem_toArray, List.getElem_cons_zero, List.getElem_cons_succ, List.setIfInBounds_toArray, List.set_cons_zero, List.set_cons_succ]
                refine wpAnyH_take (i := 13) (v := ?_) rfl (by kernel_rfl) (by kernel_rfl) (by kernel_rfl) (fun _ _ _ h => h) (Or.inl ⟨by rfl, ?_⟩) (by assumption) ?_
                rotate_left
                · (intro w hSw; (try dsimp only at hSw); go_simp)
                  first | done | with_reducible rfl
                simp only [Act.put, List.getElem_toArray, List.getElem_cons_zero, List.getElem_cons_succ, List.setIfInBounds_toArray, List.set_cons_zero, List.set_cons_succ]
                refine wpAnyH_take (i := 14) (v := ?_) rfl (by kernel_rfl) (by kernel_rfl) (by kernel_rfl) (fun _ _ _ h => h) (Or.inl ⟨by rfl, ?_⟩) (by assumption) ?_
                rotate_left
                · (intro w hSw; (try dsimp only at hSw); go_simp)
                  first | done | with_reducible rfl
                simp only [Act.put, List.getElem_toArray, List.getElem_cons_zero, List.getElem_cons_succ, List.setIfInBounds_toArray, List.set_cons_zero, List.set_cons_succ]
                refine wpAnyH_take (i := 15) (v := ?_) rfl (by kernel_rfl) (by kernel_rfl) (by kernel_rfl) (fun _ _ _ h => h) (Or.inl ⟨by rfl, ?_⟩) (by assumption) ?_
                rotate_left
                · (intro w hSw; (try dsimp only at hSw); go_simp)
                  first | done | with_reducible rfl
                simp only [Act.put, List.getElem_toArray, List.getElem_cons_zero, List.getElem_cons_succ, List.setIfInBounds_toArray, List.set_cons_zero, List.set_cons_succ]
                refine wpAnyH_ready (rs := [16]) (by kernel_rfl) (by simp) ?_
                refine AllReadyH.cons rfl (fun K hK => ?_) AllReadyH.nil
                go_simp
                refine (IB.out w8 hv1).mono ?_
                rintro e w16 ⟨rfl, hu2⟩
                have hv2 : Upd [] wo w16 := hv1.trans hu2
                refine hK.out _ _ ?_ (fun hHeld => ?_)
                · exact ⟨hu2.keep hHeld.1, hu2.keep hHeld.2.1, hu2.keep hHeld.2.2.1, hu2.keep hHeld.2.2.2.1, hu2.keep hHeld.2.2.2.2.1, hu2.keep hHeld.2.2.2.2.2.1, hu2.keep hHeld.2.2.2.2.2.2.1, hu2.keep hHeld.2.2.2.2.2.2.2.1, hu2.keep hHeld.2.2.2.2.2.2.2.2.1, hu2.keep hHeld.2.2.2.2.2.2.2.2.2.1, hu2.keep hHeld.2.2.2.2.2.2.2.2.2.2⟩
                clear hK K
                try simp only [Act.put, List.getElem_toArray, List.getElem_cons_zero, List.getElem_cons_succ, List.setIfInBounds_toArray, List.set_cons_zero, List.set_cons_succ]
                refine wpAnyH_take (i := 17) (v := ?_) rfl (by kernel_rfl) (by kernel_rfl) (by kernel_rfl) (fun _ _ _ h => h) (Or.inl ⟨by rfl, ?_⟩) (by assumption) ?_
                rotate_left
                · (intro w hSw; (try dsimp only at hSw); go_simp)
                  first | done | with_reducible rfl
                simp only [Act.put, List.getElem_toArray, List.getElem_cons_zero, List.getElem_cons_succ, List.setIfInBounds_toArray, List.set_cons_zero, List.set_cons_succ]
                refine wpAnyH_take (i := 18) (v := ?_) rfl (by kernel_rfl) (by kernel_rfl) (by kernel_rfl) (fun _ _ _ h => h) (Or.inl ⟨by rfl, ?_⟩) (by assumption) ?_
                rotate_left
                · (intro w hSw; (try dsimp only at hSw); go_simp)
                  first | done | with_reducible rfl
                simp only [Act.put, List.getElem_toArray, List.getElem_cons_zero, List.getElem_cons_succ, List.setIfInBounds_toArray, List.set_cons_zero, List.set_cons_succ]
                refine wpAnyH_take (i := 19) (v := ?_) rfl (by kernel_rfl) (by kernel_rfl) (by kernel_rfl) (fun _ _ _ h => h) (Or.inl ⟨by rfl, ?_⟩) (by assumption) ?_
                rotate_left
                · (intro w hSw; (try dsimp only at hSw); go_simp)
                  first | done | with_reducible rfl
                simp only [Act.put, List.getElem_toArray, List.getElem_cons_zero, List.getElem_cons_succ, List.setIfInBounds_toArray, List.set_cons_zero, List.set_cons_succ]
                refine wpAnyH_take (i := 20) (v := ?_) rfl (by kernel_rfl) (by kernel_rfl) (by kernel_rfl) (fun _ _ _ h => h) (Or.inl ⟨by rfl, ?_⟩) (by assumption) ?_
                rotate_left
                · (intro w hSw; (try dsimp only at hSw); go_simp)
                  first | done | with_reducible rfl
                simp only [Act.put, List.getElem_toArray, List.getElem_cons_zero, List.getElem_cons_succ, List.setIfInBounds_toArray, List.set_cons_zero, List.set_cons_succ]
                refine wpAnyH_take (i := 21) (v := ?_) rfl (by kernel_rfl) (by kernel_rfl) (by kernel_rfl) (fun _ _ _ h => h) (Or.inl ⟨by rfl, ?_⟩) (by assumption) ?_
                rotate_left
                · (intro w hSw; (try dsimp only at hSw); go_simp)
                  first | done | with_reducible rfl
                simp only [Act.put, List.getElem_toArray, List.getElem_cons_zero, List.getElem_cons_succ, List.setIfInBounds_toArray, List.set_cons_zero, List.set_cons_succ]
                refine wpAnyH_take (i := 22) (v := ?_) rfl (by kernel_rfl) (by kernel_rfl) (by kernel_rfl) (fun _ _ _ h => h) (Or.inl ⟨by rfl, ?_⟩) (by assumption) ?_
                rotate_left
                · (intro w hSw; (try dsimp only at hSw); go_simp)
                  first | done | with_reducible rfl
                simp only [Act.put, List.getElem_toArray, List.getElem_cons_zero, List.getElem_cons_succ, List.setIfInBounds_toArray, List.set_cons_zero, List.set_cons_succ]
                refine wpAnyH_take (i := 23) (v := ?_) rfl (by kernel_rfl) (by kernel_rfl) (by kernel_rfl) (fun _ _ _ h => h) (Or.inl ⟨by rfl, ?_⟩) (by assumption) ?_
                rotate_left
                · (intro w hSw; (try dsimp only at hSw); go_simp)
                  first | done | with_reducible rfl
                simp only [Act.put, List.getElem_toArray, List.getElem_cons_zero, List.getElem_cons_succ, List.setIfInBounds_toArray, List.set_cons_zero, List.set_cons_succ]
                refine wpAnyH_take (i := 24) (v := ?_) rfl (by kernel_rfl) (by kernel_rfl) (by kernel_rfl) (fun _ _ _ h => h) (Or.inl ⟨by rfl, ?_⟩) (by assumption) ?_
                rotate_left
                · (intro w hSw; (try dsimp only at hSw); go_simp)
                  first | done | with_reducible rfl
                simp only [Act.put, List.getElem_toArray, List.getElem_cons_zero, List.getElem_cons_succ, List.setIfInBounds_toArray, List.set_cons_zero, List.set_cons_succ]
                refine wpAnyH_take (i := 25) (v := ?_) rfl (by kernel_rfl) (by kernel_rfl) (by kernel_rfl) (fun _ _ _ h => h) (Or.inl ⟨by rfl, ?_⟩) (by assumption) ?_
                rotate_left
                · (intro w hSw; (try dsimp only at hSw); go_simp)
                  first | done | with_reducible rfl
                simp only [Act.put, List.getElem_toArray, List.getElem_cons_zero, List.getElem_cons_succ, List.setIfInBounds_toArray, List.set_cons_zero, List.set_cons_succ]
                refine wpAnyH_take (i := 26) (v := ?_) rfl (by kernel_rfl) (by kernel_rfl) (by kernel_rfl) (fun _ _ _ h => h) (Or.inl ⟨by rfl, ?_⟩) (by assumption) ?_
                rotate_left
                · (intro w hSw; (try dsimp only at hSw); go_simp)
                  first | done | with_reducible rfl
                simp only [Act.put, List.getElem_toArray, List.getElem_cons_zero, List.getElem_cons_succ, List.setIfInBounds_toArray, List.set_cons_zero, List.set_cons_succ]
                refine wpAnyH_take (i := 27) (v := ?_) rfl (by kernel_rfl) (by kernel_rfl) (by kernel_rfl) (fun _ _ _ h => h) (Or.inl ⟨by rfl, ?_⟩) (by assumption) ?_
                rotate_left
                · (intro w hSw; (try dsimp only at hSw); go_simp)
                  first | done | with_reducible rfl
                simp only [Act.put, List.getElem_toArray, List.getElem_cons_zero, List.getElem_cons_succ, List.setIfInBounds_toArray, List.set_cons_zero, List.set_cons_succ]
                refine wpAnyH_take (i := 28) (v := ?_) rfl (by kernel_rfl) (by kernel_rfl) (by kernel_rfl) (fun _ _ _ h => h) (Or.inl ⟨by rfl, ?_⟩) (by assumption) ?_
                rotate_left
                · (intro w hSw; (try dsimp only at hSw); go_simp)
                  first | done | with_reducible rfl
                simp only [Act.put, List.getElem_toArray, List.getElem_cons_zero, List.getElem_cons_succ, List.setIfInBounds_toArray, List.set_cons_zero, List.set_cons_succ]
                refine wpAnyH_ready (rs := [29]) (by kernel_rfl) (by simp) ?_
                refine AllReadyH.cons rfl (fun K hK => ?_) AllReadyH.nil
                go_simp
                refine (SC9.out w16 hv2).mono ?_
                rintro e w29 ⟨rfl, rfl⟩
                have hv3 : Upd [] wo w16 := hv2
                refine hK.out _ _ ?_ (fun hHeld => ?_)
                · exact ⟨hHeld.1, hHeld.2.1, hHeld.2.2.1, hHeld.2.2.2.1, hHeld.2.2.2.2.1, hHeld.2.2.2.2.2.1, hHeld.2.2.2.2.2.2.1, hHeld.2.2.2.2.2.2.2.1, hHeld.2.2.2.2.2.2.2.2.1, hHeld.2.2.2.2.2.2.2.2.2.1, hHeld.2.2.2.2.2.2.2.2.2.2⟩
                clear hK K
                try simp only [Act.put, List.getElem_toArray, List.getElem_cons_zero, List.getElem_cons_succ, List.setIfInBounds_toArray, List.set_cons_zero, List.set_cons_succ]
                refine wpAnyH_take (i := 30) (v := ?_) rfl (by kernel_rfl) (by kernel_rfl) (by kernel_rfl) (fun _ _ _ h => h) (Or.inl ⟨by rfl, ?_⟩) (by assumption) ?_
                rotate_left
                · (intro w hSw; (try dsimp only at hSw); go_simp)
                  first | done | with_reducible rfl
                simp only [Act.put, List.getElem_toArray, List.getElem_cons_zero, List.getElem_cons_succ, List.setIfInBounds_toArray, List.set_cons_zero, List.set_cons_succ]
                refine wpAnyH_take (i := 31) (v := ?_) rfl (by kernel_rfl) (by kernel_rfl) (by kernel_rfl) (fun _ _ _ h => h) (Or.inl ⟨by rfl, ?_⟩) (by assumption) ?_
                rotate_left
                · (intro w hSw; (try dsimp only at hSw); go_simp)
                  first | done | with_reducible rfl
                simp only [Act.put, List.getElem_toArray, List.getElem_cons_zero, List.getElem_cons_succ, List.setIfInBounds_toArray, List.set_cons_zero, List.set_cons_succ]
                refine wpAnyH_take (i := 32) (v := ?_) rfl (by kernel_rfl) (by kernel_rfl) (by kernel_rfl) (fun _ _ _ h => h) (Or.inl ⟨by rfl, ?_⟩) (by assumption) ?_
                rotate_left
                · (intro w hSw; (try dsimp only at hSw); go_simp)
                  first | done | with_reducible rfl
                simp only [Act.put, List.getElem_toArray, List.getElem_cons_zero, List.getElem_cons_succ, List.setIfInBounds_toArray, List.set_cons_zero, List.set_cons_succ]
                refine wpAnyH_done (by kernel_rfl) ?_ _
                have HU9 := Lib.hid (HU.out.trans hv2)
                have HM9 := Lib.hid (ownsMap_upd HM.out hv2 (by simp))
                have q1 := hv2.keep q1
                have q2 := hv2.keep q2
                obtain ⟨in0, in1⟩ := HIN.out
                have HP9 := Lib.hid (HP.out.put in0 in1)
                obtain ⟨w10, hrun10, hm10, hg10⟩ := (ownsMap_upd HM9.out (Upd.refl [] w16).drew (by simp)).update keyP Tryz.underlying105 (show k < maxLen by unfold maxLen; have := HR9.out; omega) (keyOfP in0 in1) (plainElem_bool (H := Unit) Tryz.underlying4 true)
                have HU10 := Lib.hid ((HU9.out.drew).fresh ((Upd.refl [BM] (w16).drew).grown hg10 (fun j hj => Or.inr (by simp at hj ⊢; exact hj.symm))) (fun b hb => Or.inl (by simp at hb; have := HBMA.out; omega)))
                have HM10 := Lib.hid hm10
                have HP10 := Lib.hid (show PMap (pairsOf (R.take (k + 1))) _ by rw [HST.out]; exact HP9.out)
                clear HU HM HIN HP hHeld za0 za1 za2 za3 zb0 zb1 zb2 zb3 hm10 hg10 HU9 HM9 HP9 in0 in1 HST IA0 IB0 IA IB HC HZ
                go_upto_region 7 with (fail)
                go_region
                all_goals
                  go_wp2_with fail
                  go_roundw
                  case rel => exact ⟨k + 1, _, by omega, by go_num, HE, HU10, HM10, HP10⟩
                  case measure => simp [intOf]; omega
              · have hd : decide (0 ≤ c) = true := decide_eq_true (by omega)
                have hd2 : decide (c ≥ 0) = true := hd
                have HE := Lib.hid (show pairsF R sa sb = false by rw [HCQ.out, decide_eq_false hc0]; simp)
                clear HCQ hc0
                go_upto_region 5 with (fail)
                refine wp_region_held_drew (S := fun w' => w'.cell? ⟨BA, 0, none⟩ = some (ei sa) ∧ w'.cell? ⟨BA, 1, none⟩ = some (ei ia) ∧ w'.cell? ⟨BA, 2, none⟩ = some a1 ∧ w'.cell? ⟨BA, 3, none⟩ = some a2 ∧ w'.cell? ⟨BB, 0, none⟩ = some (ei sb) ∧ w'.cell? ⟨BB, 1, none⟩ = some (ei ib) ∧ w'.cell? ⟨BB, 2, none⟩ = some b1 ∧ w'.cell? ⟨BB, 3, none⟩ = some b2 ∧ w'.cell? ⟨b2r, o2r, none⟩ = some (ei P0) ∧ w'.cell? ⟨b2r, o2r + 1, none⟩ = some (ei P1) ∧ w'.cell? ⟨bb, off + (k - 1), none⟩ = some u9) (by kernel_rfl) ?_ (fun hHeld => ?_)
                · exact ⟨za0, za1, za2, za3, zb0, zb1, zb2, zb3, q1, q2, q9⟩
                refine wpAnyH_take (i := 0) (v := ?_) rfl (by kernel_rfl) (by kernel_rfl) (by kernel_rfl) (fun _ _ _ h => h) (Or.inl ⟨by rfl, ?_⟩) (by assumption) ?_
                rotate_left
                · (intro w hSw; (try dsimp only at hSw); go_simp)
                  first | done | with_reducible rfl
                simp only [Act.put, List.getElem_toArray, List.getElem_cons_zero, List.setIfInBounds_toArray, List.set_cons_zero, List.set_cons_succ]
                refine wpAnyH_take (i := 1) (v := ?_) rfl (by kernel_rfl) (by kernel_rfl) (by kernel_rfl) (fun _ _ _ h => h) (Or.inl ⟨by rfl, ?_⟩) (by assumption) ?_
                rotate_left
                · (intro w hSw; (try dsimp only at hSw); go_simp)
                  first | done | with_reducible rfl
                simp only [Act.put, List.getElem_toArray, List.getElem_cons_zero, List.getElem_cons_succ, List.setIfInBounds_toArray, List.set_cons_zero, List.set_cons_succ]
                refine wpAnyH_take (i := 2) (v := ?_) rfl (by kernel_rfl) (by kernel_rfl) (by kernel_rfl) (fun _ _ _ h => h) (Or.inl ⟨by rfl, ?_⟩) (by assumption) ?_
                rotate_left
                · (intro w hSw; (try dsimp only at hSw); go_simp)
                  first | done | with_reducible rfl
                simp only [Act.put, List.getElem_toArray, List.getElem_cons_zero, List.getElem_cons_succ, List.setIfInBounds_toArray, List.set_cons_zero, List.set_cons_succ]
                refine wpAnyH_take (i := 3) (v := ?_) rfl (by kernel_rfl) (by kernel_rfl) (by kernel_rfl) (fun _ _ _ h => h) (Or.inl ⟨by rfl, ?_⟩) (by assumption) ?_
                rotate_left
                · (intro w hSw; (try dsimp only at hSw); go_simp)
                  first | done | with_reducible rfl
                simp only [Act.put, List.getElem_toArray, List.getElem_cons_zero, List.getElem_cons_succ, List.setIfInBounds_toArray, List.set_cons_zero, List.set_cons_succ]
                refine wpAnyH_take (i := 4) (v := ?_) rfl (by kernel_rfl) (by kernel_rfl) (by kernel_rfl) (fun _ _ _ h => h) (Or.inl ⟨by rfl, ?_⟩) (by assumption) ?_
                rotate_left
                · (intro w hSw; (try dsimp only at hSw); go_simp)
                  first | done | with_reducible rfl
                simp only [Act.put, List.getElem_toArray, List.getElem_cons_zero, List.getElem_cons_succ, List.setIfInBounds_toArray, List.set_cons_zero, List.set_cons_succ]
                refine wpAnyH_take (i := 5) (v := ?_) rfl (by kernel_rfl) (by kernel_rfl) (by kernel_rfl) (fun _ _ _ h => h) (Or.inl ⟨by rfl, ?_⟩) (by assumption) ?_
                rotate_left
                · (intro w hSw; (try dsimp only at hSw); go_simp)
                  first | done | with_reducible rfl
                simp only [Act.put, List.getElem_toArray, List.getElem_cons_zero, List.getElem_cons_succ, List.setIfInBounds_toArray, List.set_cons_zero, List.set_cons_succ]
                refine wpAnyH_take (i := 6) (v := ?_) rfl (by kernel_rfl) (by kernel_rfl) (by kernel_rfl) (fun _ _ _ h => h) (Or.inl ⟨by rfl, ?_⟩) (by assumption) ?_
                rotate_left
                · (intro w hSw; (try dsimp only at hSw); go_simp)
                  first | done | with_reducible rfl
                simp only [Act.put, List.getElem_toArray, List.getElem_cons_zero, List.getElem_cons_succ, List.setIfInBounds_toArray, List.set_cons_zero, List.set_cons_succ]
                refine wpAnyH_take (i := 7) (v := ?_) rfl (by kernel_rfl) (by kernel_rfl) (by kernel_rfl) (fun _ _ _ h => h) (Or.inl ⟨by rfl, ?_⟩) (by assumption) ?_
                rotate_left
                · (intro w hSw; (try dsimp only at hSw); go_simp)
                  first | done | with_reducible rfl
                simp only [Act.put, List.getElem_toArray, List.getElem_cons_zero, List.getElem_cons_succ, List.setIfInBounds_toArray, List.set_cons_zero, List.set_cons_succ]
                refine wpAnyH_ready (rs := [8]) (by kernel_rfl) (by simp) ?_
                refine AllReadyH.cons rfl (fun K hK => ?_) AllReadyH.nil
                go_simp
                refine (IA.out _ ((Upd.refl [] wo).drew)).mono ?_
                rintro e w8 ⟨rfl, hu1⟩
                have hv1 : Upd [] wo w8 := (Upd.refl [] wo).drew.trans hu1
                refine hK.out _ _ ?_ (fun hHeld => ?_)
                · exact ⟨hu1.keep hHeld.1, hu1.keep hHeld.2.1, hu1.keep hHeld.2.2.1, hu1.keep hHeld.2.2.2.1, hu1.keep hHeld.2.2.2.2.1, hu1.keep hHeld.2.2.2.2.2.1, hu1.keep hHeld.2.2.2.2.2.2.1, hu1.keep hHeld.2.2.2.2.2.2.2.1, hu1.keep hHeld.2.2.2.2.2.2.2.2.1, hu1.keep hHeld.2.2.2.2.2.2.2.2.2.1, hu1.keep hHeld.2.2.2.2.2.2.2.2.2.2⟩
                clear hK K
                try simp only [Act.put, List.getElem_toArray, List.getElem_cons_zero, List.getElem_cons_succ, List.setIfInBounds_toArray, List.set_cons_zero, List.set_cons_succ]
                refine wpAnyH_take (i := 9) (v := ?_) rfl (by kernel_rfl) (by kernel_rfl) (by kernel_rfl) (fun _ _ _ h => h) (Or.inl ⟨by rfl, ?_⟩) (by assumption) ?_
                rotate_left
                · (intro w hSw; (try dsimp only at hSw); go_simp)
                  first | done | with_reducible rfl
                simp only [Act.put, List.getElem_toArray, List.getElem_cons_zero, List.getElem_cons_succ, List.setIfInBounds_toArray, List.set_cons_zero, List.set_cons_succ]
                refine wpAnyH_take (i := 10) (v := ?_) rfl (by kernel_rfl) (by kernel_rfl) (by kernel_rfl) (fun _ _ _ h => h) (Or.inl ⟨by rfl, ?_⟩) (by assumption) ?_
                rotate_left
                · (intro w hSw; (try dsimp only at hSw); go_simp)
                  first | done | with_reducible rfl
                simp only [Act.put, List.getElem_toArray, List.getElem_cons_zero, List.getElem_cons_succ, List.setIfInBounds_toArray, List.set_cons_zero, List.set_cons_succ]
                refine wpAnyH_take (i := 11) (v := ?_) rfl (by kernel_rfl) (by kernel_rfl) (by kernel_rfl) (fun _ _ _ h => h) (Or.inl ⟨by rfl, ?_⟩) (by assumption) ?_
                rotate_left
                · (intro w hSw; (try dsimp only at hSw); go_simp)
                  first | done | with_reducible rfl
                simp only [Act.put, List.getElem_toArray, List.getElem_cons_zero, List.getElem_cons_succ, List.setIfInBounds_toArray, List.set_cons_zero, List.set_cons_succ]
                refine wpAnyH_take (i := 12) (v := ?_) rfl (by kernel_rfl) (by kernel_rfl) (by kernel_rfl) (fun _ _ _ h => h) (Or.inl ⟨by rfl, ?_⟩) (by assumption) ?_
                rotate_left
                · (intro w hSw; (try dsimp only at hSw); go_simp)
                  first | done | with_reducible rfl
                simp only [Act.put, List.getElem_toArray, List.getElem_cons_zero, List.getElem_cons_succ, List.setIfInBounds_toArray, List.set_cons_zero, List.set_cons_succ]
                refine wpAnyH_take (i := 13) (v := ?_) rfl (by kernel_rfl) (by kernel_rfl) (by kernel_rfl) (fun _ _ _ h => h) (Or.inl ⟨by rfl, ?_⟩) (by assumption) ?_
                rotate_left
                · (intro w hSw; (try dsimp only at hSw); go_simp)
                  first | done | with_reducible rfl
                simp only [Act.put, List.getElem_toArray, List.getElem_cons_zero, List.getElem_cons_succ, List.setIfInBounds_toArray, List.set_cons_zero, List.set_cons_succ]
                refine wpAnyH_take (i := 14) (v := ?_) rfl (by kernel_rfl) (by kernel_rfl) (by kernel_rfl) (fun _ _ _ h => h) (Or.inl ⟨by rfl, ?_⟩) (by assumption) ?_
                rotate_left
                · (intro w hSw; (try dsimp only at hSw); go_simp)
                  first | done | with_reducible rfl
                simp only [Act.put, List.getElem_toArray, List.getElem_cons_zero, List.getElem_cons_succ, List.setIfInBounds_toArray, List.set_cons_zero, List.set_cons_succ]
                refine wpAnyH_take (i := 15) (v := ?_) rfl (by kernel_rfl) (by kernel_rfl) (by kernel_rfl) (fun _ _ _ h => h) (Or.inl ⟨by rfl, ?_⟩) (by assumption) ?_
                rotate_left
                · (intro w hSw; (try dsimp only at hSw); go_simp)
                  first | done | with_reducible rfl
                simp only [Act.put, List.getElem_toArray, List.getElem_cons_zero, List.getElem_cons_succ, List.setIfInBounds_toArray, List.set_cons_zero, List.set_cons_succ]
                refine wpAnyH_ready (rs := [16]) (by kernel_rfl) (by simp) ?_
                refine AllReadyH.cons rfl (fun K hK => ?_) AllReadyH.nil
                go_simp
                refine (IB.out w8 hv1).mono ?_
                rintro e w16 ⟨rfl, hu2⟩
                have hv2 : Upd [] wo w16 := hv1.trans hu2
                refine hK.out _ _ ?_ (fun hHeld => ?_)
                · exact ⟨hu2.keep hHeld.1, hu2.keep hHeld.2.1, hu2.keep hHeld.2.2.1, hu2.keep hHeld.2.2.2.1, hu2.keep hHeld.2.2.2.2.1, hu2.keep hHeld.2.2.2.2.2.1, hu2.keep hHeld.2.2.2.2.2.2.1, hu2.keep hHeld.2.2.2.2.2.2.2.1, hu2.keep hHeld.2.2.2.2.2.2.2.2.1, hu2.keep hHeld.2.2.2.2.2.2.2.2.2.1, hu2.keep hHeld.2.2.2.2.2.2.2.2.2.2⟩
                clear hK K
                try simp only [Act.put, List.getElem_toArray, List.getElem_cons_zero, List.getElem_cons_succ, List.setIfInBounds_toArray, List.set_cons_zero, List.set_cons_succ]
                refine wpAnyH_take (i := 17) (v := ?_) rfl (by kernel_rfl) (by kernel_rfl) (by kernel_rfl) (fun _ _ _ h => h) (Or.inl ⟨by rfl, ?_⟩) (by assumption) ?_
                rotate_left
                · (intro w hSw; (try dsimp only at hSw); go_simp)
                  first | done | with_reducible rfl
                simp only [Act.put, List.getElem_toArray, List.getElem_cons_zero, List.getElem_cons_succ, List.setIfInBounds_toArray, List.set_cons_zero, List.set_cons_succ]
                refine wpAnyH_take (i := 18) (v := ?_) rfl (by kernel_rfl) (by kernel_rfl) (by kernel_rfl) (fun _ _ _ h => h) (Or.inl ⟨by rfl, ?_⟩) (by assumption) ?_
                rotate_left
                · (intro w hSw; (try dsimp only at hSw); go_simp)
                  first | done | with_reducible rfl
                simp only [Act.put, List.getElem_toArray, List.getElem_cons_zero, List.getElem_cons_succ, List.setIfInBounds_toArray, List.set_cons_zero, List.set_cons_succ]
                refine wpAnyH_take (i := 19) (v := ?_) rfl (by kernel_rfl) (by kernel_rfl) (by kernel_rfl) (fun _ _ _ h => h) (Or.inl ⟨by rfl, ?_⟩) (by assumption) ?_
                rotate_left
                · (intro w hSw; (try dsimp only at hSw); go_simp)
                  first | done | with_reducible rfl
                simp only [Act.put, List.getElem_toArray, List.getElem_cons_zero, List.getElem_cons_succ, List.setIfInBounds_toArray, List.set_cons_zero, List.set_cons_succ]
                refine wpAnyH_take (i := 20) (v := ?_) rfl (by kernel_rfl) (by kernel_rfl) (by kernel_rfl) (fun _ _ _ h => h) (Or.inl ⟨by rfl, ?_⟩) (by assumption) ?_
                rotate_left
                · (intro w hSw; (try dsimp only at hSw); go_simp)
                  first | done | with_reducible rfl
                simp only [Act.put, List.getElem_toArray, List.getElem_cons_zero, List.getElem_cons_succ, List.setIfInBounds_toArray, List.set_cons_zero, List.set_cons_succ]
                refine wpAnyH_take (i := 21) (v := ?_) rfl (by kernel_rfl) (by kernel_rfl) (by kernel_rfl) (fun _ _ _ h => h) (Or.inl ⟨by rfl, ?_⟩) (by assumption) ?_
                rotate_left
                · (intro w hSw; (try dsimp only at hSw); go_simp)
                  first | done | with_reducible rfl
                simp only [Act.put, List.getElem_toArray, List.getElem_cons_zero, List.getElem_cons_succ, List.setIfInBounds_toArray, List.set_cons_zero, List.set_cons_succ]
                refine wpAnyH_take (i := 22) (v := ?_) rfl (by kernel_rfl) (by kernel_rfl) (by kernel_rfl) (fun _ _ _ h => h) (Or.inl ⟨by rfl, ?_⟩) (by assumption) ?_
                rotate_left
                · (intro w hSw; (try dsimp only at hSw); go_simp)
                  first | done | with_reducible rfl
                simp only [Act.put, List.getElem_toArray, List.getElem_cons_zero, List.getElem_cons_succ, List.setIfInBounds_toArray, List.set_cons_zero, List.set_cons_succ]
                refine wpAnyH_take (i := 23) (v := ?_) rfl (by kernel_rfl) (by kernel_rfl) (by kernel_rfl) (fun _ _ _ h => h) (Or.inl ⟨by rfl, ?_⟩) (by assumption) ?_
                rotate_left
                · (intro w hSw; (try dsimp only at hSw); go_simp)
                  first | done | with_reducible rfl
                simp only [Act.put, List.getElem_toArray, List.getElem_cons_zero, List.getElem_cons_succ, List.setIfInBounds_toArray, List.set_cons_zero, List.set_cons_succ]
                refine wpAnyH_take (i := 24) (v := ?_) rfl (by kernel_rfl) (by kernel_rfl) (by kernel_rfl) (fun _ _ _ h => h) (Or.inl ⟨by rfl, ?_⟩) (by assumption) ?_
                rotate_left
                · (intro w hSw; (try dsimp only at hSw); go_simp)
                  first | done | with_reducible rfl
                simp only [Act.put, List.getElem_toArray, List.getElem_cons_zero, List.getElem_cons_succ, List.setIfInBounds_toArray, List.set_cons_zero, List.set_cons_succ]
                refine wpAnyH_take (i := 25) (v := ?_) rfl (by kernel_rfl) (by kernel_rfl) (by kernel_rfl) (fun _ _ _ h => h) (Or.inl ⟨by rfl, ?_⟩) (by assumption) ?_
                rotate_left
                · (intro w hSw; (try dsimp only at hSw); go_simp)
                  first | done | with_reducible rfl
                simp only [Act.put, List.getElem_toArray, List.getElem_cons_zero, List.getElem_cons_succ, List.setIfInBounds_toArray, List.set_cons_zero, List.set_cons_succ]
                refine wpAnyH_take (i := 26) (v := ?_) rfl (by kernel_rfl) (by kernel_rfl) (by kernel_rfl) (fun _ _ _ h => h) (Or.inl ⟨by rfl, ?_⟩) (by assumption) ?_
                rotate_left
                · (intro w hSw; (try dsimp only at hSw); go_simp)
                  first | done | with_reducible rfl
                simp only [Act.put, List.getElem_toArray, List.getElem_cons_zero, List.getElem_cons_succ, List.setIfInBounds_toArray, List.set_cons_zero, List.set_cons_succ]
                refine wpAnyH_take (i := 27) (v := ?_) rfl (by kernel_rfl) (by kernel_rfl) (by kernel_rfl) (fun _ _ _ h => h) (Or.inl ⟨by rfl, ?_⟩) (by assumption) ?_
                rotate_left
                · (intro w hSw; (try dsimp only at hSw); go_simp)
                  first | done | with_reducible rfl
                simp only [Act.put, List.getElem_toArray, List.getElem_cons_zero, List.getElem_cons_succ, List.setIfInBounds_toArray, List.set_cons_zero, List.set_cons_succ]
                refine wpAnyH_take (i := 28) (v := ?_) rfl (by kernel_rfl) (by kernel_rfl) (by kernel_rfl) (fun _ _ _ h => h) (Or.inl ⟨by rfl, ?_⟩) (by assumption) ?_
                rotate_left
                · (intro w hSw; (try dsimp only at hSw); go_simp)
                  first | done | with_reducible rfl
                simp only [Act.put, List.getElem_toArray, List.getElem_cons_zero, List.getElem_cons_succ, List.setIfInBounds_toArray, List.set_cons_zero, List.set_cons_succ]
                refine wpAnyH_ready (rs := [29]) (by kernel_rfl) (by simp) ?_
                refine AllReadyH.cons rfl (fun K hK => ?_) AllReadyH.nil
                go_simp
                refine (SC9.out w16 hv2).mono ?_
                rintro e w29 ⟨rfl, rfl⟩
                have hv3 : Upd [] wo w16 := hv2
                refine hK.out _ _ ?_ (fun hHeld => ?_)
                · exact ⟨hHeld.1, hHeld.2.1, hHeld.2.2.1, hHeld.2.2.2.1, hHeld.2.2.2.2.1, hHeld.2.2.2.2.2.1, hHeld.2.2.2.2.2.2.1, hHeld.2.2.2.2.2.2.2.1, hHeld.2.2.2.2.2.2.2.2.1, hHeld.2.2.2.2.2.2.2.2.2.1, hHeld.2.2.2.2.2.2.2.2.2.2⟩
                clear hK K
                try simp only [Act.put, List.getElem_toArray, List.getElem_cons_zero, List.getElem_cons_succ, List.setIfInBounds_toArray, List.set_cons_zero, List.set_cons_succ]
                refine wpAnyH_take (i := 30) (v := ?_) rfl (by kernel_rfl) (by kernel_rfl) (by kernel_rfl) (fun _ _ _ h => h) (Or.inl ⟨by rfl, ?_⟩) (by assumption) ?_
                rotate_left
                · (intro w hSw; (try dsimp only at hSw); go_simp)
                  first | done | with_reducible rfl
                simp only [Act.put, List.getElem_toArray, List.getElem_cons_zero, List.getElem_cons_succ, List.setIfInBounds_toArray, List.set_cons_zero, List.set_cons_succ]
                refine wpAnyH_take (i := 31) (v := ?_) rfl (by kernel_rfl) (by kernel_rfl) (by kernel_rfl) (fun _ _ _ h => h) (Or.inl ⟨by rfl, ?_⟩) (by assumption) ?_
                rotate_left
                · (intro w hSw; (try dsimp only at hSw); go_simp)
                  first | done | with_reducible rfl
                simp only [Act.put, List.getElem_toArray, List.getElem_cons_zero, List.getElem_cons_succ, List.setIfInBounds_toArray, List.set_cons_zero, List.set_cons_succ]
                refine wpAnyH_take (i := 32) (v := ?_) rfl (by kernel_rfl) (by kernel_rfl) (by kernel_rfl) (fun _ _ _ h => h) (Or.inl ⟨by rfl, ?_⟩) (by assumption) ?_
                rotate_left
                · (intro w hSw; (try dsimp only at hSw); go_simp)
                  first | done | with_reducible rfl
                simp only [Act.put, List.getElem_toArray, List.getElem_cons_zero, List.getElem_cons_succ, List.setIfInBounds_toArray, List.set_cons_zero, List.set_cons_succ]
                refine wpAnyH_done (by kernel_rfl) ?_ _
                have HU9 := Lib.hid (HU.out.trans hv2)
                clear HU hHeld q1 q2 za0 za1 za2 za3 zb0 zb1 zb2 zb3
                go_wp2_with fail
                go_ret2
                exact ⟨Or.inl ⟨HE.out, rfl⟩, HUA.out.trans HU9.out⟩
      · have hbe : ((R[k].length : Int) != 2) = true := by simp; omega
        have HE := Lib.hid (show pairsF R sa sb = false by rw [← hF, show (R[k].length == 2) = false from by simpa using h2]; simp)
        clear hF HF h2 hcs hr HRK gk
        go_upto_region 5 with (fail)
        go_quiet (fail)
        have HU9 := Lib.hid (HU.out.drewN nq)
        clear HU
        go_wp2_with fail
        go_ret2
        exact ⟨Or.inl ⟨HE.out, rfl⟩, HUA.out.trans HU9.out⟩
    · obtain rfl : k = R.length := by omega
      have HE := Lib.hid (show pairsF R sa sb = true by rw [← HF.out, Nat.sub_self]; rfl)
      have HP9 := Lib.hid (show PMap (pairsOf R) D by have := HP.out; rw [List.take_length] at this; exact this)
      clear HF HP
      go_wp2_with fail
      go_ret2
      exact ⟨Or.inr ⟨HE.out, BM, _, D, rfl, HBM.out, HM.out, HP9.out⟩, HUA.out.trans HU.out⟩

end Go.Proofs.YtcnaapiljmgfoaaGreatDoor

/-
  Relations between systems, the program's: what answers an edge is a function's value; the relation turned round.
-/
namespace Go.Proofs.YtcnaapiljmgfoaaGreatDoor
open Go.RowKit Go.Maps

theorem Upd.setRow {f : List Nat} {w w1 : World} (h : Upd f w w1) {g : Nat} (hg : w.heap.size ≤ g ∨ g ∈ f) (cs : Array Value) : Upd f w (w1.setRow g cs) :=
  h.fresh (f := [g]) ⟨rfl, rfl, rfl, by simp, fun k _ hf => setRow_other _ _ _ _ (by simpa using hf)⟩ (by simpa using hg)
/-- the nine cells of a relation in a block of their own. -/
def RelAt (T : Nat) (W : World) (A B : Sys) (a1 a2 b1 b2 hv : Value) : Prop := W.heap[T]? = some (.cells #[ei A.st, ei A.ini, a1, a2, ei B.st, ei B.ini, b1, b2, hv] 86 (0, 0))
theorem RelAt.facts {T : Nat} {W : World} {A B : Sys} {a1 a2 b1 b2 hv : Value} (h : RelAt T W A B a1 a2 b1 b2 hv) :
    (W.cell? ⟨T, 0, none⟩ = some (ei A.st) ∧ W.cell? ⟨T, 1, none⟩ = some (ei A.ini) ∧ W.cell? ⟨T, 2, none⟩ = some a1 ∧ W.cell? ⟨T, 3, none⟩ = some a2) ∧
    (W.cell? ⟨T, 4, none⟩ = some (ei B.st) ∧ W.cell? ⟨T, 5, none⟩ = some (ei B.ini) ∧ W.cell? ⟨T, 6, none⟩ = some b1 ∧ W.cell? ⟨T, 7, none⟩ = some b2) ∧ W.cell? ⟨T, 8, none⟩ = some hv := by
  unfold RelAt at h
  refine ⟨⟨?_, ?_, ?_, ?_⟩, ⟨?_, ?_, ?_, ?_⟩, ?_⟩ <;> simp [World.cell?, h]
theorem RelAt.upd {T : Nat} {w w1 : World} {A B : Sys} {a1 a2 b1 b2 hv : Value} (h : RelAt T w A B a1 a2 b1 b2 hv) {f : List Nat} (hu : Upd f w w1) (hf : T ∉ f) : RelAt T w1 A B a1 a2 b1 b2 hv := by
  unfold RelAt at *
  rw [hu.block T (Array.getElem?_eq_some_iff.1 h).1 hf]; exact h
theorem RelAt.new (w : World) (A B : Sys) (a1 a2 b1 b2 hv : Value) : RelAt w.heap.size (w.alloc (.cells #[ei A.st, ei A.ini, a1, a2, ei B.st, ei B.ini, b1, b2, hv] 86)) A B a1 a2 b1 b2 hv := heap_alloc_new w _
theorem rel_size : (Tryz.prog.info? 86).map (·.size) = some 9 := by kernel_rfl
abbrev relV (A B : Sys) (a1 a2 b1 b2 hv : Value) : Value := .agg #[ei A.st, ei A.ini, a1, a2, ei B.st, ei B.ini, b1, b2, hv]

/-- two valid systems as they lie. -/
structure Two (w : World) (A B : Sys) (a1 a2 b1 b2 : Value) (f1 f2 f3 f4 : List Nat) : Prop where
  la : RS f1 w [a1] A.labs
  ea : R_E1 f2 w [a2] A.eds
  lb : RS f3 w [b1] B.labs
  eb : R_E1 f4 w [b2] B.eds
  oka : sysOk A = true
  okb : sysOk B = true
theorem Two.upd {w w1 : World} {A B : Sys} {a1 a2 b1 b2 : Value} {f1 f2 f3 f4 : List Nat} (h : Two w A B a1 a2 b1 b2 f1 f2 f3 f4) (hu : Upd [] w w1) : Two w1 A B a1 a2 b1 b2 f1 f2 f3 f4 :=
  ⟨RSk.upd h.la hu (by simp), R_E1k.upd h.ea hu (by simp), RSk.upd h.lb hu (by simp), R_E1k.upd h.eb hu (by simp), h.oka, h.okb⟩
theorem Two.turn {w : World} {A B : Sys} {a1 a2 b1 b2 : Value} {f1 f2 f3 f4 : List Nat} (h : Two w A B a1 a2 b1 b2 f1 f2 f3 f4) : Two w B A b1 b2 a1 a2 f3 f4 f1 f2 := ⟨h.lb, h.eb, h.la, h.ea, h.okb, h.oka⟩

/-- a function's value that tells of two states whether they are related. -/
def HasC (hv : Value) (sa sb : Int) (H : Int → Int → Bool) (w : World) : Prop :=
  ∃ (g : FuncId) (caps : Array Value), hv = .func (.func g) #[] caps ∧ (∀ args W, Sem.run Tryz.prog (callFunc g args) W = .ok (.enter g args) W) ∧
    ∀ (W : World) (x y : Int), Upd [] w W → 0 ≤ x → x < sa → 0 ≤ y → y < sb → Calls Tryz.prog g (#[.int .i64 x, .int .i64 y] ++ caps) W fun e w' => e = .returned (.bool (H x y)) ∧ Upd [] W w'
theorem HasC.upd {hv : Value} {sa sb : Int} {H : Int → Int → Bool} {w w1 : World} (h : HasC hv sa sb H w) (hu : Upd [] w w1) : HasC hv sa sb H w1 := by
  obtain ⟨g, caps, h1, h2, h3⟩ := h
  exact ⟨g, caps, h1, h2, fun W x y hu2 => h3 W x y (hu.trans hu2)⟩

/-- a function's value that answers an edge. -/
def WayC (fn : FuncId) (F : Sys → Sys → (Int → Int → Bool) → Int → Int → List UInt8 → Int → Bool) : Prop :=
  (∀ args W, Sem.run Tryz.prog (callFunc fn args) W = .ok (.enter fn args) W) ∧
  ∀ (A B : Sys) (a1 a2 b1 b2 hv : Value) (H : Int → Int → Bool) (x y v : Int) (s : List UInt8) (w : World) (f1 f2 f3 f4 : List Nat), Two w A B a1 a2 b1 b2 f1 f2 f3 f4 → HasC hv A.st B.st H w → 0 ≤ x → x < A.st → 0 ≤ y → y < B.st → 0 ≤ v → v < A.st →
    Calls Tryz.prog fn #[relV A B a1 a2 b1 b2 hv, .int .i64 x, .int .i64 y, es s, .int .i64 v] w fun e w' => e = .returned (.bool (F A B H x y s v)) ∧ Upd [] w w'

theorem enter_turned1 (args : Array Value) (w : World) : Sem.run Tryz.prog (callFunc 134 args) w = .ok (.enter 134 args) w := by go_simp

set_option maxRecDepth 20000 in
set_option maxHeartbeats 2000000 in
theorem turned1I (T : Nat) (A B : Sys) (a1 a2 b1 b2 hv : Value) (H : Int → Int → Bool) (x y : Int) (w : World) (hT : RelAt T w A B a1 a2 b1 b2 hv) (hh : HasC hv A.st B.st H w) (h1 : 0 ≤ x) (h2 : x < B.st) (h3 : 0 ≤ y) (h4 : y < A.st) :
    Calls Tryz.prog 134 #[.int .i64 x, .int .i64 y, .pointer (some ⟨T, 0, none⟩)] w fun e w' => e = .returned (.bool (H y x)) ∧ Upd [] w w' := by
  obtain ⟨g, caps, rfl, hent, hc⟩ := hh
  have S1 := Lib.hid (hc w y x (Upd.refl _ _) h3 h4 h1 h2)
  have z8 := hT.facts.2.2
  generalize H y x = b at *
  clear hc hT h1 h2 h3 h4
  go_enter Tryz.func134, Tryz.ntmps134
  go_wp2_with fail
  refine S1.out.mono ?_
  rintro e w1 ⟨rfl, hu⟩
  have U := Lib.hid hu
  clear S1 hu
  go_wp2_with fail
  go_ret
  exact ⟨rfl, U.out⟩

set_option maxRecDepth 20000 in
set_option maxHeartbeats 4000000 in
theorem turnedI (A B : Sys) (a1 a2 b1 b2 hv : Value) (H : Int → Int → Bool) (w : World) (f1 f2 f3 f4 : List Nat) (h : Two w A B a1 a2 b1 b2 f1 f2 f3 f4) (hh : HasC hv A.st B.st H w) :
    Calls Tryz.prog 115 #[relV A B a1 a2 b1 b2 hv] w fun e w' => (∃ hv', e = .returned (relV B A b1 b2 a1 a2 hv') ∧ HasC hv' B.st A.st (fun x y => H y x) w') ∧ Upd [] w w' := by
  obtain ⟨wA, hwA⟩ : ∃ wA, wA = w.alloc (.cells #[ei A.st, ei A.ini, a1, a2, ei B.st, ei B.ini, b1, b2, hv] 86) := ⟨_, rfl⟩
  have U := Lib.hid (show Upd [] w wA by rw [hwA]; exact (Upd.refl _ _).alloc _)
  have hR : RelAt w.heap.size wA A B a1 a2 b1 b2 hv := by rw [hwA]; exact RelAt.new w A B a1 a2 b1 b2 hv
  have HR := Lib.hid hR
  have HH := Lib.hid (hh.upd U.out)
  obtain ⟨T, hT⟩ : ∃ T, T = w.heap.size := ⟨_, rfl⟩
  rw [← hT] at HR hR
  obtain ⟨⟨z0, z1, z2, z3⟩, ⟨z4, z5, z6, z7⟩, -⟩ := hR.facts
  obtain ⟨p1, q1, rfl, -, -, -⟩ := slF1_open h.la
  obtain ⟨p2, q2, rfl, -, -, -⟩ := slF3_open h.ea
  obtain ⟨p3, q3, rfl, -, -, -⟩ := slF1_open h.lb
  obtain ⟨p4, q4, rfl, -, -, -⟩ := slF3_open h.eb
  clear hh hR h
  obtain ⟨sa, ia, la, ea⟩ := A
  obtain ⟨sb, ib, lb, eb⟩ := B
  simp only at *
  go_enter Tryz.func115, Tryz.ntmps115
  go_upto_region 1 with (fail)
  rw [← hwA, ← hT]
  have hsz : wA.heap.size = T + 1 := by rw [hwA, hT]; simp
  clear hwA hT
  obtain ⟨wB, hwB⟩ : ∃ wB, wB = wA.alloc (.cells #[.int .i64 0, .int .i64 0, .slice none 0 0, .slice none 0 0, .int .i64 0, .int .i64 0, .slice none 0 0, .slice none 0 0, .nilFunc] 86) := ⟨_, rfl⟩
  have UB := Lib.hid (show Upd [] wA wB by rw [hwB]; exact (Upd.refl _ _).alloc _)
  have hB : wB.heap[T + 1]? = some (.cells #[.int .i64 0, .int .i64 0, .slice none 0 0, .slice none 0 0, .int .i64 0, .int .i64 0, .slice none 0 0, .slice none 0 0, .nilFunc] 86 (0, 0)) := by rw [hwB, ← hsz]; exact heap_alloc_new wA _
  have y0 := UB.out.keep z0
  have y1 := UB.out.keep z1
  have y2 := UB.out.keep z2
  have y3 := UB.out.keep z3
  have y4 := UB.out.keep z4
  have y5 := UB.out.keep z5
  have y6 := UB.out.keep z6
  have y7 := UB.out.keep z7
  rw [← hwB]
  clear hwB z0 z1 z2 z3 z4 z5 z6 z7
  go_wp2_with (first
    | (refine wpList_store_row rfl 86 _ _ rfl (T + 1) #[ei sb, ei ib, .slice p3 lb.length q3, .slice p4 eb.length q4, ei sa, ei ia, .slice p1 la.length q1, .slice p2 ea.length q2, .func (.func 134) #[] #[.pointer (some ⟨T, 0, none⟩)]] rfl rfl 86 _ hB rel_size rfl (by simp [Value.oneCell']) ?_)
    | fail)
  obtain ⟨wC, hwC⟩ : ∃ wC, wC = wB.setRow (T + 1) #[ei sb, ei ib, .slice p3 lb.length q3, .slice p4 eb.length q4, ei sa, ei ia, .slice p1 la.length q1, .slice p2 ea.length q2, .func (.func 134) #[] #[.pointer (some ⟨T, 0, none⟩)]] := ⟨_, rfl⟩
  have hC : wC.heap[T + 1]? = some (.cells #[ei sb, ei ib, .slice p3 lb.length q3, .slice p4 eb.length q4, ei sa, ei ia, .slice p1 la.length q1, .slice p2 ea.length q2, .func (.func 134) #[] #[.pointer (some ⟨T, 0, none⟩)]] 86 (0, 0)) := by rw [hwC]; exact setRow_heap _ _ _ _ _ _ hB
  have UC : Upd [] wA wC := by rw [hwC]; exact UB.out.setRow (Or.inl (by omega)) _
  rw [← hwC]
  clear hwC hB y0 y1 y2 y3 y4 y5 y6 y7
  refine bodyPost_ret (results_cell_row Tryz.results115 _ _ (T + 1) 86 _ (0, 0) _ rfl hC Tryz.underlying86 rfl rel_size) rfl ?_
  refine ⟨⟨_, rfl, ?_⟩, U.out.trans UC⟩
  refine ⟨134, #[.pointer (some ⟨T, 0, none⟩)], rfl, enter_turned1, ?_⟩
  intro W x y hu hx1 hx2 hy1 hy2
  exact turned1I T _ _ _ _ _ _ _ H x y W (HR.out.upd (UC.trans hu) (by simp)) (HH.out.upd (UC.trans hu)) hx1 hx2 hy1 hy2

end Go.Proofs.YtcnaapiljmgfoaaGreatDoor

/-
  Relations between systems, the program's answered: all edges from a state are answered. (The drawn region's way is printed by tools/genbisb.py.)
-/
namespace Go.Proofs.YtcnaapiljmgfoaaGreatDoor
open Go.RowKit

/-- all edges from a state are answered. -/
def ansF (A : Sys) (x : Int) (W : List UInt8 → Int → Bool) : Bool := (outF A.eds x).all fun e => W (A.labs.getD e.lb.toNat []) e.to
theorem sys_eds {x : Sys} (h : sysOk x = true) : ∀ e ∈ x.eds, (0 ≤ e.fr ∧ e.fr < x.st) ∧ (0 ≤ e.to ∧ e.to < x.st) := by
  intro e he
  unfold sysOk at h
  simp only [Bool.and_eq_true] at h
  obtain ⟨i, hi, rfl⟩ := List.getElem_of_mem he
  have := allF_get h.2 i (by omega) (by omega)
  rw [edP_at _ _ hi] at this
  simp only [Bool.and_eq_true] at this
  have r1 := inB_true this.1.1.1
  have r2 := inB_true this.1.1.2
  omega

set_option maxRecDepth 20000 in
set_option maxHeartbeats 8000000 in
theorem answeredI (fn : FuncId) (F : Sys → Sys → (Int → Int → Bool) → Int → Int → List UInt8 → Int → Bool) (hway : WayC fn F) (A B : Sys) (a1 a2 b1 b2 hv : Value) (H : Int → Int → Bool) (x y : Int) (w : World) (f1 f2 f3 f4 : List Nat)
    (h : Two w A B a1 a2 b1 b2 f1 f2 f3 f4) (hh : HasC hv A.st B.st H w) (hx0 : 0 ≤ x) (hx1 : x < A.st) (hy0 : 0 ≤ y) (hy1 : y < B.st) :
    Calls Tryz.prog 114 #[relV A B a1 a2 b1 b2 hv, .int .i64 x, .int .i64 y, .func (.func fn) #[] #[]] w fun e w' => e = .returned (.bool (ansF A x (F A B H x y))) ∧ Upd [] w w' := by
  obtain ⟨-, -, hlabs, heds, -, -⟩ := sys_parts h.oka
  have hent := hway.1
  have HLB := Lib.hid (sys_labs h.oka)
  have HTO := Lib.hid (sys_eds h.oka)
  obtain ⟨wA, hwA⟩ : ∃ wA, wA = w.alloc (.cells #[ei A.st, ei A.ini, a1, a2, ei B.st, ei B.ini, b1, b2, hv] 86) := ⟨_, rfl⟩
  have U := Lib.hid (show Upd [] w wA by rw [hwA]; exact (Upd.refl _ _).alloc _)
  have hR : RelAt w.heap.size wA A B a1 a2 b1 b2 hv := by rw [hwA]; exact RelAt.new w A B a1 a2 b1 b2 hv
  obtain ⟨BR, hBR⟩ : ∃ BR, BR = w.heap.size := ⟨_, rfl⟩
  rw [← hBR] at hR
  have HR := Lib.hid hR
  have W0 := Lib.hid (fun (s : List UInt8) (v : Int) (h0 : 0 ≤ v) (h1 : v < A.st) W (hu : Upd [] wA W) => hway.2 A B a1 a2 b1 b2 hv H x y v s W f1 f2 f3 f4 (h.upd (U.out.trans hu)) (hh.upd (U.out.trans hu)) hx0 hx1 hy0 hy1 h0 h1)
  have S1 := Lib.hid (outEI A.st A.ini a1 a2 A.eds x wA f2 (h.upd U.out).ea (by omega))
  obtain ⟨la, ca, rfl, la1, la2, hca⟩ := slF1_open (h.upd U.out).la
  obtain ⟨l2a, c2a, rfl, -, -, -⟩ := slF3_open (h.upd U.out).ea
  unfold maxLen at la2
  have HCA := Lib.hid hca
  have HM := Lib.hid (show ansF A x (F A B H x y) = ((outF A.eds x).drop 0).all fun e => F A B H x y (A.labs.getD e.lb.toNat []) e.to from rfl)
  have HOA := Lib.hid (fun e (h : e ∈ outF A.eds x) => And.intro (HLB.out e (outF_mem h)) (HTO.out e (outF_mem h)).2)
  obtain ⟨⟨z0, z1, z2, z3⟩, ⟨z4, z5, z6, z7⟩, z8⟩ := hR.facts
  clear hca hR h hh hway HLB HTO hx0 hx1 hy0 hy1
  generalize outF A.eds x = OA at *
  generalize ansF A x (F A B H x y) = Z at *
  generalize F A B H x y = FF at *
  go_enter Tryz.func114, Tryz.ntmps114
  go_upto_region 1 with (fail)
  rw [← hwA, ← hBR]
  clear hwA hBR
  go_wp2_with fail
  refine S1.out.mono ?_
  rintro e w1 ⟨⟨vl, rfl, fl, rl, -, -⟩, hu1⟩
  obtain ⟨l1, cl, rfl, ll1, ll2, hcl⟩ := slF3_open rl
  unfold maxLen at ll2
  have HCL := Lib.hid hcl
  have HU1 := Lib.hid hu1
  clear S1 rl hu1 hcl z0 z1 z2 z3 z4 z5 z6 z7 z8
  go_wp2_with fail
  go_loopw [16] (fun iv wr => ∃ i : Nat, i ≤ OA.length ∧ iv = .int .i64 i ∧ Hid (((OA.drop i).all fun e => FF (A.labs.getD e.lb.toNat []) e.to) = Z) ∧ Hid (Upd [] w1 wr)) (fun iv _ => OA.length - (intOf iv).toNat)
  case atStart => exact ⟨0, Nat.zero_le _, rfl, Lib.hid HM.out.symm, Lib.hid (Upd.refl _ _)⟩
  case round =>
    clear HM
    obtain ⟨wo, rfl⟩ : ∃ wo : World, wo = wr := ⟨_, rfl⟩
    obtain ⟨i, hi, rfl, HA, HU⟩ := hrel
    by_cases hlt : i < OA.length
    · obtain ⟨bl, ol, rfl, -, -, p1, p2, p3⟩ := HCL.out i hlt
      obtain ⟨hlab, hto0, hto1⟩ := HOA.out OA[i] (List.getElem_mem hlt)
      have hS := HA.out
      rw [List.drop_eq_getElem_cons hlt, List.all_cons] at hS
      have HS := Lib.hid hS
      have hil : (i : Int) < (OA.length : Int) := by omega
      have q1 := HU.out.keep p1
      have q2 := HU.out.keep p2
      have q3 := HU.out.keep p3
      clear hS HA p1 p2 p3
      generalize OA[i] = e at *
      obtain ⟨e1, e2, e3⟩ := e
      simp only at q1 q2 q3 hlab hto0 hto1 HS
      obtain ⟨le, rfl⟩ : ∃ N : Nat, e2 = N := ⟨e2.toNat, by omega⟩
      have hle : le < A.labs.length := by omega
      have hlei : (le : Int) < (A.labs.length : Int) := by omega
      obtain ⟨ba, obx, rfl, -, -, pA⟩ := HCA.out le hle
      have gA : A.labs.getD le [] = A.labs[le] := by rw [List.getD_eq_getElem?_getD, List.getElem?_eq_getElem hle]; rfl
      rw [Int.toNat_natCast, gA] at HS
      clear gA hlab
      generalize A.labs[le] = sa at *
      obtain ⟨wB, hwB⟩ : ∃ wB, wB = wo.alloc (.cells #[.int .i64 e1, .int .i64 le, .int .i64 e3] 74) := ⟨_, rfl⟩
      have UB : Upd [] wo wB := by rw [hwB]; exact (Upd.refl _ _).alloc _
      have HUB := Lib.hid (HU.out.trans UB)
      have t0 : wB.cell? ⟨wo.heap.size, 0, none⟩ = some (ei e1) := by rw [hwB]; exact cell_new wo _ _ _ rfl 0 _ rfl
      have t1 : wB.cell? ⟨wo.heap.size, 1, none⟩ = some (ei le) := by rw [hwB]; exact cell_new wo _ _ _ rfl 1 _ rfl
      have t2 : wB.cell? ⟨wo.heap.size, 2, none⟩ = some (ei e3) := by rw [hwB]; exact cell_new wo _ _ _ rfl 2 _ rfl
      have rA := HUB.out.keep (HU1.out.keep pA)
      obtain ⟨⟨z0, z1, z2, z3⟩, ⟨z4, z5, z6, z7⟩, z8⟩ := (HR.out.upd (HU1.out.trans HUB.out) (by simp)).facts
      have WY := Lib.hid (fun W (hu : Upd [] wB W) => W0.out sa e3 hto0 hto1 W (HU1.out.trans (HUB.out.trans hu)))
      generalize FF sa e3 = bb at *
      obtain ⟨BE, hBE⟩ : ∃ BE, BE = wo.heap.size := ⟨_, rfl⟩
      rw [← hBE] at t0 t1 t2
      go_upto_region 4 with (fail)
      rw [← hwB, ← hBE]
      clear hwB hBE HU q1 q2 q3 pA UB W0 HCA HCL HOA hto0 hto1
      refine wp_region_held_drew (S := fun w' => w'.cell? ⟨BR, 0, none⟩ = some (ei A.st) ∧ w'.cell? ⟨BR, 1, none⟩ = some (ei A.ini) ∧ w'.cell? ⟨BR, 2, none⟩ = some (.slice (some ⟨ba, obx, none⟩) A.labs.length ca) ∧ w'.cell? ⟨BR, 3, none⟩ = some (.slice l2a A.eds.length c2a) ∧ w'.cell? ⟨BR, 4, none⟩ = some (ei B.st) ∧ w'.cell? ⟨BR, 5, none⟩ = some (ei B.ini) ∧ w'.cell? ⟨BR, 6, none⟩ = some b1 ∧ w'.cell? ⟨BR, 7, none⟩ = some b2 ∧ w'.cell? ⟨BR, 8, none⟩ = some hv ∧ w'.cell? ⟨BE, 0, none⟩ = some (ei e1) ∧ w'.cell? ⟨BE, 1, none⟩ = some (ei le) ∧ w'.cell? ⟨BE, 2, none⟩ = some (ei e3) ∧ w'.cell? ⟨ba, obx + le, none⟩ = some (es sa)) (by kernel_rfl) ?_ (fun hHeld => ?_)
      · exact ⟨z0, z1, z2, z3, z4, z5, z6, z7, z8, t0, t1, t2, rA⟩
      refine wpAnyH_take (i := 0) (v := ?_) rfl (by kernel_rfl) (by kernel_rfl) (by kernel_rfl) (fun _ _ _ h => h) (Or.inl ⟨by rfl, ?_⟩) (by assumption) ?_
      rotate_left
      · (intro w hSw; (try dsimp only at hSw); go_simp)
        first | done | with_reducible rfl
      simp only [Act.put, List.getElem_toArray, List.getElem_cons_zero, List.setIfInBounds_toArray, List.set_cons_zero, List.set_cons_succ]
      refine wpAnyH_take (i := 1) (v := ?_) rfl (by kernel_rfl) (by kernel_rfl) (by kernel_rfl) (fun _ _ _ h => h) (Or.inl ⟨by rfl, ?_⟩) (by assumption) ?_
      rotate_left
      · (intro w hSw; (try dsimp only at hSw); go_simp)
        first | done | with_reducible rfl
      simp only [Act.put, List.getElem_toArray, List.getElem_cons_zero, List.getElem_cons_succ, List.setIfInBounds_toArray, List.set_cons_zero, List.set_cons_succ]
      refine wpAnyH_take (i := 2) (v := ?_) rfl (by kernel_rfl) (by kernel_rfl) (by kernel_rfl) (fun _ _ _ h => h) (Or.inl ⟨by rfl, ?_⟩) (by assumption) ?_
      rotate_left
      · (intro w hSw; (try dsimp only at hSw); go_simp)
        first | done | with_reducible rfl
      simp only [Act.put, List.getElem_toArray, List.getElem_cons_zero, List.getElem_cons_succ, List.setIfInBounds_toArray, List.set_cons_zero, List.set_cons_succ]
      refine wpAnyH_take (i := 3) (v := ?_) rfl (by kernel_rfl) (by kernel_rfl) (by kernel_rfl) (fun _ _ _ h => h) (Or.inl ⟨by rfl, ?_⟩) (by assumption) ?_
      rotate_left
      · (intro w hSw; (try dsimp only at hSw); go_simp)
        first | done | with_reducible rfl
      simp only [Act.put, List.getElem_toArray, List.getElem_cons_zero, List.getElem_cons_succ, List.setIfInBounds_toArray, List.set_cons_zero, List.set_cons_succ]
      refine wpAnyH_take (i := 4) (v := ?_) rfl (by kernel_rfl) (by kernel_rfl) (by kernel_rfl) (fun _ _ _ h => h) (Or.inl ⟨by rfl, ?_⟩) (by assumption) ?_
      rotate_left
      · (intro w hSw; (try dsimp only at hSw); go_simp)
        first | done | with_reducible rfl
      simp only [Act.put, List.getElem_toArray, List.getElem_cons_zero, List.getElem_cons_succ, List.setIfInBounds_toArray, List.set_cons_zero, List.set_cons_succ]
      refine wpAnyH_take (i := 5) (v := ?_) rfl (by kernel_rfl) (by kernel_rfl) (by kernel_rfl) (fun _ _ _ h => h) (Or.inl ⟨by rfl, ?_⟩) (by assumption) ?_
      rotate_left
      · (intro w hSw; (try dsimp only at hSw); go_simp)
        first | done | with_reducible rfl
      simp only [Act.put, List.getElem_toArray, List.getElem_cons_zero, List.getElem_cons_succ, List.setIfInBounds_toArray, List.set_cons_zero, List.set_cons_succ]
      refine wpAnyH_take (i := 6) (v := ?_) rfl (by kernel_rfl) (by kernel_rfl) (by kernel_rfl) (fun _ _ _ h => h) (Or.inl ⟨by rfl, ?_⟩) (by assumption) ?_
      rotate_left
      · (intro w hSw; (try dsimp only at hSw); go_simp)
        first | done | with_reducible rfl
      simp only [Act.put, List.getElem_toArray, List.getElem_cons_zero, List.getElem_cons_succ, List.setIfInBounds_toArray, List.set_cons_zero, List.set_cons_succ]
      refine wpAnyH_take (i := 7) (v := ?_) rfl (by kernel_rfl) (by kernel_rfl) (by kernel_rfl) (fun _ _ _ h => h) (Or.inl ⟨by rfl, ?_⟩) (by assumption) ?_
      rotate_left
      · (intro w hSw; (try dsimp only at hSw); go_simp)
        first | done | with_reducible rfl
      simp only [Act.put, List.getElem_toArray, List.getElem_cons_zero, List.getElem_cons_succ, List.setIfInBounds_toArray, List.set_cons_zero, List.set_cons_succ]
      refine wpAnyH_take (i := 8) (v := ?_) rfl (by kernel_rfl) (by kernel_rfl) (by kernel_rfl) (fun _ _ _ h => h) (Or.inl ⟨by rfl, ?_⟩) (by assumption) ?_
      rotate_left
      · (intro w hSw; (try dsimp only at hSw); go_simp)
        first | done | with_reducible rfl
      simp only [Act.put, List.getElem_toArray, List.getElem_cons_zero, List.getElem_cons_succ, List.setIfInBounds_toArray, List.set_cons_zero, List.set_cons_succ]
      refine wpAnyH_take (i := 9) (v := ?_) rfl (by kernel_rfl) (by kernel_rfl) (by kernel_rfl) (fun _ _ _ h => h) (Or.inl ⟨by rfl, ?_⟩) (by assumption) ?_
      rotate_left
      · (intro w hSw; (try dsimp only at hSw); go_simp)
        first | done | with_reducible rfl
      simp only [Act.put, List.getElem_toArray, List.getElem_cons_zero, List.getElem_cons_succ, List.setIfInBounds_toArray, List.set_cons_zero, List.set_cons_succ]
      refine wpAnyH_take (i := 10) (v := ?_) rfl (by kernel_rfl) (by kernel_rfl) (by kernel_rfl) (fun _ _ _ h => h) (Or.inl ⟨by rfl, ?_⟩) (by assumption) ?_
      rotate_left
      · (intro w hSw; (try dsimp only at hSw); go_simp)
        first | done | with_reducible rfl
      simp only [Act.put, List.getElem_toArray, List.getElem_cons_zero, List.getElem_cons_succ, List.setIfInBounds_toArray, List.set_cons_zero, List.set_cons_succ]
      refine wpAnyH_take (i := 11) (v := ?_) rfl (by kernel_rfl) (by kernel_rfl) (by kernel_rfl) (fun _ _ _ h => h) (Or.inl ⟨by rfl, ?_⟩) (by assumption) ?_
      rotate_left
      · (intro w hSw; (try dsimp only at hSw); go_simp)
        first | done | with_reducible rfl
      simp only [Act.put, List.getElem_toArray, List.getElem_cons_zero, List.getElem_cons_succ, List.setIfInBounds_toArray, List.set_cons_zero, List.set_cons_succ]
      refine wpAnyH_take (i := 12) (v := ?_) rfl (by kernel_rfl) (by kernel_rfl) (by kernel_rfl) (fun _ _ _ h => h) (Or.inl ⟨by rfl, ?_⟩) (by assumption) ?_
      rotate_left
      · (intro w hSw; (try dsimp only at hSw); go_simp)
        first | done | with_reducible rfl
      simp only [Act.put, List.getElem_toArray, List.getElem_cons_zero, List.getElem_cons_succ, List.setIfInBounds_toArray, List.set_cons_zero, List.set_cons_succ]
      refine wpAnyH_ready (rs := [13]) (by kernel_rfl) (by simp) ?_
      refine AllReadyH.cons rfl (fun K hK => ?_) AllReadyH.nil
      go_simp
      refine (WY.out _ ((Upd.refl [] wB).drew)).mono ?_
      rintro e w13 ⟨rfl, hu2⟩
      have hv2 : Upd [] wB w13 := (Upd.refl [] wB).drew.trans hu2
      refine hK.out _ _ ?_ (fun hHeld => ?_)
      · exact ⟨hu2.keep hHeld.1, hu2.keep hHeld.2.1, hu2.keep hHeld.2.2.1, hu2.keep hHeld.2.2.2.1, hu2.keep hHeld.2.2.2.2.1, hu2.keep hHeld.2.2.2.2.2.1, hu2.keep hHeld.2.2.2.2.2.2.1, hu2.keep hHeld.2.2.2.2.2.2.2.1, hu2.keep hHeld.2.2.2.2.2.2.2.2.1, hu2.keep hHeld.2.2.2.2.2.2.2.2.2.1, hu2.keep hHeld.2.2.2.2.2.2.2.2.2.2.1, hu2.keep hHeld.2.2.2.2.2.2.2.2.2.2.2.1, hu2.keep hHeld.2.2.2.2.2.2.2.2.2.2.2.2⟩
      clear hK K
      try simp only [Act.put, List.getElem_toArray, List.getElem_cons_zero, List.getElem_cons_succ, List.setIfInBounds_toArray, List.set_cons_zero, List.set_cons_succ]
      refine wpAnyH_take (i := 14) (v := ?_) rfl (by kernel_rfl) (by kernel_rfl) (by kernel_rfl) (fun _ _ _ h => h) (Or.inl ⟨by rfl, ?_⟩) (by assumption) ?_
      rotate_left
      · (intro w hSw; (try dsimp only at hSw); go_simp)
        first | done | with_reducible rfl
      simp only [Act.put, List.getElem_toArray, List.getElem_cons_zero, List.getElem_cons_succ, List.setIfInBounds_toArray, List.set_cons_zero, List.set_cons_succ]
      refine wpAnyH_done (by kernel_rfl) ?_ _
      have HU9 := Lib.hid (HUB.out.trans hv2)
      clear hHeld z0 z1 z2 z3 z4 z5 z6 z7 z8 t0 t1 t2 rA HUB WY hv2 hu2
      cases bb with
      | false =>
        have HE := Lib.hid (show Z = false by rw [← HS.out]; rfl)
        clear HS
        go_wp2_with fail
        go_ret
        exact ⟨by rw [HE.out]; rfl, U.out.trans (HU1.out.trans HU9.out)⟩
      | true =>
        have HE := Lib.hid (show ((OA.drop (i + 1)).all fun e => FF (A.labs.getD e.lb.toNat []) e.to) = Z by rw [← HS.out]; rfl)
        clear HS
        go_wp2_with fail
        go_roundw
        case rel => exact ⟨i + 1, by omega, by go_num, HE, HU9⟩
        case measure => simp [intOf]; omega
    · obtain rfl : i = OA.length := by omega
      have HE := Lib.hid (show Z = true by rw [← HA.out, List.drop_length]; rfl)
      clear HA
      go_wp2_with fail
      go_ret
      exact ⟨by rw [HE.out]; rfl, U.out.trans (HU1.out.trans HU.out)⟩

end Go.Proofs.YtcnaapiljmgfoaaGreatDoor
