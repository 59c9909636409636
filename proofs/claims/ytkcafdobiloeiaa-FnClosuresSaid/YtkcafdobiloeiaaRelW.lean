/-
  The matrices behind the relations' functions, made, written and listed.
-/
import Derived.Test.YtkcafdobiloeiaaRel
import Derived.Test.YtkcafdobiloeiaaMat
import Derived.StillTailTactics
namespace Go.Proofs.Ytkcafdobiloeiaa
open Go.RowKit

abbrev Rb : Rp (List Bool) := slF 1 (fun b => [Value.bool b])
abbrev Rm : Rp (List (List Bool)) := slP Rb
theorem Rbk : Kept Rb := slF_kept _ _
theorem Rmk : Kept Rm := slP_kept Rbk

theorem Try.infoB : (Try.prog.info? 4).map (fun i => (i.zero, i.size, i.bytes)) = some (some (.bool false), 1, 1) := by kernel_rfl
theorem Try.infoR : (Try.prog.info? 70).map (fun i => (i.zero, i.size, i.bytes)) = some (some (.slice none 0 0), 1, 24) := by kernel_rfl

theorem newRow {w wr w2 : World} {n k : Nat} {e : TypeId} {us : List Value} {xs : List (List Bool)} (hU : Upd [] w wr) (hsz : w.heap.size < wr.heap.size)
    (hown : wr.ownsRow w.heap.size e 1 (.slice (some ⟨w.heap.size, 0, none⟩) n n) n (us ++ List.replicate (n - k) (.slice none 0 0))) (hrows : Rows Rb w.heap.size [w.heap.size] wr us xs) (hx : xs.length = k) (hk : k < n)
    (hrow : w2.ownsRow wr.heap.size 4 1 (.slice (some ⟨wr.heap.size, 0, none⟩) n n) n (madeCells (Value.bool false).cells (n * 1)).toList) (hgrow : wr.grownBy w2 none) :
    w2.cell? ⟨w.heap.size, k, none⟩ = some (.slice none 0 0) ∧ w2.frozen? ⟨w.heap.size, k, none⟩ = false ∧
      Hid ((w2.setCell ⟨w.heap.size, k, none⟩ (.slice (some ⟨wr.heap.size, 0, none⟩) n n)).ownsRow w.heap.size e 1 (.slice (some ⟨w.heap.size, 0, none⟩) n n) n ((us ++ [.slice (some ⟨wr.heap.size, 0, none⟩) n n]) ++ List.replicate (n - (k + 1)) (.slice none 0 0)) ∧
        Rows Rb w.heap.size [w.heap.size] (w2.setCell ⟨w.heap.size, k, none⟩ (.slice (some ⟨wr.heap.size, 0, none⟩) n n)) (us ++ [.slice (some ⟨wr.heap.size, 0, none⟩) n n]) (xs ++ [List.replicate n false]) ∧
        Upd [] w (w2.setCell ⟨w.heap.size, k, none⟩ (.slice (some ⟨wr.heap.size, 0, none⟩) n n)) ∧ w.heap.size < (w2.setCell ⟨w.heap.size, k, none⟩ (.slice (some ⟨wr.heap.size, 0, none⟩) n n)).heap.size) :=
  fill_push Rbk hU hsz (Nat.le_refl _) (Nat.le_refl _) hown hrows hx hk ((Upd.refl [] wr).grown hgrow (by simp))
    (New.ofOwns (e := 4) (xs := List.replicate n false) (by rw [made_one _ rfl] at hrow; simpa using hrow) : New Rb wr w2 (.slice (some ⟨wr.heap.size, 0, none⟩) n n) (List.replicate n false))

set_option maxHeartbeats 400000 in
theorem newMatrix (n : Nat) (w : World) (hn : n ≤ 40) :
    Calls Try.prog 50 #[.int .i64 n] w fun e w' => (∃ v', e = .returned v' ∧ New Rm w w' v' (mat n fun _ _ => false)) ∧ Upd [] w w' := by
  obtain ⟨i0, hi, hz0, hz1, hz2⟩ := info_parts Try.infoR
  obtain ⟨i1, ki, kz0, kz1, kz2⟩ := info_parts Try.infoB
  have hm1 : i0.bytes * n ≤ 281474976710656 := by rw [hz2]; omega
  have hm2 : i1.bytes * n ≤ 281474976710656 := by rw [kz2]; omega
  go_enter Try.func50, Try.ntmps50
  go_wp2_with (first
    | (at_make; refine wpList_make_full _ rfl _ _ 74 rfl w.heap.size 70 i0 (.slice none 0 0) 1 Try.underlying74 hi hz0 hz1 .i64 .i64 _ _ n rfl rfl rfl rfl hm1 (by unfold maxLen; omega) (Nat.le_refl _) ?_; intro w1 hown hgrow)
    | fail)
  rw [made_one _ rfl] at hown
  have hsz : w.heap.size < w1.heap.size := by
    have := hown.lt w.heap.size rfl
    omega
  have hU : Upd [] w w1 := (Upd.refl _ _).grown hgrow (by simp)
  clear hgrow hm1
  go_loopw [9] (fun i wr => ∃ (k : Nat) (us : List Value), k ≤ n ∧ i = .int .i64 k ∧ Upd [] w wr ∧ w.heap.size < wr.heap.size ∧
      wr.ownsRow w.heap.size 70 1 (.slice (some ⟨w.heap.size, 0, none⟩) n n) n (us ++ List.replicate (n - k) (.slice none 0 0)) ∧
      Rows Rb w.heap.size [w.heap.size] wr us (List.replicate k (List.replicate n false)))
    (fun i _ => n - (intOf i).toNat)
  case atStart => exact ⟨0, [], Nat.zero_le _, rfl, hU, hsz, by simpa using hown, Rows.nil _ _ _ _⟩
  case round =>
    obtain ⟨k, us, hk, rfl, hU, hsz, hown, hrows⟩ := hrel
    by_cases hlt : k < n
    · have hxl : (List.replicate k (List.replicate n false)).length = k := by simp
      go_wp2_with (first
        | (at_make; refine wpList_make_full _ rfl _ _ 70 rfl wr.heap.size 4 i1 (.bool false) 1 Try.underlying70 ki kz0 kz1 .i64 .i64 _ _ n rfl rfl rfl rfl hm2 (by unfold maxLen; omega) (Nat.le_refl _) ?_; intro w2 hrow hgrow; have F := newRow hU hsz hown hrows hxl hlt hrow hgrow; clear hrow hgrow hown hrows; obtain ⟨hcell2, hfr, F⟩ := F)
        | fail)
      have F := F.out
      rw [← List.replicate_succ'] at F
      go_roundw
      case rel => exact ⟨k + 1, us ++ [.slice (some ⟨wr.heap.size, 0, none⟩) n n], by omega, by go_num, F.2.2.1, F.2.2.2, F.1, F.2.1⟩
      case measure => simp [intOf]; omega
    · obtain rfl : k = n := by omega
      have hmat : List.replicate k (List.replicate k false) = mat k fun _ _ => false := by simp [mat, List.map_const']
      rw [hmat] at hrows
      have HR := Lib.hid hrows
      clear hmat hrows
      go_wp2
      go_ret
      refine ⟨⟨_, rfl, HR.out.new (e := 70) (by simpa using hown) (by simp [Value.ownBlock]) (Nat.le_refl _)⟩, hU⟩

/-- what is true of a relation's pairs up to k, turned round. -/
def invTo (r : List (List Int)) (k : Nat) : Nat → Nat → Bool := fun i j => (r.take k).any fun p => p.getD 1 0 == (i : Int) && p.getD 0 0 == (j : Int)
theorem invTo_zero (r : List (List Int)) : invTo r 0 = fun _ _ => false := by funext i j; simp [invTo]
theorem invTo_succ (r : List (List Int)) (k : Nat) (a b : Nat) (hk : k < r.length) (h : r[k] = [(b : Int), (a : Int)]) : invTo r (k + 1) = Go.Proofs.Ytkcafdobiloeiaa.upd (invTo r k) a b true := by
  funext i j
  unfold invTo Go.Proofs.Ytkcafdobiloeiaa.upd
  rw [List.take_succ_eq_append_getElem hk, List.any_append, h]
  by_cases e : i = a ∧ j = b
  · rw [if_pos e]; obtain ⟨rfl, rfl⟩ := e; simp
  · rw [if_neg e]
    have : ([[(b : Int), (a : Int)]].any fun p => p.getD 1 0 == (i : Int) && p.getD 0 0 == (j : Int)) = false := by
      simp; omega
    rw [this, Bool.or_false]

theorem relB_pair {n : Int} {r : List (List Int)} (h : relB n r = true) (k : Nat) (hk : k < r.length) : ∃ a b : Nat, r[k] = [(a : Int), (b : Int)] ∧ (a : Int) < n ∧ (b : Int) < n := by
  rw [relB, Bool.and_eq_true] at h
  have h1 := relTo_at h.2 hk
  rw [relOk, Bool.and_eq_true] at h1
  obtain ⟨a, b, e, a1, a2, b1, b2⟩ := pair_get h1.1
  have eg : r.getD k [] = r[k] := by simp [List.getD, hk]
  rw [eg] at e
  refine ⟨a.toNat, b.toNat, ?_, by omega, by omega⟩
  rw [e, Int.toNat_of_nonneg a1, Int.toNat_of_nonneg b1]
theorem relB_n {n : Int} {r : List (List Int)} (h : relB n r = true) : 1 ≤ n ∧ n ≤ 40 := by
  rw [relB, Bool.and_eq_true] at h; exact inB_true h.1

set_option maxHeartbeats 1000000 in
theorem list51 (n : Nat) (f : Nat → Nat → Bool) (v : Value) (w : World) (fp : List Nat) (hn : n ≤ 40) (hR : Rm fp w [v] (mat n f)) :
    Calls Try.prog 51 #[v] w fun e w' => (∃ v', e = .returned v' ∧ New R2 w w' v' (allTo n f n)) ∧ Upd [] w w' := by
  obtain ⟨i0, hi, hz0, hz1, hz2⟩ := info_parts Try.info44
  obtain ⟨a, cap, rfl, h1, h2, hc⟩ := slP_open hR
  simp only [mat_length] at *
  unfold maxLen at h2
  go_enter Try.func51, Try.ntmps51
  go_wp2
  go_loopw [3, 10] (fun vo i wr => ∃ k : Nat, k ≤ n ∧ i = .int .i64 k ∧ Upd [] w wr ∧ Acc R1 w 44 wr vo (allTo n f k)) (fun _ i _ => n - (intOf i).toNat)
  case atStart => exact ⟨0, Nat.zero_le _, rfl, Upd.refl _ _, Acc.nil _ _ _ _⟩
  case round =>
    obtain ⟨k, hk, rfl, hU, hacc⟩ := hrel
    by_cases hlt : k < n
    · obtain ⟨b, off, u, g, rfl, -, hb, hcx, hg, hr⟩ := hc k hlt
      have hcell : wr.cell? ⟨b, off + k, none⟩ = some u := (hU.below.cell hb).trans hcx
      rw [mat_row n f k hlt] at hr
      obtain ⟨a2, c2, rfl, g1, g2, g3⟩ := slF1_open hr
      simp only [List.length_map, List.length_range, List.getElem_map, List.getElem_range] at *
      unfold maxLen at g2
      clear hr hc
      go_wp2_with fail
      obtain ⟨wo, rfl⟩ : ∃ wo : World, wo = wr := ⟨_, rfl⟩
      go_loopw [3, 17] (fun vo i wr => ∃ j : Nat, j ≤ n ∧ i = .int .i64 j ∧ Upd [] w wr ∧ Acc R1 w 44 wr vo (allTo n f k ++ rowTo f k j)) (fun _ i _ => n - (intOf i).toNat)
      case atStart => exact ⟨0, Nat.zero_le _, rfl, hU, by simpa [rowTo] using hacc⟩
      case round =>
        obtain ⟨j, hj, rfl, hU, hacc⟩ := hrel
        by_cases hjn : j < n
        · obtain ⟨b3, o3, rfl, -, hb3, hc3⟩ := g3 j hjn
          have hcell3 : wr.cell? ⟨b3, o3 + j, none⟩ = some (.bool (f k j)) := (hU.below.cell hb3).trans hc3
          have hrs := rowTo_succ f k j
          cases hf : f k j
          · rw [hf] at hcell3 hrs
            have HR := Lib.hid hrs
            clear hf hrs g3
            go_wp2_with fail
            go_roundw
            case rel => exact ⟨j + 1, by omega, by go_num, hU, by rw [HR.out]; simpa using hacc⟩
            case measure => simp [intOf]; omega
          · rw [hf] at hcell3 hrs
            have HR := Lib.hid hrs
            obtain ⟨us, hown, hrows⟩ := hacc
            have hbd : (allTo n f k).length + (rowTo f k j).length ≤ 1600 := by
              have q1 := allTo_length n f k
              have q2 := rowTo_length f k j
              have q3 : k * n ≤ 39 * 40 := Nat.mul_le_mul (by omega) hn
              omega
            have hsz := hU.size
            clear hf hrs g3
            go_wp2_with (first
              | (at_builtin; refine wpList_append_tight _ rfl _ _ 31 rfl w.heap.size 44 i0 (.slice none 0 0) 1 24 Try.underlying31 hi hz0 hz1 hz2 rfl (by decide) _ _ _ rfl ((hown.alloc _).alloc _) ⟨wr.heap.size + 1, 0, none⟩ 1 1 [.slice (some ⟨wr.heap.size, 0, none⟩) 2 2] rfl rfl ?c1 ?c2 ?c3 ?c4 ?c5 ?_)
              | fail)
            case c2 => rfl
            case c3 => unfold maxLen; omega
            case c4 => omega
            case c5 => omega
            intro v2 w2 hown2 hg2 ht2
            have hnew : New R1 wr (wr.alloc (.cells #[.int .i64 k, .int .i64 j] 2)) (.slice (some ⟨wr.heap.size, 0, none⟩) 2 2) [(k : Int), (j : Int)] :=
              new_lit (enc := ei) wr 2 [(k : Int), (j : Int)] (by simp [maxLen])
            have hU2 : Upd [] w w2 := ((hU.alloc _).alloc _).grown hg2 (fun b hb => Or.inl ((hown.lt b hb).1))
            have hacc2 := Acc.push R1k hown hrows hsz ((Upd.refl [] wr).alloc _) hnew _ (by simpa using hown2) hg2 (by simpa using ht2)
            rw [List.append_assoc, show rowTo f k j ++ [[(k : Int), (j : Int)]] = rowTo f k (j + 1) from by rw [HR.out]; simp] at hacc2
            clear hown hrows hown2 hg2 ht2 hnew hbd hU
            go_wp2_with fail
            go_roundw
            case rel => exact ⟨j + 1, by omega, by go_num, hU2, hacc2⟩
            case measure => simp [intOf]; omega
        · obtain rfl : j = n := by omega
          have has := allTo_succ j f k
          have HA := Lib.hid has
          clear has g3
          go_wp2_with fail
          go_roundw
          case rel => exact ⟨k + 1, by omega, by go_num, hU, by rw [HA.out]; exact hacc⟩
          case measure => simp [intOf]; omega
    · obtain rfl : k = n := by omega
      clear hc
      go_wp2
      go_ret
      exact ⟨⟨_, rfl, hacc.new⟩, hU⟩

def invRes (n : Int) (r : List (List Int)) : List (List Int) × Int :=
  if relB n r then (allTo n.toNat (invTo r r.length) n.toNat, 0) else ([], 1)

set_option maxHeartbeats 1000000 in
theorem invImpl (n : Int) (r : List (List Int)) (v : Value) (w : World) (fp : List Nat) (hn1 : -9223372036854775808 ≤ n) (hn2 : n ≤ 9223372036854775807) (hR : R2 fp w [v] r) :
    Calls Try.prog 19 #[.int .i64 n, v] w fun e w' => (∃ v', e = .returned (.tuple #[v', .int .i64 (invRes n r).2]) ∧ New R2 w w' v' (invRes n r).1) ∧ Upd [] w w' := by
  obtain ⟨a, cap, rfl, h1, h2, hc⟩ := slP_open hR
  unfold maxLen at h2
  cases hb : relB n r
  · have hres : invRes n r = ([], 1) := by simp [invRes, hb]
    have HR := Lib.hid hres
    clear hres
    go_enter Try.func19, Try.ntmps19
    go_wp2_with (go_at_call 49; refine (isRelation _ _ _ _ _ hn1 hn2 hR).mono ?_; rintro e w' ⟨rfl, rfl⟩)
    go_ret2
    rw [HR.out]
    exact ⟨⟨_, rfl, New.nilP _ _ _⟩, Upd.refl _ _⟩
  · have hnn := relB_n hb
    obtain ⟨m, rfl⟩ := Int.eq_ofNat_of_zero_le (show 0 ≤ n by omega)
    have hres : invRes m r = (allTo m (invTo r r.length) m, 0) := by simp [invRes, hb]
    have HR := Lib.hid hres
    have HP := Lib.hid (relB_pair hb)
    clear hres
    go_enter Try.func19, Try.ntmps19
    go_wp2_with (go_at_call 49; refine (isRelation _ _ _ _ _ hn1 hn2 hR).mono ?_; rintro e w' ⟨rfl, rfl⟩)
    refine (newMatrix m _ (by omega)).mono ?_
    rintro e w1 ⟨⟨v1, rfl, fp1, hm1, ho1, hf1⟩, hU⟩
    clear hb hR
    go_wp2_with fail
    rw [← invTo_zero r] at hm1
    have HF1 := Lib.hid hf1
    clear hf1
    go_loopw [17] (fun i wr => ∃ k : Nat, k ≤ r.length ∧ i = .int .i64 k ∧ Upd [] w wr ∧ Rm fp1 wr [v1] (mat m (invTo r k)) ∧ Own fp1 wr) (fun i _ => r.length - (intOf i).toNat)
    case atStart => exact ⟨0, Nat.zero_le _, rfl, hU, hm1, ho1⟩
    case round =>
      obtain ⟨k, hk, rfl, hU, hm1, ho1⟩ := hrel
      by_cases hlt : k < r.length
      · obtain ⟨b, off, u, g, rfl, -, hbl, hcx, -, hr⟩ := hc k hlt
        have hcell : wr.cell? ⟨b, off + k, none⟩ = some u := (hU.below.cell hbl).trans hcx
        obtain ⟨x, y, hxy, hx, hy⟩ := HP.out k hlt
        obtain ⟨a2, c2, rfl, g1, g2, g3⟩ := slF1_open hr
        have hrl : r[k].length = 2 := by rw [hxy]; rfl
        obtain ⟨b2, o2, rfl, -, hb2, q0⟩ := g3 0 (by omega)
        have q1 : wr.cell? ⟨b2, o2 + 1, none⟩ = some (ei y) := by
          obtain ⟨b3, o3, e3, -, -, q1⟩ := g3 1 (by omega)
          cases e3
          rw [hU.below.cell hb2, q1]; simp [hxy]
        have q0' : wr.cell? ⟨b2, o2, none⟩ = some (ei x) := by
          rw [Nat.add_zero] at q0; rw [hU.below.cell hb2, q0]; simp [hxy]
        obtain ⟨c3, b4, o4, b5, o5, c5, rfl, -, e2, -, r1, -, e3, -, r2, hin, hset⟩ := mat_cell hm1 y x (by simp; omega) (by rw [mat_row _ _ _ (by omega)]; simp; omega)
        obtain ⟨hfr, hset⟩ := hset ho1
        have hset := hset true
        rw [mat_set _ _ _ _ _ (by omega), ← invTo_succ r k y x hlt hxy] at hset
        simp only [mat_length, mat_rowlen] at *
        unfold maxLen at g2 e2 e3
        have HS := Lib.hid hset
        have hge := HF1.out _ hin
        have hp0 : 0 < r[k].length := by omega
        have hp1 : 1 < r[k].length := by omega
        have hp2 : (1 : Int) < (r[k].length : Int) := by omega
        have hx' : x < m := by omega
        have hy' : y < m := by omega
        clear hc hset g3 q0 hr hrl hxy hm1 ho1 hcx HP hin
        go_wp2_with fail
        go_region
        go_wp2
        go_roundw
        case rel => exact ⟨k + 1, by omega, by go_num, (hU.setCell (Or.inl hge) _).drew, Rmk.drew HS.out.1, HS.out.2.drew⟩
        case measure => simp [intOf]; omega
      · obtain rfl : k = r.length := by omega
        clear hc
        go_wp2_with fail
        refine (list51 m _ _ _ fp1 (by omega) hm1).mono ?_
        rintro e w2 ⟨⟨v2, rfl, hn⟩, hU2⟩
        go_wp2_with fail
        go_ret2
        rw [HR.out]
        obtain ⟨f2, k1, k2, k3⟩ := hn
        exact ⟨⟨_, rfl, f2, k1, k2, fun b hb => by have := k3 b hb; have := hU.size; omega⟩, hU.trans hU2⟩

theorem mul_bd {i j n : Nat} (hi : i ≤ n) (hj : j ≤ n) (hn : n ≤ 40) : (0 : Int) ≤ (i : Int) * (j : Int) ∧ (i : Int) * (j : Int) ≤ 1600 ∧ i * j ≤ 1600 := by
  have h : i * j ≤ 40 * 40 := Nat.mul_le_mul (by omega) (by omega)
  have e : (i : Int) * (j : Int) = ((i * j : Nat) : Int) := (Int.natCast_mul i j).symm
  omega

set_option maxHeartbeats 1000000 in
theorem l02List (n : Nat) (f : Nat → Nat → Bool) (v : Value) (w : World) (fp : List Nat) (hn : n ≤ 40) (hR : Rb fp w [v] (flat n f)) :
    Calls Try.prog 47 #[.int .i64 n, v] w fun e w' => (∃ v', e = .returned v' ∧ New R2 w w' v' (allTo n f n)) ∧ Upd [] w w' := by
  obtain ⟨i0, hi, hz0, hz1, hz2⟩ := info_parts Try.info44
  obtain ⟨a, cap, rfl, h1, h2, hc⟩ := slF1_open hR
  simp only [flat_length] at *
  unfold maxLen at h2
  go_enter Try.func47, Try.ntmps47
  go_wp2
  go_loopw [5, 6] (fun vo i wr => ∃ k : Nat, k ≤ n ∧ i = .int .i64 k ∧ Upd [] w wr ∧ Acc R1 w 44 wr vo (allTo n f k)) (fun _ i _ => n - (intOf i).toNat)
  case atStart => exact ⟨0, Nat.zero_le _, rfl, (Upd.refl _ _).alloc _, Acc.lit0 _ _ _ _ (Nat.le_refl _)⟩
  case round =>
    obtain ⟨k, hk, rfl, hU, hacc⟩ := hrel
    by_cases hlt : k < n
    · go_wp2_with fail
      obtain ⟨wo, rfl⟩ : ∃ wo : World, wo = wr := ⟨_, rfl⟩
      go_loopw [5, 7] (fun vo i wr => ∃ j : Nat, j ≤ n ∧ i = .int .i64 j ∧ Upd [] w wr ∧ Acc R1 w 44 wr vo (allTo n f k ++ rowTo f k j)) (fun _ i _ => n - (intOf i).toNat)
      case atStart => exact ⟨0, Nat.zero_le _, rfl, hU, by simpa [rowTo] using hacc⟩
      case round =>
        obtain ⟨j, hj, rfl, hU, hacc⟩ := hrel
        by_cases hjn : j < n
        · have hix : k * n + j < n * n := idx_lt hlt hjn
          have hbd2 := mul_bd (i := k) (j := n) (n := n) (by omega) (Nat.le_refl _) hn
          have hbd3 := mul_bd (i := n) (j := n) (n := n) (Nat.le_refl _) (Nat.le_refl _) hn
          have hto : ((k : Int) * (n : Int) + (j : Int)) = ((k * n + j : Nat) : Int) := by push_cast; rfl
          obtain ⟨b3, o3, rfl, -, hb3, hc3⟩ := hc (k * n + j) hix
          have hcell3 : wr.cell? ⟨b3, o3 + (k * n + j), none⟩ = some (.bool (f k j)) := by
            rw [hU.below.cell hb3, hc3]
            have := flat_get n f k j hlt hjn
            rw [List.getElem?_eq_getElem (by simpa using hix)] at this
            rw [Option.some.inj this]
          have HTO := Lib.hid hto
          have hrs := rowTo_succ f k j
          clear hto hc3
          cases hf : f k j
          · rw [hf] at hcell3 hrs
            have HR := Lib.hid hrs
            clear hf hrs hc
            go_wp2_with fail
            go_roundw
            case rel => exact ⟨j + 1, by omega, by go_num, hU, by rw [HR.out]; simpa using hacc⟩
            case measure => simp [intOf]; omega
          · rw [hf] at hcell3 hrs
            have HR := Lib.hid hrs
            obtain ⟨us, hown, hrows⟩ := hacc
            have hbd : (allTo n f k).length + (rowTo f k j).length ≤ 1600 := by
              have q1 := allTo_length n f k
              have q2 := rowTo_length f k j
              have q3 : k * n ≤ 39 * 40 := Nat.mul_le_mul (by omega) hn
              omega
            have hsz := hU.size
            clear hf hrs hc
            go_wp2_with (first
              | (at_builtin; refine wpList_append_tight _ rfl _ _ 31 rfl w.heap.size 44 i0 (.slice none 0 0) 1 24 Try.underlying31 hi hz0 hz1 hz2 rfl (by decide) _ _ _ rfl ((hown.alloc _).alloc _) ⟨wr.heap.size + 1, 0, none⟩ 1 1 [.slice (some ⟨wr.heap.size, 0, none⟩) 2 2] rfl rfl ?c1 ?c2 ?c3 ?c4 ?c5 ?_)
              | fail)
            case c2 => rfl
            case c3 => unfold maxLen; omega
            case c4 => omega
            case c5 => omega
            intro v2 w2 hown2 hg2 ht2
            have hnew : New R1 wr (wr.alloc (.cells #[.int .i64 k, .int .i64 j] 2)) (.slice (some ⟨wr.heap.size, 0, none⟩) 2 2) [(k : Int), (j : Int)] :=
              new_lit (enc := ei) wr 2 [(k : Int), (j : Int)] (by simp [maxLen])
            have hU2 : Upd [] w w2 := ((hU.alloc _).alloc _).grown hg2 (fun b hb => Or.inl ((hown.lt b hb).1))
            have hacc2 := Acc.push R1k hown hrows hsz ((Upd.refl [] wr).alloc _) hnew _ (by simpa using hown2) hg2 (by simpa using ht2)
            rw [List.append_assoc, show rowTo f k j ++ [[(k : Int), (j : Int)]] = rowTo f k (j + 1) from by rw [HR.out]; simp] at hacc2
            clear hown hrows hown2 hg2 ht2 hnew hbd hU
            go_wp2_with fail
            go_roundw
            case rel => exact ⟨j + 1, by omega, by go_num, hU2, hacc2⟩
            case measure => simp [intOf]; omega
        · obtain rfl : j = n := by omega
          have has := allTo_succ j f k
          have HA := Lib.hid has
          clear has hc
          go_wp2_with fail
          go_roundw
          case rel => exact ⟨k + 1, by omega, by go_num, hU, by rw [HA.out]; exact hacc⟩
          case measure => simp [intOf]; omega
    · obtain rfl : k = n := by omega
      clear hc
      go_wp2
      go_ret
      exact ⟨⟨_, rfl, hacc.new⟩, hU⟩

set_option maxHeartbeats 1000000 in
theorem invSpec (n : Int) (r : List (List Int)) (v : Value) (w : World) (fp : List Nat) (hR : R2 fp w [v] r) :
    Calls Try.prog 17 #[.int .i64 n, v] w fun e w' => (∃ v', e = .returned (.tuple #[v', .int .i64 (invRes n r).2]) ∧ New R2 w w' v' (invRes n r).1) ∧ Upd [] w w' := by
  obtain ⟨i1, ki, kz0, kz1, kz2⟩ := info_parts Try.infoB
  obtain ⟨a, cap, rfl, h1, h2, hc⟩ := slP_open hR
  unfold maxLen at h2
  cases hb : relB n r
  · have hres : invRes n r = ([], 1) := by simp [invRes, hb]
    have HR := Lib.hid hres
    clear hres
    go_enter Try.func17, Try.ntmps17
    go_wp2_with fail
    refine (l02Relation _ _ _ _ _ hR).mono ?_
    rintro e w1 ⟨rfl, d, hw1⟩
    have hU : Upd [] w w1 := by rw [hw1]; exact (Upd.refl _ _).drewN _
    clear hw1
    go_wp2_with fail
    go_ret2
    rw [HR.out]
    exact ⟨⟨_, rfl, New.nilP _ _ _⟩, hU⟩
  · have hnn := relB_n hb
    obtain ⟨m, rfl⟩ := Int.eq_ofNat_of_zero_le (show 0 ≤ n by omega)
    have hres : invRes m r = (allTo m (invTo r r.length) m, 0) := by simp [invRes, hb]
    have HR := Lib.hid hres
    have HP := Lib.hid (relB_pair hb)
    have hbd := mul_bd (i := m) (j := m) (n := m) (Nat.le_refl _) (Nat.le_refl _) (by omega)
    have hm2 : i1.bytes * (m * m) ≤ 281474976710656 := by rw [kz2]; omega
    clear hres
    go_enter Try.func17, Try.ntmps17
    go_wp2_with fail
    refine (l02Relation _ _ _ _ _ hR).mono ?_
    rintro e w1 ⟨rfl, d, hw1⟩
    have hU : Upd [] w w1 := by rw [hw1]; exact (Upd.refl _ _).drewN _
    clear hw1 hR
    go_wp2_with (first
      | (at_make; refine wpList_make_full _ rfl _ _ 70 rfl w1.heap.size 4 i1 (.bool false) 1 Try.underlying70 ki kz0 kz1 .i64 .i64 _ _ (m * m) rfl rfl (Int.natCast_mul m m).symm (Int.natCast_mul m m).symm hm2 (by unfold maxLen; omega) (Nat.le_refl _) ?_; intro w2 hrow hgrow)
      | fail)
    rw [made_one _ rfl, flat_false_map Value.bool m] at hrow
    obtain ⟨fp1, hm1, ho1, hf1⟩ := New.ofOwns (w := w1) (e := 4) (enc := Value.bool) (xs := flat m fun _ _ => false) (by simpa using hrow)
    have hU2 := hU.grown hgrow (by simp)
    rw [← invTo_zero r] at hm1
    have hsz := hU.size
    have HF1 := Lib.hid (fun b hb => Nat.le_trans hsz (hf1 b hb) : ∀ b ∈ fp1, w.heap.size ≤ b)
    clear hf1 hrow hgrow hU hm2 hsz
    go_loopw [7] (fun i wr => ∃ k : Nat, k ≤ r.length ∧ i = .int .i64 k ∧ Upd [] w wr ∧ Rb fp1 wr [.slice (some ⟨w1.heap.size, 0, none⟩) (m * m) (m * m)] (flat m (invTo r k)) ∧ Own fp1 wr) (fun i _ => r.length - (intOf i).toNat)
    case atStart => exact ⟨0, Nat.zero_le _, rfl, hU2, hm1, ho1⟩
    case round =>
      clear hU2 hm1 ho1
      obtain ⟨k, hk, rfl, hU, hm1, ho1⟩ := hrel
      by_cases hlt : k < r.length
      · obtain ⟨b, off, u, g, rfl, -, hbl, hcx, -, hr⟩ := hc k hlt
        have hcell : wr.cell? ⟨b, off + k, none⟩ = some u := (hU.below.cell hbl).trans hcx
        obtain ⟨x, y, hxy, hx, hy⟩ := HP.out k hlt
        obtain ⟨a2, c2, rfl, g1, g2, g3⟩ := slF1_open hr
        have hrl : r[k].length = 2 := by rw [hxy]; rfl
        obtain ⟨b2, o2, rfl, -, hb2, q0⟩ := g3 0 (by omega)
        have q1 : wr.cell? ⟨b2, o2 + 1, none⟩ = some (ei y) := by
          obtain ⟨b3, o3, e3, -, -, q1⟩ := g3 1 (by omega)
          cases e3
          rw [hU.below.cell hb2, q1]; simp [hxy]
        have q0' : wr.cell? ⟨b2, o2, none⟩ = some (ei x) := by
          rw [Nat.add_zero] at q0; rw [hU.below.cell hb2, q0]; simp [hxy]
        have hix : y * m + x < m * m := idx_lt (by omega) (by omega)
        obtain ⟨b4, o4, c4, hv4, -, -, hfp, -, r2, hset⟩ := slF1_cell hm1 (y * m + x) (by simpa using hix)
        simp only [Value.slice.injEq, Option.some.injEq, Addr.mk.injEq, and_true] at hv4
        obtain ⟨⟨rfl, rfl⟩, -, rfl⟩ := hv4
        have hset := hset true
        rw [flat_set _ _ _ _ _ (by omega), ← invTo_succ r k y x hlt hxy, Nat.zero_add] at hset
        rw [Nat.zero_add] at r2
        have hfr : wr.frozen? ⟨w1.heap.size, y * m + x, none⟩ = false := ho1.frozen (by rw [hfp]; simp) _
        have ho2 := ho1.setCell ⟨w1.heap.size, y * m + x, none⟩ (.bool true)
        have hge : w.heap.size ≤ w1.heap.size := HF1.out _ (by rw [hfp]; simp)
        have hbd2 := mul_bd (i := y) (j := m) (n := m) (by omega) (Nat.le_refl _) (by omega)
        unfold maxLen at g2
        have HS := Lib.hid (And.intro hset ho2)
        have hp0 : 0 < r[k].length := by omega
        have hp1 : 1 < r[k].length := by omega
        have hp2 : (1 : Int) < (r[k].length : Int) := by omega
        have hx' : x < m := by omega
        have hy' : y < m := by omega
        clear hc hset ho2 g3 q0 hr hrl hxy hm1 ho1 hcx hfp HP
        go_wp2_with fail
        go_region
        go_wp2
        go_roundw
        case rel => exact ⟨k + 1, by omega, by go_num, (hU.setCell (Or.inl hge) _).drew, Rbk.drew HS.out.1, HS.out.2.drew⟩
        case measure => simp [intOf]; omega
      · obtain rfl : k = r.length := by omega
        clear hc
        go_wp2_with fail
        refine (l02List m _ _ _ fp1 (by omega) hm1).mono ?_
        rintro e w2 ⟨⟨v2, rfl, hn⟩, hU2⟩
        go_wp2_with fail
        go_ret2
        rw [HR.out]
        obtain ⟨f2, k1, k2, k3⟩ := hn
        exact ⟨⟨_, rfl, f2, k1, k2, fun b hb => by have := k3 b hb; have := hU.size; omega⟩, hU.trans hU2⟩

theorem pairs_tot (n : Nat) (f : Nat → Nat → Bool) (hn : n ≤ 40) : tot (allTo n f n) ≤ 3200 := by
  have h : ∀ (L : List (List Int)), (∀ p ∈ L, p.length = 2) → tot L = 2 * L.length := by
    intro L
    induction L with
    | nil => intro _; rfl
    | cons p L ih =>
      intro hp
      have h1 := hp p (by simp)
      have h2 := ih (fun q hq => hp q (by simp [hq]))
      unfold tot at *
      simp only [List.map_cons, List.sum_cons, h1, h2, List.length_cons]; omega
  have h2 : ∀ p ∈ allTo n f n, p.length = 2 := by
    intro p hp
    simp only [allTo, rowTo, List.mem_flatMap] at hp
    obtain ⟨a, -, j, -, hp⟩ := hp
    split at hp
    · simp at hp; subst hp; rfl
    · simp at hp
  rw [h _ h2]
  have := allTo_length n f n
  have : n * n ≤ 40 * 40 := Nat.mul_le_mul hn hn
  omega

end Go.Proofs.Ytkcafdobiloeiaa
