/-
  SpanOf: the walk.
-/
import Derived.Test.YtkcafdobiloeiaaNorm
import Derived.Test.YtkcafdobiloeiaaClose
namespace Go.Proofs.Ytkcafdobiloeiaa
open Go.RowKit

def repl (from' to' x : Int) : Int := if x = from' then to' else x
def mergeL (l : List Int) (a b : Nat) : List Int := l.map (repl (l.getD a 0) (l.getD b 0))
def leadL (m : Nat) (r : List (List Int)) : List Int := r.foldl (fun l p => mergeL l (p.getD 0 0).toNat (p.getD 1 0).toNat) (upFrom 0 m)
theorem mergeL_length (l : List Int) (a b : Nat) : (mergeL l a b).length = l.length := by simp [mergeL]
theorem leadL_step (m : Nat) (r : List (List Int)) (k x y : Nat) (hk : k < r.length) (h : r[k] = [(x : Int), (y : Int)]) : leadL m (r.take (k + 1)) = mergeL (leadL m (r.take k)) x y := by
  rw [List.take_succ_eq_append_getElem hk, leadL, List.foldl_append, h]; rfl
theorem leadL_length (m : Nat) (r : List (List Int)) : (leadL m r).length = m := by
  have key : ∀ (r : List (List Int)) (l : List Int), (r.foldl (fun l p => mergeL l (p.getD 0 0).toNat (p.getD 1 0).toNat) l).length = l.length := by
    intro r
    induction r with
    | nil => simp
    | cons p r ih => intro l; rw [List.foldl_cons, ih, mergeL_length]
  rw [leadL, key]; simp
theorem leadL_bd (m : Nat) (r : List (List Int)) : ∀ x ∈ leadL m r, 0 ≤ x ∧ x ≤ m := by
  have key : ∀ (r : List (List Int)) (l : List Int), (∀ x ∈ l, 0 ≤ x ∧ x ≤ m) → ∀ x ∈ r.foldl (fun l p => mergeL l (p.getD 0 0).toNat (p.getD 1 0).toNat) l, 0 ≤ x ∧ x ≤ (m : Int) := by
    intro r
    induction r with
    | nil => simp
    | cons p r ih =>
      intro l hl
      rw [List.foldl_cons]
      apply ih
      intro x hx
      obtain ⟨y, hy, rfl⟩ := List.mem_map.1 hx
      unfold repl
      split
      · by_cases h : (p.getD 1 0).toNat < l.length
        · rw [List.getD_eq_getElem?_getD, List.getElem?_eq_getElem h]; exact hl _ (by simp)
        · rw [List.getD_eq_getElem?_getD, List.getElem?_eq_none (by omega)]; simp
      · exact hl y hy
  apply key
  intro x hx
  obtain ⟨i, hi, rfl⟩ := List.mem_iff_getElem.1 hx
  have h9 := upFrom_get 0 m i (by simpa using hi)
  rw [List.getElem?_eq_getElem hi] at h9
  simp at h9 hi
  rw [h9]; omega

def partM (f : Int → Int) (l : List Int) (i : Nat) : List Int := (l.take i).map f ++ l.drop i
theorem partM_length (f : Int → Int) (l : List Int) (i : Nat) (h : i ≤ l.length) : (partM f l i).length = l.length := by simp [partM]; omega
theorem partM_zero (f : Int → Int) (l : List Int) : partM f l 0 = l := by simp [partM]
theorem partM_all (f : Int → Int) (l : List Int) : partM f l l.length = l.map f := by simp [partM]
theorem partM_get (f : Int → Int) (l : List Int) (i : Nat) (h : i < l.length) (h2 : i < (partM f l i).length) : (partM f l i)[i] = l[i] := by
  have hl : ((l.take i).map f).length = i := by simp; omega
  simp only [partM]
  rw [List.getElem_append_right (by omega)]
  simp [Nat.min_eq_left (Nat.le_of_lt h)]
theorem partM_set (f : Int → Int) (l : List Int) (i : Nat) (h : i < l.length) : (partM f l i).set i (f l[i]) = partM f l (i + 1) := by
  have hl : ((l.take i).map f).length = i := by simp; omega
  unfold partM
  rw [List.set_append_right _ _ (by omega), hl, Nat.sub_self, List.drop_eq_getElem_cons h, List.set_cons_zero, List.take_succ_eq_append_getElem h, List.map_append]
  simp only [List.map_cons, List.map_nil, List.append_assoc, List.cons_append, List.nil_append]
theorem partM_same (f : Int → Int) (l : List Int) (i : Nat) (h : i < l.length) (he : f l[i] = l[i]) : partM f l i = partM f l (i + 1) := by
  rw [← partM_set f l i h, he]
  have h2 := partM_get f l i h (by rw [partM_length _ _ _ (by omega)]; exact h)
  rw [← h2, List.set_getElem_self]

/-- one cell of an owned slice of numbers, in block b from offset 0. -/
theorem rowCell {fo : List Nat} {w : World} {b m cap : Nat} {l : List Int} (h : R1 fo w [.slice (some ⟨b, 0, none⟩) m cap] l) (hO : Own fo w) (hm : l.length = m) (j : Nat) (hj : j < m) :
    fo = [b] ∧ b < w.heap.size ∧ w.cell? ⟨b, j, none⟩ = some (ei (l[j]'(by omega))) ∧ w.frozen? ⟨b, j, none⟩ = false ∧
      ∀ x, R1 fo (w.setCell ⟨b, j, none⟩ (ei x)) [.slice (some ⟨b, 0, none⟩) m cap] (l.set j x) ∧ Own fo (w.setCell ⟨b, j, none⟩ (ei x)) := by
  subst hm
  obtain ⟨_, _, _, hv, -, -, hof, hbl, hoc, hos⟩ := slF1_cell h j hj
  simp only [Value.slice.injEq, Option.some.injEq, Addr.mk.injEq, and_true, true_and] at hv
  obtain ⟨⟨rfl, rfl⟩, rfl⟩ := hv
  rw [Nat.zero_add] at hoc hos
  exact ⟨hof, hbl, hoc, hO.frozen (by rw [hof]; simp) _, fun x => ⟨hos x, hO.setCell _ _⟩⟩

set_option maxRecDepth 20000 in
set_option maxHeartbeats 4000000 in
theorem span (m : Nat) (r : List (List Int)) (v : Value) (w : World) (fp : List Nat) (hr : relB m r = true) (hR : R2 fp w [v] r) :
    Calls Try.prog 60 #[.int .i64 m, v] w fun e w' => (∃ v', e = .returned v' ∧ New R1 w w' v' (normL (leadL m r))) ∧ Upd [] w w' := by
  obtain ⟨i0, hi, hz0, hz1, hz2⟩ := info_parts Try.info2
  have hn := relB_n hr
  have HP := Lib.hid (relB_pair hr)
  obtain ⟨a, cap, rfl, h1, h2, -⟩ := slP_open hR
  unfold maxLen at h2
  have hm2 : i0.bytes * m ≤ 281474976710656 := by rw [hz2]; omega
  clear hr
  go_enter Try.func60, Try.ntmps60
  go_wp2_with (first
    | (at_make; refine wpList_make_full _ rfl _ _ 44 rfl w.heap.size 2 i0 (.int .i64 0) 1 Try.underlying44 hi hz0 hz1 .i64 .i64 _ _ m rfl rfl rfl rfl hm2 (by unfold maxLen; omega) (Nat.le_refl _) ?_; intro w2 hrow hgrow)
    | fail)
  rw [made_one _ rfl] at hrow
  have hU : Upd [] w w2 := (Upd.refl _ _).grown hgrow (by simp)
  obtain ⟨fo, ho1, ho2, ho3⟩ := New.ofOwns (w := w) (e := 2) (enc := fun n => ei n) (xs := List.replicate m 0) (by simpa using hrow)
  have HO3 := Lib.hid ho3
  have HST := Lib.hid (And.intro (show R1 fo w2 [.slice (some ⟨w.heap.size, 0, none⟩) m m] (upFrom 0 0 ++ (List.replicate m (0 : Int)).drop 0) from by simpa [upFrom] using ho1) ho2)
  clear hrow hgrow ho1 ho2 ho3 hm2
  go_wp2_with fail
  go_loopw [16] (fun i wr => ∃ k : Nat, k ≤ m ∧ i = .int .i64 k ∧ Upd [] w wr ∧ R1 fo wr [.slice (some ⟨w.heap.size, 0, none⟩) m m] (upFrom 0 k ++ (List.replicate m (0 : Int)).drop k) ∧ Own fo wr) (fun i _ => m - (intOf i).toNat)
  case atStart => exact ⟨0, Nat.zero_le _, rfl, hU, HST.out.1, HST.out.2⟩
  case round =>
    clear HST hU
    obtain ⟨k, hk, rfl, hU, ho1, ho2⟩ := hrel
    by_cases hlt : k < m
    · obtain ⟨hof, hbl, hoc, hfz, hos⟩ := rowCell ho1 ho2 (by simp; omega) k hlt
      have hos := hos (k : Int)
      have hup := up_set (List.replicate m (0 : Int)) 0 k (by simpa using hlt)
      rw [Int.zero_add] at hup
      rw [hup] at hos
      have HS := Lib.hid hos
      generalize hZ : (upFrom 0 k ++ (List.replicate m (0 : Int)).drop k)[k]'(by simp; omega) = z at hoc
      clear hos hup ho1 ho2 hZ
      go_wp2_with fail
      go_roundw
      case rel => exact ⟨k + 1, by omega, by go_num, hU.setCell (Or.inl (Nat.le_refl _)) _, HS.out.1, HS.out.2⟩
      case measure => simp [intOf]; omega
    · obtain rfl : k = m := by omega
      rw [List.drop_of_length_le (by simp), List.append_nil] at ho1
      have HST := Lib.hid (And.intro (show R1 fo wr [.slice (some ⟨w.heap.size, 0, none⟩) k k] (leadL k (r.take 0)) from by simpa [leadL] using ho1) ho2)
      clear ho1 ho2
      go_wp2_with fail
      go_loopw [26] (fun j wr => ∃ q : Nat, q ≤ r.length ∧ j = .int .i64 q ∧ Upd [] w wr ∧ R1 fo wr [.slice (some ⟨w.heap.size, 0, none⟩) k k] (leadL k (r.take q)) ∧ Own fo wr) (fun j _ => r.length - (intOf j).toNat)
      case atStart => exact ⟨0, Nat.zero_le _, rfl, hU, HST.out.1, HST.out.2⟩
      case round =>
        clear HST hU
        obtain ⟨q, hq, rfl, hU, ho1, ho2⟩ := hrel
        by_cases hlt2 : q < r.length
        · obtain ⟨x, y, hxy, hx, hy⟩ := HP.out q hlt2
          obtain ⟨b, off, cap', b2, o2, c2, hv, -, -, hbl, hcell, g1, g2, -, q0, q1⟩ := pair_cells (R2k.upd hR hU (by simp)) q hlt2 x y hxy
          simp only [Value.slice.injEq] at hv
          obtain ⟨rfl, -, rfl⟩ := hv
          have hll := leadL_length k (r.take q)
          have hx' : x < k := by omega
          have hy' : y < k := by omega
          obtain ⟨-, -, cx, -, -⟩ := rowCell ho1 ho2 hll x hx'
          obtain ⟨-, -, cy, -, -⟩ := rowCell ho1 ho2 hll y hy'
          have hst := leadL_step k r q x y hlt2 hxy
          have hmg : mergeL (leadL k (r.take q)) x y = (leadL k (r.take q)).map (repl ((leadL k (r.take q))[x]'(by omega)) ((leadL k (r.take q))[y]'(by omega))) := by
            simp [mergeL, List.getD_eq_getElem?_getD, hll, hx', hy']
          rw [hmg] at hst
          generalize hA : (leadL k (r.take q))[x]'(by omega) = A at *
          generalize hB : (leadL k (r.take q))[y]'(by omega) = B at *
          clear hA hB hmg
          generalize leadL k (r.take q) = L at *
          have HO := Lib.hid (And.intro (show R1 fo wr [.slice (some ⟨w.heap.size, 0, none⟩) k k] (partM (repl A B) L 0) by rw [partM_zero]; exact ho1) ho2)
          have HST := Lib.hid hst
          have HLL := Lib.hid hll
          unfold maxLen at g2
          clear hst ho1 ho2 hxy hll
          go_wp2_with fail
          go_quiet (fail)
          obtain ⟨wo, hwo⟩ : ∃ wo : World, wo = wr := ⟨_, rfl⟩
          subst hwo
          go_wp2_with fail
          go_loopw [44] (fun i wi => ∃ p : Nat, p ≤ k ∧ i = .int .i64 p ∧ Upd [] w wi ∧ R1 fo wi [.slice (some ⟨w.heap.size, 0, none⟩) k k] (partM (repl A B) L p) ∧ Own fo wi) (fun i _ => k - (intOf i).toNat)
          case atStart => exact ⟨0, Nat.zero_le _, rfl, hU.drewN _, (slF_kept _ _).drewN HO.out.1 _, HO.out.2⟩
          case round =>
            clear HO
            obtain ⟨p, hp, rfl, hUi, ho1, ho2⟩ := hrel
            by_cases hlt3 : p < k
            · have hpl : (partM (repl A B) L p).length = k := by rw [partM_length _ _ _ (by rw [HLL.out]; omega), HLL.out]
              obtain ⟨-, hbl4, cz, hfz, hos⟩ := rowCell ho1 ho2 hpl p hlt3
              have hLp : p < L.length := by rw [HLL.out]; exact hlt3
              rw [partM_get _ _ _ hLp (by omega)] at cz
              have hset := partM_set (repl A B) L p hLp
              have hsame := partM_same (repl A B) L p hLp
              generalize L[p] = z at *
              by_cases hz : z = A
              · have hrz : repl A B z = B := by rw [hz]; simp [repl]
                have hos := hos B
                rw [hrz] at hset
                rw [hset] at hos
                have HS := Lib.hid hos
                clear hos hset hsame hrz ho1 ho2 hpl hLp
                subst hz
                go_wp2_with fail
                go_roundw
                case rel => exact ⟨p + 1, by omega, by go_num, hUi.setCell (Or.inl (Nat.le_refl _)) _, HS.out.1, HS.out.2⟩
                case measure => simp [intOf]; omega
              · have hrz : repl A B z = z := by simp [repl, hz]
                have hsame := hsame hrz
                rw [hsame] at ho1
                have HS := Lib.hid (And.intro ho1 ho2)
                have hz' : (z == A) = false := by simpa using hz
                clear hos hset hsame hrz ho1 ho2 hpl hLp
                go_wp2_with fail
                go_roundw
                case rel => exact ⟨p + 1, by omega, by go_num, hUi, HS.out.1, HS.out.2⟩
                case measure => simp [intOf]; omega
            · obtain rfl : p = k := by omega
              have hfin : partM (repl A B) L p = leadL p (r.take (q + 1)) := by
                rw [HST.out]; conv => lhs; rw [← HLL.out]
                exact partM_all _ _
              rw [hfin] at ho1
              have HS := Lib.hid (And.intro ho1 ho2)
              clear hfin ho1 ho2
              go_wp2_with fail
              go_roundw
              case rel => exact ⟨q + 1, by omega, by go_num, hUi, HS.out.1, HS.out.2⟩
              case measure => simp [intOf]; omega
        · obtain rfl : q = r.length := by omega
          rw [List.take_length] at ho1
          have S2 := Lib.hid (normal _ (leadL k r) wr fo (by rw [leadL_length]; omega) (fun x hx => by have := leadL_bd k r x hx; omega) ho1)
          have HU := Lib.hid hU
          clear ho1 ho2 hU
          go_wp2_with fail
          refine S2.out.mono ?_
          rintro e w9 ⟨⟨v9, rfl, hn9⟩, hu9⟩
          have HN := Lib.hid (hn9.mono (w0 := w) HU.out.size)
          have HU9 := Lib.hid (HU.out.trans hu9)
          clear hn9 hu9 S2
          go_wp2_with fail
          go_ret
          exact ⟨⟨_, rfl, HN.out⟩, HU9.out⟩

end Go.Proofs.Ytkcafdobiloeiaa
