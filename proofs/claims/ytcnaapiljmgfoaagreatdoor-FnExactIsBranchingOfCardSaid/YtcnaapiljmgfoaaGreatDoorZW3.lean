/-
  Texts joined in one file: BisQ, EncC, EncW, EncX, EncV, EncL, EncI, BisT0, BisF, BisV, SortG, BisN.
-/
import Derived.Test.YtcnaapiljmgfoaaGreatDoorZW1
import Derived.Test.YtcnaapiljmgfoaaGreatDoorZW2
import Derived.IntWalk
import Derived.Laws.Bits64b
import Derived.Lib.AppendStr
import Derived.Test.YtcnaapiljmgfoaaGreatDoorShelfS
/-
  Relations between systems, the reference's parts: strictly rising lists of pairs.
-/
namespace Go.Proofs.YtcnaapiljmgfoaaGreatDoor
open Go.RowKit

def pairP (R : List (List Int)) (a b : Int) (i : Nat) : Bool :=
  ((R.getD i []).length == 2) && inB ((R.getD i []).getD 0 0) 0 (a - 1) && inB ((R.getD i []).getD 1 0) 0 (b - 1) && (decide (i = 0) || decide (cmpQ (R.getD (i - 1) []) (R.getD i []) < 0))
/-- a strictly rising list of pairs of states. -/
def pairsF (R : List (List Int)) (a b : Int) : Bool := allF (pairP R a b) 0 R.length

set_option maxRecDepth 20000 in
set_option maxHeartbeats 4000000 in
theorem pairsS (v : Value) (R : List (List Int)) (a b : Int) (w : World) (fp : List Nat) (hR : R_N2 fp w [v] R) (ha : 0 ≤ a ∧ a ≤ 2000000) (hb : 0 ≤ b ∧ b ≤ 2000000) :
    Calls Tryz.prog 28 #[v, .int .i64 a, .int .i64 b] w fun e w' => e = .returned (.bool (pairsF R a b)) ∧ Upd [] w w' := by
  have HR := Lib.hid hR
  obtain ⟨av, cap, rfl, l1, l2, hc⟩ := slP_open hR
  unfold maxLen at l2
  have HC := Lib.hid hc
  have HA := Lib.hid (show pairsF R a b = allF (pairP R a b) 0 R.length from rfl)
  clear hR hc
  obtain ⟨ha0, ha1⟩ := ha
  obtain ⟨hb0, hb1⟩ := hb
  go_enter Tryz.func28, Tryz.ntmps28
  go_wp2_with fail
  go_loopw [7] (fun iv wr => ∃ k : Nat, k ≤ R.length ∧ iv = .int .i64 k ∧ Hid (allF (pairP R a b) k (R.length - k) = pairsF R a b) ∧ Hid (Upd [] w wr)) (fun iv _ => R.length - (intOf iv).toNat)
  case atStart => exact ⟨0, Nat.zero_le _, rfl, Lib.hid (by rw [HA.out]; rfl), Lib.hid (Upd.refl _ _)⟩
  case round =>
    clear HA
    obtain ⟨wo, rfl⟩ : ∃ wo : World, wo = wr := ⟨_, rfl⟩
    obtain ⟨k, hk, rfl, HF, HU⟩ := hrel
    by_cases hlt : k < R.length
    · obtain ⟨bb, off, u, fr, rfl, -, -, hcell, -, hr⟩ := HC.out k hlt
      have q0 := HU.out.keep hcell
      have gk : R.getD k [] = R[k] := by rw [List.getD_eq_getElem?_getD, List.getElem?_eq_getElem hlt]; rfl
      have hF := HF.out
      rw [allF_step _ k R.length hlt] at hF
      unfold pairP at hF
      rw [gk] at hF
      have hkl : (k : Int) < (R.length : Int) := by omega
      have HRK := Lib.hid (R1k.upd hr HU.out (by simp))
      obtain ⟨ra, rc, hu, m1, m2, hcs⟩ := slF1_open hr
      subst hu
      unfold maxLen at m2
      by_cases h2 : R[k].length = 2
      · obtain ⟨b2, o2, rfl, -, -, p1⟩ := hcs 0 (by omega)
        obtain ⟨b2', o2', hb2, -, -, p2⟩ := hcs 1 (by omega)
        cases hb2
        have q1 := HU.out.keep p1
        have q2 := HU.out.keep p2
        rw [Nat.add_zero] at q1
        have e0 : R[k].getD 0 0 = R[k][0] := by rw [List.getD_eq_getElem?_getD, List.getElem?_eq_getElem (by omega)]; rfl
        have e1 : R[k].getD 1 0 = R[k][1] := by rw [List.getD_eq_getElem?_getD, List.getElem?_eq_getElem (by omega)]; rfl
        rw [e0, e1] at hF
        have HK := Lib.hid (show 0 < k → ∃ (u : Value) (f : List Nat), wo.cell? ⟨bb, off + (k - 1), none⟩ = some u ∧ R1 f wo [u] (R.getD (k - 1) []) from fun h0 => by
          have hl1 : k - 1 < R.length := by omega
          obtain ⟨b9, o9, u9, f9, h9, -, -, c9, -, r9⟩ := HC.out (k - 1) hl1
          cases h9
          refine ⟨u9, f9, HU.out.keep c9, ?_⟩
          rw [List.getD_eq_getElem?_getD, List.getElem?_eq_getElem hl1]
          exact R1k.upd r9 HU.out (by simp))
        rw [h2] at q0
        have hF2 : (true && inB R[k][0] 0 (a - 1) && inB R[k][1] 0 (b - 1) && (decide (k = 0) || decide (cmpQ (R.getD (k - 1) []) R[k] < 0)) && allF (pairP R a b) (k + 1) (R.length - (k + 1))) = pairsF R a b := by
          rw [← hF, show (R[k].length == 2) = true from by simpa using h2]
          rfl
        have HFF := Lib.hid hF2
        clear hF2
        have SC := Lib.hid (fun (u : Value) (f : List Nat) (p : List Int) (hp : R1 f wo [u] p) (n : Nat) => (cmpLS u (.slice (some ⟨b2, o2, none⟩) R[k].length rc) p R[k] (wo.drewN n) f fr (R1k.drewN hp n) (R1k.drewN HRK.out n)).mono (fun e w' h => (⟨h.1, by obtain ⟨m, hm⟩ := h.2; exact ⟨n + m, by rw [hm, drewN_add]⟩⟩ : _ ∧ ∃ m, w' = wo.drewN m)))
        rw [h2] at SC
        clear hF HF gk hcs p1 p2 e0 e1 hr hcell m1 HRK
        generalize hP0 : R[k][0] = P0 at *
        generalize hP1 : R[k][1] = P1 at *
        have S1 := Lib.hid (fun W : World => l00In P0 0 (a - 1) W)
        have S2 := Lib.hid (fun W : World => l00In P1 0 (b - 1) W)
        clear hP0 hP1
        cases hi1 : inB P0 0 (a - 1) with
        | false =>
          rw [hi1] at S1
          have HE := Lib.hid (show pairsF R a b = false by rw [← HFF.out, hi1]; simp)
          clear HFF hi1 SC HK
          go_wp2_with fail
          refine (S1.out _).mono ?_
          rintro e w1 ⟨rfl, rfl⟩
          clear S1
          go_wp2_with fail
          go_ret
          exact ⟨by rw [HE.out]; rfl, HU.out⟩
        | true =>
          rw [hi1] at S1
          cases hi2 : inB P1 0 (b - 1) with
          | false =>
            rw [hi2] at S2
            have HE := Lib.hid (show pairsF R a b = false by rw [← HFF.out, hi2]; simp)
            clear HFF hi1 hi2 SC HK
            go_wp2_with fail
            refine (S1.out _).mono ?_
            rintro e w1 ⟨rfl, rfl⟩
            clear S1
            go_wp2_with fail
            refine (S2.out _).mono ?_
            rintro e w1 ⟨rfl, rfl⟩
            clear S2
            go_wp2_with fail
            go_ret
            exact ⟨by rw [HE.out]; rfl, HU.out⟩
          | true =>
            rw [hi2] at S2
            by_cases k0 : k = 0
            · have HE := Lib.hid (show allF (pairP R a b) (k + 1) (R.length - (k + 1)) = pairsF R a b by rw [← HFF.out, hi1, hi2, decide_eq_true k0]; simp)
              have kk : decide (0 < k) = false := by rw [k0]; rfl
              have kk2 : ¬ (0 : Int) < (k : Int) := by omega
              clear HFF hi1 hi2 SC HK k0
              go_wp2_with fail
              refine (S1.out _).mono ?_
              rintro e w1 ⟨rfl, rfl⟩
              clear S1
              go_wp2_with fail
              refine (S2.out _).mono ?_
              rintro e w1 ⟨rfl, rfl⟩
              clear S2
              go_upto_region 6 with (fail)
              go_quiet (fail)
              have HU9 := Lib.hid (HU.out.drewN nq)
              clear HU q0 q1 q2
              go_wp2_with fail
              go_roundw
              case rel => exact ⟨k + 1, by omega, by go_num, HE, HU9⟩
              case measure => simp [intOf]; omega
            · obtain ⟨u9, f9, c9, r9⟩ := HK.out (by omega)
              have SD := Lib.hid (SC.out u9 f9 _ r9)
              have kk2 : (0 : Int) < (k : Int) := by omega
              have kkT : decide (0 < k) = true := decide_eq_true (by omega)
              have i0 : IntKind.i64.wrap ((k : Int) - 1) = (k : Int) - 1 := IntWalk.i64_in _ (by omega)
              have i1 : ((k : Int) - 1).toNat = k - 1 := by omega
              have i3 : (0 : Int) ≤ (k : Int) - 1 := by omega
              have i5 : (1 : Int) ≤ (k : Int) := by omega
              have i4 : (k : Int) - 1 < (R.length : Int) := by omega
              have hcd : decide (k = 0) = false := decide_eq_false k0
              have HQ := Lib.hid (show pairsF R a b = (decide (cmpQ (R.getD (k - 1) []) R[k] < 0) && allF (pairP R a b) (k + 1) (R.length - (k + 1))) by rw [← HFF.out, hi1, hi2, hcd]; simp)
              clear HFF hi1 hi2 SC HK k0 hcd r9
              generalize cmpQ (R.getD (k - 1) []) R[k] = cq at *
              by_cases hcq : cq < 0
              · have HE := Lib.hid (show allF (pairP R a b) (k + 1) (R.length - (k + 1)) = pairsF R a b by rw [HQ.out, decide_eq_true hcq]; rfl)
                have hcq2 : ¬ (0 : Int) ≤ cq := by omega
                clear HQ hcq
                go_wp2_with fail
                refine (S1.out _).mono ?_
                rintro e w1 ⟨rfl, rfl⟩
                clear S1
                go_wp2_with fail
                refine (S2.out _).mono ?_
                rintro e w1 ⟨rfl, rfl⟩
                clear S2
                go_upto_region 6 with (fail)
                go_quiet ((go_at_call 56; exact SD.out _))
                have HU9 := Lib.hid (HU.out.drewN nq)
                clear HU q0 q1 q2 c9 SD
                go_wp2_with fail
                go_roundw
                case rel => exact ⟨k + 1, by omega, by go_num, HE, HU9⟩
                case measure => simp [intOf]; omega
              · have HE := Lib.hid (show pairsF R a b = false by rw [HQ.out, decide_eq_false hcq]; rfl)
                have hcq2 : (0 : Int) ≤ cq := by omega
                clear HQ hcq
                go_wp2_with fail
                refine (S1.out _).mono ?_
                rintro e w1 ⟨rfl, rfl⟩
                clear S1
                go_wp2_with fail
                refine (S2.out _).mono ?_
                rintro e w1 ⟨rfl, rfl⟩
                clear S2
                go_upto_region 6 with (fail)
                go_quiet ((go_at_call 56; exact SD.out _))
                have HU9 := Lib.hid (HU.out.drewN nq)
                clear HU q0 q1 q2 c9 SD
                go_wp2_with fail
                go_ret
                exact ⟨by rw [HE.out]; rfl, HU9.out⟩
      · have hne : ((R[k].length : Int) != 2) = true := by simp; omega
        have HE := Lib.hid (show pairsF R a b = false by rw [← hF, beq_eq_false_iff_ne.2 h2]; simp)
        clear hF HF gk hcs hr hcell h2 HRK
        go_wp2_with fail
        go_ret
        exact ⟨by rw [HE.out]; rfl, HU.out⟩
    · obtain rfl : k = R.length := by omega
      have HE := Lib.hid (show pairsF R a b = true by rw [← HF.out]; exact allF_end _ _)
      clear HF
      go_wp2_with fail
      go_ret
      exact ⟨by rw [HE.out]; rfl, HU.out⟩

end Go.Proofs.YtcnaapiljmgfoaaGreatDoor

/-
  The check value: what both sides' calls return.
-/
namespace Go.Proofs.YtcnaapiljmgfoaaGreatDoor
open Go.RowKit

theorem bits_xor_i64_nat (a b : Nat) (ha : a < 4294967296) (hb : b < 4294967296) : bits .xor .i64 (a : Int) (b : Int) = ((a ^^^ b : Nat) : Int) := by
  have hx : a ^^^ b < 2 ^ 32 := Nat.xor_lt_two_pow (by omega) (by omega)
  have h1 : (BitVec.ofInt 64 (a : Int)).toNat = a := by
    rw [BitVec.ofInt_natCast, BitVec.toNat_ofNat]; exact Nat.mod_eq_of_lt (by omega)
  have h2 : (BitVec.ofInt 64 (b : Int)).toNat = b := by
    rw [BitVec.ofInt_natCast, BitVec.toNat_ofNat]; exact Nat.mod_eq_of_lt (by omega)
  show IntKind.i64.wrap ((BitVec.ofInt 64 (a : Int) ^^^ BitVec.ofInt 64 (b : Int)).toNat : Int) = _
  rw [BitVec.toNat_xor, h1, h2]
  exact IntWalk.i64_in _ (by omega)
theorem bits_and_i64_nat (a b : Nat) (ha : a < 4294967296) (hb : b < 4294967296) : bits .and .i64 (a : Int) (b : Int) = ((a &&& b : Nat) : Int) := by
  have hx : a &&& b < 2 ^ 32 := Nat.and_lt_two_pow _ (by omega)
  have h1 : (BitVec.ofInt 64 (a : Int)).toNat = a := by
    rw [BitVec.ofInt_natCast, BitVec.toNat_ofNat]; exact Nat.mod_eq_of_lt (by omega)
  have h2 : (BitVec.ofInt 64 (b : Int)).toNat = b := by
    rw [BitVec.ofInt_natCast, BitVec.toNat_ofNat]; exact Nat.mod_eq_of_lt (by omega)
  show IntKind.i64.wrap ((BitVec.ofInt 64 (a : Int) &&& BitVec.ofInt 64 (b : Int)).toNat : Int) = _
  rw [BitVec.toNat_and, h1, h2]
  exact IntWalk.i64_in _ (by omega)

end Go.Proofs.YtcnaapiljmgfoaaGreatDoor

/-
  The writer of images: what its calls leave.
-/
namespace Go.Proofs.YtcnaapiljmgfoaaGreatDoor
open Go.RowKit

/-- nothing older than base is written. -/
def Fresh (base : Nat) (w w' : World) : Prop := ∀ w0 : World, w0.heap.size ≤ base → Upd [] w0 w → Upd [] w0 w'
theorem Fresh.refl (base : Nat) (w : World) : Fresh base w w := fun _ _ h => h
theorem Fresh.trans {base : Nat} {w w1 w2 : World} (h : Fresh base w w1) (k : Fresh base w1 w2) : Fresh base w w2 := fun w0 h0 hu => k w0 h0 (h w0 h0 hu)
theorem Fresh.of {base : Nat} {w w1 : World} (h : Upd [] w w1) : Fresh base w w1 := fun _ _ hu => hu.trans h

theorem cell_of_box {w : World} {p : Nat} {v : Value} {T : TypeId} (h : w.heap[p]? = some (Obj.cells #[v] T (0, 0))) : w.cell? ⟨p, 0, none⟩ = some v ∧ w.frozen? ⟨p, 0, none⟩ = false := by
  refine ⟨?_, ?_⟩
  · simp [World.cell?, h]
  · simp [World.frozen?, h]

theorem row_not {w : World} {base p : Nat} {v u : Value} {n : Nat} {xs : List Value} {e T : TypeId} (h : w.ownsRow base e 1 v n xs) (hp : w.heap[p]? = some (.cells #[u] T (0, 0))) (hne : e ≠ T) : v.ownBlock ≠ some p := by
  intro hb
  rcases h.2 with ⟨rfl, -⟩ | ⟨g, cap, cur, rfl, -, hh, -⟩
  · simp [Value.ownBlock] at hb
  · simp [Value.ownBlock] at hb
    subst hb
    rw [hp] at hh
    simp only [Option.some.injEq, Obj.cells.injEq] at hh
    exact hne hh.2.1.symm

theorem row_notT {w : World} {base p : Nat} {v : Value} {n : Nat} {xs : List Value} {e T : TypeId} {c : Array Value} (h : w.ownsRow base e 1 v n xs) (hp : w.heap[p]? = some (.cells c T (0, 0))) (hne : e ≠ T) : v.ownBlock ≠ some p := by
  intro hb
  rcases h.2 with ⟨rfl, -⟩ | ⟨g, cap, cur, rfl, -, hh, -⟩
  · simp [Value.ownBlock] at hb
  · simp [Value.ownBlock] at hb
    subst hb
    rw [hp] at hh
    simp only [Option.some.injEq, Obj.cells.injEq] at hh
    exact hne hh.2.1.symm

theorem u8_ne_i64 : (5 : TypeId) ≠ 2 := by decide

theorem ownsRow_set {w : World} {base p : Nat} {e : TypeId} {v u : Value} {n : Nat} {xs : List Value} (h : w.ownsRow base e 1 v n xs) (hp : v.ownBlock ≠ some p) : (w.setCell ⟨p, 0, none⟩ u).ownsRow base e 1 v n xs := by
  refine ⟨h.1, ?_⟩
  rcases h.2 with h2 | ⟨g, cap, cur, rfl, hb, hh, r⟩
  · exact Or.inl h2
  · refine Or.inr ⟨g, cap, cur, rfl, hb, ?_, r⟩
    rw [Below.heap_setCell _ _ _ _ (by simpa [Value.ownBlock] using hp)]; exact hh

theorem byte_of {n : Nat} (h : n < 256) : (.int .u8 (n : Int) : Value) = eb (UInt8.ofNat n) := by
  simp only [Value.int.injEq, true_and]
  rw [UInt8.toNat_ofNat_of_lt' (by show n < 256; exact h)]

end Go.Proofs.YtcnaapiljmgfoaaGreatDoor

/-
  Texts and whole images written, by the program and by the reference.
-/
namespace Go.Proofs.YtcnaapiljmgfoaaGreatDoor
open Go.RowKit

/-- a new list of numbers, its block's type with it. -/
theorem lit_int (w : World) (ns : List Int) (hl : ns.length ≤ 100) : ∃ fl, R1 fl (w.alloc (.cells (ns.map ei).toArray 2)) [.slice (some ⟨w.heap.size, 0, none⟩) ns.length ns.length] ns ∧
    ∀ b ∈ fl, ∃ c, (w.alloc (.cells (ns.map ei).toArray 2)).heap[b]? = some (Obj.cells c 2 (0, 0)) := by
  obtain ⟨fl, h1, -, h3⟩ := new_lit (enc := ei) w 2 ns (by simp [maxLen]; omega)
  refine ⟨fl, h1, fun b hb => ?_⟩
  have h4 := R1k.lt h1 b hb
  have h5 := h3 b hb
  simp at h4
  obtain rfl : b = w.heap.size := by omega
  exact ⟨_, heap_alloc_new w _⟩

theorem str_cells (s : List UInt8) : Go.Lib.strCells ⟨s.toArray⟩ = s.map eb := by simp [Go.Lib.strCells]

theorem crc_hi {c : Nat} (h : c < 65536) : (.int .u8 ((c : Int) / 256) : Value) = eb (UInt8.ofNat (c / 256)) := by rw [← byte_of (by omega)]; simp
theorem crc_lo (c : Nat) : (.int .u8 ((c : Int) % 256) : Value) = eb (UInt8.ofNat (c % 256)) := by rw [← byte_of (by omega)]; simp

end Go.Proofs.YtcnaapiljmgfoaaGreatDoor

/-
  Validity of systems: the parts of both sides' walks.
-/
namespace Go.Proofs.YtcnaapiljmgfoaaGreatDoor
open Go.RowKit

def firstNZ : List Int → Int
  | [] => 0
  | x :: r => if x ≠ 0 then x else firstNZ r

set_option maxRecDepth 20000 in
theorem cmpOr (v : Value) (xs : List Int) (w : World) (fp : List Nat) (hR : R1 fp w [v] xs) : Calls Tryz.prog 111 #[v] w fun e w' => e = .returned (.int .i64 (firstNZ xs)) ∧ w = w' := by
  obtain ⟨a, cap, rfl, h1, h2, hc⟩ := slF1_open hR
  unfold maxLen at h2
  clear hR
  go_enter Tryz.func111, Tryz.ntmps111
  go_wp2_with fail
  go_loop [8] (fun iv => ∃ k : Nat, k ≤ xs.length ∧ iv = .int .i64 k ∧ Hid (firstNZ (xs.drop k) = firstNZ xs)) (fun iv => xs.length - (intOf iv).toNat)
  case atStart => exact ⟨0, Nat.zero_le _, rfl, Lib.hid rfl⟩
  case round =>
    obtain ⟨k, hk, rfl, HF⟩ := hrel
    by_cases hlt : k < xs.length
    · obtain ⟨b, o, rfl, -, -, p1⟩ := hc k hlt
      have HG := Lib.hid (show firstNZ xs = if xs[k] ≠ 0 then xs[k] else firstNZ (xs.drop (k + 1)) by rw [← HF.out, List.drop_eq_getElem_cons hlt, firstNZ])
      generalize xs[k] = x at *
      clear hc HF
      by_cases hx : x = 0
      · have HQ := Lib.hid (HG.out.trans (if_neg (by simpa using hx)))
        subst hx
        clear HG
        go_wp2_with fail
        go_round
        case rel => exact ⟨k + 1, by omega, by go_num, Lib.hid HQ.out.symm⟩
        case measure => simp [intOf]; omega
      · have HQ := Lib.hid (HG.out.trans (if_pos hx))
        have hx1 : (x == 0) = false := by simpa using hx
        have hx2 : (x != 0) = true := by simpa using hx
        clear HG
        go_wp2_with fail
        go_ret
        exact ⟨by rw [HQ.out]; rfl, rfl⟩
    · have HQ := Lib.hid (show firstNZ xs = 0 by rw [← HF.out, List.drop_of_length_le (by omega)]; rfl)
      clear HF hc
      go_wp2_with fail
      go_ret
      exact ⟨by rw [HQ.out]; rfl, rfl⟩

theorem cmp1_lt (x y : Int) : cmp1 x y = if x < y then -1 else if y < x then 1 else 0 := rfl
theorem edLt_cmp (a b : Ed) : decide (0 ≤ firstNZ [cmp1 a.fr b.fr, cmp1 a.lb b.lb, cmp1 a.to b.to]) = !edLt a b := by
  unfold edLt firstNZ firstNZ firstNZ firstNZ cmp1
  rcases Int.lt_trichotomy a.fr b.fr with h1 | h1 | h1
  · have h2 : a.fr ≠ b.fr := by omega
    simp [h1, h2]
  · rcases Int.lt_trichotomy a.lb b.lb with h3 | h3 | h3
    · have h4 : a.lb ≠ b.lb := by omega
      simp [h1, h3, h4]
    · rcases Int.lt_trichotomy a.to b.to with h5 | h5 | h5
      · simp [h1, h3, h5]
      · simp [h1, h3, h5]
      · have h6 : ¬ a.to < b.to := by omega
        simp [h1, h3, h5, h6]
    · have h4 : a.lb ≠ b.lb := by omega
      have h5 : ¬ a.lb < b.lb := by omega
      simp [h1, h3, h4, h5]
  · have h2 : a.fr ≠ b.fr := by omega
    have h3 : ¬ a.fr < b.fr := by omega
    simp [h1, h2, h3]

def CmpEd (a b : Ed) (w : World) (e : Ending) (w' : World) : Prop := (∃ c : Int, e = .returned (.int .i64 c) ∧ decide (0 ≤ c) = !edLt a b) ∧ Upd [] w w'

set_option maxRecDepth 20000 in
set_option maxHeartbeats 2000000 in
theorem cmpEdges (a b : Ed) (w : World) : Calls Tryz.prog 88 #[.agg #[ei a.fr, ei a.lb, ei a.to], .agg #[ei b.fr, ei b.lb, ei b.to]] w (CmpEd a b w) := by
  have HE := Lib.hid (edLt_cmp a b)
  have HOR := Lib.hid (fun (W : World) (H : Nat) (hH : W.heap.size = H) (x y z : Int) => show Calls Tryz.prog 111 #[.slice (some ⟨H, 0, none⟩) 3 3] (W.alloc (.cells #[.int .i64 x, .int .i64 y, .int .i64 z] 3)).drew (fun e w' => e = .returned (.int .i64 (firstNZ [x, y, z])) ∧ (W.alloc (.cells #[.int .i64 x, .int .i64 y, .int .i64 z] 3)).drew = w') by
    subst hH
    obtain ⟨fp, h1, -, -⟩ := new_lit (enc := ei) W 3 [x, y, z] (by simp [maxLen])
    exact cmpOr _ [x, y, z] _ fp (R1k.drew h1))
  obtain ⟨a1, a2, a3⟩ := a
  obtain ⟨b1, b2, b3⟩ := b
  simp only at HE ⊢
  go_enter Tryz.func88, Tryz.ntmps88
  go_upto_region 1 with (fail)
  have hs : (w.alloc (.cells #[ei a1, ei a2, ei a3] 74)).heap.size = w.heap.size + 1 := by simp
  go_region_held3 (fun w' => w'.cell? ⟨w.heap.size, 0, none⟩ = some (ei a1) ∧ w'.cell? ⟨w.heap.size, 1, none⟩ = some (ei a2) ∧ w'.cell? ⟨w.heap.size, 2, none⟩ = some (ei a3) ∧ w'.cell? ⟨w.heap.size + 1, 0, none⟩ = some (ei b1) ∧ w'.cell? ⟨w.heap.size + 1, 1, none⟩ = some (ei b2) ∧ w'.cell? ⟨w.heap.size + 1, 2, none⟩ = some (ei b3)) (go_keep)
    (first
      | (go_at_call 112; (with_reducible refine (cmpOne _ _ _).mono ?_); rintro e w1 ⟨rfl, rfl⟩)
      | (go_at_call 111; (with_reducible refine (HOR.out _ _ (by simp) _ _ _).mono ?_); rintro e w1 ⟨rfl, rfl⟩))
  go_wp2_with fail
  go_ret
  exact ⟨⟨_, rfl, HE.out⟩, (((Upd.refl _ _).alloc _).alloc _).alloc _ |>.drew⟩

theorem isStateI (st ini : Int) (v1 v2 : Value) (n : Int) (w : World) (h0 : 1 ≤ st) (h1 : st ≤ 40) :
    Calls Tryz.prog 85 #[.agg #[ei st, ei ini, v1, v2], .int .i64 n] w fun e w' => e = .returned (.bool (inB n 0 (st - 1))) ∧ Upd [] w w' := by
  have S1 := Lib.hid (fun W : World => within n 0 (st - 1) W)
  generalize inB n 0 (st - 1) = b at *
  go_enter Tryz.func85, Tryz.ntmps85
  go_wp2_with fail
  refine (S1.out _).mono ?_
  rintro e w1 ⟨rfl, rfl⟩
  clear S1
  go_wp2_with fail
  go_ret
  exact ⟨rfl, (Upd.refl _ _).alloc _⟩

theorem idxI (n : Int) (m : Nat) (w : World) (hm : m ≤ 1000000) : Calls Tryz.prog 87 #[.int .i64 n, .int .i64 m] w fun e w' => e = .returned (.bool (inB n 0 (m - 1))) ∧ w = w' := by
  have S1 := Lib.hid (within n 0 ((m : Int) - 1) w)
  generalize inB n 0 ((m : Int) - 1) = b at *
  go_enter Tryz.func87, Tryz.ntmps87
  go_wp2_with fail
  refine S1.out.mono ?_
  rintro e w1 ⟨rfl, rfl⟩
  clear S1
  go_wp2_with fail
  go_ret
  exact ⟨rfl, rfl⟩

set_option maxRecDepth 20000 in
set_option maxHeartbeats 2000000 in
theorem lessS (a b : Ed) (p o q o2 : Nat) (w : World) (c1 : w.cell? ⟨p, o, none⟩ = some (ei a.fr)) (c2 : w.cell? ⟨p, o + 1, none⟩ = some (ei a.lb)) (c3 : w.cell? ⟨p, o + 2, none⟩ = some (ei a.to))
    (d1 : w.cell? ⟨q, o2, none⟩ = some (ei b.fr)) (d2 : w.cell? ⟨q, o2 + 1, none⟩ = some (ei b.lb)) (d3 : w.cell? ⟨q, o2 + 2, none⟩ = some (ei b.to)) :
    Calls Tryz.prog 55 #[.pointer (some ⟨p, o, none⟩), .pointer (some ⟨q, o2, none⟩)] w fun e w' => e = .returned (.bool (edLt a b)) ∧ Upd [] w w' := by
  obtain ⟨a1, a2, a3⟩ := a
  obtain ⟨b1, b2, b3⟩ := b
  simp only at c1 c2 c3 d1 d2 d3
  have HE := Lib.hid (show edLt ⟨a1, a2, a3⟩ ⟨b1, b2, b3⟩ = if a1 ≠ b1 then decide (a1 < b1) else if a2 ≠ b2 then decide (a2 < b2) else decide (a3 < b3) from rfl)
  by_cases h1 : a1 = b1
  · have g1 : (a1 != b1) = false := by simp [h1]
    have HE2 := Lib.hid (HE.out.trans (if_neg (by simpa using h1)))
    clear HE h1
    by_cases h2 : a2 = b2
    · have g2 : (a2 != b2) = false := by simp [h2]
      have HE3 := Lib.hid (HE2.out.trans (if_neg (by simpa using h2)))
      clear HE2 h2
      go_enter Tryz.func55, Tryz.ntmps55
      go_wp2_with fail
      go_quiet (fail)
      go_wp2_with fail
      go_quiet (fail)
      go_wp2_with fail
      go_quiet (fail)
      go_wp2_with fail
      go_ret
      exact ⟨by rw [HE3.out]; rfl, by simp only [drewN_add]; exact (Upd.refl _ _).drewN _⟩
    · have g2 : (a2 != b2) = true := by simp [h2]
      have HE3 := Lib.hid (HE2.out.trans (if_pos (by simpa using h2)))
      clear HE2 h2
      go_enter Tryz.func55, Tryz.ntmps55
      go_wp2_with fail
      go_quiet (fail)
      go_wp2_with fail
      go_quiet (fail)
      go_wp2_with fail
      go_quiet (fail)
      go_wp2_with fail
      go_ret
      exact ⟨by rw [HE3.out]; rfl, by simp only [drewN_add]; exact (Upd.refl _ _).drewN _⟩
  · have g1 : (a1 != b1) = true := by simp [h1]
    have HE2 := Lib.hid (HE.out.trans (if_pos (by simpa using h1)))
    clear HE h1
    go_enter Tryz.func55, Tryz.ntmps55
    go_wp2_with fail
    go_quiet (fail)
    go_wp2_with fail
    go_quiet (fail)
    go_wp2_with fail
    go_ret
    exact ⟨by rw [HE2.out]; rfl, by simp only [drewN_add]; exact (Upd.refl _ _).drewN _⟩

end Go.Proofs.YtcnaapiljmgfoaaGreatDoor

/-
  Validity of systems: what the program's call returns.
-/
namespace Go.Proofs.YtcnaapiljmgfoaaGreatDoor
open Go.RowKit

theorem inB_len (n : Nat) : inB (n : Int) 1 12 = (decide (1 ≤ n) && decide (n ≤ 12)) := by
  rw [Bool.eq_iff_iff]
  constructor
  · intro h
    have := inB_true h
    simp; omega
  · intro h
    simp at h
    exact inB_mk (by omega)

theorem labP_at (labs : List (List UInt8)) (k : Nat) (hk : k < labs.length) : labP labs k = (isLab labs[k] && ((labs[k] == tauL) == decide (k = 0)) && (!decide (1 < k) || bl (labs.getD (k - 1) []) labs[k])) := by
  unfold labP
  rw [List.getD_eq_getElem?_getD, List.getElem?_eq_getElem hk]; rfl

theorem edP_at (x : Sys) (k : Nat) (hk : k < x.eds.length) : edP x k = (inB x.eds[k].fr 0 (x.st - 1) && inB x.eds[k].to 0 (x.st - 1) && inB x.eds[k].lb 0 (x.labs.length - 1) && (decide (k = 0) || edLt (x.eds.getD (k - 1) ⟨0, 0, 0⟩) x.eds[k])) := by
  unfold edP
  rw [List.getD_eq_getElem?_getD, List.getElem?_eq_getElem hk]; rfl

set_option maxRecDepth 20000 in
set_option maxHeartbeats 4000000 in
theorem validI (x : Sys) (v1 v2 : Value) (w : World) (f1 f2 : List Nat) (h1 : RS f1 w [v1] x.labs) (h2 : R_E1 f2 w [v2] x.eds) (hp : ∀ p ∈ x.labs, p.length ≤ 2000000) (he : Env w) :
    Calls Tryz.prog 59 #[.agg #[ei x.st, ei x.ini, v1, v2]] w fun e w' => e = .returned (.bool (sysOk x)) ∧ Upd [] w w' := by
  obtain ⟨st, ini, labs, eds⟩ := x
  simp only at h1 h2 hp ⊢
  have HOK := Lib.hid (show sysOk ⟨st, ini, labs, eds⟩ = (inB st 1 40 && inB ini 0 (st - 1) && labsOk labs && decide (eds.length ≤ 300) && allF (edP ⟨st, ini, labs, eds⟩) 0 eds.length) from rfl)
  have HLO := Lib.hid (show labsOk labs = (inB (labs.length : Int) 1 12 && allF (labP labs) 0 labs.length) by rw [inB_len]; rfl)
  obtain ⟨a1, c1, rfl, hl1, hm1, -⟩ := slF1_open h1
  obtain ⟨a2, c2, rfl, hl2, hm2, -⟩ := slF3_open h2
  unfold maxLen at hm1 hm2
  have H1 := Lib.hid h1
  have H2 := Lib.hid h2
  have HP := Lib.hid hp
  have HE := Lib.hid he
  have S1 := Lib.hid (fun W : World => within st 1 40 W)
  have S3 := Lib.hid (fun W : World => within (labs.length : Int) 1 12 W)
  have HB0 := Lib.hid ((Upd.refl [] w).alloc (.cells #[ei st, ei ini, .slice a1 labs.length c1, .slice a2 eds.length c2] 32))
  have HBX := Lib.hid (fun W => fun (hu : Upd [] (w.alloc (.cells #[ei st, ei ini, .slice a1 labs.length c1, .slice a2 eds.length c2] 32)) W) => show W.cell? ⟨w.heap.size, 0, none⟩ = some (ei st) ∧ W.cell? ⟨w.heap.size, 1, none⟩ = some (ei ini) ∧ W.cell? ⟨w.heap.size, 2, none⟩ = some (.slice a1 labs.length c1) ∧ W.cell? ⟨w.heap.size, 3, none⟩ = some (.slice a2 eds.length c2) from
    ⟨hu.keep (cell_new w _ _ _ rfl 0 _ rfl), hu.keep (cell_new w _ _ _ rfl 1 _ rfl), hu.keep (cell_new w _ _ _ rfl 2 _ rfl), hu.keep (cell_new w _ _ _ rfl 3 _ rfl)⟩)
  clear h1 h2 hp he
  cases hb1 : inB st 1 40 with
  | false =>
    have HR := Lib.hid (show sysOk ⟨st, ini, labs, eds⟩ = false by rw [HOK.out, hb1]; rfl)
    rw [hb1] at S1
    clear HOK HLO hb1 S3
    go_enter Tryz.func59, Tryz.ntmps59
    go_wp2_with fail
    refine (S1.out _).mono ?_
    rintro e w1 ⟨rfl, rfl⟩
    clear S1
    go_wp2_with fail
    go_ret
    exact ⟨by rw [HR.out]; rfl, HB0.out⟩
  | true =>
    have hst := inB_true hb1
    have S2 := Lib.hid (fun W : World => isStateI st ini (.slice a1 labs.length c1) (.slice a2 eds.length c2) ini W hst.1 hst.2)
    rw [hb1] at S1 HOK
    cases hb2 : inB ini 0 (st - 1) with
    | false =>
      have HR := Lib.hid (show sysOk ⟨st, ini, labs, eds⟩ = false by rw [HOK.out, hb2]; rfl)
      rw [hb2] at S2
      clear HOK HLO hb1 hb2 S3
      go_enter Tryz.func59, Tryz.ntmps59
      go_wp2_with fail
      refine (S1.out _).mono ?_
      rintro e w1 ⟨rfl, rfl⟩
      clear S1
      go_wp2_with fail
      refine (S2.out _).mono ?_
      rintro e w2 ⟨rfl, hu2⟩
      have HU2 := Lib.hid (HB0.out.trans hu2)
      clear S2 hu2
      go_wp2_with fail
      go_ret
      exact ⟨by rw [HR.out]; rfl, HU2.out⟩
    | true =>
      rw [hb2] at S2 HOK
      cases hb3 : inB (labs.length : Int) 1 12 with
      | false =>
        have HR := Lib.hid (show sysOk ⟨st, ini, labs, eds⟩ = false by rw [HOK.out, HLO.out, hb3]; rfl)
        rw [hb3] at S3
        clear HOK HLO hb1 hb2 hb3
        go_enter Tryz.func59, Tryz.ntmps59
        go_wp2_with fail
        refine (S1.out _).mono ?_
        rintro e w1 ⟨rfl, rfl⟩
        clear S1
        go_wp2_with fail
        refine (S2.out _).mono ?_
        rintro e w2 ⟨rfl, hu2⟩
        have HU2 := Lib.hid (HB0.out.trans hu2)
        obtain ⟨x0, x1, x2, x3⟩ := HBX.out w2 hu2
        clear S2 hu2
        go_wp2_with fail
        refine (S3.out _).mono ?_
        rintro e w3 ⟨rfl, rfl⟩
        clear S3
        go_wp2_with fail
        go_ret
        exact ⟨by rw [HR.out]; rfl, HU2.out⟩
      | true =>
        have hn3 := inB_true hb3
        rw [hb3] at S3 HLO
        by_cases hel : eds.length ≤ 300
        · have HOK2 := Lib.hid (show sysOk ⟨st, ini, labs, eds⟩ = (allF (labP labs) 0 labs.length && allF (edP ⟨st, ini, labs, eds⟩) 0 eds.length) by
            rw [HOK.out, HLO.out, decide_eq_true hel]; simp)
          have he3 : ¬ (300 : Int) < (eds.length : Int) := by omega
          clear HOK HLO hb1 hb2 hb3
          go_enter Tryz.func59, Tryz.ntmps59
          go_wp2_with fail
          refine (S1.out _).mono ?_
          rintro e w1 ⟨rfl, rfl⟩
          clear S1
          go_wp2_with fail
          refine (S2.out _).mono ?_
          rintro e w2 ⟨rfl, hu2⟩
          have HU2 := Lib.hid hu2
          obtain ⟨x0, x1, x2, x3⟩ := HBX.out w2 hu2
          clear S2 hu2
          go_wp2_with fail
          refine (S3.out _).mono ?_
          rintro e w3 ⟨rfl, rfl⟩
          clear S3
          go_wp2_with fail
          obtain ⟨wb, hwb⟩ : ∃ wb, wb = w.alloc (.cells #[ei st, ei ini, .slice a1 labs.length c1, .slice a2 eds.length c2] 32) := ⟨_, rfl⟩
          rw [← hwb] at HU2 HBX HB0
          clear hwb x0 x1 x2 x3
          go_loopw [34] (fun iv wr => ∃ k : Nat, k ≤ labs.length ∧ iv = .int .i64 k ∧ Hid (allF (labP labs) k (labs.length - k) = allF (labP labs) 0 labs.length) ∧ Upd [] wb wr) (fun iv _ => labs.length - (intOf iv).toNat)
          case atStart => exact ⟨0, Nat.zero_le _, rfl, Lib.hid rfl, HU2.out⟩
          case round =>
            clear HU2
            obtain ⟨k, hk, rfl, HA, hU⟩ := hrel
            by_cases hlt : k < labs.length
            · obtain ⟨a', c', hv, -, -, hc⟩ := slF1_open (RSk.upd H1.out (HB0.out.trans hU) (by simp))
              cases hv
              obtain ⟨b1, o1, rfl, -, -, p1⟩ := hc k hlt
              have HA2 := Lib.hid (HA.out.symm.trans (allF_step (labP labs) k labs.length hlt))
              have HLP := Lib.hid (labP_at labs k hlt)
              have hsl := HP.out labs[k] (List.getElem_mem hlt)
              have hpr : 1 < k → wr.cell? ⟨b1, o1 + (k - 1), none⟩ = some (es (labs.getD (k - 1) [])) := fun h => by
                obtain ⟨b2, o2, hv2, -, -, p2⟩ := hc (k - 1) (by omega)
                cases hv2
                rw [p2, List.getD_eq_getElem?_getD, List.getElem?_eq_getElem (by omega)]; rfl
              have HPR := Lib.hid hpr
              obtain ⟨x0, x1, x2, x3⟩ := HBX.out wr hU
              have SL := Lib.hid (show Calls Tryz.prog 86 #[es labs[k]] wr fun e w' => e = .returned (.bool (isLab labs[k])) ∧ Upd [] wr w' from isLabelI _ wr hsl (HE.out.upd (HB0.out.trans hU)))
              generalize labs[k] = s at *
              have HU := Lib.hid hU
              clear hc HA hU hpr
              cases hls : isLab s with
              | false =>
                have HR := Lib.hid (show sysOk ⟨st, ini, labs, eds⟩ = false by rw [HOK2.out, HA2.out, HLP.out, hls]; rfl)
                rw [hls] at SL
                clear HOK2 HA2 HLP hls HPR
                go_wp2_with fail
                refine SL.out.mono ?_
                rintro e w4 ⟨rfl, hu4⟩
                have HU4 := Lib.hid (HB0.out.trans (HU.out.trans hu4))
                clear SL hu4
                go_wp2_with fail
                go_ret
                exact ⟨by rw [HR.out]; rfl, HU4.out⟩
              | true =>
                rw [hls] at SL HLP
                by_cases ht : s = tauL
                · by_cases k0 : k = 0
                  · have HA3 := Lib.hid (show allF (labP labs) (k + 1) (labs.length - (k + 1)) = allF (labP labs) 0 labs.length by
                      rw [HA2.out, HLP.out, ht, k0]; simp)
                    have g1 : (s == [116, 97, 117]) = true := by simpa [tauL] using ht
                    have g2 : ((k : Int) == 0) = true := by rw [k0]; rfl
                    have g3 : ¬ (1 : Int) < (k : Int) := by omega
                    have K0 := Lib.hid k0
                    clear HA2 HLP ht hls HPR k0
                    go_wp2_with fail
                    refine SL.out.mono ?_
                    rintro e w4 ⟨rfl, hu4⟩
                    have HU4 := Lib.hid (HU.out.trans hu4)
                    clear SL hu4
                    go_wp2_with fail
                    go_roundw
                    case rel => exact ⟨k + 1, by omega, by go_num, HA3, HU4.out⟩
                    case measure => simp [intOf]; omega
                  · have HR := Lib.hid (show sysOk ⟨st, ini, labs, eds⟩ = false by rw [HOK2.out, HA2.out, HLP.out, ht, decide_eq_false k0]; simp)
                    have g1 : (s == [116, 97, 117]) = true := by simpa [tauL] using ht
                    have g2 : ((k : Int) == 0) = false := by simpa using k0
                    clear HOK2 HA2 HLP ht hls HPR k0
                    go_wp2_with fail
                    refine SL.out.mono ?_
                    rintro e w4 ⟨rfl, hu4⟩
                    have HU4 := Lib.hid (HB0.out.trans (HU.out.trans hu4))
                    clear SL hu4
                    go_wp2_with fail
                    go_ret
                    exact ⟨by rw [HR.out]; rfl, HU4.out⟩
                · have g1 : (s == [116, 97, 117]) = false := by simpa [tauL] using ht
                  have hst0 : (s == tauL) = false := by simpa using ht
                  rw [hst0] at HLP
                  by_cases k0 : k = 0
                  · have HR := Lib.hid (show sysOk ⟨st, ini, labs, eds⟩ = false by rw [HOK2.out, HA2.out, HLP.out, decide_eq_true k0]; simp)
                    have g2 : ((k : Int) == 0) = true := by rw [k0]; rfl
                    clear HOK2 HA2 HLP ht hst0 hls HPR k0
                    go_wp2_with fail
                    refine SL.out.mono ?_
                    rintro e w4 ⟨rfl, hu4⟩
                    have HU4 := Lib.hid (HB0.out.trans (HU.out.trans hu4))
                    clear SL hu4
                    go_wp2_with fail
                    go_ret
                    exact ⟨by rw [HR.out]; rfl, HU4.out⟩
                  · have g2 : ((k : Int) == 0) = false := by simpa using k0
                    by_cases k1 : 1 < k
                    · have p0 := HPR.out k1
                      have hk1 : (1 : Int) < (k : Int) := by omega
                      have HLP2 := Lib.hid (show labP labs k = bl (labs.getD (k - 1) []) s by rw [HLP.out, decide_eq_false k0, decide_eq_true k1]; simp)
                      have i1 : ((k : Int) - 1).toNat = k - 1 := by omega
                      have i2 : k - 1 < labs.length := by omega
                      have i3 : (0 : Int) ≤ (k : Int) - 1 := by omega
                      have i4 : (k : Int) - 1 < (labs.length : Int) := by omega
                      generalize labs.getD (k - 1) [] = pv at *
                      have hcmp : (Op.bytesLess s pv || s == pv) = !bl pv s := bl_total s pv
                      cases hbl : bl pv s with
                      | false =>
                        rw [hbl] at HLP2 hcmp
                        have HR := Lib.hid (show sysOk ⟨st, ini, labs, eds⟩ = false by rw [HOK2.out, HA2.out, HLP2.out]; rfl)
                        clear HOK2 HA2 HLP ht hst0 hls HPR k0 HLP2 hbl
                        go_wp2_with fail
                        refine SL.out.mono ?_
                        rintro e w4 ⟨rfl, hu4⟩
                        have q0 := hu4.keep p0
                        obtain ⟨x0, x1, x2, x3⟩ := HBX.out w4 (HU.out.trans hu4)
                        have HU4 := Lib.hid (HB0.out.trans (HU.out.trans hu4))
                        clear SL hu4 p0
                        go_wp2_with fail
                        go_ret
                        exact ⟨by rw [HR.out]; rfl, HU4.out⟩
                      | true =>
                        rw [hbl] at HLP2 hcmp
                        have HA3 := Lib.hid (show allF (labP labs) (k + 1) (labs.length - (k + 1)) = allF (labP labs) 0 labs.length by
                          rw [HA2.out, HLP2.out]; simp)
                        clear HA2 HLP ht hst0 hls HPR k0 HLP2 hbl
                        go_wp2_with fail
                        refine SL.out.mono ?_
                        rintro e w4 ⟨rfl, hu4⟩
                        have q0 := hu4.keep p0
                        have HU4 := Lib.hid (HU.out.trans hu4)
                        obtain ⟨x0, x1, x2, x3⟩ := HBX.out w4 HU4.out
                        clear SL hu4 p0
                        go_wp2_with fail
                        go_roundw
                        case rel => exact ⟨k + 1, by omega, by go_num, HA3, HU4.out⟩
                        case measure => simp [intOf]; omega
                    · have HA3 := Lib.hid (show allF (labP labs) (k + 1) (labs.length - (k + 1)) = allF (labP labs) 0 labs.length by
                        rw [HA2.out, HLP.out, decide_eq_false k0, decide_eq_false k1]; simp)
                      have g3 : ¬ (1 : Int) < (k : Int) := by omega
                      clear HA2 HLP ht hst0 hls HPR k0 k1
                      go_wp2_with fail
                      refine SL.out.mono ?_
                      rintro e w4 ⟨rfl, hu4⟩
                      have HU4 := Lib.hid (HU.out.trans hu4)
                      clear SL hu4
                      go_wp2_with fail
                      go_roundw
                      case rel => exact ⟨k + 1, by omega, by go_num, HA3, HU4.out⟩
                      case measure => simp [intOf]; omega
            · obtain rfl : k = labs.length := by omega
              have HLT := Lib.hid (show allF (labP labs) 0 labs.length = true by rw [← HA.out, allF_end])
              have HOK3 := Lib.hid (show sysOk ⟨st, ini, labs, eds⟩ = allF (edP ⟨st, ini, labs, eds⟩) 0 eds.length by rw [HOK2.out, HLT.out]; rfl)
              obtain ⟨wo, rfl⟩ : ∃ wo : World, wo = wr := ⟨_, rfl⟩
              obtain ⟨x0, x1, x2, x3⟩ := HBX.out wo hU
              have HU := Lib.hid hU
              have HIS := Lib.hid (fun (n : Int) (W : World) => isStateI st ini (.slice a1 labs.length c1) (.slice a2 eds.length c2) n W hst.1 hst.2)
              have HIX := Lib.hid (fun (n : Int) (W : World) => idxI n labs.length W (by omega))
              clear HA HLT HOK2 hU H1 HP HE
              go_wp2_with fail
              clear x0 x1 x2 x3
              go_loopw [67] (fun iv wr => ∃ k : Nat, k ≤ eds.length ∧ iv = .int .i64 k ∧ Hid (allF (edP ⟨st, ini, labs, eds⟩) k (eds.length - k) = allF (edP ⟨st, ini, labs, eds⟩) 0 eds.length) ∧ Upd [] wb wr) (fun iv _ => eds.length - (intOf iv).toNat)
              case atStart => exact ⟨0, Nat.zero_le _, rfl, Lib.hid rfl, HU.out⟩
              case round =>
                clear HU
                obtain ⟨k, hk, rfl, HA, hU⟩ := hrel
                by_cases hlt : k < eds.length
                · obtain ⟨a', c', hv, -, -, hc⟩ := slF3_open (R_E1k.upd H2.out (HB0.out.trans hU) (by simp))
                  cases hv
                  obtain ⟨b1, o1, rfl, -, -, p1, p2, p3⟩ := hc k hlt
                  have HA2 := Lib.hid (HA.out.symm.trans (allF_step (edP ⟨st, ini, labs, eds⟩) k eds.length hlt))
                  have HEP := Lib.hid (edP_at ⟨st, ini, labs, eds⟩ k hlt)
                  have hpr : 0 < k → wr.cell? ⟨b1, o1 + (k - 1) * 3, none⟩ = some (ei (eds.getD (k - 1) ⟨0, 0, 0⟩).fr) ∧ wr.cell? ⟨b1, o1 + (k - 1) * 3 + 1, none⟩ = some (ei (eds.getD (k - 1) ⟨0, 0, 0⟩).lb) ∧ wr.cell? ⟨b1, o1 + (k - 1) * 3 + 2, none⟩ = some (ei (eds.getD (k - 1) ⟨0, 0, 0⟩).to) := fun h => by
                    obtain ⟨b2, o2, hv2, -, -, q1, q2, q3⟩ := hc (k - 1) (by omega)
                    cases hv2
                    rw [List.getD_eq_getElem?_getD, List.getElem?_eq_getElem (by omega)]
                    exact ⟨q1, q2, q3⟩
                  have HPR := Lib.hid hpr
                  have hx := HBX.out wr hU
                  simp only at HEP
                  generalize eds[k] = ek at *
                  generalize eds.getD (k - 1) ⟨0, 0, 0⟩ = pk at *
                  obtain ⟨fr, lb, td⟩ := ek
                  simp only at p1 p2 p3 HEP
                  have HU := Lib.hid hU
                  have SF := Lib.hid (HIS.out fr)
                  have ST := Lib.hid (HIS.out td)
                  have SI := Lib.hid (HIX.out lb)
                  have SC := Lib.hid (fun W : World => show Calls Tryz.prog 88 #[.agg #[ei pk.fr, ei pk.lb, ei pk.to], .agg #[ei fr, ei lb, ei td]] W (fun e w' => (∃ c : Int, e = .returned (.int .i64 c) ∧ decide (0 ≤ c) = !edLt pk ⟨fr, lb, td⟩) ∧ Upd [] W w') from cmpEdges pk ⟨fr, lb, td⟩ W)
                  have hbl := (HBX.out wr hU).1
                  have hbs : w.heap.size < wr.heap.size := World.block_lt_of_cell? wr ⟨w.heap.size, 0, none⟩ hbl
                  obtain ⟨x0, x1, x2, x3⟩ := hx
                  clear hc HA hU hpr hbl HIS HIX
                  go_wp2_with fail
                  obtain ⟨w5, hw5⟩ : ∃ w5, w5 = wr.alloc (.cells #[.int .i64 fr, .int .i64 lb, .int .i64 td] 74) := ⟨_, rfl⟩
                  rw [← hw5]
                  have hu5 : Upd [] wr w5 := by rw [hw5]; exact (Upd.refl _ _).alloc _
                  obtain ⟨BB, hBB⟩ : ∃ BB, BB = wr.heap.size := ⟨_, rfl⟩
                  have z0 : w5.cell? ⟨BB, 0, none⟩ = some (ei fr) := by rw [hw5]; exact cell_new wr _ _ _ hBB.symm 0 _ rfl
                  have z1 : w5.cell? ⟨BB, 1, none⟩ = some (ei lb) := by rw [hw5]; exact cell_new wr _ _ _ hBB.symm 1 _ rfl
                  have z2 : w5.cell? ⟨BB, 2, none⟩ = some (ei td) := by rw [hw5]; exact cell_new wr _ _ _ hBB.symm 2 _ rfl
                  have y0 := hu5.keep x0
                  have y1 := hu5.keep x1
                  have y2 := hu5.keep x2
                  have y3 := hu5.keep x3
                  have HPR5 := Lib.hid (fun h : 0 < k => show w5.cell? ⟨b1, o1 + (k - 1) * 3, none⟩ = some (ei pk.fr) ∧ w5.cell? ⟨b1, o1 + (k - 1) * 3 + 1, none⟩ = some (ei pk.lb) ∧ w5.cell? ⟨b1, o1 + (k - 1) * 3 + 2, none⟩ = some (ei pk.to) from ⟨hu5.keep (HPR.out h).1, hu5.keep (HPR.out h).2.1, hu5.keep (HPR.out h).2.2⟩)
                  have HU5 := Lib.hid (HU.out.trans hu5)
                  rw [← hBB]
                  clear hw5 hu5 hBB x0 x1 x2 x3 p1 p2 p3 HPR HU hbs
                  cases hf1 : inB fr 0 (st - 1) with
                  | false =>
                    rw [hf1] at SF
                    have HR := Lib.hid (show sysOk ⟨st, ini, labs, eds⟩ = false by rw [HOK3.out, HA2.out, HEP.out, hf1]; simp)
                    clear HOK3 HA2 HEP
                    clear hf1
                    refine wp_region_held_drew (S := fun w' => w'.cell? ⟨w.heap.size, 0, none⟩ = some (ei st) ∧ w'.cell? ⟨w.heap.size, 1, none⟩ = some (ei ini) ∧ w'.cell? ⟨w.heap.size, 2, none⟩ = some (.slice a1 labs.length c1) ∧ w'.cell? ⟨w.heap.size, 3, none⟩ = some (.slice (some ⟨b1, o1, none⟩) eds.length c2) ∧ w'.cell? ⟨BB, 0, none⟩ = some (ei fr) ∧ w'.cell? ⟨BB, 1, none⟩ = some (ei lb) ∧ w'.cell? ⟨BB, 2, none⟩ = some (ei td)) (by kernel_rfl) ?_ (fun hHeld => ?_)
                    · exact ⟨y0, y1, y2, y3, z0, z1, z2⟩
                    refine wpAnyH_take (i := 0) (v := ?_) rfl (by kernel_rfl) (by kernel_rfl) (by kernel_rfl) (fun _ _ _ h => h) (Or.inl ⟨by rfl, ?_⟩) (by assumption) ?_
                    rotate_left
                    · (intro w hSw; (try dsimp only at hSw); go_simp)
                      first | done | with_reducible rfl
                    simp only [Act.put, List.getElem_toArray, List.getElem_cons_zero, List.setIfInBounds_toArray, List.set_cons_zero, List.set_cons_succ]
                    refine wpAnyH_take (i := 1) (v := ?_) rfl (by kernel_rfl) (by kernel_rfl) (by kernel_rfl) (fun _ _ _ h => h) (Or.inl ⟨by rfl, ?_⟩) (by assumption) ?_
                    rotate_left
                    · (intro w hSw; (try dsimp only at hSw); go_simp)
                      first | done | with_reducible rfl
                    simp only [Act.put, List.getElem_toArray, List.getElem_cons_zero, List.getElem_cons_succ, List.setIfInBounds_toArray, List.set_cons_zero, List.set_cons_succ]
                    refine wpAnyH_take (i := 2) (v := ?_) rfl (by kernel_rfl) (by kernel_rfl) (by kernel_rfl) (fun _ _ _ h => h) (Or.inl ⟨by rfl, ?_⟩) (by assumption) ?_
                    rotate_left
                    · (intro w hSw; (try dsimp only at hSw); go_simp)
                      first | done | with_reducible rfl
                    simp only [Act.put, List.getElem_toArray, List.getElem_cons_zero, List.getElem_cons_succ, List.setIfInBounds_toArray, List.set_cons_zero, List.set_cons_succ]
                    refine wpAnyH_ready (rs := [3]) (by kernel_rfl) (by simp) ?_
                    refine AllReadyH.cons rfl (fun K hK => ?_) AllReadyH.nil
                    go_simp
                    refine (SF.out _).mono ?_
                    rintro e w3 ⟨rfl, hu1⟩
                    refine hK.out _ _ ?_ (fun hHeld => ?_)
                    · exact ⟨hu1.keep hHeld.1, hu1.keep hHeld.2.1, hu1.keep hHeld.2.2.1, hu1.keep hHeld.2.2.2.1, hu1.keep hHeld.2.2.2.2.1, hu1.keep hHeld.2.2.2.2.2.1, hu1.keep hHeld.2.2.2.2.2.2⟩
                    clear hK K
                    try simp only [Act.put, List.getElem_toArray, List.getElem_cons_zero, List.getElem_cons_succ, List.setIfInBounds_toArray, List.set_cons_zero, List.set_cons_succ]
                    refine wpAnyH_take (i := 4) (v := ?_) rfl (by kernel_rfl) (by kernel_rfl) (by kernel_rfl) (fun _ _ _ h => h) (Or.inl ⟨by rfl, ?_⟩) (by assumption) ?_
                    rotate_left
                    · (intro w hSw; (try dsimp only at hSw); go_simp)
                      first | done | with_reducible rfl
                    simp only [Act.put, List.getElem_toArray, List.getElem_cons_zero, List.getElem_cons_succ, List.setIfInBounds_toArray, List.set_cons_zero, List.set_cons_succ]
                    refine wpAnyH_take (i := 5) (v := ?_) rfl (by kernel_rfl) (by kernel_rfl) (by kernel_rfl) (fun _ _ _ h => h) (Or.inl ⟨by rfl, ?_⟩) (by assumption) ?_
                    rotate_left
                    · (intro w hSw; (try dsimp only at hSw); go_simp)
                      first | done | with_reducible rfl
                    simp only [Act.put, List.getElem_toArray, List.getElem_cons_zero, List.getElem_cons_succ, List.setIfInBounds_toArray, List.set_cons_zero, List.set_cons_succ]
                    refine wpAnyH_take (i := 6) rfl (by kernel_rfl) (by kernel_rfl) (by kernel_rfl) (fun _ _ _ h => h) (Or.inr ⟨by rfl, rfl⟩) (by assumption) ?_
                    simp only [Act.put, List.getElem_toArray, List.getElem_cons_zero, List.getElem_cons_succ, List.setIfInBounds_toArray, List.set_cons_zero, List.set_cons_succ]
                    refine wpAnyH_take (i := 7) rfl (by kernel_rfl) (by kernel_rfl) (by kernel_rfl) (fun _ _ _ h => h) (Or.inr ⟨by rfl, rfl⟩) (by assumption) ?_
                    simp only [Act.put, List.getElem_toArray, List.getElem_cons_zero, List.getElem_cons_succ, List.setIfInBounds_toArray, List.set_cons_zero, List.set_cons_succ]
                    refine wpAnyH_take (i := 8) rfl (by kernel_rfl) (by kernel_rfl) (by kernel_rfl) (fun _ _ _ h => h) (Or.inr ⟨by rfl, rfl⟩) (by assumption) ?_
                    simp only [Act.put, List.getElem_toArray, List.getElem_cons_zero, List.getElem_cons_succ, List.setIfInBounds_toArray, List.set_cons_zero, List.set_cons_succ]
                    refine wpAnyH_take (i := 9) rfl (by kernel_rfl) (by kernel_rfl) (by kernel_rfl) (fun _ _ _ h => h) (Or.inr ⟨by rfl, rfl⟩) (by assumption) ?_
                    simp only [Act.put, List.getElem_toArray, List.getElem_cons_zero, List.getElem_cons_succ, List.setIfInBounds_toArray, List.set_cons_zero, List.set_cons_succ]
                    refine wpAnyH_take (i := 10) rfl (by kernel_rfl) (by kernel_rfl) (by kernel_rfl) (fun _ _ _ h => h) (Or.inr ⟨by rfl, rfl⟩) (by assumption) ?_
                    simp only [Act.put, List.getElem_toArray, List.getElem_cons_zero, List.getElem_cons_succ, List.setIfInBounds_toArray, List.set_cons_zero, List.set_cons_succ]
                    refine wpAnyH_take (i := 11) (v := ?_) rfl (by kernel_rfl) (by kernel_rfl) (by kernel_rfl) (fun _ _ _ h => h) (Or.inl ⟨by rfl, ?_⟩) (by assumption) ?_
                    rotate_left
                    · (intro w hSw; (try dsimp only at hSw); go_simp)
                      first | done | with_reducible rfl
                    simp only [Act.put, List.getElem_toArray, List.getElem_cons_zero, List.getElem_cons_succ, List.setIfInBounds_toArray, List.set_cons_zero, List.set_cons_succ]
                    refine wpAnyH_take (i := 12) (v := ?_) rfl (by kernel_rfl) (by kernel_rfl) (by kernel_rfl) (fun _ _ _ h => h) (Or.inl ⟨by rfl, ?_⟩) (by assumption) ?_
                    rotate_left
                    · (intro w hSw; (try dsimp only at hSw); go_simp)
                      first | done | with_reducible rfl
                    simp only [Act.put, List.getElem_toArray, List.getElem_cons_zero, List.getElem_cons_succ, List.setIfInBounds_toArray, List.set_cons_zero, List.set_cons_succ]
                    refine wpAnyH_take (i := 13) rfl (by kernel_rfl) (by kernel_rfl) (by kernel_rfl) (fun _ _ _ h => h) (Or.inr ⟨by rfl, rfl⟩) (by assumption) ?_
                    simp only [Act.put, List.getElem_toArray, List.getElem_cons_zero, List.getElem_cons_succ, List.setIfInBounds_toArray, List.set_cons_zero, List.set_cons_succ]
                    refine wpAnyH_take (i := 14) rfl (by kernel_rfl) (by kernel_rfl) (by kernel_rfl) (fun _ _ _ h => h) (Or.inr ⟨by rfl, rfl⟩) (by assumption) ?_
                    simp only [Act.put, List.getElem_toArray, List.getElem_cons_zero, List.getElem_cons_succ, List.setIfInBounds_toArray, List.set_cons_zero, List.set_cons_succ]
                    refine wpAnyH_take (i := 15) rfl (by kernel_rfl) (by kernel_rfl) (by kernel_rfl) (fun _ _ _ h => h) (Or.inr ⟨by rfl, rfl⟩) (by assumption) ?_
                    simp only [Act.put, List.getElem_toArray, List.getElem_cons_zero, List.getElem_cons_succ, List.setIfInBounds_toArray, List.set_cons_zero, List.set_cons_succ]
                    refine wpAnyH_take (i := 16) rfl (by kernel_rfl) (by kernel_rfl) (by kernel_rfl) (fun _ _ _ h => h) (Or.inr ⟨by rfl, rfl⟩) (by assumption) ?_
                    simp only [Act.put, List.getElem_toArray, List.getElem_cons_zero, List.getElem_cons_succ, List.setIfInBounds_toArray, List.set_cons_zero, List.set_cons_succ]
                    refine wpAnyH_take (i := 17) rfl (by kernel_rfl) (by kernel_rfl) (by kernel_rfl) (fun _ _ _ h => h) (Or.inr ⟨by rfl, rfl⟩) (by assumption) ?_
                    simp only [Act.put, List.getElem_toArray, List.getElem_cons_zero, List.getElem_cons_succ, List.setIfInBounds_toArray, List.set_cons_zero, List.set_cons_succ]
                    refine wpAnyH_take (i := 18) rfl (by kernel_rfl) (by kernel_rfl) (by kernel_rfl) (fun _ _ _ h => h) (Or.inr ⟨by rfl, rfl⟩) (by assumption) ?_
                    simp only [Act.put, List.getElem_toArray, List.getElem_cons_zero, List.getElem_cons_succ, List.setIfInBounds_toArray, List.set_cons_zero, List.set_cons_succ]
                    refine wpAnyH_take (i := 19) rfl (by kernel_rfl) (by kernel_rfl) (by kernel_rfl) (fun _ _ _ h => h) (Or.inr ⟨by rfl, rfl⟩) (by assumption) ?_
                    simp only [Act.put, List.getElem_toArray, List.getElem_cons_zero, List.getElem_cons_succ, List.setIfInBounds_toArray, List.set_cons_zero, List.set_cons_succ]
                    refine wpAnyH_take (i := 20) (v := ?_) rfl (by kernel_rfl) (by kernel_rfl) (by kernel_rfl) (fun _ _ _ h => h) (Or.inl ⟨by rfl, ?_⟩) (by assumption) ?_
                    rotate_left
                    · (intro w hSw; (try dsimp only at hSw); go_simp)
                      first | done | with_reducible rfl
                    simp only [Act.put, List.getElem_toArray, List.getElem_cons_zero, List.getElem_cons_succ, List.setIfInBounds_toArray, List.set_cons_zero, List.set_cons_succ]
                    refine wpAnyH_take (i := 21) (v := ?_) rfl (by kernel_rfl) (by kernel_rfl) (by kernel_rfl) (fun _ _ _ h => h) (Or.inl ⟨by rfl, ?_⟩) (by assumption) ?_
                    rotate_left
                    · (intro w hSw; (try dsimp only at hSw); go_simp)
                      first | done | with_reducible rfl
                    simp only [Act.put, List.getElem_toArray, List.getElem_cons_zero, List.getElem_cons_succ, List.setIfInBounds_toArray, List.set_cons_zero, List.set_cons_succ]
                    refine wpAnyH_take (i := 22) rfl (by kernel_rfl) (by kernel_rfl) (by kernel_rfl) (fun _ _ _ h => h) (Or.inr ⟨by rfl, rfl⟩) (by assumption) ?_
                    simp only [Act.put, List.getElem_toArray, List.getElem_cons_zero, List.getElem_cons_succ, List.setIfInBounds_toArray, List.set_cons_zero, List.set_cons_succ]
                    refine wpAnyH_take (i := 23) rfl (by kernel_rfl) (by kernel_rfl) (by kernel_rfl) (fun _ _ _ h => h) (Or.inr ⟨by rfl, rfl⟩) (by assumption) ?_
                    simp only [Act.put, List.getElem_toArray, List.getElem_cons_zero, List.getElem_cons_succ, List.setIfInBounds_toArray, List.set_cons_zero, List.set_cons_succ]
                    refine wpAnyH_take (i := 24) rfl (by kernel_rfl) (by kernel_rfl) (by kernel_rfl) (fun _ _ _ h => h) (Or.inr ⟨by rfl, rfl⟩) (by assumption) ?_
                    simp only [Act.put, List.getElem_toArray, List.getElem_cons_zero, List.getElem_cons_succ, List.setIfInBounds_toArray, List.set_cons_zero, List.set_cons_succ]
                    refine wpAnyH_take (i := 25) rfl (by kernel_rfl) (by kernel_rfl) (by kernel_rfl) (fun _ _ _ h => h) (Or.inr ⟨by rfl, rfl⟩) (by assumption) ?_
                    simp only [Act.put, List.getElem_toArray, List.getElem_cons_zero, List.getElem_cons_succ, List.setIfInBounds_toArray, List.set_cons_zero, List.set_cons_succ]
                    refine wpAnyH_take (i := 26) rfl (by kernel_rfl) (by kernel_rfl) (by kernel_rfl) (fun _ _ _ h => h) (Or.inr ⟨by rfl, rfl⟩) (by assumption) ?_
                    simp only [Act.put, List.getElem_toArray, List.getElem_cons_zero, List.getElem_cons_succ, List.setIfInBounds_toArray, List.set_cons_zero, List.set_cons_succ]
                    refine wpAnyH_take (i := 27) rfl (by kernel_rfl) (by kernel_rfl) (by kernel_rfl) (fun _ _ _ h => h) (Or.inr ⟨by rfl, rfl⟩) (by assumption) ?_
                    simp only [Act.put, List.getElem_toArray, List.getElem_cons_zero, List.getElem_cons_succ, List.setIfInBounds_toArray, List.set_cons_zero, List.set_cons_succ]
                    refine wpAnyH_take (i := 28) rfl (by kernel_rfl) (by kernel_rfl) (by kernel_rfl) (fun _ _ _ h => h) (Or.inr ⟨by rfl, rfl⟩) (by assumption) ?_
                    simp only [Act.put, List.getElem_toArray, List.getElem_cons_zero, List.getElem_cons_succ, List.setIfInBounds_toArray, List.set_cons_zero, List.set_cons_succ]
                    refine wpAnyH_take (i := 29) rfl (by kernel_rfl) (by kernel_rfl) (by kernel_rfl) (fun _ _ _ h => h) (Or.inr ⟨by rfl, rfl⟩) (by assumption) ?_
                    simp only [Act.put, List.getElem_toArray, List.getElem_cons_zero, List.getElem_cons_succ, List.setIfInBounds_toArray, List.set_cons_zero, List.set_cons_succ]
                    refine wpAnyH_take (i := 30) rfl (by kernel_rfl) (by kernel_rfl) (by kernel_rfl) (fun _ _ _ h => h) (Or.inr ⟨by rfl, rfl⟩) (by assumption) ?_
                    simp only [Act.put, List.getElem_toArray, List.getElem_cons_zero, List.getElem_cons_succ, List.setIfInBounds_toArray, List.set_cons_zero, List.set_cons_succ]
                    refine wpAnyH_take (i := 31) rfl (by kernel_rfl) (by kernel_rfl) (by kernel_rfl) (fun _ _ _ h => h) (Or.inr ⟨by rfl, rfl⟩) (by assumption) ?_
                    simp only [Act.put, List.getElem_toArray, List.getElem_cons_zero, List.getElem_cons_succ, List.setIfInBounds_toArray, List.set_cons_zero, List.set_cons_succ]
                    refine wpAnyH_take (i := 32) rfl (by kernel_rfl) (by kernel_rfl) (by kernel_rfl) (fun _ _ _ h => h) (Or.inr ⟨by rfl, rfl⟩) (by assumption) ?_
                    simp only [Act.put, List.getElem_toArray, List.getElem_cons_zero, List.getElem_cons_succ, List.setIfInBounds_toArray, List.set_cons_zero, List.set_cons_succ]
                    refine wpAnyH_take (i := 33) rfl (by kernel_rfl) (by kernel_rfl) (by kernel_rfl) (fun _ _ _ h => h) (Or.inr ⟨by rfl, rfl⟩) (by assumption) ?_
                    simp only [Act.put, List.getElem_toArray, List.getElem_cons_zero, List.getElem_cons_succ, List.setIfInBounds_toArray, List.set_cons_zero, List.set_cons_succ]
                    refine wpAnyH_take (i := 34) rfl (by kernel_rfl) (by kernel_rfl) (by kernel_rfl) (fun _ _ _ h => h) (Or.inr ⟨by rfl, rfl⟩) (by assumption) ?_
                    simp only [Act.put, List.getElem_toArray, List.getElem_cons_zero, List.getElem_cons_succ, List.setIfInBounds_toArray, List.set_cons_zero, List.set_cons_succ]
                    refine wpAnyH_take (i := 35) (v := ?_) rfl (by kernel_rfl) (by kernel_rfl) (by kernel_rfl) (fun _ _ _ h => h) (Or.inl ⟨by rfl, ?_⟩) (by assumption) ?_
                    rotate_left
                    · (intro w hSw; (try dsimp only at hSw); go_simp)
                      first | done | with_reducible rfl
                    simp only [Act.put, List.getElem_toArray, List.getElem_cons_zero, List.getElem_cons_succ, List.setIfInBounds_toArray, List.set_cons_zero, List.set_cons_succ]
                    refine wpAnyH_done (by kernel_rfl) ?_ _
                    have HU9 := Lib.hid (HB0.out.trans (HU5.out.drew.trans hu1))
                    clear HU5 hHeld y0 y1 y2 y3 z0 z1 z2
                    go_wp2_with fail
                    go_ret
                    exact ⟨by rw [HR.out]; rfl, HU9.out⟩
                  | true =>
                    rw [hf1] at SF HEP
                    clear hf1
                    cases hf2 : inB td 0 (st - 1) with
                    | false =>
                      rw [hf2] at ST
                      have HR := Lib.hid (show sysOk ⟨st, ini, labs, eds⟩ = false by rw [HOK3.out, HA2.out, HEP.out, hf2]; simp)
                      clear HOK3 HA2 HEP
                      clear hf2
                      refine wp_region_held_drew (S := fun w' => w'.cell? ⟨w.heap.size, 0, none⟩ = some (ei st) ∧ w'.cell? ⟨w.heap.size, 1, none⟩ = some (ei ini) ∧ w'.cell? ⟨w.heap.size, 2, none⟩ = some (.slice a1 labs.length c1) ∧ w'.cell? ⟨w.heap.size, 3, none⟩ = some (.slice (some ⟨b1, o1, none⟩) eds.length c2) ∧ w'.cell? ⟨BB, 0, none⟩ = some (ei fr) ∧ w'.cell? ⟨BB, 1, none⟩ = some (ei lb) ∧ w'.cell? ⟨BB, 2, none⟩ = some (ei td)) (by kernel_rfl) ?_ (fun hHeld => ?_)
                      · exact ⟨y0, y1, y2, y3, z0, z1, z2⟩
                      refine wpAnyH_take (i := 0) (v := ?_) rfl (by kernel_rfl) (by kernel_rfl) (by kernel_rfl) (fun _ _ _ h => h) (Or.inl ⟨by rfl, ?_⟩) (by assumption) ?_
                      rotate_left
                      · (intro w hSw; (try dsimp only at hSw); go_simp)
                        first | done | with_reducible rfl
                      simp only [Act.put, List.getElem_toArray, List.getElem_cons_zero, List.setIfInBounds_toArray, List.set_cons_zero, List.set_cons_succ]
                      refine wpAnyH_take (i := 1) (v := ?_) rfl (by kernel_rfl) (by kernel_rfl) (by kernel_rfl) (fun _ _ _ h => h) (Or.inl ⟨by rfl, ?_⟩) (by assumption) ?_
                      rotate_left
                      · (intro w hSw; (try dsimp only at hSw); go_simp)
                        first | done | with_reducible rfl
                      simp only [Act.put, List.getElem_toArray, List.getElem_cons_zero, List.getElem_cons_succ, List.setIfInBounds_toArray, List.set_cons_zero, List.set_cons_succ]
                      refine wpAnyH_take (i := 2) (v := ?_) rfl (by kernel_rfl) (by kernel_rfl) (by kernel_rfl) (fun _ _ _ h => h) (Or.inl ⟨by rfl, ?_⟩) (by assumption) ?_
                      rotate_left
                      · (intro w hSw; (try dsimp only at hSw); go_simp)
                        first | done | with_reducible rfl
                      simp only [Act.put, List.getElem_toArray, List.getElem_cons_zero, List.getElem_cons_succ, List.setIfInBounds_toArray, List.set_cons_zero, List.set_cons_succ]
                      refine wpAnyH_ready (rs := [3]) (by kernel_rfl) (by simp) ?_
                      refine AllReadyH.cons rfl (fun K hK => ?_) AllReadyH.nil
                      go_simp
                      refine (SF.out _).mono ?_
                      rintro e w3 ⟨rfl, hu1⟩
                      refine hK.out _ _ ?_ (fun hHeld => ?_)
                      · exact ⟨hu1.keep hHeld.1, hu1.keep hHeld.2.1, hu1.keep hHeld.2.2.1, hu1.keep hHeld.2.2.2.1, hu1.keep hHeld.2.2.2.2.1, hu1.keep hHeld.2.2.2.2.2.1, hu1.keep hHeld.2.2.2.2.2.2⟩
                      clear hK K
                      try simp only [Act.put, List.getElem_toArray, List.getElem_cons_zero, List.getElem_cons_succ, List.setIfInBounds_toArray, List.set_cons_zero, List.set_cons_succ]
                      refine wpAnyH_take (i := 4) (v := ?_) rfl (by kernel_rfl) (by kernel_rfl) (by kernel_rfl) (fun _ _ _ h => h) (Or.inl ⟨by rfl, ?_⟩) (by assumption) ?_
                      rotate_left
                      · (intro w hSw; (try dsimp only at hSw); go_simp)
                        first | done | with_reducible rfl
                      simp only [Act.put, List.getElem_toArray, List.getElem_cons_zero, List.getElem_cons_succ, List.setIfInBounds_toArray, List.set_cons_zero, List.set_cons_succ]
                      refine wpAnyH_take (i := 5) (v := ?_) rfl (by kernel_rfl) (by kernel_rfl) (by kernel_rfl) (fun _ _ _ h => h) (Or.inl ⟨by rfl, ?_⟩) (by assumption) ?_
                      rotate_left
                      · (intro w hSw; (try dsimp only at hSw); go_simp)
                        first | done | with_reducible rfl
                      simp only [Act.put, List.getElem_toArray, List.getElem_cons_zero, List.getElem_cons_succ, List.setIfInBounds_toArray, List.set_cons_zero, List.set_cons_succ]
                      refine wpAnyH_take (i := 6) (v := ?_) rfl (by kernel_rfl) (by kernel_rfl) (by kernel_rfl) (fun _ _ _ h => h) (Or.inl ⟨by rfl, ?_⟩) (by assumption) ?_
                      rotate_left
                      · (intro w hSw; (try dsimp only at hSw); go_simp)
                        first | done | with_reducible rfl
                      simp only [Act.put, List.getElem_toArray, List.getElem_cons_zero, List.getElem_cons_succ, List.setIfInBounds_toArray, List.set_cons_zero, List.set_cons_succ]
                      refine wpAnyH_take (i := 7) (v := ?_) rfl (by kernel_rfl) (by kernel_rfl) (by kernel_rfl) (fun _ _ _ h => h) (Or.inl ⟨by rfl, ?_⟩) (by assumption) ?_
                      rotate_left
                      · (intro w hSw; (try dsimp only at hSw); go_simp)
                        first | done | with_reducible rfl
                      simp only [Act.put, List.getElem_toArray, List.getElem_cons_zero, List.getElem_cons_succ, List.setIfInBounds_toArray, List.set_cons_zero, List.set_cons_succ]
                      refine wpAnyH_take (i := 8) (v := ?_) rfl (by kernel_rfl) (by kernel_rfl) (by kernel_rfl) (fun _ _ _ h => h) (Or.inl ⟨by rfl, ?_⟩) (by assumption) ?_
                      rotate_left
                      · (intro w hSw; (try dsimp only at hSw); go_simp)
                        first | done | with_reducible rfl
                      simp only [Act.put, List.getElem_toArray, List.getElem_cons_zero, List.getElem_cons_succ, List.setIfInBounds_toArray, List.set_cons_zero, List.set_cons_succ]
                      refine wpAnyH_ready (rs := [9]) (by kernel_rfl) (by simp) ?_
                      refine AllReadyH.cons rfl (fun K hK => ?_) AllReadyH.nil
                      go_simp
                      refine (ST.out _).mono ?_
                      rintro e w9 ⟨rfl, hu2⟩
                      refine hK.out _ _ ?_ (fun hHeld => ?_)
                      · exact ⟨hu2.keep hHeld.1, hu2.keep hHeld.2.1, hu2.keep hHeld.2.2.1, hu2.keep hHeld.2.2.2.1, hu2.keep hHeld.2.2.2.2.1, hu2.keep hHeld.2.2.2.2.2.1, hu2.keep hHeld.2.2.2.2.2.2⟩
                      clear hK K
                      try simp only [Act.put, List.getElem_toArray, List.getElem_cons_zero, List.getElem_cons_succ, List.setIfInBounds_toArray, List.set_cons_zero, List.set_cons_succ]
                      refine wpAnyH_take (i := 10) (v := ?_) rfl (by kernel_rfl) (by kernel_rfl) (by kernel_rfl) (fun _ _ _ h => h) (Or.inl ⟨by rfl, ?_⟩) (by assumption) ?_
                      rotate_left
                      · (intro w hSw; (try dsimp only at hSw); go_simp)
                        first | done | with_reducible rfl
                      simp only [Act.put, List.getElem_toArray, List.getElem_cons_zero, List.getElem_cons_succ, List.setIfInBounds_toArray, List.set_cons_zero, List.set_cons_succ]
                      refine wpAnyH_take (i := 11) (v := ?_) rfl (by kernel_rfl) (by kernel_rfl) (by kernel_rfl) (fun _ _ _ h => h) (Or.inl ⟨by rfl, ?_⟩) (by assumption) ?_
                      rotate_left
                      · (intro w hSw; (try dsimp only at hSw); go_simp)
                        first | done | with_reducible rfl
                      simp only [Act.put, List.getElem_toArray, List.getElem_cons_zero, List.getElem_cons_succ, List.setIfInBounds_toArray, List.set_cons_zero, List.set_cons_succ]
                      refine wpAnyH_take (i := 12) (v := ?_) rfl (by kernel_rfl) (by kernel_rfl) (by kernel_rfl) (fun _ _ _ h => h) (Or.inl ⟨by rfl, ?_⟩) (by assumption) ?_
                      rotate_left
                      · (intro w hSw; (try dsimp only at hSw); go_simp)
                        first | done | with_reducible rfl
                      simp only [Act.put, List.getElem_toArray, List.getElem_cons_zero, List.getElem_cons_succ, List.setIfInBounds_toArray, List.set_cons_zero, List.set_cons_succ]
                      refine wpAnyH_take (i := 13) rfl (by kernel_rfl) (by kernel_rfl) (by kernel_rfl) (fun _ _ _ h => h) (Or.inr ⟨by rfl, rfl⟩) (by assumption) ?_
                      simp only [Act.put, List.getElem_toArray, List.getElem_cons_zero, List.getElem_cons_succ, List.setIfInBounds_toArray, List.set_cons_zero, List.set_cons_succ]
                      refine wpAnyH_take (i := 14) rfl (by kernel_rfl) (by kernel_rfl) (by kernel_rfl) (fun _ _ _ h => h) (Or.inr ⟨by rfl, rfl⟩) (by assumption) ?_
                      simp only [Act.put, List.getElem_toArray, List.getElem_cons_zero, List.getElem_cons_succ, List.setIfInBounds_toArray, List.set_cons_zero, List.set_cons_succ]
                      refine wpAnyH_take (i := 15) rfl (by kernel_rfl) (by kernel_rfl) (by kernel_rfl) (fun _ _ _ h => h) (Or.inr ⟨by rfl, rfl⟩) (by assumption) ?_
                      simp only [Act.put, List.getElem_toArray, List.getElem_cons_zero, List.getElem_cons_succ, List.setIfInBounds_toArray, List.set_cons_zero, List.set_cons_succ]
                      refine wpAnyH_take (i := 16) rfl (by kernel_rfl) (by kernel_rfl) (by kernel_rfl) (fun _ _ _ h => h) (Or.inr ⟨by rfl, rfl⟩) (by assumption) ?_
                      simp only [Act.put, List.getElem_toArray, List.getElem_cons_zero, List.getElem_cons_succ, List.setIfInBounds_toArray, List.set_cons_zero, List.set_cons_succ]
                      refine wpAnyH_take (i := 17) rfl (by kernel_rfl) (by kernel_rfl) (by kernel_rfl) (fun _ _ _ h => h) (Or.inr ⟨by rfl, rfl⟩) (by assumption) ?_
                      simp only [Act.put, List.getElem_toArray, List.getElem_cons_zero, List.getElem_cons_succ, List.setIfInBounds_toArray, List.set_cons_zero, List.set_cons_succ]
                      refine wpAnyH_take (i := 18) rfl (by kernel_rfl) (by kernel_rfl) (by kernel_rfl) (fun _ _ _ h => h) (Or.inr ⟨by rfl, rfl⟩) (by assumption) ?_
                      simp only [Act.put, List.getElem_toArray, List.getElem_cons_zero, List.getElem_cons_succ, List.setIfInBounds_toArray, List.set_cons_zero, List.set_cons_succ]
                      refine wpAnyH_take (i := 19) rfl (by kernel_rfl) (by kernel_rfl) (by kernel_rfl) (fun _ _ _ h => h) (Or.inr ⟨by rfl, rfl⟩) (by assumption) ?_
                      simp only [Act.put, List.getElem_toArray, List.getElem_cons_zero, List.getElem_cons_succ, List.setIfInBounds_toArray, List.set_cons_zero, List.set_cons_succ]
                      refine wpAnyH_take (i := 20) (v := ?_) rfl (by kernel_rfl) (by kernel_rfl) (by kernel_rfl) (fun _ _ _ h => h) (Or.inl ⟨by rfl, ?_⟩) (by assumption) ?_
                      rotate_left
                      · (intro w hSw; (try dsimp only at hSw); go_simp)
                        first | done | with_reducible rfl
                      simp only [Act.put, List.getElem_toArray, List.getElem_cons_zero, List.getElem_cons_succ, List.setIfInBounds_toArray, List.set_cons_zero, List.set_cons_succ]
                      refine wpAnyH_take (i := 21) (v := ?_) rfl (by kernel_rfl) (by kernel_rfl) (by kernel_rfl) (fun _ _ _ h => h) (Or.inl ⟨by rfl, ?_⟩) (by assumption) ?_
                      rotate_left
                      · (intro w hSw; (try dsimp only at hSw); go_simp)
                        first | done | with_reducible rfl
                      simp only [Act.put, List.getElem_toArray, List.getElem_cons_zero, List.getElem_cons_succ, List.setIfInBounds_toArray, List.set_cons_zero, List.set_cons_succ]
                      refine wpAnyH_take (i := 22) rfl (by kernel_rfl) (by kernel_rfl) (by kernel_rfl) (fun _ _ _ h => h) (Or.inr ⟨by rfl, rfl⟩) (by assumption) ?_
                      simp only [Act.put, List.getElem_toArray, List.getElem_cons_zero, List.getElem_cons_succ, List.setIfInBounds_toArray, List.set_cons_zero, List.set_cons_succ]
                      refine wpAnyH_take (i := 23) rfl (by kernel_rfl) (by kernel_rfl) (by kernel_rfl) (fun _ _ _ h => h) (Or.inr ⟨by rfl, rfl⟩) (by assumption) ?_
                      simp only [Act.put, List.getElem_toArray, List.getElem_cons_zero, List.getElem_cons_succ, List.setIfInBounds_toArray, List.set_cons_zero, List.set_cons_succ]
                      refine wpAnyH_take (i := 24) rfl (by kernel_rfl) (by kernel_rfl) (by kernel_rfl) (fun _ _ _ h => h) (Or.inr ⟨by rfl, rfl⟩) (by assumption) ?_
                      simp only [Act.put, List.getElem_toArray, List.getElem_cons_zero, List.getElem_cons_succ, List.setIfInBounds_toArray, List.set_cons_zero, List.set_cons_succ]
                      refine wpAnyH_take (i := 25) rfl (by kernel_rfl) (by kernel_rfl) (by kernel_rfl) (fun _ _ _ h => h) (Or.inr ⟨by rfl, rfl⟩) (by assumption) ?_
                      simp only [Act.put, List.getElem_toArray, List.getElem_cons_zero, List.getElem_cons_succ, List.setIfInBounds_toArray, List.set_cons_zero, List.set_cons_succ]
                      refine wpAnyH_take (i := 26) rfl (by kernel_rfl) (by kernel_rfl) (by kernel_rfl) (fun _ _ _ h => h) (Or.inr ⟨by rfl, rfl⟩) (by assumption) ?_
                      simp only [Act.put, List.getElem_toArray, List.getElem_cons_zero, List.getElem_cons_succ, List.setIfInBounds_toArray, List.set_cons_zero, List.set_cons_succ]
                      refine wpAnyH_take (i := 27) rfl (by kernel_rfl) (by kernel_rfl) (by kernel_rfl) (fun _ _ _ h => h) (Or.inr ⟨by rfl, rfl⟩) (by assumption) ?_
                      simp only [Act.put, List.getElem_toArray, List.getElem_cons_zero, List.getElem_cons_succ, List.setIfInBounds_toArray, List.set_cons_zero, List.set_cons_succ]
                      refine wpAnyH_take (i := 28) rfl (by kernel_rfl) (by kernel_rfl) (by kernel_rfl) (fun _ _ _ h => h) (Or.inr ⟨by rfl, rfl⟩) (by assumption) ?_
                      simp only [Act.put, List.getElem_toArray, List.getElem_cons_zero, List.getElem_cons_succ, List.setIfInBounds_toArray, List.set_cons_zero, List.set_cons_succ]
                      refine wpAnyH_take (i := 29) rfl (by kernel_rfl) (by kernel_rfl) (by kernel_rfl) (fun _ _ _ h => h) (Or.inr ⟨by rfl, rfl⟩) (by assumption) ?_
                      simp only [Act.put, List.getElem_toArray, List.getElem_cons_zero, List.getElem_cons_succ, List.setIfInBounds_toArray, List.set_cons_zero, List.set_cons_succ]
                      refine wpAnyH_take (i := 30) rfl (by kernel_rfl) (by kernel_rfl) (by kernel_rfl) (fun _ _ _ h => h) (Or.inr ⟨by rfl, rfl⟩) (by assumption) ?_
                      simp only [Act.put, List.getElem_toArray, List.getElem_cons_zero, List.getElem_cons_succ, List.setIfInBounds_toArray, List.set_cons_zero, List.set_cons_succ]
                      refine wpAnyH_take (i := 31) rfl (by kernel_rfl) (by kernel_rfl) (by kernel_rfl) (fun _ _ _ h => h) (Or.inr ⟨by rfl, rfl⟩) (by assumption) ?_
                      simp only [Act.put, List.getElem_toArray, List.getElem_cons_zero, List.getElem_cons_succ, List.setIfInBounds_toArray, List.set_cons_zero, List.set_cons_succ]
                      refine wpAnyH_take (i := 32) rfl (by kernel_rfl) (by kernel_rfl) (by kernel_rfl) (fun _ _ _ h => h) (Or.inr ⟨by rfl, rfl⟩) (by assumption) ?_
                      simp only [Act.put, List.getElem_toArray, List.getElem_cons_zero, List.getElem_cons_succ, List.setIfInBounds_toArray, List.set_cons_zero, List.set_cons_succ]
                      refine wpAnyH_take (i := 33) rfl (by kernel_rfl) (by kernel_rfl) (by kernel_rfl) (fun _ _ _ h => h) (Or.inr ⟨by rfl, rfl⟩) (by assumption) ?_
                      simp only [Act.put, List.getElem_toArray, List.getElem_cons_zero, List.getElem_cons_succ, List.setIfInBounds_toArray, List.set_cons_zero, List.set_cons_succ]
                      refine wpAnyH_take (i := 34) rfl (by kernel_rfl) (by kernel_rfl) (by kernel_rfl) (fun _ _ _ h => h) (Or.inr ⟨by rfl, rfl⟩) (by assumption) ?_
                      simp only [Act.put, List.getElem_toArray, List.getElem_cons_zero, List.getElem_cons_succ, List.setIfInBounds_toArray, List.set_cons_zero, List.set_cons_succ]
                      refine wpAnyH_take (i := 35) (v := ?_) rfl (by kernel_rfl) (by kernel_rfl) (by kernel_rfl) (fun _ _ _ h => h) (Or.inl ⟨by rfl, ?_⟩) (by assumption) ?_
                      rotate_left
                      · (intro w hSw; (try dsimp only at hSw); go_simp)
                        first | done | with_reducible rfl
                      simp only [Act.put, List.getElem_toArray, List.getElem_cons_zero, List.getElem_cons_succ, List.setIfInBounds_toArray, List.set_cons_zero, List.set_cons_succ]
                      refine wpAnyH_done (by kernel_rfl) ?_ _
                      have HU9 := Lib.hid (HB0.out.trans ((HU5.out.drew.trans hu1).trans hu2))
                      clear HU5 hHeld y0 y1 y2 y3 z0 z1 z2
                      go_wp2_with fail
                      go_ret
                      exact ⟨by rw [HR.out]; rfl, HU9.out⟩
                    | true =>
                      rw [hf2] at ST HEP
                      clear hf2
                      cases hf3 : inB lb 0 ((labs.length : Int) - 1) with
                      | false =>
                        rw [hf3] at SI
                        have HR := Lib.hid (show sysOk ⟨st, ini, labs, eds⟩ = false by rw [HOK3.out, HA2.out, HEP.out, hf3]; simp)
                        clear HOK3 HA2 HEP
                        clear hf3
                        refine wp_region_held_drew (S := fun w' => w'.cell? ⟨w.heap.size, 0, none⟩ = some (ei st) ∧ w'.cell? ⟨w.heap.size, 1, none⟩ = some (ei ini) ∧ w'.cell? ⟨w.heap.size, 2, none⟩ = some (.slice a1 labs.length c1) ∧ w'.cell? ⟨w.heap.size, 3, none⟩ = some (.slice (some ⟨b1, o1, none⟩) eds.length c2) ∧ w'.cell? ⟨BB, 0, none⟩ = some (ei fr) ∧ w'.cell? ⟨BB, 1, none⟩ = some (ei lb) ∧ w'.cell? ⟨BB, 2, none⟩ = some (ei td)) (by kernel_rfl) ?_ (fun hHeld => ?_)
                        · exact ⟨y0, y1, y2, y3, z0, z1, z2⟩
                        refine wpAnyH_take (i := 0) (v := ?_) rfl (by kernel_rfl) (by kernel_rfl) (by kernel_rfl) (fun _ _ _ h => h) (Or.inl ⟨by rfl, ?_⟩) (by assumption) ?_
                        rotate_left
                        · (intro w hSw; (try dsimp only at hSw); go_simp)
                          first | done | with_reducible rfl
                        simp only [Act.put, List.getElem_toArray, List.getElem_cons_zero, List.setIfInBounds_toArray, List.set_cons_zero, List.set_cons_succ]
                        refine wpAnyH_take (i := 1) (v := ?_) rfl (by kernel_rfl) (by kernel_rfl) (by kernel_rfl) (fun _ _ _ h => h) (Or.inl ⟨by rfl, ?_⟩) (by assumption) ?_
                        rotate_left
                        · (intro w hSw; (try dsimp only at hSw); go_simp)
                          first | done | with_reducible rfl
                        simp only [Act.put, List.getElem_toArray, List.getElem_cons_zero, List.getElem_cons_succ, List.setIfInBounds_toArray, List.set_cons_zero, List.set_cons_succ]
                        refine wpAnyH_take (i := 2) (v := ?_) rfl (by kernel_rfl) (by kernel_rfl) (by kernel_rfl) (fun _ _ _ h => h) (Or.inl ⟨by rfl, ?_⟩) (by assumption) ?_
                        rotate_left
                        · (intro w hSw; (try dsimp only at hSw); go_simp)
                          first | done | with_reducible rfl
                        simp only [Act.put, List.getElem_toArray, List.getElem_cons_zero, List.getElem_cons_succ, List.setIfInBounds_toArray, List.set_cons_zero, List.set_cons_succ]
                        refine wpAnyH_ready (rs := [3]) (by kernel_rfl) (by simp) ?_
                        refine AllReadyH.cons rfl (fun K hK => ?_) AllReadyH.nil
                        go_simp
                        refine (SF.out _).mono ?_
                        rintro e w3 ⟨rfl, hu1⟩
                        refine hK.out _ _ ?_ (fun hHeld => ?_)
                        · exact ⟨hu1.keep hHeld.1, hu1.keep hHeld.2.1, hu1.keep hHeld.2.2.1, hu1.keep hHeld.2.2.2.1, hu1.keep hHeld.2.2.2.2.1, hu1.keep hHeld.2.2.2.2.2.1, hu1.keep hHeld.2.2.2.2.2.2⟩
                        clear hK K
                        try simp only [Act.put, List.getElem_toArray, List.getElem_cons_zero, List.getElem_cons_succ, List.setIfInBounds_toArray, List.set_cons_zero, List.set_cons_succ]
                        refine wpAnyH_take (i := 4) (v := ?_) rfl (by kernel_rfl) (by kernel_rfl) (by kernel_rfl) (fun _ _ _ h => h) (Or.inl ⟨by rfl, ?_⟩) (by assumption) ?_
                        rotate_left
                        · (intro w hSw; (try dsimp only at hSw); go_simp)
                          first | done | with_reducible rfl
                        simp only [Act.put, List.getElem_toArray, List.getElem_cons_zero, List.getElem_cons_succ, List.setIfInBounds_toArray, List.set_cons_zero, List.set_cons_succ]
                        refine wpAnyH_take (i := 5) (v := ?_) rfl (by kernel_rfl) (by kernel_rfl) (by kernel_rfl) (fun _ _ _ h => h) (Or.inl ⟨by rfl, ?_⟩) (by assumption) ?_
                        rotate_left
                        · (intro w hSw; (try dsimp only at hSw); go_simp)
                          first | done | with_reducible rfl
                        simp only [Act.put, List.getElem_toArray, List.getElem_cons_zero, List.getElem_cons_succ, List.setIfInBounds_toArray, List.set_cons_zero, List.set_cons_succ]
                        refine wpAnyH_take (i := 6) (v := ?_) rfl (by kernel_rfl) (by kernel_rfl) (by kernel_rfl) (fun _ _ _ h => h) (Or.inl ⟨by rfl, ?_⟩) (by assumption) ?_
                        rotate_left
                        · (intro w hSw; (try dsimp only at hSw); go_simp)
                          first | done | with_reducible rfl
                        simp only [Act.put, List.getElem_toArray, List.getElem_cons_zero, List.getElem_cons_succ, List.setIfInBounds_toArray, List.set_cons_zero, List.set_cons_succ]
                        refine wpAnyH_take (i := 7) (v := ?_) rfl (by kernel_rfl) (by kernel_rfl) (by kernel_rfl) (fun _ _ _ h => h) (Or.inl ⟨by rfl, ?_⟩) (by assumption) ?_
                        rotate_left
                        · (intro w hSw; (try dsimp only at hSw); go_simp)
                          first | done | with_reducible rfl
                        simp only [Act.put, List.getElem_toArray, List.getElem_cons_zero, List.getElem_cons_succ, List.setIfInBounds_toArray, List.set_cons_zero, List.set_cons_succ]
                        refine wpAnyH_take (i := 8) (v := ?_) rfl (by kernel_rfl) (by kernel_rfl) (by kernel_rfl) (fun _ _ _ h => h) (Or.inl ⟨by rfl, ?_⟩) (by assumption) ?_
                        rotate_left
                        · (intro w hSw; (try dsimp only at hSw); go_simp)
                          first | done | with_reducible rfl
                        simp only [Act.put, List.getElem_toArray, List.getElem_cons_zero, List.getElem_cons_succ, List.setIfInBounds_toArray, List.set_cons_zero, List.set_cons_succ]
                        refine wpAnyH_ready (rs := [9]) (by kernel_rfl) (by simp) ?_
                        refine AllReadyH.cons rfl (fun K hK => ?_) AllReadyH.nil
                        go_simp
                        refine (ST.out _).mono ?_
                        rintro e w9 ⟨rfl, hu2⟩
                        refine hK.out _ _ ?_ (fun hHeld => ?_)
                        · exact ⟨hu2.keep hHeld.1, hu2.keep hHeld.2.1, hu2.keep hHeld.2.2.1, hu2.keep hHeld.2.2.2.1, hu2.keep hHeld.2.2.2.2.1, hu2.keep hHeld.2.2.2.2.2.1, hu2.keep hHeld.2.2.2.2.2.2⟩
                        clear hK K
                        try simp only [Act.put, List.getElem_toArray, List.getElem_cons_zero, List.getElem_cons_succ, List.setIfInBounds_toArray, List.set_cons_zero, List.set_cons_succ]
                        refine wpAnyH_take (i := 10) (v := ?_) rfl (by kernel_rfl) (by kernel_rfl) (by kernel_rfl) (fun _ _ _ h => h) (Or.inl ⟨by rfl, ?_⟩) (by assumption) ?_
                        rotate_left
                        · (intro w hSw; (try dsimp only at hSw); go_simp)
                          first | done | with_reducible rfl
                        simp only [Act.put, List.getElem_toArray, List.getElem_cons_zero, List.getElem_cons_succ, List.setIfInBounds_toArray, List.set_cons_zero, List.set_cons_succ]
                        refine wpAnyH_take (i := 11) (v := ?_) rfl (by kernel_rfl) (by kernel_rfl) (by kernel_rfl) (fun _ _ _ h => h) (Or.inl ⟨by rfl, ?_⟩) (by assumption) ?_
                        rotate_left
                        · (intro w hSw; (try dsimp only at hSw); go_simp)
                          first | done | with_reducible rfl
                        simp only [Act.put, List.getElem_toArray, List.getElem_cons_zero, List.getElem_cons_succ, List.setIfInBounds_toArray, List.set_cons_zero, List.set_cons_succ]
                        refine wpAnyH_take (i := 12) (v := ?_) rfl (by kernel_rfl) (by kernel_rfl) (by kernel_rfl) (fun _ _ _ h => h) (Or.inl ⟨by rfl, ?_⟩) (by assumption) ?_
                        rotate_left
                        · (intro w hSw; (try dsimp only at hSw); go_simp)
                          first | done | with_reducible rfl
                        simp only [Act.put, List.getElem_toArray, List.getElem_cons_zero, List.getElem_cons_succ, List.setIfInBounds_toArray, List.set_cons_zero, List.set_cons_succ]
                        refine wpAnyH_take (i := 13) (v := ?_) rfl (by kernel_rfl) (by kernel_rfl) (by kernel_rfl) (fun _ _ _ h => h) (Or.inl ⟨by rfl, ?_⟩) (by assumption) ?_
                        rotate_left
                        · (intro w hSw; (try dsimp only at hSw); go_simp)
                          first | done | with_reducible rfl
                        simp only [Act.put, List.getElem_toArray, List.getElem_cons_zero, List.getElem_cons_succ, List.setIfInBounds_toArray, List.set_cons_zero, List.set_cons_succ]
                        refine wpAnyH_take (i := 14) (v := ?_) rfl (by kernel_rfl) (by kernel_rfl) (by kernel_rfl) (fun _ _ _ h => h) (Or.inl ⟨by rfl, ?_⟩) (by assumption) ?_
                        rotate_left
                        · (intro w hSw; (try dsimp only at hSw); go_simp)
                          first | done | with_reducible rfl
                        simp only [Act.put, List.getElem_toArray, List.getElem_cons_zero, List.getElem_cons_succ, List.setIfInBounds_toArray, List.set_cons_zero, List.set_cons_succ]
                        refine wpAnyH_take (i := 15) (v := ?_) rfl (by kernel_rfl) (by kernel_rfl) (by kernel_rfl) (fun _ _ _ h => h) (Or.inl ⟨by rfl, ?_⟩) (by assumption) ?_
                        rotate_left
                        · (intro w hSw; (try dsimp only at hSw); go_simp)
                          first | done | with_reducible rfl
                        simp only [Act.put, List.getElem_toArray, List.getElem_cons_zero, List.getElem_cons_succ, List.setIfInBounds_toArray, List.set_cons_zero, List.set_cons_succ]
                        refine wpAnyH_take (i := 16) (v := ?_) rfl (by kernel_rfl) (by kernel_rfl) (by kernel_rfl) (fun _ _ _ h => h) (Or.inl ⟨by rfl, ?_⟩) (by assumption) ?_
                        rotate_left
                        · (intro w hSw; (try dsimp only at hSw); go_simp)
                          first | done | with_reducible rfl
                        simp only [Act.put, List.getElem_toArray, List.getElem_cons_zero, List.getElem_cons_succ, List.setIfInBounds_toArray, List.set_cons_zero, List.set_cons_succ]
                        refine wpAnyH_take (i := 17) (v := ?_) rfl (by kernel_rfl) (by kernel_rfl) (by kernel_rfl) (fun _ _ _ h => h) (Or.inl ⟨by rfl, ?_⟩) (by assumption) ?_
                        rotate_left
                        · (intro w hSw; (try dsimp only at hSw); go_simp)
                          first | done | with_reducible rfl
                        simp only [Act.put, List.getElem_toArray, List.getElem_cons_zero, List.getElem_cons_succ, List.setIfInBounds_toArray, List.set_cons_zero, List.set_cons_succ]
                        refine wpAnyH_ready (rs := [18]) (by kernel_rfl) (by simp) ?_
                        refine AllReadyH.cons rfl (fun K hK => ?_) AllReadyH.nil
                        go_simp
                        refine (SI.out _).mono ?_
                        rintro e w18 ⟨rfl, rfl⟩
                        refine hK.out _ _ ?_ (fun hHeld => ?_)
                        · exact ⟨hHeld.1, hHeld.2.1, hHeld.2.2.1, hHeld.2.2.2.1, hHeld.2.2.2.2.1, hHeld.2.2.2.2.2.1, hHeld.2.2.2.2.2.2⟩
                        clear hK K
                        try simp only [Act.put, List.getElem_toArray, List.getElem_cons_zero, List.getElem_cons_succ, List.setIfInBounds_toArray, List.set_cons_zero, List.set_cons_succ]
                        refine wpAnyH_take (i := 19) (v := ?_) rfl (by kernel_rfl) (by kernel_rfl) (by kernel_rfl) (fun _ _ _ h => h) (Or.inl ⟨by rfl, ?_⟩) (by assumption) ?_
                        rotate_left
                        · (intro w hSw; (try dsimp only at hSw); go_simp)
                          first | done | with_reducible rfl
                        simp only [Act.put, List.getElem_toArray, List.getElem_cons_zero, List.getElem_cons_succ, List.setIfInBounds_toArray, List.set_cons_zero, List.set_cons_succ]
                        refine wpAnyH_take (i := 20) (v := ?_) rfl (by kernel_rfl) (by kernel_rfl) (by kernel_rfl) (fun _ _ _ h => h) (Or.inl ⟨by rfl, ?_⟩) (by assumption) ?_
                        rotate_left
                        · (intro w hSw; (try dsimp only at hSw); go_simp)
                          first | done | with_reducible rfl
                        simp only [Act.put, List.getElem_toArray, List.getElem_cons_zero, List.getElem_cons_succ, List.setIfInBounds_toArray, List.set_cons_zero, List.set_cons_succ]
                        refine wpAnyH_take (i := 21) (v := ?_) rfl (by kernel_rfl) (by kernel_rfl) (by kernel_rfl) (fun _ _ _ h => h) (Or.inl ⟨by rfl, ?_⟩) (by assumption) ?_
                        rotate_left
                        · (intro w hSw; (try dsimp only at hSw); go_simp)
                          first | done | with_reducible rfl
                        simp only [Act.put, List.getElem_toArray, List.getElem_cons_zero, List.getElem_cons_succ, List.setIfInBounds_toArray, List.set_cons_zero, List.set_cons_succ]
                        refine wpAnyH_take (i := 22) rfl (by kernel_rfl) (by kernel_rfl) (by kernel_rfl) (fun _ _ _ h => h) (Or.inr ⟨by rfl, rfl⟩) (by assumption) ?_
                        simp only [Act.put, List.getElem_toArray, List.getElem_cons_zero, List.getElem_cons_succ, List.setIfInBounds_toArray, List.set_cons_zero, List.set_cons_succ]
                        refine wpAnyH_take (i := 23) rfl (by kernel_rfl) (by kernel_rfl) (by kernel_rfl) (fun _ _ _ h => h) (Or.inr ⟨by rfl, rfl⟩) (by assumption) ?_
                        simp only [Act.put, List.getElem_toArray, List.getElem_cons_zero, List.getElem_cons_succ, List.setIfInBounds_toArray, List.set_cons_zero, List.set_cons_succ]
                        refine wpAnyH_take (i := 24) rfl (by kernel_rfl) (by kernel_rfl) (by kernel_rfl) (fun _ _ _ h => h) (Or.inr ⟨by rfl, rfl⟩) (by assumption) ?_
                        simp only [Act.put, List.getElem_toArray, List.getElem_cons_zero, List.getElem_cons_succ, List.setIfInBounds_toArray, List.set_cons_zero, List.set_cons_succ]
                        refine wpAnyH_take (i := 25) rfl (by kernel_rfl) (by kernel_rfl) (by kernel_rfl) (fun _ _ _ h => h) (Or.inr ⟨by rfl, rfl⟩) (by assumption) ?_
                        simp only [Act.put, List.getElem_toArray, List.getElem_cons_zero, List.getElem_cons_succ, List.setIfInBounds_toArray, List.set_cons_zero, List.set_cons_succ]
                        refine wpAnyH_take (i := 26) rfl (by kernel_rfl) (by kernel_rfl) (by kernel_rfl) (fun _ _ _ h => h) (Or.inr ⟨by rfl, rfl⟩) (by assumption) ?_
                        simp only [Act.put, List.getElem_toArray, List.getElem_cons_zero, List.getElem_cons_succ, List.setIfInBounds_toArray, List.set_cons_zero, List.set_cons_succ]
                        refine wpAnyH_take (i := 27) rfl (by kernel_rfl) (by kernel_rfl) (by kernel_rfl) (fun _ _ _ h => h) (Or.inr ⟨by rfl, rfl⟩) (by assumption) ?_
                        simp only [Act.put, List.getElem_toArray, List.getElem_cons_zero, List.getElem_cons_succ, List.setIfInBounds_toArray, List.set_cons_zero, List.set_cons_succ]
                        refine wpAnyH_take (i := 28) rfl (by kernel_rfl) (by kernel_rfl) (by kernel_rfl) (fun _ _ _ h => h) (Or.inr ⟨by rfl, rfl⟩) (by assumption) ?_
                        simp only [Act.put, List.getElem_toArray, List.getElem_cons_zero, List.getElem_cons_succ, List.setIfInBounds_toArray, List.set_cons_zero, List.set_cons_succ]
                        refine wpAnyH_take (i := 29) rfl (by kernel_rfl) (by kernel_rfl) (by kernel_rfl) (fun _ _ _ h => h) (Or.inr ⟨by rfl, rfl⟩) (by assumption) ?_
                        simp only [Act.put, List.getElem_toArray, List.getElem_cons_zero, List.getElem_cons_succ, List.setIfInBounds_toArray, List.set_cons_zero, List.set_cons_succ]
                        refine wpAnyH_take (i := 30) rfl (by kernel_rfl) (by kernel_rfl) (by kernel_rfl) (fun _ _ _ h => h) (Or.inr ⟨by rfl, rfl⟩) (by assumption) ?_
                        simp only [Act.put, List.getElem_toArray, List.getElem_cons_zero, List.getElem_cons_succ, List.setIfInBounds_toArray, List.set_cons_zero, List.set_cons_succ]
                        refine wpAnyH_take (i := 31) rfl (by kernel_rfl) (by kernel_rfl) (by kernel_rfl) (fun _ _ _ h => h) (Or.inr ⟨by rfl, rfl⟩) (by assumption) ?_
                        simp only [Act.put, List.getElem_toArray, List.getElem_cons_zero, List.getElem_cons_succ, List.setIfInBounds_toArray, List.set_cons_zero, List.set_cons_succ]
                        refine wpAnyH_take (i := 32) rfl (by kernel_rfl) (by kernel_rfl) (by kernel_rfl) (fun _ _ _ h => h) (Or.inr ⟨by rfl, rfl⟩) (by assumption) ?_
                        simp only [Act.put, List.getElem_toArray, List.getElem_cons_zero, List.getElem_cons_succ, List.setIfInBounds_toArray, List.set_cons_zero, List.set_cons_succ]
                        refine wpAnyH_take (i := 33) rfl (by kernel_rfl) (by kernel_rfl) (by kernel_rfl) (fun _ _ _ h => h) (Or.inr ⟨by rfl, rfl⟩) (by assumption) ?_
                        simp only [Act.put, List.getElem_toArray, List.getElem_cons_zero, List.getElem_cons_succ, List.setIfInBounds_toArray, List.set_cons_zero, List.set_cons_succ]
                        refine wpAnyH_take (i := 34) rfl (by kernel_rfl) (by kernel_rfl) (by kernel_rfl) (fun _ _ _ h => h) (Or.inr ⟨by rfl, rfl⟩) (by assumption) ?_
                        simp only [Act.put, List.getElem_toArray, List.getElem_cons_zero, List.getElem_cons_succ, List.setIfInBounds_toArray, List.set_cons_zero, List.set_cons_succ]
                        refine wpAnyH_take (i := 35) (v := ?_) rfl (by kernel_rfl) (by kernel_rfl) (by kernel_rfl) (fun _ _ _ h => h) (Or.inl ⟨by rfl, ?_⟩) (by assumption) ?_
                        rotate_left
                        · (intro w hSw; (try dsimp only at hSw); go_simp)
                          first | done | with_reducible rfl
                        simp only [Act.put, List.getElem_toArray, List.getElem_cons_zero, List.getElem_cons_succ, List.setIfInBounds_toArray, List.set_cons_zero, List.set_cons_succ]
                        refine wpAnyH_done (by kernel_rfl) ?_ _
                        have HU9 := Lib.hid (HB0.out.trans ((HU5.out.drew.trans hu1).trans hu2))
                        clear HU5 hHeld y0 y1 y2 y3 z0 z1 z2
                        go_wp2_with fail
                        go_ret
                        exact ⟨by rw [HR.out]; rfl, HU9.out⟩
                      | true =>
                        rw [hf3] at SI HEP
                        clear hf3
                        by_cases k0 : k = 0
                        · have HA3 := Lib.hid (show allF (edP ⟨st, ini, labs, eds⟩) (k + 1) (eds.length - (k + 1)) = allF (edP ⟨st, ini, labs, eds⟩) 0 eds.length by rw [HA2.out, HEP.out, decide_eq_true k0]; simp)
                          have kk : decide (0 < k) = false := by rw [k0]; rfl
                          have kk2 : ¬ (0 : Int) < (k : Int) := by omega
                          clear HA2 HEP k0
                          refine wp_region_held_drew (S := fun w' => w'.cell? ⟨w.heap.size, 0, none⟩ = some (ei st) ∧ w'.cell? ⟨w.heap.size, 1, none⟩ = some (ei ini) ∧ w'.cell? ⟨w.heap.size, 2, none⟩ = some (.slice a1 labs.length c1) ∧ w'.cell? ⟨w.heap.size, 3, none⟩ = some (.slice (some ⟨b1, o1, none⟩) eds.length c2) ∧ w'.cell? ⟨BB, 0, none⟩ = some (ei fr) ∧ w'.cell? ⟨BB, 1, none⟩ = some (ei lb) ∧ w'.cell? ⟨BB, 2, none⟩ = some (ei td)) (by kernel_rfl) ?_ (fun hHeld => ?_)
                          · exact ⟨y0, y1, y2, y3, z0, z1, z2⟩
                          refine wpAnyH_take (i := 0) (v := ?_) rfl (by kernel_rfl) (by kernel_rfl) (by kernel_rfl) (fun _ _ _ h => h) (Or.inl ⟨by rfl, ?_⟩) (by assumption) ?_
                          rotate_left
                          · (intro w hSw; (try dsimp only at hSw); go_simp)
                            first | done | with_reducible rfl
                          simp only [Act.put, List.getElem_toArray, List.getElem_cons_zero, List.setIfInBounds_toArray, List.set_cons_zero, List.set_cons_succ]
                          refine wpAnyH_take (i := 1) (v := ?_) rfl (by kernel_rfl) (by kernel_rfl) (by kernel_rfl) (fun _ _ _ h => h) (Or.inl ⟨by rfl, ?_⟩) (by assumption) ?_
                          rotate_left
                          · (intro w hSw; (try dsimp only at hSw); go_simp)
                            first | done | with_reducible rfl
                          simp only [Act.put, List.getElem_toArray, List.getElem_cons_zero, List.getElem_cons_succ, List.setIfInBounds_toArray, List.set_cons_zero, List.set_cons_succ]
                          refine wpAnyH_take (i := 2) (v := ?_) rfl (by kernel_rfl) (by kernel_rfl) (by kernel_rfl) (fun _ _ _ h => h) (Or.inl ⟨by rfl, ?_⟩) (by assumption) ?_
                          rotate_left
                          · (intro w hSw; (try dsimp only at hSw); go_simp)
                            first | done | with_reducible rfl
                          simp only [Act.put, List.getElem_toArray, List.getElem_cons_zero, List.getElem_cons_succ, List.setIfInBounds_toArray, List.set_cons_zero, List.set_cons_succ]
                          refine wpAnyH_ready (rs := [3]) (by kernel_rfl) (by simp) ?_
                          refine AllReadyH.cons rfl (fun K hK => ?_) AllReadyH.nil
                          go_simp
                          refine (SF.out _).mono ?_
                          rintro e w3 ⟨rfl, hu1⟩
                          refine hK.out _ _ ?_ (fun hHeld => ?_)
                          · exact ⟨hu1.keep hHeld.1, hu1.keep hHeld.2.1, hu1.keep hHeld.2.2.1, hu1.keep hHeld.2.2.2.1, hu1.keep hHeld.2.2.2.2.1, hu1.keep hHeld.2.2.2.2.2.1, hu1.keep hHeld.2.2.2.2.2.2⟩
                          clear hK K
                          try simp only [Act.put, List.getElem_toArray, List.getElem_cons_zero, List.getElem_cons_succ, List.setIfInBounds_toArray, List.set_cons_zero, List.set_cons_succ]
                          refine wpAnyH_take (i := 4) (v := ?_) rfl (by kernel_rfl) (by kernel_rfl) (by kernel_rfl) (fun _ _ _ h => h) (Or.inl ⟨by rfl, ?_⟩) (by assumption) ?_
                          rotate_left
                          · (intro w hSw; (try dsimp only at hSw); go_simp)
                            first | done | with_reducible rfl
                          simp only [Act.put, List.getElem_toArray, List.getElem_cons_zero, List.getElem_cons_succ, List.setIfInBounds_toArray, List.set_cons_zero, List.set_cons_succ]
                          refine wpAnyH_take (i := 5) (v := ?_) rfl (by kernel_rfl) (by kernel_rfl) (by kernel_rfl) (fun _ _ _ h => h) (Or.inl ⟨by rfl, ?_⟩) (by assumption) ?_
                          rotate_left
                          · (intro w hSw; (try dsimp only at hSw); go_simp)
                            first | done | with_reducible rfl
                          simp only [Act.put, List.getElem_toArray, List.getElem_cons_zero, List.getElem_cons_succ, List.setIfInBounds_toArray, List.set_cons_zero, List.set_cons_succ]
                          refine wpAnyH_take (i := 6) (v := ?_) rfl (by kernel_rfl) (by kernel_rfl) (by kernel_rfl) (fun _ _ _ h => h) (Or.inl ⟨by rfl, ?_⟩) (by assumption) ?_
                          rotate_left
                          · (intro w hSw; (try dsimp only at hSw); go_simp)
                            first | done | with_reducible rfl
                          simp only [Act.put, List.getElem_toArray, List.getElem_cons_zero, List.getElem_cons_succ, List.setIfInBounds_toArray, List.set_cons_zero, List.set_cons_succ]
                          refine wpAnyH_take (i := 7) (v := ?_) rfl (by kernel_rfl) (by kernel_rfl) (by kernel_rfl) (fun _ _ _ h => h) (Or.inl ⟨by rfl, ?_⟩) (by assumption) ?_
                          rotate_left
                          · (intro w hSw; (try dsimp only at hSw); go_simp)
                            first | done | with_reducible rfl
                          simp only [Act.put, List.getElem_toArray, List.getElem_cons_zero, List.getElem_cons_succ, List.setIfInBounds_toArray, List.set_cons_zero, List.set_cons_succ]
                          refine wpAnyH_take (i := 8) (v := ?_) rfl (by kernel_rfl) (by kernel_rfl) (by kernel_rfl) (fun _ _ _ h => h) (Or.inl ⟨by rfl, ?_⟩) (by assumption) ?_
                          rotate_left
                          · (intro w hSw; (try dsimp only at hSw); go_simp)
                            first | done | with_reducible rfl
                          simp only [Act.put, List.getElem_toArray, List.getElem_cons_zero, List.getElem_cons_succ, List.setIfInBounds_toArray, List.set_cons_zero, List.set_cons_succ]
                          refine wpAnyH_ready (rs := [9]) (by kernel_rfl) (by simp) ?_
                          refine AllReadyH.cons rfl (fun K hK => ?_) AllReadyH.nil
                          go_simp
                          refine (ST.out _).mono ?_
                          rintro e w9 ⟨rfl, hu2⟩
                          refine hK.out _ _ ?_ (fun hHeld => ?_)
                          · exact ⟨hu2.keep hHeld.1, hu2.keep hHeld.2.1, hu2.keep hHeld.2.2.1, hu2.keep hHeld.2.2.2.1, hu2.keep hHeld.2.2.2.2.1, hu2.keep hHeld.2.2.2.2.2.1, hu2.keep hHeld.2.2.2.2.2.2⟩
                          clear hK K
                          try simp only [Act.put, List.getElem_toArray, List.getElem_cons_zero, List.getElem_cons_succ, List.setIfInBounds_toArray, List.set_cons_zero, List.set_cons_succ]
                          refine wpAnyH_take (i := 10) (v := ?_) rfl (by kernel_rfl) (by kernel_rfl) (by kernel_rfl) (fun _ _ _ h => h) (Or.inl ⟨by rfl, ?_⟩) (by assumption) ?_
                          rotate_left
                          · (intro w hSw; (try dsimp only at hSw); go_simp)
                            first | done | with_reducible rfl
                          simp only [Act.put, List.getElem_toArray, List.getElem_cons_zero, List.getElem_cons_succ, List.setIfInBounds_toArray, List.set_cons_zero, List.set_cons_succ]
                          refine wpAnyH_take (i := 11) (v := ?_) rfl (by kernel_rfl) (by kernel_rfl) (by kernel_rfl) (fun _ _ _ h => h) (Or.inl ⟨by rfl, ?_⟩) (by assumption) ?_
                          rotate_left
                          · (intro w hSw; (try dsimp only at hSw); go_simp)
                            first | done | with_reducible rfl
                          simp only [Act.put, List.getElem_toArray, List.getElem_cons_zero, List.getElem_cons_succ, List.setIfInBounds_toArray, List.set_cons_zero, List.set_cons_succ]
                          refine wpAnyH_take (i := 12) (v := ?_) rfl (by kernel_rfl) (by kernel_rfl) (by kernel_rfl) (fun _ _ _ h => h) (Or.inl ⟨by rfl, ?_⟩) (by assumption) ?_
                          rotate_left
                          · (intro w hSw; (try dsimp only at hSw); go_simp)
                            first | done | with_reducible rfl
                          simp only [Act.put, List.getElem_toArray, List.getElem_cons_zero, List.getElem_cons_succ, List.setIfInBounds_toArray, List.set_cons_zero, List.set_cons_succ]
                          refine wpAnyH_take (i := 13) (v := ?_) rfl (by kernel_rfl) (by kernel_rfl) (by kernel_rfl) (fun _ _ _ h => h) (Or.inl ⟨by rfl, ?_⟩) (by assumption) ?_
                          rotate_left
                          · (intro w hSw; (try dsimp only at hSw); go_simp)
                            first | done | with_reducible rfl
                          simp only [Act.put, List.getElem_toArray, List.getElem_cons_zero, List.getElem_cons_succ, List.setIfInBounds_toArray, List.set_cons_zero, List.set_cons_succ]
                          refine wpAnyH_take (i := 14) (v := ?_) rfl (by kernel_rfl) (by kernel_rfl) (by kernel_rfl) (fun _ _ _ h => h) (Or.inl ⟨by rfl, ?_⟩) (by assumption) ?_
                          rotate_left
                          · (intro w hSw; (try dsimp only at hSw); go_simp)
                            first | done | with_reducible rfl
                          simp only [Act.put, List.getElem_toArray, List.getElem_cons_zero, List.getElem_cons_succ, List.setIfInBounds_toArray, List.set_cons_zero, List.set_cons_succ]
                          refine wpAnyH_take (i := 15) (v := ?_) rfl (by kernel_rfl) (by kernel_rfl) (by kernel_rfl) (fun _ _ _ h => h) (Or.inl ⟨by rfl, ?_⟩) (by assumption) ?_
                          rotate_left
                          · (intro w hSw; (try dsimp only at hSw); go_simp)
                            first | done | with_reducible rfl
                          simp only [Act.put, List.getElem_toArray, List.getElem_cons_zero, List.getElem_cons_succ, List.setIfInBounds_toArray, List.set_cons_zero, List.set_cons_succ]
                          refine wpAnyH_take (i := 16) (v := ?_) rfl (by kernel_rfl) (by kernel_rfl) (by kernel_rfl) (fun _ _ _ h => h) (Or.inl ⟨by rfl, ?_⟩) (by assumption) ?_
                          rotate_left
                          · (intro w hSw; (try dsimp only at hSw); go_simp)
                            first | done | with_reducible rfl
                          simp only [Act.put, List.getElem_toArray, List.getElem_cons_zero, List.getElem_cons_succ, List.setIfInBounds_toArray, List.set_cons_zero, List.set_cons_succ]
                          refine wpAnyH_take (i := 17) (v := ?_) rfl (by kernel_rfl) (by kernel_rfl) (by kernel_rfl) (fun _ _ _ h => h) (Or.inl ⟨by rfl, ?_⟩) (by assumption) ?_
                          rotate_left
                          · (intro w hSw; (try dsimp only at hSw); go_simp)
                            first | done | with_reducible rfl
                          simp only [Act.put, List.getElem_toArray, List.getElem_cons_zero, List.getElem_cons_succ, List.setIfInBounds_toArray, List.set_cons_zero, List.set_cons_succ]
                          refine wpAnyH_ready (rs := [18]) (by kernel_rfl) (by simp) ?_
                          refine AllReadyH.cons rfl (fun K hK => ?_) AllReadyH.nil
                          go_simp
                          refine (SI.out _).mono ?_
                          rintro e w18 ⟨rfl, rfl⟩
                          refine hK.out _ _ ?_ (fun hHeld => ?_)
                          · exact ⟨hHeld.1, hHeld.2.1, hHeld.2.2.1, hHeld.2.2.2.1, hHeld.2.2.2.2.1, hHeld.2.2.2.2.2.1, hHeld.2.2.2.2.2.2⟩
                          clear hK K
                          try simp only [Act.put, List.getElem_toArray, List.getElem_cons_zero, List.getElem_cons_succ, List.setIfInBounds_toArray, List.set_cons_zero, List.set_cons_succ]
                          refine wpAnyH_take (i := 19) (v := ?_) rfl (by kernel_rfl) (by kernel_rfl) (by kernel_rfl) (fun _ _ _ h => h) (Or.inl ⟨by rfl, ?_⟩) (by assumption) ?_
                          rotate_left
                          · (intro w hSw; (try dsimp only at hSw); go_simp)
                            first | done | with_reducible rfl
                          simp only [Act.put, List.getElem_toArray, List.getElem_cons_zero, List.getElem_cons_succ, List.setIfInBounds_toArray, List.set_cons_zero, List.set_cons_succ]
                          refine wpAnyH_take (i := 20) (v := ?_) rfl (by kernel_rfl) (by kernel_rfl) (by kernel_rfl) (fun _ _ _ h => h) (Or.inl ⟨by rfl, ?_⟩) (by assumption) ?_
                          rotate_left
                          · (intro w hSw; (try dsimp only at hSw); go_simp)
                            first | done | with_reducible rfl
                          simp only [Act.put, List.getElem_toArray, List.getElem_cons_zero, List.getElem_cons_succ, List.setIfInBounds_toArray, List.set_cons_zero, List.set_cons_succ]
                          refine wpAnyH_take (i := 21) (v := ?_) rfl (by kernel_rfl) (by kernel_rfl) (by kernel_rfl) (fun _ _ _ h => h) (Or.inl ⟨by rfl, ?_⟩) (by assumption) ?_
                          rotate_left
                          · (intro w hSw; (try dsimp only at hSw); go_simp)
                            first | done | with_reducible rfl
                          simp only [Act.put, List.getElem_toArray, List.getElem_cons_zero, List.getElem_cons_succ, List.setIfInBounds_toArray, List.set_cons_zero, List.set_cons_succ]
                          refine wpAnyH_take (i := 22) (v := ?_) rfl (by kernel_rfl) (by kernel_rfl) (by kernel_rfl) (fun _ _ _ h => h) (Or.inl ⟨by rfl, ?_⟩) (by assumption) ?_
                          rotate_left
                          · (intro w hSw; (try dsimp only at hSw); go_simp)
                            first | done | with_reducible rfl
                          simp only [Act.put, List.getElem_toArray, List.getElem_cons_zero, List.getElem_cons_succ, List.setIfInBounds_toArray, List.set_cons_zero, List.set_cons_succ]
                          refine wpAnyH_take (i := 23) (v := ?_) rfl (by kernel_rfl) (by kernel_rfl) (by kernel_rfl) (fun _ _ _ h => h) (Or.inl ⟨by rfl, ?_⟩) (by assumption) ?_
                          rotate_left
                          · (intro w hSw; (try dsimp only at hSw); go_simp)
                            first | done | with_reducible rfl
                          simp only [Act.put, List.getElem_toArray, List.getElem_cons_zero, List.getElem_cons_succ, List.setIfInBounds_toArray, List.set_cons_zero, List.set_cons_succ]
                          try simp only [kk]
                          refine wpAnyH_take (i := 24) (v := ?_) rfl (by kernel_rfl) (by kernel_rfl) (by kernel_rfl) (fun _ _ _ h => h) (Or.inl ⟨by rfl, ?_⟩) (by assumption) ?_
                          rotate_left
                          · (intro w hSw; (try dsimp only at hSw); go_simp)
                            first | done | with_reducible rfl
                          simp only [Act.put, List.getElem_toArray, List.getElem_cons_zero, List.getElem_cons_succ, List.setIfInBounds_toArray, List.set_cons_zero, List.set_cons_succ]
                          refine wpAnyH_take (i := 25) rfl (by kernel_rfl) (by kernel_rfl) (by kernel_rfl) (fun _ _ _ h => h) (Or.inr ⟨by rfl, rfl⟩) (by assumption) ?_
                          simp only [Act.put, List.getElem_toArray, List.getElem_cons_zero, List.getElem_cons_succ, List.setIfInBounds_toArray, List.set_cons_zero, List.set_cons_succ]
                          refine wpAnyH_take (i := 26) rfl (by kernel_rfl) (by kernel_rfl) (by kernel_rfl) (fun _ _ _ h => h) (Or.inr ⟨by rfl, rfl⟩) (by assumption) ?_
                          simp only [Act.put, List.getElem_toArray, List.getElem_cons_zero, List.getElem_cons_succ, List.setIfInBounds_toArray, List.set_cons_zero, List.set_cons_succ]
                          refine wpAnyH_take (i := 27) rfl (by kernel_rfl) (by kernel_rfl) (by kernel_rfl) (fun _ _ _ h => h) (Or.inr ⟨by rfl, rfl⟩) (by assumption) ?_
                          simp only [Act.put, List.getElem_toArray, List.getElem_cons_zero, List.getElem_cons_succ, List.setIfInBounds_toArray, List.set_cons_zero, List.set_cons_succ]
                          refine wpAnyH_take (i := 28) rfl (by kernel_rfl) (by kernel_rfl) (by kernel_rfl) (fun _ _ _ h => h) (Or.inr ⟨by rfl, rfl⟩) (by assumption) ?_
                          simp only [Act.put, List.getElem_toArray, List.getElem_cons_zero, List.getElem_cons_succ, List.setIfInBounds_toArray, List.set_cons_zero, List.set_cons_succ]
                          refine wpAnyH_take (i := 29) rfl (by kernel_rfl) (by kernel_rfl) (by kernel_rfl) (fun _ _ _ h => h) (Or.inr ⟨by rfl, rfl⟩) (by assumption) ?_
                          simp only [Act.put, List.getElem_toArray, List.getElem_cons_zero, List.getElem_cons_succ, List.setIfInBounds_toArray, List.set_cons_zero, List.set_cons_succ]
                          refine wpAnyH_take (i := 30) rfl (by kernel_rfl) (by kernel_rfl) (by kernel_rfl) (fun _ _ _ h => h) (Or.inr ⟨by rfl, rfl⟩) (by assumption) ?_
                          simp only [Act.put, List.getElem_toArray, List.getElem_cons_zero, List.getElem_cons_succ, List.setIfInBounds_toArray, List.set_cons_zero, List.set_cons_succ]
                          refine wpAnyH_take (i := 31) rfl (by kernel_rfl) (by kernel_rfl) (by kernel_rfl) (fun _ _ _ h => h) (Or.inr ⟨by rfl, rfl⟩) (by assumption) ?_
                          simp only [Act.put, List.getElem_toArray, List.getElem_cons_zero, List.getElem_cons_succ, List.setIfInBounds_toArray, List.set_cons_zero, List.set_cons_succ]
                          refine wpAnyH_take (i := 32) rfl (by kernel_rfl) (by kernel_rfl) (by kernel_rfl) (fun _ _ _ h => h) (Or.inr ⟨by rfl, rfl⟩) (by assumption) ?_
                          simp only [Act.put, List.getElem_toArray, List.getElem_cons_zero, List.getElem_cons_succ, List.setIfInBounds_toArray, List.set_cons_zero, List.set_cons_succ]
                          refine wpAnyH_take (i := 33) rfl (by kernel_rfl) (by kernel_rfl) (by kernel_rfl) (fun _ _ _ h => h) (Or.inr ⟨by rfl, rfl⟩) (by assumption) ?_
                          simp only [Act.put, List.getElem_toArray, List.getElem_cons_zero, List.getElem_cons_succ, List.setIfInBounds_toArray, List.set_cons_zero, List.set_cons_succ]
                          refine wpAnyH_take (i := 34) (v := ?_) rfl (by kernel_rfl) (by kernel_rfl) (by kernel_rfl) (fun _ _ _ h => h) (Or.inl ⟨by rfl, ?_⟩) (by assumption) ?_
                          rotate_left
                          · (intro w hSw; (try dsimp only at hSw); go_simp)
                            first | done | with_reducible rfl
                          simp only [Act.put, List.getElem_toArray, List.getElem_cons_zero, List.getElem_cons_succ, List.setIfInBounds_toArray, List.set_cons_zero, List.set_cons_succ]
                          refine wpAnyH_take (i := 35) (v := ?_) rfl (by kernel_rfl) (by kernel_rfl) (by kernel_rfl) (fun _ _ _ h => h) (Or.inl ⟨by rfl, ?_⟩) (by assumption) ?_
                          rotate_left
                          · (intro w hSw; (try dsimp only at hSw); go_simp)
                            first | done | with_reducible rfl
                          simp only [Act.put, List.getElem_toArray, List.getElem_cons_zero, List.getElem_cons_succ, List.setIfInBounds_toArray, List.set_cons_zero, List.set_cons_succ]
                          refine wpAnyH_done (by kernel_rfl) ?_ _
                          have HU9 := Lib.hid ((HU5.out.drew.trans hu1).trans hu2)
                          clear HU5 hHeld y0 y1 y2 y3 z0 z1 z2
                          go_wp2_with fail
                          go_roundw
                          case rel => exact ⟨k + 1, by omega, by go_num, HA3, HU9.out⟩
                          case measure => simp [intOf]; omega
                        · obtain ⟨q0, q1, q2⟩ := HPR5.out (by omega)
                          have kk : (0 : Int) < (k : Int) := by omega
                          have kkT : decide (0 < k) = true := decide_eq_true (by omega)
                          have i0 : IntKind.i64.wrap ((k : Int) - 1) = (k : Int) - 1 := IntWalk.i64_in _ (by omega)
                          have i1 : ((k : Int) - 1).toNat = k - 1 := by omega
                          have i3 : (0 : Int) ≤ (k : Int) - 1 := by omega
                          have i5 : (1 : Int) ≤ (k : Int) := by omega
                          have i4 : (k : Int) - 1 < (eds.length : Int) := by omega
                          cases hlt9 : edLt pk ⟨fr, lb, td⟩ with
                          | false =>
                            rw [hlt9] at SC
                            have HR := Lib.hid (show sysOk ⟨st, ini, labs, eds⟩ = false by rw [HOK3.out, HA2.out, HEP.out, hlt9, decide_eq_false k0]; simp)
                            clear HOK3 HA2 HEP
                            clear hlt9 k0 HPR5
                            refine wp_region_held_drew (S := fun w' => w'.cell? ⟨w.heap.size, 0, none⟩ = some (ei st) ∧ w'.cell? ⟨w.heap.size, 1, none⟩ = some (ei ini) ∧ w'.cell? ⟨w.heap.size, 2, none⟩ = some (.slice a1 labs.length c1) ∧ w'.cell? ⟨w.heap.size, 3, none⟩ = some (.slice (some ⟨b1, o1, none⟩) eds.length c2) ∧ w'.cell? ⟨BB, 0, none⟩ = some (ei fr) ∧ w'.cell? ⟨BB, 1, none⟩ = some (ei lb) ∧ w'.cell? ⟨BB, 2, none⟩ = some (ei td) ∧ w'.cell? ⟨b1, o1 + (k - 1) * 3, none⟩ = some (ei pk.fr) ∧ w'.cell? ⟨b1, o1 + (k - 1) * 3 + 1, none⟩ = some (ei pk.lb) ∧ w'.cell? ⟨b1, o1 + (k - 1) * 3 + 2, none⟩ = some (ei pk.to)) (by kernel_rfl) ?_ (fun hHeld => ?_)
                            · exact ⟨y0, y1, y2, y3, z0, z1, z2, q0, q1, q2⟩
                            refine wpAnyH_take (i := 0) (v := ?_) rfl (by kernel_rfl) (by kernel_rfl) (by kernel_rfl) (fun _ _ _ h => h) (Or.inl ⟨by rfl, ?_⟩) (by assumption) ?_
                            rotate_left
                            · (intro w hSw; (try dsimp only at hSw); go_simp)
                              first | done | with_reducible rfl
                            simp only [Act.put, List.getElem_toArray, List.getElem_cons_zero, List.setIfInBounds_toArray, List.set_cons_zero, List.set_cons_succ]
                            refine wpAnyH_take (i := 1) (v := ?_) rfl (by kernel_rfl) (by kernel_rfl) (by kernel_rfl) (fun _ _ _ h => h) (Or.inl ⟨by rfl, ?_⟩) (by assumption) ?_
                            rotate_left
                            · (intro w hSw; (try dsimp only at hSw); go_simp)
                              first | done | with_reducible rfl
                            simp only [Act.put, List.getElem_toArray, List.getElem_cons_zero, List.getElem_cons_succ, List.setIfInBounds_toArray, List.set_cons_zero, List.set_cons_succ]
                            refine wpAnyH_take (i := 2) (v := ?_) rfl (by kernel_rfl) (by kernel_rfl) (by kernel_rfl) (fun _ _ _ h => h) (Or.inl ⟨by rfl, ?_⟩) (by assumption) ?_
                            rotate_left
                            · (intro w hSw; (try dsimp only at hSw); go_simp)
                              first | done | with_reducible rfl
                            simp only [Act.put, List.getElem_toArray, List.getElem_cons_zero, List.getElem_cons_succ, List.setIfInBounds_toArray, List.set_cons_zero, List.set_cons_succ]
                            refine wpAnyH_ready (rs := [3]) (by kernel_rfl) (by simp) ?_
                            refine AllReadyH.cons rfl (fun K hK => ?_) AllReadyH.nil
                            go_simp
                            refine (SF.out _).mono ?_
                            rintro e w3 ⟨rfl, hu1⟩
                            refine hK.out _ _ ?_ (fun hHeld => ?_)
                            · exact ⟨hu1.keep hHeld.1, hu1.keep hHeld.2.1, hu1.keep hHeld.2.2.1, hu1.keep hHeld.2.2.2.1, hu1.keep hHeld.2.2.2.2.1, hu1.keep hHeld.2.2.2.2.2.1, hu1.keep hHeld.2.2.2.2.2.2.1, hu1.keep hHeld.2.2.2.2.2.2.2.1, hu1.keep hHeld.2.2.2.2.2.2.2.2.1, hu1.keep hHeld.2.2.2.2.2.2.2.2.2⟩
                            clear hK K
                            try simp only [Act.put, List.getElem_toArray, List.getElem_cons_zero, List.getElem_cons_succ, List.setIfInBounds_toArray, List.set_cons_zero, List.set_cons_succ]
                            refine wpAnyH_take (i := 4) (v := ?_) rfl (by kernel_rfl) (by kernel_rfl) (by kernel_rfl) (fun _ _ _ h => h) (Or.inl ⟨by rfl, ?_⟩) (by assumption) ?_
                            rotate_left
                            · (intro w hSw; (try dsimp only at hSw); go_simp)
                              first | done | with_reducible rfl
                            simp only [Act.put, List.getElem_toArray, List.getElem_cons_zero, List.getElem_cons_succ, List.setIfInBounds_toArray, List.set_cons_zero, List.set_cons_succ]
                            refine wpAnyH_take (i := 5) (v := ?_) rfl (by kernel_rfl) (by kernel_rfl) (by kernel_rfl) (fun _ _ _ h => h) (Or.inl ⟨by rfl, ?_⟩) (by assumption) ?_
                            rotate_left
                            · (intro w hSw; (try dsimp only at hSw); go_simp)
                              first | done | with_reducible rfl
                            simp only [Act.put, List.getElem_toArray, List.getElem_cons_zero, List.getElem_cons_succ, List.setIfInBounds_toArray, List.set_cons_zero, List.set_cons_succ]
                            refine wpAnyH_take (i := 6) (v := ?_) rfl (by kernel_rfl) (by kernel_rfl) (by kernel_rfl) (fun _ _ _ h => h) (Or.inl ⟨by rfl, ?_⟩) (by assumption) ?_
                            rotate_left
                            · (intro w hSw; (try dsimp only at hSw); go_simp)
                              first | done | with_reducible rfl
                            simp only [Act.put, List.getElem_toArray, List.getElem_cons_zero, List.getElem_cons_succ, List.setIfInBounds_toArray, List.set_cons_zero, List.set_cons_succ]
                            refine wpAnyH_take (i := 7) (v := ?_) rfl (by kernel_rfl) (by kernel_rfl) (by kernel_rfl) (fun _ _ _ h => h) (Or.inl ⟨by rfl, ?_⟩) (by assumption) ?_
                            rotate_left
                            · (intro w hSw; (try dsimp only at hSw); go_simp)
                              first | done | with_reducible rfl
                            simp only [Act.put, List.getElem_toArray, List.getElem_cons_zero, List.getElem_cons_succ, List.setIfInBounds_toArray, List.set_cons_zero, List.set_cons_succ]
                            refine wpAnyH_take (i := 8) (v := ?_) rfl (by kernel_rfl) (by kernel_rfl) (by kernel_rfl) (fun _ _ _ h => h) (Or.inl ⟨by rfl, ?_⟩) (by assumption) ?_
                            rotate_left
                            · (intro w hSw; (try dsimp only at hSw); go_simp)
                              first | done | with_reducible rfl
                            simp only [Act.put, List.getElem_toArray, List.getElem_cons_zero, List.getElem_cons_succ, List.setIfInBounds_toArray, List.set_cons_zero, List.set_cons_succ]
                            refine wpAnyH_ready (rs := [9]) (by kernel_rfl) (by simp) ?_
                            refine AllReadyH.cons rfl (fun K hK => ?_) AllReadyH.nil
                            go_simp
                            refine (ST.out _).mono ?_
                            rintro e w9 ⟨rfl, hu2⟩
                            refine hK.out _ _ ?_ (fun hHeld => ?_)
                            · exact ⟨hu2.keep hHeld.1, hu2.keep hHeld.2.1, hu2.keep hHeld.2.2.1, hu2.keep hHeld.2.2.2.1, hu2.keep hHeld.2.2.2.2.1, hu2.keep hHeld.2.2.2.2.2.1, hu2.keep hHeld.2.2.2.2.2.2.1, hu2.keep hHeld.2.2.2.2.2.2.2.1, hu2.keep hHeld.2.2.2.2.2.2.2.2.1, hu2.keep hHeld.2.2.2.2.2.2.2.2.2⟩
                            clear hK K
                            try simp only [Act.put, List.getElem_toArray, List.getElem_cons_zero, List.getElem_cons_succ, List.setIfInBounds_toArray, List.set_cons_zero, List.set_cons_succ]
                            refine wpAnyH_take (i := 10) (v := ?_) rfl (by kernel_rfl) (by kernel_rfl) (by kernel_rfl) (fun _ _ _ h => h) (Or.inl ⟨by rfl, ?_⟩) (by assumption) ?_
                            rotate_left
                            · (intro w hSw; (try dsimp only at hSw); go_simp)
                              first | done | with_reducible rfl
                            simp only [Act.put, List.getElem_toArray, List.getElem_cons_zero, List.getElem_cons_succ, List.setIfInBounds_toArray, List.set_cons_zero, List.set_cons_succ]
                            refine wpAnyH_take (i := 11) (v := ?_) rfl (by kernel_rfl) (by kernel_rfl) (by kernel_rfl) (fun _ _ _ h => h) (Or.inl ⟨by rfl, ?_⟩) (by assumption) ?_
                            rotate_left
                            · (intro w hSw; (try dsimp only at hSw); go_simp)
                              first | done | with_reducible rfl
                            simp only [Act.put, List.getElem_toArray, List.getElem_cons_zero, List.getElem_cons_succ, List.setIfInBounds_toArray, List.set_cons_zero, List.set_cons_succ]
                            refine wpAnyH_take (i := 12) (v := ?_) rfl (by kernel_rfl) (by kernel_rfl) (by kernel_rfl) (fun _ _ _ h => h) (Or.inl ⟨by rfl, ?_⟩) (by assumption) ?_
                            rotate_left
                            · (intro w hSw; (try dsimp only at hSw); go_simp)
                              first | done | with_reducible rfl
                            simp only [Act.put, List.getElem_toArray, List.getElem_cons_zero, List.getElem_cons_succ, List.setIfInBounds_toArray, List.set_cons_zero, List.set_cons_succ]
                            refine wpAnyH_take (i := 13) (v := ?_) rfl (by kernel_rfl) (by kernel_rfl) (by kernel_rfl) (fun _ _ _ h => h) (Or.inl ⟨by rfl, ?_⟩) (by assumption) ?_
                            rotate_left
                            · (intro w hSw; (try dsimp only at hSw); go_simp)
                              first | done | with_reducible rfl
                            simp only [Act.put, List.getElem_toArray, List.getElem_cons_zero, List.getElem_cons_succ, List.setIfInBounds_toArray, List.set_cons_zero, List.set_cons_succ]
                            refine wpAnyH_take (i := 14) (v := ?_) rfl (by kernel_rfl) (by kernel_rfl) (by kernel_rfl) (fun _ _ _ h => h) (Or.inl ⟨by rfl, ?_⟩) (by assumption) ?_
                            rotate_left
                            · (intro w hSw; (try dsimp only at hSw); go_simp)
                              first | done | with_reducible rfl
                            simp only [Act.put, List.getElem_toArray, List.getElem_cons_zero, List.getElem_cons_succ, List.setIfInBounds_toArray, List.set_cons_zero, List.set_cons_succ]
                            refine wpAnyH_take (i := 15) (v := ?_) rfl (by kernel_rfl) (by kernel_rfl) (by kernel_rfl) (fun _ _ _ h => h) (Or.inl ⟨by rfl, ?_⟩) (by assumption) ?_
                            rotate_left
                            · (intro w hSw; (try dsimp only at hSw); go_simp)
                              first | done | with_reducible rfl
                            simp only [Act.put, List.getElem_toArray, List.getElem_cons_zero, List.getElem_cons_succ, List.setIfInBounds_toArray, List.set_cons_zero, List.set_cons_succ]
                            refine wpAnyH_take (i := 16) (v := ?_) rfl (by kernel_rfl) (by kernel_rfl) (by kernel_rfl) (fun _ _ _ h => h) (Or.inl ⟨by rfl, ?_⟩) (by assumption) ?_
                            rotate_left
                            · (intro w hSw; (try dsimp only at hSw); go_simp)
                              first | done | with_reducible rfl
                            simp only [Act.put, List.getElem_toArray, List.getElem_cons_zero, List.getElem_cons_succ, List.setIfInBounds_toArray, List.set_cons_zero, List.set_cons_succ]
                            refine wpAnyH_take (i := 17) (v := ?_) rfl (by kernel_rfl) (by kernel_rfl) (by kernel_rfl) (fun _ _ _ h => h) (Or.inl ⟨by rfl, ?_⟩) (by assumption) ?_
                            rotate_left
                            · (intro w hSw; (try dsimp only at hSw); go_simp)
                              first | done | with_reducible rfl
                            simp only [Act.put, List.getElem_toArray, List.getElem_cons_zero, List.getElem_cons_succ, List.setIfInBounds_toArray, List.set_cons_zero, List.set_cons_succ]
                            refine wpAnyH_ready (rs := [18]) (by kernel_rfl) (by simp) ?_
                            refine AllReadyH.cons rfl (fun K hK => ?_) AllReadyH.nil
                            go_simp
                            refine (SI.out _).mono ?_
                            rintro e w18 ⟨rfl, rfl⟩
                            refine hK.out _ _ ?_ (fun hHeld => ?_)
                            · exact ⟨hHeld.1, hHeld.2.1, hHeld.2.2.1, hHeld.2.2.2.1, hHeld.2.2.2.2.1, hHeld.2.2.2.2.2.1, hHeld.2.2.2.2.2.2.1, hHeld.2.2.2.2.2.2.2.1, hHeld.2.2.2.2.2.2.2.2.1, hHeld.2.2.2.2.2.2.2.2.2⟩
                            clear hK K
                            try simp only [Act.put, List.getElem_toArray, List.getElem_cons_zero, List.getElem_cons_succ, List.setIfInBounds_toArray, List.set_cons_zero, List.set_cons_succ]
                            refine wpAnyH_take (i := 19) (v := ?_) rfl (by kernel_rfl) (by kernel_rfl) (by kernel_rfl) (fun _ _ _ h => h) (Or.inl ⟨by rfl, ?_⟩) (by assumption) ?_
                            rotate_left
                            · (intro w hSw; (try dsimp only at hSw); go_simp)
                              first | done | with_reducible rfl
                            simp only [Act.put, List.getElem_toArray, List.getElem_cons_zero, List.getElem_cons_succ, List.setIfInBounds_toArray, List.set_cons_zero, List.set_cons_succ]
                            refine wpAnyH_take (i := 20) (v := ?_) rfl (by kernel_rfl) (by kernel_rfl) (by kernel_rfl) (fun _ _ _ h => h) (Or.inl ⟨by rfl, ?_⟩) (by assumption) ?_
                            rotate_left
                            · (intro w hSw; (try dsimp only at hSw); go_simp)
                              first | done | with_reducible rfl
                            simp only [Act.put, List.getElem_toArray, List.getElem_cons_zero, List.getElem_cons_succ, List.setIfInBounds_toArray, List.set_cons_zero, List.set_cons_succ]
                            refine wpAnyH_take (i := 21) (v := ?_) rfl (by kernel_rfl) (by kernel_rfl) (by kernel_rfl) (fun _ _ _ h => h) (Or.inl ⟨by rfl, ?_⟩) (by assumption) ?_
                            rotate_left
                            · (intro w hSw; (try dsimp only at hSw); go_simp)
                              first | done | with_reducible rfl
                            simp only [Act.put, List.getElem_toArray, List.getElem_cons_zero, List.getElem_cons_succ, List.setIfInBounds_toArray, List.set_cons_zero, List.set_cons_succ]
                            refine wpAnyH_take (i := 22) (v := ?_) rfl (by kernel_rfl) (by kernel_rfl) (by kernel_rfl) (fun _ _ _ h => h) (Or.inl ⟨by rfl, ?_⟩) (by assumption) ?_
                            rotate_left
                            · (intro w hSw; (try dsimp only at hSw); go_simp)
                              first | done | with_reducible rfl
                            simp only [Act.put, List.getElem_toArray, List.getElem_cons_zero, List.getElem_cons_succ, List.setIfInBounds_toArray, List.set_cons_zero, List.set_cons_succ]
                            refine wpAnyH_take (i := 23) (v := ?_) rfl (by kernel_rfl) (by kernel_rfl) (by kernel_rfl) (fun _ _ _ h => h) (Or.inl ⟨by rfl, ?_⟩) (by assumption) ?_
                            rotate_left
                            · (intro w hSw; (try dsimp only at hSw); go_simp)
                              first | done | with_reducible rfl
                            simp only [Act.put, List.getElem_toArray, List.getElem_cons_zero, List.getElem_cons_succ, List.setIfInBounds_toArray, List.set_cons_zero, List.set_cons_succ]
                            try simp only [kkT]
                            refine wpAnyH_take (i := 24) (v := ?_) rfl (by kernel_rfl) (by kernel_rfl) (by kernel_rfl) (fun _ _ _ h => h) (Or.inl ⟨by rfl, ?_⟩) (by assumption) ?_
                            rotate_left
                            · (intro w hSw; (try dsimp only at hSw); go_simp)
                              first | done | with_reducible rfl
                            simp only [Act.put, List.getElem_toArray, List.getElem_cons_zero, List.getElem_cons_succ, List.setIfInBounds_toArray, List.set_cons_zero, List.set_cons_succ]
                            refine wpAnyH_take (i := 25) (v := ?_) rfl (by kernel_rfl) (by kernel_rfl) (by kernel_rfl) (fun _ _ _ h => h) (Or.inl ⟨by rfl, ?_⟩) (by assumption) ?_
                            rotate_left
                            · (intro w hSw; (try dsimp only at hSw); go_simp)
                              first | done | with_reducible rfl
                            simp only [Act.put, List.getElem_toArray, List.getElem_cons_zero, List.getElem_cons_succ, List.setIfInBounds_toArray, List.set_cons_zero, List.set_cons_succ]
                            refine wpAnyH_take (i := 26) (v := ?_) rfl (by kernel_rfl) (by kernel_rfl) (by kernel_rfl) (fun _ _ _ h => h) (Or.inl ⟨by rfl, ?_⟩) (by assumption) ?_
                            rotate_left
                            · (intro w hSw; (try dsimp only at hSw); go_simp)
                              first | done | with_reducible rfl
                            simp only [Act.put, List.getElem_toArray, List.getElem_cons_zero, List.getElem_cons_succ, List.setIfInBounds_toArray, List.set_cons_zero, List.set_cons_succ]
                            refine wpAnyH_take (i := 27) (v := ?_) rfl (by kernel_rfl) (by kernel_rfl) (by kernel_rfl) (fun _ _ _ h => h) (Or.inl ⟨by rfl, ?_⟩) (by assumption) ?_
                            rotate_left
                            · (intro w hSw; (try dsimp only at hSw); go_simp)
                              first | done | with_reducible rfl
                            simp only [Act.put, List.getElem_toArray, List.getElem_cons_zero, List.getElem_cons_succ, List.setIfInBounds_toArray, List.set_cons_zero, List.set_cons_succ]
                            refine wpAnyH_take (i := 28) (v := ?_) rfl (by kernel_rfl) (by kernel_rfl) (by kernel_rfl) (fun _ _ _ h => h) (Or.inl ⟨by rfl, ?_⟩) (by assumption) ?_
                            rotate_left
                            · (intro w hSw; (try dsimp only at hSw); go_simp)
                              first | done | with_reducible rfl
                            simp only [Act.put, List.getElem_toArray, List.getElem_cons_zero, List.getElem_cons_succ, List.setIfInBounds_toArray, List.set_cons_zero, List.set_cons_succ]
                            try simp only [i0]
                            refine wpAnyH_take (i := 29) (v := ?_) rfl (by kernel_rfl) (by kernel_rfl) (by kernel_rfl) (fun _ _ _ h => h) (Or.inl ⟨by rfl, ?_⟩) (by assumption) ?_
                            rotate_left
                            · (intro w hSw; (try dsimp only at hSw); go_simp)
                              first | done | with_reducible rfl
                            simp only [Act.put, List.getElem_toArray, List.getElem_cons_zero, List.getElem_cons_succ, List.setIfInBounds_toArray, List.set_cons_zero, List.set_cons_succ]
                            try simp only [i1]
                            refine wpAnyH_take (i := 30) (v := ?_) rfl (by kernel_rfl) (by kernel_rfl) (by kernel_rfl) (fun _ _ _ h => h) (Or.inl ⟨by rfl, ?_⟩) (by assumption) ?_
                            rotate_left
                            · (intro w hSw; (try dsimp only at hSw); go_simp)
                              first | done | with_reducible rfl
                            simp only [Act.put, List.getElem_toArray, List.getElem_cons_zero, List.getElem_cons_succ, List.setIfInBounds_toArray, List.set_cons_zero, List.set_cons_succ]
                            refine wpAnyH_take (i := 31) (v := ?_) rfl (by kernel_rfl) (by kernel_rfl) (by kernel_rfl) (fun _ _ _ h => h) (Or.inl ⟨by rfl, ?_⟩) (by assumption) ?_
                            rotate_left
                            · (intro w hSw; (try dsimp only at hSw); go_simp)
                              first | done | with_reducible rfl
                            simp only [Act.put, List.getElem_toArray, List.getElem_cons_zero, List.getElem_cons_succ, List.setIfInBounds_toArray, List.set_cons_zero, List.set_cons_succ]
                            refine wpAnyH_ready (rs := [32]) (by kernel_rfl) (by simp) ?_
                            refine AllReadyH.cons rfl (fun K hK => ?_) AllReadyH.nil
                            go_simp
                            refine (SC.out _).mono ?_
                            rintro e w32 ⟨⟨cc, rfl, hcc⟩, hu4⟩
                            have hc9 : (0 : Int) ≤ cc := by simpa using hcc
                            clear hcc
                            refine hK.out _ _ ?_ (fun hHeld => ?_)
                            · exact ⟨hu4.keep hHeld.1, hu4.keep hHeld.2.1, hu4.keep hHeld.2.2.1, hu4.keep hHeld.2.2.2.1, hu4.keep hHeld.2.2.2.2.1, hu4.keep hHeld.2.2.2.2.2.1, hu4.keep hHeld.2.2.2.2.2.2.1, hu4.keep hHeld.2.2.2.2.2.2.2.1, hu4.keep hHeld.2.2.2.2.2.2.2.2.1, hu4.keep hHeld.2.2.2.2.2.2.2.2.2⟩
                            clear hK K
                            try simp only [Act.put, List.getElem_toArray, List.getElem_cons_zero, List.getElem_cons_succ, List.setIfInBounds_toArray, List.set_cons_zero, List.set_cons_succ]
                            refine wpAnyH_take (i := 33) (v := ?_) rfl (by kernel_rfl) (by kernel_rfl) (by kernel_rfl) (fun _ _ _ h => h) (Or.inl ⟨by rfl, ?_⟩) (by assumption) ?_
                            rotate_left
                            · (intro w hSw; (try dsimp only at hSw); go_simp)
                              first | done | with_reducible rfl
                            simp only [Act.put, List.getElem_toArray, List.getElem_cons_zero, List.getElem_cons_succ, List.setIfInBounds_toArray, List.set_cons_zero, List.set_cons_succ]
                            refine wpAnyH_take (i := 34) (v := ?_) rfl (by kernel_rfl) (by kernel_rfl) (by kernel_rfl) (fun _ _ _ h => h) (Or.inl ⟨by rfl, ?_⟩) (by assumption) ?_
                            rotate_left
                            · (intro w hSw; (try dsimp only at hSw); go_simp)
                              first | done | with_reducible rfl
                            simp only [Act.put, List.getElem_toArray, List.getElem_cons_zero, List.getElem_cons_succ, List.setIfInBounds_toArray, List.set_cons_zero, List.set_cons_succ]
                            refine wpAnyH_take (i := 35) (v := ?_) rfl (by kernel_rfl) (by kernel_rfl) (by kernel_rfl) (fun _ _ _ h => h) (Or.inl ⟨by rfl, ?_⟩) (by assumption) ?_
                            rotate_left
                            · (intro w hSw; (try dsimp only at hSw); go_simp)
                              first | done | with_reducible rfl
                            simp only [Act.put, List.getElem_toArray, List.getElem_cons_zero, List.getElem_cons_succ, List.setIfInBounds_toArray, List.set_cons_zero, List.set_cons_succ]
                            refine wpAnyH_done (by kernel_rfl) ?_ _
                            have HU9 := Lib.hid (HB0.out.trans (((HU5.out.drew.trans hu1).trans hu2).trans hu4))
                            clear q0 q1 q2 HU5 hHeld y0 y1 y2 y3 z0 z1 z2
                            go_wp2_with fail
                            go_ret
                            exact ⟨by rw [HR.out]; rfl, HU9.out⟩
                          | true =>
                            rw [hlt9] at SC
                            have HA3 := Lib.hid (show allF (edP ⟨st, ini, labs, eds⟩) (k + 1) (eds.length - (k + 1)) = allF (edP ⟨st, ini, labs, eds⟩) 0 eds.length by rw [HA2.out, HEP.out, hlt9]; simp)
                            clear HA2 HEP hlt9 k0 HPR5
                            refine wp_region_held_drew (S := fun w' => w'.cell? ⟨w.heap.size, 0, none⟩ = some (ei st) ∧ w'.cell? ⟨w.heap.size, 1, none⟩ = some (ei ini) ∧ w'.cell? ⟨w.heap.size, 2, none⟩ = some (.slice a1 labs.length c1) ∧ w'.cell? ⟨w.heap.size, 3, none⟩ = some (.slice (some ⟨b1, o1, none⟩) eds.length c2) ∧ w'.cell? ⟨BB, 0, none⟩ = some (ei fr) ∧ w'.cell? ⟨BB, 1, none⟩ = some (ei lb) ∧ w'.cell? ⟨BB, 2, none⟩ = some (ei td) ∧ w'.cell? ⟨b1, o1 + (k - 1) * 3, none⟩ = some (ei pk.fr) ∧ w'.cell? ⟨b1, o1 + (k - 1) * 3 + 1, none⟩ = some (ei pk.lb) ∧ w'.cell? ⟨b1, o1 + (k - 1) * 3 + 2, none⟩ = some (ei pk.to)) (by kernel_rfl) ?_ (fun hHeld => ?_)
                            · exact ⟨y0, y1, y2, y3, z0, z1, z2, q0, q1, q2⟩
                            refine wpAnyH_take (i := 0) (v := ?_) rfl (by kernel_rfl) (by kernel_rfl) (by kernel_rfl) (fun _ _ _ h => h) (Or.inl ⟨by rfl, ?_⟩) (by assumption) ?_
                            rotate_left
                            · (intro w hSw; (try dsimp only at hSw); go_simp)
                              first | done | with_reducible rfl
                            simp only [Act.put, List.getElem_toArray, List.getElem_cons_zero, List.setIfInBounds_toArray, List.set_cons_zero, List.set_cons_succ]
                            refine wpAnyH_take (i := 1) (v := ?_) rfl (by kernel_rfl) (by kernel_rfl) (by kernel_rfl) (fun _ _ _ h => h) (Or.inl ⟨by rfl, ?_⟩) (by assumption) ?_
                            rotate_left
                            · (intro w hSw; (try dsimp only at hSw); go_simp)
                              first | done | with_reducible rfl
                            simp only [Act.put, List.getElem_toArray, List.getElem_cons_zero, List.getElem_cons_succ, List.setIfInBounds_toArray, List.set_cons_zero, List.set_cons_succ]
                            refine wpAnyH_take (i := 2) (v := ?_) rfl (by kernel_rfl) (by kernel_rfl) (by kernel_rfl) (fun _ _ _ h => h) (Or.inl ⟨by rfl, ?_⟩) (by assumption) ?_
                            rotate_left
                            · (intro w hSw; (try dsimp only at hSw); go_simp)
                              first | done | with_reducible rfl
                            simp only [Act.put, List.getElem_toArray, List.getElem_cons_zero, List.getElem_cons_succ, List.setIfInBounds_toArray, List.set_cons_zero, List.set_cons_succ]
                            refine wpAnyH_ready (rs := [3]) (by kernel_rfl) (by simp) ?_
                            refine AllReadyH.cons rfl (fun K hK => ?_) AllReadyH.nil
                            go_simp
                            refine (SF.out _).mono ?_
                            rintro e w3 ⟨rfl, hu1⟩
                            refine hK.out _ _ ?_ (fun hHeld => ?_)
                            · exact ⟨hu1.keep hHeld.1, hu1.keep hHeld.2.1, hu1.keep hHeld.2.2.1, hu1.keep hHeld.2.2.2.1, hu1.keep hHeld.2.2.2.2.1, hu1.keep hHeld.2.2.2.2.2.1, hu1.keep hHeld.2.2.2.2.2.2.1, hu1.keep hHeld.2.2.2.2.2.2.2.1, hu1.keep hHeld.2.2.2.2.2.2.2.2.1, hu1.keep hHeld.2.2.2.2.2.2.2.2.2⟩
                            clear hK K
                            try simp only [Act.put, List.getElem_toArray, List.getElem_cons_zero, List.getElem_cons_succ, List.setIfInBounds_toArray, List.set_cons_zero, List.set_cons_succ]
                            refine wpAnyH_take (i := 4) (v := ?_) rfl (by kernel_rfl) (by kernel_rfl) (by kernel_rfl) (fun _ _ _ h => h) (Or.inl ⟨by rfl, ?_⟩) (by assumption) ?_
                            rotate_left
                            · (intro w hSw; (try dsimp only at hSw); go_simp)
                              first | done | with_reducible rfl
                            simp only [Act.put, List.getElem_toArray, List.getElem_cons_zero, List.getElem_cons_succ, List.setIfInBounds_toArray, List.set_cons_zero, List.set_cons_succ]
                            refine wpAnyH_take (i := 5) (v := ?_) rfl (by kernel_rfl) (by kernel_rfl) (by kernel_rfl) (fun _ _ _ h => h) (Or.inl ⟨by rfl, ?_⟩) (by assumption) ?_
                            rotate_left
                            · (intro w hSw; (try dsimp only at hSw); go_simp)
                              first | done | with_reducible rfl
                            simp only [Act.put, List.getElem_toArray, List.getElem_cons_zero, List.getElem_cons_succ, List.setIfInBounds_toArray, List.set_cons_zero, List.set_cons_succ]
                            refine wpAnyH_take (i := 6) (v := ?_) rfl (by kernel_rfl) (by kernel_rfl) (by kernel_rfl) (fun _ _ _ h => h) (Or.inl ⟨by rfl, ?_⟩) (by assumption) ?_
                            rotate_left
                            · (intro w hSw; (try dsimp only at hSw); go_simp)
                              first | done | with_reducible rfl
                            simp only [Act.put, List.getElem_toArray, List.getElem_cons_zero, List.getElem_cons_succ, List.setIfInBounds_toArray, List.set_cons_zero, List.set_cons_succ]
                            refine wpAnyH_take (i := 7) (v := ?_) rfl (by kernel_rfl) (by kernel_rfl) (by kernel_rfl) (fun _ _ _ h => h) (Or.inl ⟨by rfl, ?_⟩) (by assumption) ?_
                            rotate_left
                            · (intro w hSw; (try dsimp only at hSw); go_simp)
                              first | done | with_reducible rfl
                            simp only [Act.put, List.getElem_toArray, List.getElem_cons_zero, List.getElem_cons_succ, List.setIfInBounds_toArray, List.set_cons_zero, List.set_cons_succ]
                            refine wpAnyH_take (i := 8) (v := ?_) rfl (by kernel_rfl) (by kernel_rfl) (by kernel_rfl) (fun _ _ _ h => h) (Or.inl ⟨by rfl, ?_⟩) (by assumption) ?_
                            rotate_left
                            · (intro w hSw; (try dsimp only at hSw); go_simp)
                              first | done | with_reducible rfl
                            simp only [Act.put, List.getElem_toArray, List.getElem_cons_zero, List.getElem_cons_succ, List.setIfInBounds_toArray, List.set_cons_zero, List.set_cons_succ]
                            refine wpAnyH_ready (rs := [9]) (by kernel_rfl) (by simp) ?_
                            refine AllReadyH.cons rfl (fun K hK => ?_) AllReadyH.nil
                            go_simp
                            refine (ST.out _).mono ?_
                            rintro e w9 ⟨rfl, hu2⟩
                            refine hK.out _ _ ?_ (fun hHeld => ?_)
                            · exact ⟨hu2.keep hHeld.1, hu2.keep hHeld.2.1, hu2.keep hHeld.2.2.1, hu2.keep hHeld.2.2.2.1, hu2.keep hHeld.2.2.2.2.1, hu2.keep hHeld.2.2.2.2.2.1, hu2.keep hHeld.2.2.2.2.2.2.1, hu2.keep hHeld.2.2.2.2.2.2.2.1, hu2.keep hHeld.2.2.2.2.2.2.2.2.1, hu2.keep hHeld.2.2.2.2.2.2.2.2.2⟩
                            clear hK K
                            try simp only [Act.put, List.getElem_toArray, List.getElem_cons_zero, List.getElem_cons_succ, List.setIfInBounds_toArray, List.set_cons_zero, List.set_cons_succ]
                            refine wpAnyH_take (i := 10) (v := ?_) rfl (by kernel_rfl) (by kernel_rfl) (by kernel_rfl) (fun _ _ _ h => h) (Or.inl ⟨by rfl, ?_⟩) (by assumption) ?_
                            rotate_left
                            · (intro w hSw; (try dsimp only at hSw); go_simp)
                              first | done | with_reducible rfl
                            simp only [Act.put, List.getElem_toArray, List.getElem_cons_zero, List.getElem_cons_succ, List.setIfInBounds_toArray, List.set_cons_zero, List.set_cons_succ]
                            refine wpAnyH_take (i := 11) (v := ?_) rfl (by kernel_rfl) (by kernel_rfl) (by kernel_rfl) (fun _ _ _ h => h) (Or.inl ⟨by rfl, ?_⟩) (by assumption) ?_
                            rotate_left
                            · (intro w hSw; (try dsimp only at hSw); go_simp)
                              first | done | with_reducible rfl
                            simp only [Act.put, List.getElem_toArray, List.getElem_cons_zero, List.getElem_cons_succ, List.setIfInBounds_toArray, List.set_cons_zero, List.set_cons_succ]
                            refine wpAnyH_take (i := 12) (v := ?_) rfl (by kernel_rfl) (by kernel_rfl) (by kernel_rfl) (fun _ _ _ h => h) (Or.inl ⟨by rfl, ?_⟩) (by assumption) ?_
                            rotate_left
                            · (intro w hSw; (try dsimp only at hSw); go_simp)
                              first | done | with_reducible rfl
                            simp only [Act.put, List.getElem_toArray, List.getElem_cons_zero, List.getElem_cons_succ, List.setIfInBounds_toArray, List.set_cons_zero, List.set_cons_succ]
                            refine wpAnyH_take (i := 13) (v := ?_) rfl (by kernel_rfl) (by kernel_rfl) (by kernel_rfl) (fun _ _ _ h => h) (Or.inl ⟨by rfl, ?_⟩) (by assumption) ?_
                            rotate_left
                            · (intro w hSw; (try dsimp only at hSw); go_simp)
                              first | done | with_reducible rfl
                            simp only [Act.put, List.getElem_toArray, List.getElem_cons_zero, List.getElem_cons_succ, List.setIfInBounds_toArray, List.set_cons_zero, List.set_cons_succ]
                            refine wpAnyH_take (i := 14) (v := ?_) rfl (by kernel_rfl) (by kernel_rfl) (by kernel_rfl) (fun _ _ _ h => h) (Or.inl ⟨by rfl, ?_⟩) (by assumption) ?_
                            rotate_left
                            · (intro w hSw; (try dsimp only at hSw); go_simp)
                              first | done | with_reducible rfl
                            simp only [Act.put, List.getElem_toArray, List.getElem_cons_zero, List.getElem_cons_succ, List.setIfInBounds_toArray, List.set_cons_zero, List.set_cons_succ]
                            refine wpAnyH_take (i := 15) (v := ?_) rfl (by kernel_rfl) (by kernel_rfl) (by kernel_rfl) (fun _ _ _ h => h) (Or.inl ⟨by rfl, ?_⟩) (by assumption) ?_
                            rotate_left
                            · (intro w hSw; (try dsimp only at hSw); go_simp)
                              first | done | with_reducible rfl
                            simp only [Act.put, List.getElem_toArray, List.getElem_cons_zero, List.getElem_cons_succ, List.setIfInBounds_toArray, List.set_cons_zero, List.set_cons_succ]
                            refine wpAnyH_take (i := 16) (v := ?_) rfl (by kernel_rfl) (by kernel_rfl) (by kernel_rfl) (fun _ _ _ h => h) (Or.inl ⟨by rfl, ?_⟩) (by assumption) ?_
                            rotate_left
                            · (intro w hSw; (try dsimp only at hSw); go_simp)
                              first | done | with_reducible rfl
                            simp only [Act.put, List.getElem_toArray, List.getElem_cons_zero, List.getElem_cons_succ, List.setIfInBounds_toArray, List.set_cons_zero, List.set_cons_succ]
                            refine wpAnyH_take (i := 17) (v := ?_) rfl (by kernel_rfl) (by kernel_rfl) (by kernel_rfl) (fun _ _ _ h => h) (Or.inl ⟨by rfl, ?_⟩) (by assumption) ?_
                            rotate_left
                            · (intro w hSw; (try dsimp only at hSw); go_simp)
                              first | done | with_reducible rfl
                            simp only [Act.put, List.getElem_toArray, List.getElem_cons_zero, List.getElem_cons_succ, List.setIfInBounds_toArray, List.set_cons_zero, List.set_cons_succ]
                            refine wpAnyH_ready (rs := [18]) (by kernel_rfl) (by simp) ?_
                            refine AllReadyH.cons rfl (fun K hK => ?_) AllReadyH.nil
                            go_simp
                            refine (SI.out _).mono ?_
                            rintro e w18 ⟨rfl, rfl⟩
                            refine hK.out _ _ ?_ (fun hHeld => ?_)
                            · exact ⟨hHeld.1, hHeld.2.1, hHeld.2.2.1, hHeld.2.2.2.1, hHeld.2.2.2.2.1, hHeld.2.2.2.2.2.1, hHeld.2.2.2.2.2.2.1, hHeld.2.2.2.2.2.2.2.1, hHeld.2.2.2.2.2.2.2.2.1, hHeld.2.2.2.2.2.2.2.2.2⟩
                            clear hK K
                            try simp only [Act.put, List.getElem_toArray, List.getElem_cons_zero, List.getElem_cons_succ, List.setIfInBounds_toArray, List.set_cons_zero, List.set_cons_succ]
                            refine wpAnyH_take (i := 19) (v := ?_) rfl (by kernel_rfl) (by kernel_rfl) (by kernel_rfl) (fun _ _ _ h => h) (Or.inl ⟨by rfl, ?_⟩) (by assumption) ?_
                            rotate_left
                            · (intro w hSw; (try dsimp only at hSw); go_simp)
                              first | done | with_reducible rfl
                            simp only [Act.put, List.getElem_toArray, List.getElem_cons_zero, List.getElem_cons_succ, List.setIfInBounds_toArray, List.set_cons_zero, List.set_cons_succ]
                            refine wpAnyH_take (i := 20) (v := ?_) rfl (by kernel_rfl) (by kernel_rfl) (by kernel_rfl) (fun _ _ _ h => h) (Or.inl ⟨by rfl, ?_⟩) (by assumption) ?_
                            rotate_left
                            · (intro w hSw; (try dsimp only at hSw); go_simp)
                              first | done | with_reducible rfl
                            simp only [Act.put, List.getElem_toArray, List.getElem_cons_zero, List.getElem_cons_succ, List.setIfInBounds_toArray, List.set_cons_zero, List.set_cons_succ]
                            refine wpAnyH_take (i := 21) (v := ?_) rfl (by kernel_rfl) (by kernel_rfl) (by kernel_rfl) (fun _ _ _ h => h) (Or.inl ⟨by rfl, ?_⟩) (by assumption) ?_
                            rotate_left
                            · (intro w hSw; (try dsimp only at hSw); go_simp)
                              first | done | with_reducible rfl
                            simp only [Act.put, List.getElem_toArray, List.getElem_cons_zero, List.getElem_cons_succ, List.setIfInBounds_toArray, List.set_cons_zero, List.set_cons_succ]
                            refine wpAnyH_take (i := 22) (v := ?_) rfl (by kernel_rfl) (by kernel_rfl) (by kernel_rfl) (fun _ _ _ h => h) (Or.inl ⟨by rfl, ?_⟩) (by assumption) ?_
                            rotate_left
                            · (intro w hSw; (try dsimp only at hSw); go_simp)
                              first | done | with_reducible rfl
                            simp only [Act.put, List.getElem_toArray, List.getElem_cons_zero, List.getElem_cons_succ, List.setIfInBounds_toArray, List.set_cons_zero, List.set_cons_succ]
                            refine wpAnyH_take (i := 23) (v := ?_) rfl (by kernel_rfl) (by kernel_rfl) (by kernel_rfl) (fun _ _ _ h => h) (Or.inl ⟨by rfl, ?_⟩) (by assumption) ?_
                            rotate_left
                            · (intro w hSw; (try dsimp only at hSw); go_simp)
                              first | done | with_reducible rfl
                            simp only [Act.put, List.getElem_toArray, List.getElem_cons_zero, List.getElem_cons_succ, List.setIfInBounds_toArray, List.set_cons_zero, List.set_cons_succ]
                            try simp only [kkT]
                            refine wpAnyH_take (i := 24) (v := ?_) rfl (by kernel_rfl) (by kernel_rfl) (by kernel_rfl) (fun _ _ _ h => h) (Or.inl ⟨by rfl, ?_⟩) (by assumption) ?_
                            rotate_left
                            · (intro w hSw; (try dsimp only at hSw); go_simp)
                              first | done | with_reducible rfl
                            simp only [Act.put, List.getElem_toArray, List.getElem_cons_zero, List.getElem_cons_succ, List.setIfInBounds_toArray, List.set_cons_zero, List.set_cons_succ]
                            refine wpAnyH_take (i := 25) (v := ?_) rfl (by kernel_rfl) (by kernel_rfl) (by kernel_rfl) (fun _ _ _ h => h) (Or.inl ⟨by rfl, ?_⟩) (by assumption) ?_
                            rotate_left
                            · (intro w hSw; (try dsimp only at hSw); go_simp)
                              first | done | with_reducible rfl
                            simp only [Act.put, List.getElem_toArray, List.getElem_cons_zero, List.getElem_cons_succ, List.setIfInBounds_toArray, List.set_cons_zero, List.set_cons_succ]
                            refine wpAnyH_take (i := 26) (v := ?_) rfl (by kernel_rfl) (by kernel_rfl) (by kernel_rfl) (fun _ _ _ h => h) (Or.inl ⟨by rfl, ?_⟩) (by assumption) ?_
                            rotate_left
                            · (intro w hSw; (try dsimp only at hSw); go_simp)
                              first | done | with_reducible rfl
                            simp only [Act.put, List.getElem_toArray, List.getElem_cons_zero, List.getElem_cons_succ, List.setIfInBounds_toArray, List.set_cons_zero, List.set_cons_succ]
                            refine wpAnyH_take (i := 27) (v := ?_) rfl (by kernel_rfl) (by kernel_rfl) (by kernel_rfl) (fun _ _ _ h => h) (Or.inl ⟨by rfl, ?_⟩) (by assumption) ?_
                            rotate_left
                            · (intro w hSw; (try dsimp only at hSw); go_simp)
                              first | done | with_reducible rfl
                            simp only [Act.put, List.getElem_toArray, List.getElem_cons_zero, List.getElem_cons_succ, List.setIfInBounds_toArray, List.set_cons_zero, List.set_cons_succ]
                            refine wpAnyH_take (i := 28) (v := ?_) rfl (by kernel_rfl) (by kernel_rfl) (by kernel_rfl) (fun _ _ _ h => h) (Or.inl ⟨by rfl, ?_⟩) (by assumption) ?_
                            rotate_left
                            · (intro w hSw; (try dsimp only at hSw); go_simp)
                              first | done | with_reducible rfl
                            simp only [Act.put, List.getElem_toArray, List.getElem_cons_zero, List.getElem_cons_succ, List.setIfInBounds_toArray, List.set_cons_zero, List.set_cons_succ]
                            try simp only [i0]
                            refine wpAnyH_take (i := 29) (v := ?_) rfl (by kernel_rfl) (by kernel_rfl) (by kernel_rfl) (fun _ _ _ h => h) (Or.inl ⟨by rfl, ?_⟩) (by assumption) ?_
                            rotate_left
                            · (intro w hSw; (try dsimp only at hSw); go_simp)
                              first | done | with_reducible rfl
                            simp only [Act.put, List.getElem_toArray, List.getElem_cons_zero, List.getElem_cons_succ, List.setIfInBounds_toArray, List.set_cons_zero, List.set_cons_succ]
                            try simp only [i1]
                            refine wpAnyH_take (i := 30) (v := ?_) rfl (by kernel_rfl) (by kernel_rfl) (by kernel_rfl) (fun _ _ _ h => h) (Or.inl ⟨by rfl, ?_⟩) (by assumption) ?_
                            rotate_left
                            · (intro w hSw; (try dsimp only at hSw); go_simp)
                              first | done | with_reducible rfl
                            simp only [Act.put, List.getElem_toArray, List.getElem_cons_zero, List.getElem_cons_succ, List.setIfInBounds_toArray, List.set_cons_zero, List.set_cons_succ]
                            refine wpAnyH_take (i := 31) (v := ?_) rfl (by kernel_rfl) (by kernel_rfl) (by kernel_rfl) (fun _ _ _ h => h) (Or.inl ⟨by rfl, ?_⟩) (by assumption) ?_
                            rotate_left
                            · (intro w hSw; (try dsimp only at hSw); go_simp)
                              first | done | with_reducible rfl
                            simp only [Act.put, List.getElem_toArray, List.getElem_cons_zero, List.getElem_cons_succ, List.setIfInBounds_toArray, List.set_cons_zero, List.set_cons_succ]
                            refine wpAnyH_ready (rs := [32]) (by kernel_rfl) (by simp) ?_
                            refine AllReadyH.cons rfl (fun K hK => ?_) AllReadyH.nil
                            go_simp
                            refine (SC.out _).mono ?_
                            rintro e w32 ⟨⟨cc, rfl, hcc⟩, hu4⟩
                            have hc9 : ¬ (0 : Int) ≤ cc := by simpa using hcc
                            clear hcc
                            refine hK.out _ _ ?_ (fun hHeld => ?_)
                            · exact ⟨hu4.keep hHeld.1, hu4.keep hHeld.2.1, hu4.keep hHeld.2.2.1, hu4.keep hHeld.2.2.2.1, hu4.keep hHeld.2.2.2.2.1, hu4.keep hHeld.2.2.2.2.2.1, hu4.keep hHeld.2.2.2.2.2.2.1, hu4.keep hHeld.2.2.2.2.2.2.2.1, hu4.keep hHeld.2.2.2.2.2.2.2.2.1, hu4.keep hHeld.2.2.2.2.2.2.2.2.2⟩
                            clear hK K
                            try simp only [Act.put, List.getElem_toArray, List.getElem_cons_zero, List.getElem_cons_succ, List.setIfInBounds_toArray, List.set_cons_zero, List.set_cons_succ]
                            refine wpAnyH_take (i := 33) (v := ?_) rfl (by kernel_rfl) (by kernel_rfl) (by kernel_rfl) (fun _ _ _ h => h) (Or.inl ⟨by rfl, ?_⟩) (by assumption) ?_
                            rotate_left
                            · (intro w hSw; (try dsimp only at hSw); go_simp)
                              first | done | with_reducible rfl
                            simp only [Act.put, List.getElem_toArray, List.getElem_cons_zero, List.getElem_cons_succ, List.setIfInBounds_toArray, List.set_cons_zero, List.set_cons_succ]
                            refine wpAnyH_take (i := 34) (v := ?_) rfl (by kernel_rfl) (by kernel_rfl) (by kernel_rfl) (fun _ _ _ h => h) (Or.inl ⟨by rfl, ?_⟩) (by assumption) ?_
                            rotate_left
                            · (intro w hSw; (try dsimp only at hSw); go_simp)
                              first | done | with_reducible rfl
                            simp only [Act.put, List.getElem_toArray, List.getElem_cons_zero, List.getElem_cons_succ, List.setIfInBounds_toArray, List.set_cons_zero, List.set_cons_succ]
                            refine wpAnyH_take (i := 35) (v := ?_) rfl (by kernel_rfl) (by kernel_rfl) (by kernel_rfl) (fun _ _ _ h => h) (Or.inl ⟨by rfl, ?_⟩) (by assumption) ?_
                            rotate_left
                            · (intro w hSw; (try dsimp only at hSw); go_simp)
                              first | done | with_reducible rfl
                            simp only [Act.put, List.getElem_toArray, List.getElem_cons_zero, List.getElem_cons_succ, List.setIfInBounds_toArray, List.set_cons_zero, List.set_cons_succ]
                            refine wpAnyH_done (by kernel_rfl) ?_ _
                            have HU9 := Lib.hid (((HU5.out.drew.trans hu1).trans hu2).trans hu4)
                            clear q0 q1 q2 HU5 hHeld y0 y1 y2 y3 z0 z1 z2
                            go_wp2_with fail
                            go_roundw
                            case rel => exact ⟨k + 1, by omega, by go_num, HA3, HU9.out⟩
                            case measure => simp [intOf]; omega
                · have HR := Lib.hid (show sysOk ⟨st, ini, labs, eds⟩ = true by rw [HOK3.out, ← HA.out, show k = eds.length by omega, allF_end])
                  have HU := Lib.hid (HB0.out.trans hU)
                  clear HA hU
                  go_wp2_with fail
                  go_ret
                  exact ⟨by rw [HR.out]; rfl, HU.out⟩
        · have HR := Lib.hid (show sysOk ⟨st, ini, labs, eds⟩ = false by rw [HOK.out, decide_eq_false hel]; simp)
          have he3 : (300 : Int) < (eds.length : Int) := by omega
          clear HOK HLO hb1 hb2 hb3 hel
          go_enter Tryz.func59, Tryz.ntmps59
          go_wp2_with fail
          refine (S1.out _).mono ?_
          rintro e w1 ⟨rfl, rfl⟩
          clear S1
          go_wp2_with fail
          refine (S2.out _).mono ?_
          rintro e w2 ⟨rfl, hu2⟩
          have HU2 := Lib.hid (HB0.out.trans hu2)
          obtain ⟨x0, x1, x2, x3⟩ := HBX.out w2 hu2
          clear S2 hu2
          go_wp2_with fail
          refine (S3.out _).mono ?_
          rintro e w3 ⟨rfl, rfl⟩
          clear S3
          go_wp2_with fail
          go_ret
          exact ⟨by rw [HR.out]; rfl, HU2.out⟩

end Go.Proofs.YtcnaapiljmgfoaaGreatDoor

/-
  The image of a system: what the program's call returns.
-/
namespace Go.Proofs.YtcnaapiljmgfoaaGreatDoor
open Go.RowKit

theorem isLab_le {s : List UInt8} (h : isLab s = true) : s.length ≤ 100 := by
  obtain ⟨nm, vs, hl⟩ : ∃ nm vs, labT nm vs = some s := by
    unfold isLab readF at h
    split at h
    · split at h
      · simp at h
      · split at h
        · next hq => exact ⟨_, _, hq⟩
        · simp at h
    · split at h
      · next hq => exact ⟨_, _, hq⟩
      · simp at h
  unfold labT at hl
  split at hl
  · split at hl
    · cases hl; simp [tauL]
    · simp at hl
  · split at hl
    · next hc =>
      simp only [Bool.and_eq_true, decide_eq_true_eq] at hc
      obtain ⟨⟨ha, h2⟩, hv⟩ := hc
      have hn : nm.length ≤ 10 := by unfold actF nameF at ha; simp only [Bool.and_eq_true, decide_eq_true_eq] at ha; omega
      split at hl
      · cases hl; omega
      · cases hl
        have := joinC_le 44 30 (vs.map Lib.itoa) (by
          intro p hp
          obtain ⟨x, hx, rfl⟩ := List.mem_map.1 hp
          exact (isV_itoa (List.all_eq_true.1 hv x hx)).2)
        have h3 : (vs.map Lib.itoa).length * (30 + 1) ≤ 2 * 31 := Nat.mul_le_mul (by simpa using h2) (by omega)
        simp only [List.length_append, List.length_cons, List.length_nil, txtV]
        omega
    · simp at hl

theorem allF_get {P : Nat → Bool} : ∀ {k m : Nat}, allF P k m = true → ∀ i, k ≤ i → i < k + m → P i = true
  | _, 0, _, i, h1, h2 => by omega
  | k, m + 1, h, i, h1, h2 => by
    rw [allF, Bool.and_eq_true] at h
    by_cases hk : i = k
    · rw [hk]; exact h.1
    · exact allF_get h.2 i (by omega) (by omega)

/-- what a valid system's parts are. -/
theorem sys_parts {x : Sys} (h : sysOk x = true) : (1 ≤ x.st ∧ x.st ≤ 40) ∧ (0 ≤ x.ini ∧ x.ini ≤ 39) ∧ (1 ≤ x.labs.length ∧ x.labs.length ≤ 12) ∧ x.eds.length ≤ 300 ∧ (∀ s ∈ x.labs, s.length ≤ 100) ∧
    ∀ e ∈ x.eds, (0 ≤ e.fr ∧ e.fr ≤ 2000000) ∧ (0 ≤ e.lb ∧ e.lb ≤ 2000000) ∧ (0 ≤ e.to ∧ e.to ≤ 2000000) := by
  unfold sysOk labsOk at h
  simp only [Bool.and_eq_true, decide_eq_true_eq] at h
  obtain ⟨⟨⟨⟨h1, h2⟩, ⟨h3, h4⟩, h5⟩, h6⟩, h7⟩ := h
  have g1 := inB_true h1
  have g2 := inB_true h2
  refine ⟨g1, by omega, ⟨h3, h4⟩, h6, ?_, ?_⟩
  · intro s hs
    obtain ⟨i, hi, rfl⟩ := List.getElem_of_mem hs
    have := allF_get h5 i (by omega) (by omega)
    rw [labP_at _ _ hi] at this
    simp only [Bool.and_eq_true] at this
    exact isLab_le this.1.1
  · intro e he
    obtain ⟨i, hi, rfl⟩ := List.getElem_of_mem he
    have := allF_get h7 i (by omega) (by omega)
    rw [edP_at _ _ hi] at this
    simp only [Bool.and_eq_true] at this
    obtain ⟨⟨⟨q1, q2⟩, q3⟩, -⟩ := this
    have r1 := inB_true q1
    have r2 := inB_true q2
    have r3 := inB_true q3
    omega

theorem flat_le {α : Type} (f : α → List UInt8) (c : Nat) : ∀ l : List α, (∀ x ∈ l, (f x).length ≤ c) → (l.flatMap f).length ≤ c * l.length
  | [], _ => by simp
  | x :: l, h => by
    have h1 := h x (by simp)
    have h2 := flat_le f c l (fun y hy => h y (by simp [hy]))
    rw [List.flatMap_cons, List.length_append, List.length_cons, Nat.mul_succ]
    omega

def edB (e : Ed) : List UInt8 := (numL e.fr.toNat ++ numL e.lb.toNat) ++ numL e.to.toNat
theorem textL_le {s : List UInt8} (h : s.length ≤ 100) : (textL s).length ≤ 103 := by
  unfold textL
  have := numL_len s.length 2 (by omega)
  simp only [List.length_append]; omega
theorem num3 {n : Int} (h0 : 0 ≤ n) (h : n ≤ 2000000) : (numL n.toNat).length ≤ 3 := numL_len n.toNat 2 (by omega)
theorem edB_le {e : Ed} (h : (0 ≤ e.fr ∧ e.fr ≤ 2000000) ∧ (0 ≤ e.lb ∧ e.lb ≤ 2000000) ∧ (0 ≤ e.to ∧ e.to ≤ 2000000)) : (edB e).length ≤ 9 := by
  unfold edB
  have h1 := num3 h.1.1 h.1.2
  have h2 := num3 h.2.1.1 h.2.1.2
  have h3 := num3 h.2.2.1 h.2.2.2
  simp only [List.length_append]; omega

end Go.Proofs.YtcnaapiljmgfoaaGreatDoor

/-
  Relations between systems: pairs have two parts; labels of edges lie in their bounds.
-/
namespace Go.Proofs.YtcnaapiljmgfoaaGreatDoor
open Go.RowKit

theorem pairsF_two {R : List (List Int)} {a b : Int} (h : pairsF R a b = true) : ∀ p ∈ R, p.length = 2 := by
  intro p hp
  obtain ⟨i, hi, rfl⟩ := List.getElem_of_mem hp
  have h2 := allF_get h i (by omega) (by omega)
  unfold pairP at h2
  have gk : R.getD i [] = R[i] := by rw [List.getD_eq_getElem?_getD, List.getElem?_eq_getElem hi]; rfl
  rw [gk] at h2
  simp only [Bool.and_eq_true, beq_iff_eq] at h2
  exact h2.1.1.1
theorem sys_labs {x : Sys} (h : sysOk x = true) : ∀ e ∈ x.eds, 0 ≤ e.lb ∧ e.lb < x.labs.length := by
  intro e he
  unfold sysOk at h
  simp only [Bool.and_eq_true] at h
  obtain ⟨i, hi, rfl⟩ := List.getElem_of_mem he
  have := allF_get h.2 i (by omega) (by omega)
  rw [edP_at _ _ hi] at this
  simp only [Bool.and_eq_true] at this
  have r3 := inB_true this.1.2
  omega

end Go.Proofs.YtcnaapiljmgfoaaGreatDoor

/-
  Relations between systems: the states that an edge with a label leads to; the plain part.
-/
namespace Go.Proofs.YtcnaapiljmgfoaaGreatDoor
open Go.RowKit

theorem bl_irr : ∀ a : List UInt8, bl a a = false
  | [] => rfl
  | x :: xs => by
    have ih := bl_irr xs
    unfold bl at ih ⊢
    simp only [Op.bytesLess]
    simp [ih]
theorem bl_trans : ∀ a b c : List UInt8, bl a b = true → bl b c = true → bl a c = true
  | [], [], _, h, _ => by simp [bl, Op.bytesLess] at h
  | [], _ :: _, [], _, h => by simp [bl, Op.bytesLess] at h
  | [], _ :: _, _ :: _, _, _ => by simp [bl, Op.bytesLess]
  | _ :: _, [], _, h, _ => by simp [bl, Op.bytesLess] at h
  | _ :: _, _ :: _, [], _, h => by simp [bl, Op.bytesLess] at h
  | x :: xs, y :: ys, z :: zs, h1, h2 => by
    have ih := bl_trans xs ys zs
    unfold bl at *
    simp only [Op.bytesLess, Bool.or_eq_true, Bool.and_eq_true, decide_eq_true_eq, beq_iff_eq] at h1 h2 ⊢
    rcases h1 with h1 | ⟨h1, g1⟩ <;> rcases h2 with h2 | ⟨h2, g2⟩
    · exact Or.inl (UInt8.lt_trans h1 h2)
    · exact Or.inl (h2 ▸ h1)
    · exact Or.inl (h1 ▸ h2)
    · exact Or.inr ⟨h1.trans h2, ih g1 g2⟩

/-- the labels of a valid system differ. -/
theorem labs_inj {labs : List (List UInt8)} (h : labsOk labs = true) : ∀ i j : Nat, i < labs.length → j < labs.length → labs.getD i [] = labs.getD j [] → i = j := by
  unfold labsOk at h
  simp only [Bool.and_eq_true] at h
  have hall := allF_get h.2
  have h0 : ∀ i, i < labs.length → labs.getD i [] = tauL → i = 0 := by
    intro i hi he
    have := hall i (by omega) (by omega)
    unfold labP at this
    simp only [Bool.and_eq_true, beq_iff_eq] at this
    have h1 := this.1.2
    rw [beq_iff_eq.2 he] at h1
    exact of_decide_eq_true h1.symm
  have ht : 0 < labs.length → labs.getD 0 [] = tauL := by
    intro hi
    have := hall 0 (by omega) (by omega)
    unfold labP at this
    simp only [Bool.and_eq_true, beq_iff_eq] at this
    have h1 := this.1.2
    simpa using h1
  have hlt : ∀ d i, 1 ≤ i → i + d + 1 < labs.length → bl (labs.getD i []) (labs.getD (i + d + 1) []) = true := by
    intro d
    induction d with
    | zero =>
      intro i h1 h2
      have := hall (i + 1) (by omega) (by omega)
      unfold labP at this
      simp only [Bool.and_eq_true] at this
      have h3 := this.2
      rw [decide_eq_true (show 1 < i + 1 by omega)] at h3
      simpa using h3
    | succ d ih =>
      intro i h1 h2
      have g1 := ih i h1 (by omega)
      have := hall (i + (d + 1) + 1) (by omega) (by omega)
      unfold labP at this
      simp only [Bool.and_eq_true] at this
      have h3 := this.2
      rw [decide_eq_true (show 1 < i + (d + 1) + 1 by omega)] at h3
      rw [show i + (d + 1) + 1 - 1 = i + d + 1 by omega] at h3
      exact bl_trans _ _ _ g1 (by simpa using h3)
  have main : ∀ i j, i < j → j < labs.length → labs.getD i [] ≠ labs.getD j [] := by
    intro i j hij hj he
    by_cases hi : i = 0
    · subst hi
      have := h0 j hj (he ▸ ht (by omega))
      omega
    · have := hlt (j - i - 1) i (by omega) (by omega)
      rw [show i + (j - i - 1) + 1 = j by omega, he, bl_irr] at this
      exact absurd this (by simp)
  intro i j hi hj he
  rcases Nat.lt_trichotomy i j with h | h | h
  · exact absurd he (main i j h hj)
  · exact h
  · exact absurd he.symm (main j i h hi)

theorem edLt_iff (a b : Ed) : edLt a b = true ↔ (a.fr < b.fr ∨ (a.fr = b.fr ∧ (a.lb < b.lb ∨ (a.lb = b.lb ∧ a.to < b.to)))) := by
  unfold edLt
  split
  · rw [decide_eq_true_iff]; omega
  · split
    · rw [decide_eq_true_iff]; omega
    · rw [decide_eq_true_iff]; omega
theorem edLt_trans {a b c : Ed} (h1 : edLt a b = true) (h2 : edLt b c = true) : edLt a c = true := by
  rw [edLt_iff] at *
  omega
theorem eds_pair {x : Sys} (h : sysOk x = true) : x.eds.Pairwise (fun a b => edLt a b = true) := by
  unfold sysOk at h
  simp only [Bool.and_eq_true] at h
  have hall := allF_get h.2
  have hlt : ∀ d i (h1 : i + d + 1 < x.eds.length), edLt x.eds[i] x.eds[i + d + 1] = true := by
    intro d
    induction d with
    | zero =>
      intro i h1
      have := hall (i + 1) (by omega) (by omega)
      rw [edP_at _ _ (by omega)] at this
      simp only [Bool.and_eq_true] at this
      have h3 := this.2
      rw [decide_eq_false (show ¬ i + 1 = 0 by omega)] at h3
      simp only [Bool.false_or, Nat.add_sub_cancel] at h3
      rw [List.getD_eq_getElem?_getD, List.getElem?_eq_getElem (by omega)] at h3
      exact h3
    | succ d ih =>
      intro i h1
      have g1 := ih i (by omega)
      have := hall (i + (d + 1) + 1) (by omega) (by omega)
      rw [edP_at _ _ (by omega)] at this
      simp only [Bool.and_eq_true] at this
      have h3 := this.2
      rw [decide_eq_false (show ¬ i + (d + 1) + 1 = 0 by omega)] at h3
      simp only [Bool.false_or, Nat.add_sub_cancel] at h3
      rw [List.getD_eq_getElem?_getD, List.getElem?_eq_getElem (by omega)] at h3
      exact edLt_trans g1 h3
  rw [List.pairwise_iff_getElem]
  intro i j hi hj hij
  have := hlt (j - i - 1) i (by omega)
  simp only [show i + (j - i - 1) + 1 = j by omega] at this
  exact this

def folP (T : Sys) (ys : List Int) (s : List UInt8) (e : Ed) : Bool := T.labs.getD e.lb.toNat [] == s && ys.contains e.fr
/-- the states to which edges with a label lead from states. -/
def folF (T : Sys) (ys : List Int) (s : List UInt8) : List Int := (T.eds.filter (folP T ys s)).map Ed.to
theorem folF_rising {T : Sys} (h : sysOk T = true) (y : Int) (s : List UInt8) : Rising (folF T [y] s) := by
  have hp : (folF T [y] s).Pairwise (· < ·) := by
    unfold folF
    rw [List.pairwise_map]
    have h1 := (eds_pair h).filter (folP T [y] s)
    refine List.Pairwise.imp_of_mem ?_ h1
    intro a b ha hb hlt
    rw [List.mem_filter] at ha hb
    obtain ⟨ha, qa⟩ := ha
    obtain ⟨hb, qb⟩ := hb
    unfold folP at qa qb
    simp only [Bool.and_eq_true, beq_iff_eq, List.contains_cons, List.contains_nil, Bool.or_false] at qa qb
    have la := sys_labs h a ha
    have lb := sys_labs h b hb
    have hl : labsOk T.labs = true := by
      unfold sysOk at h
      simp only [Bool.and_eq_true] at h
      exact h.1.1.2
    have hi := labs_inj hl a.lb.toNat b.lb.toNat (by omega) (by omega) (qa.1.trans qb.1.symm)
    unfold edLt at hlt
    have e1 : a.fr = b.fr := qa.2.trans qb.2.symm
    have e2 : a.lb = b.lb := by omega
    simpa [e1, e2] using hlt
  intro i j hi hj hij
  exact List.pairwise_iff_getElem.1 hp i j hi hj hij
theorem folF_le {T : Sys} (h : sysOk T = true) (y : Int) (s : List UInt8) : (folF T [y] s).length ≤ 40 := by
  have hr := folF_rising h y s
  have hb : ∀ z ∈ folF T [y] s, 0 ≤ z ∧ z ≤ 39 := by
    intro z hz
    unfold folF at hz
    rw [List.mem_map] at hz
    obtain ⟨e, he, rfl⟩ := hz
    rw [List.mem_filter] at he
    have hst := (sys_parts h).1
    unfold sysOk at h
    simp only [Bool.and_eq_true] at h
    obtain ⟨i, hi, rfl⟩ := List.getElem_of_mem he.1
    have := allF_get h.2 i (by omega) (by omega)
    rw [edP_at _ _ hi] at this
    simp only [Bool.and_eq_true] at this
    have r3 := inB_true this.1.1.2
    omega
  generalize folF T [y] s = L at *
  have hge : ∀ i (hi : i < L.length), (i : Int) ≤ L[i] := by
    intro i
    induction i with
    | zero => intro hi; have := hb L[0] (List.getElem_mem hi); omega
    | succ i ih => intro hi; have g1 := ih (by omega); have g2 := hr i (i + 1) (by omega) hi (by omega); omega
  by_cases h0 : L.length = 0
  · omega
  · have g1 := hge (L.length - 1) (by omega)
    have g2 := hb L[L.length - 1] (List.getElem_mem _)
    omega

end Go.Proofs.YtcnaapiljmgfoaaGreatDoor

/-
  Relations between systems, the program's follow: its result is sorted already.
-/
namespace Go.Proofs.YtcnaapiljmgfoaaGreatDoor
open Go.RowKit

theorem folF_step (T : Sys) (y : Int) (s : List UInt8) (i : Nat) (h : i < T.eds.length) :
    ((T.eds.take (i + 1)).filter (folP T [y] s)).map Ed.to = ((T.eds.take i).filter (folP T [y] s)).map Ed.to ++ (if folP T [y] s T.eds[i] then [T.eds[i].to] else []) := by
  rw [List.take_succ_eq_append_getElem h, List.filter_append, List.map_append]
  congr 1
  cases hp : folP T [y] s T.eds[i] <;> simp [hp]

set_option maxRecDepth 20000 in
set_option maxHeartbeats 8000000 in
theorem followI (T : Sys) (v1 v2 v3 : Value) (y : Int) (s : List UInt8) (w : World) (f1 f2 f3 : List Nat) (h1 : RS f1 w [v1] T.labs) (h2 : R_E1 f2 w [v2] T.eds) (h3 : R1 f3 w [v3] [y]) (hok : sysOk T = true) :
    Calls Tryz.prog 65 #[.agg #[ei T.st, ei T.ini, v1, v2], v3, es s] w fun e w' => (∃ v' f', e = .returned v' ∧ R1 f' w' [v'] (folF T [y] s)) ∧ Upd [] w w' := by
  obtain ⟨i1, ki, kz0, kz1, kz2⟩ := info_parts Tryz.info2
  obtain ⟨-, -, hlabs, heds, -, -⟩ := sys_parts hok
  have hlab := Lib.hid (sys_labs hok)
  have HRI := Lib.hid (And.intro (folF_rising hok y s) (folF_le hok y s))
  obtain ⟨la, ca, rfl, la1, la2, hca⟩ := slF1_open h1
  obtain ⟨a, cap, rfl, l1, l2, hc⟩ := slF3_open h2
  unfold maxLen at l2 la2
  have HCA := Lib.hid hca
  have HC := Lib.hid hc
  have HCO := Lib.hid (fun (x : Int) W (hu : Upd [] w W) => containsI v3 [y] x W f3 (R1k.upd h3 hu (by simp)))
  obtain ⟨wA, hwA⟩ : ∃ wA, wA = w.alloc (.cells #[ei T.st, ei T.ini, .slice la T.labs.length ca, .slice a T.eds.length cap] 32) := ⟨_, rfl⟩
  have HUA := Lib.hid (show Upd [] w wA by rw [hwA]; exact (Upd.refl _ _).alloc _)
  have Z2 := Lib.hid (fun W (hu : Upd [] wA W) => hu.keep (show wA.cell? ⟨w.heap.size, 2, none⟩ = some (.slice la T.labs.length ca) by rw [hwA]; exact cell_new w _ _ _ rfl 2 _ rfl))
  have z3 : wA.cell? ⟨w.heap.size, 3, none⟩ = some (.slice a T.eds.length cap) := by rw [hwA]; exact cell_new w _ _ _ rfl 3 _ rfl
  have hszA : w.heap.size < wA.heap.size := by rw [hwA]; simp
  obtain ⟨BX, hBX⟩ : ∃ BX, BX = w.heap.size := ⟨_, rfl⟩
  rw [← hBX] at Z2 z3
  have HBX := Lib.hid (show BX < wA.heap.size by omega)
  have HF := Lib.hid (show folF T [y] s = ((T.eds.take T.eds.length).filter (folP T [y] s)).map Ed.to by rw [List.take_length]; rfl)
  have HST := Lib.hid (folF_step T y s)
  have HP := Lib.hid (fun e => show folP T [y] s e = (T.labs.getD e.lb.toNat [] == s && [y].contains e.fr) from rfl)
  have HL := Lib.hid (fun k => show (((T.eds.take k).filter (folP T [y] s)).map Ed.to).length ≤ 300 by
    rw [List.length_map]
    refine Nat.le_trans (List.length_filter_le _ _) ?_
    rw [List.length_take]; omega)
  clear h1 h2 h3 hc hca hok
  generalize folF T [y] s = FF at *
  generalize folP T [y] s = FP at *
  go_enter Tryz.func65, Tryz.ntmps65
  go_upto_region 1 with (fail)
  rw [← hwA, ← hBX]
  clear hwA hBX hszA
  go_wp2_with fail
  go_loopw [7, 13] (fun ov iv wr => ∃ i : Nat, i ≤ T.eds.length ∧ iv = .int .i64 i ∧ Hid (wr.ownsRow wA.heap.size 2 1 ov (((T.eds.take i).filter FP).map Ed.to).length ((((T.eds.take i).filter FP).map Ed.to).map ei)) ∧ Hid (Upd [] wA wr)) (fun _ iv _ => T.eds.length - (intOf iv).toNat)
  case atStart => exact ⟨0, Nat.zero_le _, rfl, Lib.hid (World.ownsRow_nil _ _ _ _), Lib.hid (Upd.refl _ _)⟩
  case round =>
    clear z3
    obtain ⟨wo, rfl⟩ : ∃ wo : World, wo = wr := ⟨_, rfl⟩
    obtain ⟨i, hi, rfl, HO, HU⟩ := hrel
    obtain ⟨oa, oc, hov⟩ := ownsRow_form HO.out
    subst hov
    by_cases hlt : i < T.eds.length
    · obtain ⟨b, o, rfl, -, -, p1, p2, p3⟩ := HC.out i hlt
      have q1 := HU.out.keep (HUA.out.keep p1)
      have q2 := HU.out.keep (HUA.out.keep p2)
      have q3 := HU.out.keep (HUA.out.keep p3)
      have z2 := Z2.out wo HU.out
      have HS := Lib.hid (HST.out i hlt)
      have hpe := HP.out T.eds[i]
      have hll := HL.out i
      have hil : (i : Int) < (T.eds.length : Int) := by omega
      have hlb := hlab.out T.eds[i] (List.getElem_mem hlt)
      clear p1 p2 p3
      generalize ((T.eds.take i).filter FP).map Ed.to = P at *
      generalize T.eds[i] = x at *
      obtain ⟨x1, x2, x3⟩ := x
      simp only at q1 q2 q3 HS hpe hlb
      obtain ⟨le, rfl⟩ : ∃ N : Nat, x2 = N := ⟨x2.toNat, by omega⟩
      have hle : le < T.labs.length := by omega
      have hlei : (le : Int) < (T.labs.length : Int) := by omega
      obtain ⟨ba, obx, rfl, -, -, pA⟩ := HCA.out le hle
      have pA := HU.out.keep (HUA.out.keep pA)
      have gA : T.labs.getD le [] = T.labs[le] := by rw [List.getD_eq_getElem?_getD, List.getElem?_eq_getElem hle]; rfl
      rw [Int.toNat_natCast, gA] at hpe
      clear gA hlb
      generalize T.labs[le] = sa at *
      have HPE := Lib.hid hpe
      clear hpe
      obtain ⟨wB, hwB⟩ : ∃ wB, wB = wo.alloc (.cells #[.int .i64 x1, .int .i64 le, .int .i64 x3] 74) := ⟨_, rfl⟩
      have hown0 : wB.ownsRow wA.heap.size 2 1 (.slice oa P.length oc) P.length (P.map ei) := by rw [hwB]; exact HO.out.alloc _
      have UB : Upd [] wo wB := by rw [hwB]; exact (Upd.refl _ _).alloc _
      have HUB := Lib.hid (HU.out.trans UB)
      have t0 : wB.cell? ⟨wo.heap.size, 0, none⟩ = some (ei x1) := by rw [hwB]; exact cell_new wo _ _ _ rfl 0 _ rfl
      have t1 : wB.cell? ⟨wo.heap.size, 1, none⟩ = some (ei le) := by rw [hwB]; exact cell_new wo _ _ _ rfl 1 _ rfl
      have t2 : wB.cell? ⟨wo.heap.size, 2, none⟩ = some (ei x3) := by rw [hwB]; exact cell_new wo _ _ _ rfl 2 _ rfl
      have r2 := UB.keep z2
      have rA := UB.keep pA
      have SC := Lib.hid (HCO.out x1 wB (HUA.out.trans HUB.out))
      have hszB : wA.heap.size ≤ wB.heap.size := HUB.out.size
      obtain ⟨BE, hBE⟩ : ∃ BE, BE = wo.heap.size := ⟨_, rfl⟩
      rw [← hBE] at t0 t1 t2
      go_upto_region 5 with (fail)
      rw [← hwB, ← hBE]
      clear hwB hBE HO HU q1 q2 q3 z2 pA UB HCO
      cases hs : (sa == s) with
      | false =>
        have HN := Lib.hid (show (((T.eds.take (i + 1)).filter FP).map Ed.to) = P by rw [HS.out, HPE.out, hs]; simp)
        clear HS HPE SC
        go_wp2_with fail
        go_roundw
        case rel => exact ⟨i + 1, by omega, by go_num, Lib.hid (by rw [HN.out]; exact hown0), HUB⟩
        case measure => simp [intOf]; omega
      | true =>
        go_wp2_with fail
        refine SC.out.mono ?_
        rintro e w1 ⟨rfl, rfl⟩
        clear SC
        cases hy : [y].contains x1 with
        | false =>
          have HN := Lib.hid (show (((T.eds.take (i + 1)).filter FP).map Ed.to) = P by rw [HS.out, HPE.out, hs, hy]; simp)
          clear HS HPE hs hy
          go_wp2_with fail
          go_roundw
          case rel => exact ⟨i + 1, by omega, by go_num, Lib.hid (by rw [HN.out]; exact hown0), HUB⟩
          case measure => simp [intOf]; omega
        | true =>
          have HN := Lib.hid (show (((T.eds.take (i + 1)).filter FP).map Ed.to) = P ++ [x3] by rw [HS.out, HPE.out, hs, hy]; simp)
          clear HS HPE hs hy
          go_wp2_with (first
            | (at_builtin; refine wpList_append_tight _ rfl _ _ 45 rfl wA.heap.size 2 i1 (.int .i64 0) 1 8 Tryz.underlying45 ki kz0 kz1 kz2 rfl (by decide) _ _ _ rfl (hown0.alloc _) ⟨wB.heap.size, 0, none⟩ 1 1 [ei x3] rfl rfl (fun j u hj => by rw [addr_add]; exact cell_new wB #[ei x3] _ _ rfl _ _ (by simpa using hj)) (by simp [Value.oneCell']) (by unfold maxLen; omega) (by omega) (by simp; omega) ?_)
            | fail)
          intro v4 w4 hown4 hg4 ht4
          have HO4 := Lib.hid (show w4.ownsRow wA.heap.size 2 1 v4 (P ++ [x3]).length ((P ++ [x3]).map ei) by
            rw [List.length_append, List.map_append]; simpa using hown4)
          have HU4 := Lib.hid ((HUB.out.alloc (.cells #[ei x3] 2)).grown hg4 (fun b hb => Or.inl ((hown0.lt b hb).1)))
          clear hown4 hg4 ht4 hown0 t0 t1 t2 HUB r2 rA
          go_wp2_with fail
          go_roundw
          case rel => exact ⟨i + 1, by omega, by go_num, Lib.hid (by rw [HN.out]; exact HO4.out), HU4⟩
          case measure => simp [intOf]; omega
    · obtain rfl : i = T.eds.length := by omega
      have HOF := HO.out
      rw [← HF.out] at HOF
      obtain ⟨f9, r9, -, -⟩ := New.ofOwns HOF
      have S1 := Lib.hid (sortI _ FF wo f9 r9 HRI.out.1 HRI.out.2)
      have S2 := Lib.hid (fun W (hu : Upd [] wo W) => compactI _ FF W f9 (R1k.upd r9 hu (by simp)) HRI.out.1 HRI.out.2)
      have HR9 := Lib.hid r9
      rw [← HF.out]
      clear HO HOF r9 HRI
      go_wp2_with fail
      refine S1.out.mono ?_
      rintro e w1 ⟨rfl, hu1⟩
      have T2 := Lib.hid (S2.out w1 hu1)
      have U1 := Lib.hid hu1
      clear S1 S2 hu1
      go_wp2_with fail
      refine T2.out.mono ?_
      rintro e w2 ⟨rfl, n2, rfl⟩
      clear T2
      go_wp2_with fail
      go_ret
      exact ⟨⟨_, f9, rfl, R1k.upd HR9.out (U1.out.drewN n2) (by simp)⟩, HUA.out.trans (HU.out.trans (U1.out.drewN n2))⟩

end Go.Proofs.YtcnaapiljmgfoaaGreatDoor

/-
  The library's sort of numbers, at whatever list (the shelf's contract, told as a reading).
-/
namespace Go.Proofs.YtcnaapiljmgfoaaGreatDoor
open Go.RowKit

theorem flatG (xs : List Int) : xs.flatMap (fun n => [ei n]) = xs.map ei := by
  induction xs with
  | nil => rfl
  | cons x xs ih => rw [List.flatMap_cons, ih]; rfl
def leZ (x y : Int) : Bool := decide (x ≤ y)
theorem sortAllI (v : Value) (xs : List Int) (w : World) (fp : List Nat) (hR : R1 fp w [v] xs) (hO : Own fp w) (hm : xs.length ≤ 1000000) :
    Calls Tryz.prog 95 #[v] w fun e w' => e = .returned (.tuple #[]) ∧ R1 fp w' [v] (xs.mergeSort leZ) ∧ Own fp w' ∧ Upd fp w w' := by
  by_cases h0 : xs = []
  · subst h0
    obtain ⟨a, cap, rfl, -, -, -⟩ := slF1_open hR
    refine (Tryz.slices_Sort_int_none a cap w).mono ?_
    rintro e w' ⟨rfl, rfl⟩
    exact ⟨rfl, by simpa using hR, hO, Upd.refl _ _⟩
  · obtain ⟨v', hv, a, cap, rfl, h1, h2, h3, h4⟩ := hR
    cases hv
    rcases h4 with ⟨h4, -⟩ | ⟨b, off, rfl, rfl, hb, hc⟩
    · exact absurd (List.length_eq_zero_iff.1 h4) h0
    · have hH : Go.Sort.Holds (Value.int .i64) w b off xs.toArray := by
        intro j hj
        have hj' : j < xs.length := by simpa using hj
        refine ⟨?_, hO.frozen (by simp) _⟩
        rw [hc j (ei xs[j]) (by
          rw [flatG]; simp [hj'])]
        rw [getElem!_pos _ j hj]
        simp [ei]
      refine (Tryz.slices_Sort_int b off cap xs w hH hb (by omega)).mono ?_
      rintro e w' ⟨rfl, n, os, rfl⟩
      have hl : (xs.mergeSort fun x y => decide (x ≤ y)).length = xs.length := List.length_mergeSort _
      have hu : Upd [b] w (Go.Sort.grow (Go.Sort.putRow (Value.int .i64) (Go.Sort.ahead w n) b off (xs.mergeSort fun x y => decide (x ≤ y)).toArray) os) := by
        refine ⟨rfl, rfl, rfl, by simp [Go.Sort.ahead], fun k hk hne => ?_⟩
        rw [Go.Sort.heap_grow_old _ _ (by simpa [Go.Sort.ahead] using hk)]
        have : b ≠ k := fun e => hne (by simp [e])
        simp [Go.Sort.putRow, Go.Sort.mapBlock, Go.Sort.ahead, Array.getElem?_modify, this]
      refine ⟨rfl, ?_, ⟨hO.1, fun b' hb' => ?_⟩, hu⟩
      · refine ⟨_, rfl, some ⟨b, off, none⟩, cap, ?_, ?_, h2, ?_, Or.inr ⟨b, off, rfl, rfl, Nat.lt_of_lt_of_le hb hu.size, fun j u hj => ?_⟩⟩
        · show Value.slice _ _ _ = Value.slice _ _ _
          rw [show (xs.mergeSort leZ).length = xs.length from List.length_mergeSort _]
        · rw [show (xs.mergeSort leZ).length = xs.length from List.length_mergeSort _]; exact h1
        · rw [flatG]; simp
        · rw [flatG] at hj
          have hj2 : j < xs.length := by
            have := (List.getElem?_eq_some_iff.1 hj).1
            simp only [List.length_map] at this
            rw [show (xs.mergeSort leZ).length = xs.length from List.length_mergeSort _] at this
            exact this
          rw [Go.Sort.cell?_grow _ _ _ (by simpa [Go.Sort.ahead] using hb)]
          have hc2 := Go.Sort.cell?_putRow (Value.int .i64) (Go.Sort.ahead w n) b off xs.toArray (xs.mergeSort fun x y => decide (x ≤ y)).toArray hH (by simp [hl]) j (by simpa [hl] using hj2)
          rw [hc2, ← hj, getElem!_pos _ j (by simpa [hl] using hj2)]
          rw [List.getElem?_map, List.getElem?_eq_getElem (by rw [show (xs.mergeSort leZ).length = xs.length from List.length_mergeSort _]; exact hj2)]
          simp [ei]
          rfl
      · obtain rfl : b' = b := by simpa using hb'
        obtain ⟨c, t, hct⟩ := hO.2 b' (by simp)
        refine ⟨Go.Sort.putCells (Value.int .i64) off (xs.mergeSort fun x y => decide (x ≤ y)).toArray c, t, ?_⟩
        rw [Go.Sort.heap_grow_old _ _ (by simpa [Go.Sort.ahead] using hb)]
        simp [Go.Sort.putRow, Go.Sort.mapBlock, Go.Sort.ahead, Array.getElem?_modify, hct, Go.Sort.onCells]

theorem ownLt {w : World} {v : Value} {xs : List Int} {fp : List Nat} (hR : R1 fp w [v] xs) (hne : xs ≠ []) : ∃ b off cap, v = .slice (some ⟨b, off, none⟩) xs.length cap ∧ fp = [b] ∧ xs.length ≤ cap ∧ cap ≤ maxLen ∧ b < w.heap.size ∧ ∀ j u, (xs.map ei)[j]? = some u → w.cell? ⟨b, off + j, none⟩ = some u := by
  obtain ⟨v', hv, a, cap, rfl, h1, h2, h3, h4⟩ := hR
  cases hv
  rcases h4 with ⟨h4, -⟩ | ⟨b, off, rfl, rfl, hb, hc⟩
  · exact absurd (List.length_eq_zero_iff.1 h4) hne
  · rw [flatG] at hc
    exact ⟨b, off, cap, rfl, rfl, h1, h2, hb, hc⟩

/-- a list without what follows upon its like. -/
def cmpF (xs : List Int) : List Int := Lib.compactUpTo xs.toArray xs.length
theorem cmp_mem (d : Array Int) : ∀ m, m ≤ d.size → ∀ y, y ∈ Lib.compactUpTo d m ↔ ∃ j, j < m ∧ d[j]! = y
  | 0, _, y => by simp [Lib.compactUpTo]
  | m + 1, h, y => by
    have ih := cmp_mem d m (by omega) y
    rw [Lib.compactUpTo_succ, List.mem_append, ih]
    cases hk : Lib.keeps d m with
    | true =>
      simp only [if_true, List.mem_singleton]
      constructor
      · rintro (⟨j, h1, h2⟩ | rfl)
        · exact ⟨j, by omega, h2⟩
        · exact ⟨m, by omega, rfl⟩
      · rintro ⟨j, h1, h2⟩
        by_cases e : j = m
        · subst e; exact Or.inr h2.symm
        · exact Or.inl ⟨j, by omega, h2⟩
    | false =>
      simp only [Bool.false_eq_true, if_false, List.not_mem_nil, or_false]
      constructor
      · rintro ⟨j, h1, h2⟩; exact ⟨j, by omega, h2⟩
      · rintro ⟨j, h1, h2⟩
        by_cases e : j = m
        · subst e
          unfold Lib.keeps at hk
          simp at hk
          exact ⟨j - 1, by omega, by rw [← h2]; exact hk.2.symm⟩
        · exact ⟨j, by omega, h2⟩
theorem cmp_pair (d : Array Int) (hs : ∀ i j, i ≤ j → j < d.size → d[i]! ≤ d[j]!) : ∀ m, m ≤ d.size → (Lib.compactUpTo d m).Pairwise (· < ·)
  | 0, _ => by simp [Lib.compactUpTo]
  | m + 1, h => by
    have ih := cmp_pair d hs m (by omega)
    rw [Lib.compactUpTo_succ]
    cases hk : Lib.keeps d m with
    | false => simpa using ih
    | true =>
      rw [if_pos rfl, List.pairwise_append]
      refine ⟨ih, by simp, ?_⟩
      intro a ha b hb
      obtain rfl : b = d[m]! := by simpa using hb
      obtain ⟨j, h1, rfl⟩ := (cmp_mem d m (by omega) a).1 ha
      have h2 := hs j (m - 1) (by omega) (by omega)
      have h3 := hs (m - 1) m (by omega) (by omega)
      have h4 : d[m]! ≠ d[m - 1]! := by
        unfold Lib.keeps at hk
        simp at hk
        rcases hk with hk | hk
        · omega
        · exact hk
      omega
/-- sorted, each once. -/
def setF (xs : List Int) : List Int := cmpF (xs.mergeSort leZ)
theorem setF_mem (xs : List Int) (y : Int) : y ∈ setF xs ↔ y ∈ xs := by
  unfold setF cmpF
  rw [cmp_mem _ _ (by simp)]
  have : (∃ j, j < (xs.mergeSort leZ).length ∧ (xs.mergeSort leZ).toArray[j]! = y) ↔ y ∈ xs.mergeSort leZ := by
    rw [List.mem_iff_getElem]
    constructor
    · rintro ⟨j, h1, h2⟩
      refine ⟨j, h1, ?_⟩
      rw [getElem!_pos _ j (by simpa using h1)] at h2
      simpa using h2
    · rintro ⟨j, h1, h2⟩
      refine ⟨j, h1, ?_⟩
      rw [getElem!_pos _ j (by simpa using h1)]
      simpa using h2
  rw [this]
  exact (List.mergeSort_perm xs leZ).mem_iff
theorem setF_pair (xs : List Int) : (setF xs).Pairwise (· < ·) := by
  refine cmp_pair _ ?_ _ (by simp)
  intro i j hij hj
  have hj' : j < (xs.mergeSort leZ).length := by simpa using hj
  rw [getElem!_pos _ i (by simpa using (show i < (xs.mergeSort leZ).length by omega)), getElem!_pos _ j hj]
  have hp : (xs.mergeSort leZ).Pairwise (fun a b => leZ a b = true) := List.pairwise_mergeSort (fun a b c h1 h2 => by unfold leZ at *; simp at *; omega) (fun a b => by unfold leZ; simp; omega) xs
  by_cases e : i = j
  · subst e; exact Int.le_refl _
  · have := List.pairwise_iff_getElem.1 hp i j (by omega) hj' (by omega)
    show (xs.mergeSort leZ)[i] ≤ (xs.mergeSort leZ)[j]
    exact of_decide_eq_true this

/-- a slice that points to an element of a block, if to anything. -/
def NoSpot (v : Value) : Prop := ∀ p n c, v = .slice (some p) n c → p.spot = none
theorem NoSpot.mk (b off n c : Nat) : NoSpot (.slice (some ⟨b, off, none⟩) n c) := by
  intro p n' c' h; cases h; rfl
theorem NoSpot.none' (n c : Nat) : NoSpot (.slice none n c) := by
  intro p n' c' h; cases h
theorem compactAllI (v : Value) (xs : List Int) (w : World) (fp : List Nat) (hR : R1 fp w [v] xs) (hO : Own fp w) (hm : xs.length ≤ 1000000) (hsp : NoSpot v) :
    Calls Tryz.prog 96 #[v] w fun e w' => (∃ v', e = .returned v' ∧ R1 fp w' [v'] (cmpF xs) ∧ NoSpot v') ∧ Own fp w' ∧ Upd fp w w' := by
  by_cases h0 : xs = []
  · subst h0
    refine (compactI v [] w fp hR (fun i j hi => by simp at hi) (by simp)).mono ?_
    rintro e w' ⟨rfl, n, rfl⟩
    exact ⟨⟨v, rfl, R1k.upd hR ((Upd.refl [] w).drewN n) (by simp), hsp⟩, hO.upd ((Upd.refl [] w).drewN n) (by simp), (Upd.refl _ _).drewN n⟩
  · obtain ⟨b, off, cap, rfl, rfl, h1, h2, hb, hc⟩ := ownLt hR h0
    have hH : Go.Sort.Holds ei w b off xs.toArray := by
      intro j hj
      have hj' : j < xs.length := by simpa using hj
      refine ⟨?_, hO.frozen (by simp) _⟩
      rw [hc j (ei xs[j]) (by simp [hj']), getElem!_pos _ j hj]
      simp
    have hcl : (Lib.compactUpTo xs.toArray xs.toArray.size).length ≤ xs.length := by
      unfold Lib.compactUpTo
      rw [List.length_map]
      refine Nat.le_trans (List.length_filter_le _ _) ?_
      simp
    refine (Tryz.slices_Compact (α := Int) ei (fun _ => rfl) (EqlAt.intD _ _ _) (NeqAt.intD _ _ _) 0 (fun w => by kernel_rfl) b off cap xs.toArray w hH (by simp; omega) (by simpa using h1)).mono ?_
    rintro e w' ⟨rfl, n, rfl⟩
    have hxs : xs.toArray.size = xs.length := by simp
    rw [hxs] at hcl ⊢
    have hcc : Lib.compactUpTo xs.toArray xs.length = cmpF xs := rfl
    rw [hcc] at hcl ⊢
    have hsz : (cmpF xs ++ List.replicate (xs.length - (cmpF xs).length) 0).toArray.size = xs.toArray.size := by simp; omega
    have hu : Upd [b] w (Go.Sort.putRow ei (Go.Sort.ahead w n) b off (cmpF xs ++ List.replicate (xs.length - (cmpF xs).length) 0).toArray) := by
      refine ⟨rfl, rfl, rfl, by simp [Go.Sort.ahead], fun k hk hne => ?_⟩
      have : b ≠ k := fun e => hne (by simp [e])
      simp [Go.Sort.putRow, Go.Sort.mapBlock, Go.Sort.ahead, Array.getElem?_modify, this]
    refine ⟨⟨_, rfl, ⟨_, rfl, some ⟨b, off, none⟩, cap, rfl, by omega, h2, by rw [flatG]; simp, Or.inr ⟨b, off, rfl, rfl, Nat.lt_of_lt_of_le hb hu.size, fun j u hj => ?_⟩⟩, NoSpot.mk _ _ _ _⟩, ⟨hO.1, fun b' hb' => ?_⟩, hu⟩
    · rw [flatG] at hj
      have hj2 : j < (cmpF xs).length := by
        have := (List.getElem?_eq_some_iff.1 hj).1
        simpa using this
      have hj3 : j < (cmpF xs ++ List.replicate (xs.length - (cmpF xs).length) 0).toArray.size := by simp; omega
      rw [Go.Sort.cell?_putRow ei (Go.Sort.ahead w n) b off xs.toArray _ hH hsz j hj3, ← hj, getElem!_pos _ j hj3]
      rw [List.getElem?_map, List.getElem?_eq_getElem hj2]
      simp [List.getElem_append_left hj2]
    · obtain rfl : b' = b := by simpa using hb'
      obtain ⟨c, t, hct⟩ := hO.2 b' (by simp)
      refine ⟨Go.Sort.putCells ei off (cmpF xs ++ List.replicate (xs.length - (cmpF xs).length) 0).toArray c, t, ?_⟩
      simp [Go.Sort.putRow, Go.Sort.mapBlock, Go.Sort.ahead, Array.getElem?_modify, hct, Go.Sort.onCells]

/-- a copy of its own. -/
theorem cloneZ (v : Value) (xs : List Int) (w : World) (fp : List Nat) (hR : R1 fp w [v] xs) (hm : xs.length ≤ 1000000) (hsp : NoSpot v) :
    Calls Tryz.prog 99 #[v] w fun e w' => (∃ v', e = .returned v' ∧ w'.ownsRow w.heap.size 2 1 v' xs.length (xs.map ei)) ∧ Upd [] w w' := by
  obtain ⟨i1, ki, kz0, kz1, kz2⟩ := info_parts Tryz.info2
  obtain ⟨a, cap, rfl, h1, h2, hc⟩ := slF1_open hR
  unfold maxLen at h2
  cases a with
  | none =>
    have h0 : xs = [] := by
      cases xs with
      | nil => rfl
      | cons x l => obtain ⟨b, off, hx, -⟩ := hc 0 (by simp); cases hx
    subst h0
    refine (Tryz.slices_Clone_nil _ cap w).mono ?_
    rintro e w' ⟨rfl, rfl⟩
    exact ⟨⟨_, rfl, World.ownsRow_nil _ _ _ _⟩, Upd.refl _ _⟩
  | some p =>
    obtain ⟨b, off, rfl⟩ : ∃ b off, p = ⟨b, off, none⟩ := by
      have := hsp p _ _ rfl
      obtain ⟨b, off, sp⟩ := p
      simp only at this
      subst this
      exact ⟨b, off, rfl⟩
    have hcell : ∀ j u, (xs.map ei)[j]? = some u → w.cell? ⟨b, off + j, none⟩ = some u := by
      intro j u hj
      have hj2 : j < xs.length := by
        have := (List.getElem?_eq_some_iff.1 hj).1
        simpa using this
      obtain ⟨b', off', h9, -, -, hcc⟩ := hc j hj2
      cases h9
      rw [hcc, ← hj, List.getElem?_map, List.getElem?_eq_getElem hj2]; rfl
    refine (Tryz.slices_Clone i1 (.int .i64 0) 1 8 ki kz0 kz1 kz2 rfl (by decide) (fun w => by kernel_rfl) b off xs.length cap (xs.map ei) w (by simp) (by unfold maxLen; omega) (by omega) hcell (by simp [Value.oneCell'])).mono ?_
    rintro e w' ⟨v', rfl, hown, -, hb⟩
    exact ⟨⟨v', rfl, hown⟩, Upd.ofBelow hb⟩

end Go.Proofs.YtcnaapiljmgfoaaGreatDoor

/-
  Relations between systems, the program's follow at whatever states; the states that internal edges reach.
-/
namespace Go.Proofs.YtcnaapiljmgfoaaGreatDoor
open Go.RowKit

theorem folF_stepG (T : Sys) (ys : List Int) (s : List UInt8) (i : Nat) (h : i < T.eds.length) :
    ((T.eds.take (i + 1)).filter (folP T ys s)).map Ed.to = ((T.eds.take i).filter (folP T ys s)).map Ed.to ++ (if folP T ys s T.eds[i] then [T.eds[i].to] else []) := by
  rw [List.take_succ_eq_append_getElem h, List.filter_append, List.map_append]
  congr 1
  cases hp : folP T ys s T.eds[i] <;> simp [hp]
theorem ownsRow_noSpot {w : World} {base n sz : Nat} {e : TypeId} {v : Value} {xs : List Value} (h : w.ownsRow base e sz v n xs) : NoSpot v := by
  obtain ⟨-, ⟨rfl, -⟩ | ⟨g, cap, cs, rfl, -⟩⟩ := h
  · exact NoSpot.none' _ _
  · exact NoSpot.mk _ _ _ _

set_option maxRecDepth 20000 in
set_option maxHeartbeats 8000000 in
theorem followG (T : Sys) (v1 v2 v3 : Value) (ys : List Int) (s : List UInt8) (w : World) (f1 f2 f3 : List Nat) (h1 : RS f1 w [v1] T.labs) (h2 : R_E1 f2 w [v2] T.eds) (h3 : R1 f3 w [v3] ys) (hok : sysOk T = true) :
    Calls Tryz.prog 65 #[.agg #[ei T.st, ei T.ini, v1, v2], v3, es s] w fun e w' => (∃ v' f', e = .returned v' ∧ R1 f' w' [v'] (setF (folF T ys s)) ∧ NoSpot v' ∧ ∀ b ∈ f', w.heap.size ≤ b) ∧ Upd [] w w' := by
  obtain ⟨i1, ki, kz0, kz1, kz2⟩ := info_parts Tryz.info2
  obtain ⟨-, -, hlabs, heds, -, -⟩ := sys_parts hok
  have hlab := Lib.hid (sys_labs hok)
  obtain ⟨la, ca, rfl, la1, la2, hca⟩ := slF1_open h1
  obtain ⟨a, cap, rfl, l1, l2, hc⟩ := slF3_open h2
  unfold maxLen at l2 la2
  have HCA := Lib.hid hca
  have HC := Lib.hid hc
  have HCO := Lib.hid (fun (x : Int) W (hu : Upd [] w W) => containsI v3 ys x W f3 (R1k.upd h3 hu (by simp)))
  obtain ⟨wA, hwA⟩ : ∃ wA, wA = w.alloc (.cells #[ei T.st, ei T.ini, .slice la T.labs.length ca, .slice a T.eds.length cap] 32) := ⟨_, rfl⟩
  have HUA := Lib.hid (show Upd [] w wA by rw [hwA]; exact (Upd.refl _ _).alloc _)
  have Z2 := Lib.hid (fun W (hu : Upd [] wA W) => hu.keep (show wA.cell? ⟨w.heap.size, 2, none⟩ = some (.slice la T.labs.length ca) by rw [hwA]; exact cell_new w _ _ _ rfl 2 _ rfl))
  have z3 : wA.cell? ⟨w.heap.size, 3, none⟩ = some (.slice a T.eds.length cap) := by rw [hwA]; exact cell_new w _ _ _ rfl 3 _ rfl
  have hszA : w.heap.size < wA.heap.size := by rw [hwA]; simp
  obtain ⟨BX, hBX⟩ : ∃ BX, BX = w.heap.size := ⟨_, rfl⟩
  rw [← hBX] at Z2 z3
  have HBX := Lib.hid (show BX < wA.heap.size by omega)
  have HF := Lib.hid (show folF T ys s = ((T.eds.take T.eds.length).filter (folP T ys s)).map Ed.to by rw [List.take_length]; rfl)
  have HST := Lib.hid (folF_stepG T ys s)
  have HP := Lib.hid (fun e => show folP T ys s e = (T.labs.getD e.lb.toNat [] == s && ys.contains e.fr) from rfl)
  have HL := Lib.hid (fun k => show (((T.eds.take k).filter (folP T ys s)).map Ed.to).length ≤ 300 by
    rw [List.length_map]
    refine Nat.le_trans (List.length_filter_le _ _) ?_
    rw [List.length_take]; omega)
  clear h1 h2 h3 hc hca hok
  generalize folF T ys s = FF at *
  generalize folP T ys s = FP at *
  go_enter Tryz.func65, Tryz.ntmps65
  go_upto_region 1 with (fail)
  rw [← hwA, ← hBX]
  clear hwA hBX hszA
  go_wp2_with fail
  go_loopw [7, 13] (fun ov iv wr => ∃ i : Nat, i ≤ T.eds.length ∧ iv = .int .i64 i ∧ Hid (wr.ownsRow wA.heap.size 2 1 ov (((T.eds.take i).filter FP).map Ed.to).length ((((T.eds.take i).filter FP).map Ed.to).map ei)) ∧ Hid (Upd [] wA wr)) (fun _ iv _ => T.eds.length - (intOf iv).toNat)
  case atStart => exact ⟨0, Nat.zero_le _, rfl, Lib.hid (World.ownsRow_nil _ _ _ _), Lib.hid (Upd.refl _ _)⟩
  case round =>
    clear z3
    obtain ⟨wo, rfl⟩ : ∃ wo : World, wo = wr := ⟨_, rfl⟩
    obtain ⟨i, hi, rfl, HO, HU⟩ := hrel
    obtain ⟨oa, oc, hov⟩ := ownsRow_form HO.out
    subst hov
    by_cases hlt : i < T.eds.length
    · obtain ⟨b, o, rfl, -, -, p1, p2, p3⟩ := HC.out i hlt
      have q1 := HU.out.keep (HUA.out.keep p1)
      have q2 := HU.out.keep (HUA.out.keep p2)
      have q3 := HU.out.keep (HUA.out.keep p3)
      have z2 := Z2.out wo HU.out
      have HS := Lib.hid (HST.out i hlt)
      have hpe := HP.out T.eds[i]
      have hll := HL.out i
      have hil : (i : Int) < (T.eds.length : Int) := by omega
      have hlb := hlab.out T.eds[i] (List.getElem_mem hlt)
      clear p1 p2 p3
      generalize ((T.eds.take i).filter FP).map Ed.to = P at *
      generalize T.eds[i] = x at *
      obtain ⟨x1, x2, x3⟩ := x
      simp only at q1 q2 q3 HS hpe hlb
      obtain ⟨le, rfl⟩ : ∃ N : Nat, x2 = N := ⟨x2.toNat, by omega⟩
      have hle : le < T.labs.length := by omega
      have hlei : (le : Int) < (T.labs.length : Int) := by omega
      obtain ⟨ba, obx, rfl, -, -, pA⟩ := HCA.out le hle
      have pA := HU.out.keep (HUA.out.keep pA)
      have gA : T.labs.getD le [] = T.labs[le] := by rw [List.getD_eq_getElem?_getD, List.getElem?_eq_getElem hle]; rfl
      rw [Int.toNat_natCast, gA] at hpe
      clear gA hlb
      generalize T.labs[le] = sa at *
      have HPE := Lib.hid hpe
      clear hpe
      obtain ⟨wB, hwB⟩ : ∃ wB, wB = wo.alloc (.cells #[.int .i64 x1, .int .i64 le, .int .i64 x3] 74) := ⟨_, rfl⟩
      have hown0 : wB.ownsRow wA.heap.size 2 1 (.slice oa P.length oc) P.length (P.map ei) := by rw [hwB]; exact HO.out.alloc _
      have UB : Upd [] wo wB := by rw [hwB]; exact (Upd.refl _ _).alloc _
      have HUB := Lib.hid (HU.out.trans UB)
      have t0 : wB.cell? ⟨wo.heap.size, 0, none⟩ = some (ei x1) := by rw [hwB]; exact cell_new wo _ _ _ rfl 0 _ rfl
      have t1 : wB.cell? ⟨wo.heap.size, 1, none⟩ = some (ei le) := by rw [hwB]; exact cell_new wo _ _ _ rfl 1 _ rfl
      have t2 : wB.cell? ⟨wo.heap.size, 2, none⟩ = some (ei x3) := by rw [hwB]; exact cell_new wo _ _ _ rfl 2 _ rfl
      have r2 := UB.keep z2
      have rA := UB.keep pA
      have SC := Lib.hid (HCO.out x1 wB (HUA.out.trans HUB.out))
      have hszB : wA.heap.size ≤ wB.heap.size := HUB.out.size
      obtain ⟨BE, hBE⟩ : ∃ BE, BE = wo.heap.size := ⟨_, rfl⟩
      rw [← hBE] at t0 t1 t2
      go_upto_region 5 with (fail)
      rw [← hwB, ← hBE]
      clear hwB hBE HO HU q1 q2 q3 z2 pA UB HCO
      cases hs : (sa == s) with
      | false =>
        have HN := Lib.hid (show (((T.eds.take (i + 1)).filter FP).map Ed.to) = P by rw [HS.out, HPE.out, hs]; simp)
        clear HS HPE SC
        go_wp2_with fail
        go_roundw
        case rel => exact ⟨i + 1, by omega, by go_num, Lib.hid (by rw [HN.out]; exact hown0), HUB⟩
        case measure => simp [intOf]; omega
      | true =>
        go_wp2_with fail
        refine SC.out.mono ?_
        rintro e w1 ⟨rfl, rfl⟩
        clear SC
        cases hy : ys.contains x1 with
        | false =>
          have HN := Lib.hid (show (((T.eds.take (i + 1)).filter FP).map Ed.to) = P by rw [HS.out, HPE.out, hs, hy]; simp)
          clear HS HPE hs hy
          go_wp2_with fail
          go_roundw
          case rel => exact ⟨i + 1, by omega, by go_num, Lib.hid (by rw [HN.out]; exact hown0), HUB⟩
          case measure => simp [intOf]; omega
        | true =>
          have HN := Lib.hid (show (((T.eds.take (i + 1)).filter FP).map Ed.to) = P ++ [x3] by rw [HS.out, HPE.out, hs, hy]; simp)
          clear HS HPE hs hy
          go_wp2_with (first
            | (at_builtin; refine wpList_append_tight _ rfl _ _ 45 rfl wA.heap.size 2 i1 (.int .i64 0) 1 8 Tryz.underlying45 ki kz0 kz1 kz2 rfl (by decide) _ _ _ rfl (hown0.alloc _) ⟨wB.heap.size, 0, none⟩ 1 1 [ei x3] rfl rfl (fun j u hj => by rw [addr_add]; exact cell_new wB #[ei x3] _ _ rfl _ _ (by simpa using hj)) (by simp [Value.oneCell']) (by unfold maxLen; omega) (by omega) (by simp; omega) ?_)
            | fail)
          intro v4 w4 hown4 hg4 ht4
          have HO4 := Lib.hid (show w4.ownsRow wA.heap.size 2 1 v4 (P ++ [x3]).length ((P ++ [x3]).map ei) by
            rw [List.length_append, List.map_append]; simpa using hown4)
          have HU4 := Lib.hid ((HUB.out.alloc (.cells #[ei x3] 2)).grown hg4 (fun b hb => Or.inl ((hown0.lt b hb).1)))
          clear hown4 hg4 ht4 hown0 t0 t1 t2 HUB r2 rA
          go_wp2_with fail
          go_roundw
          case rel => exact ⟨i + 1, by omega, by go_num, Lib.hid (by rw [HN.out]; exact HO4.out), HU4⟩
          case measure => simp [intOf]; omega
    · obtain rfl : i = T.eds.length := by omega
      have HOF := HO.out
      rw [← HF.out] at HOF
      have hns := ownsRow_noSpot HOF
      obtain ⟨f9, r9, o9, ge9⟩ := New.ofOwns HOF
      have hfl : FF.length ≤ 300 := by have := HL.out T.eds.length; rw [← HF.out] at this; exact this
      have S1 := Lib.hid (sortAllI _ FF wo f9 r9 o9 (by omega))
      have S2 := Lib.hid (fun W r o => compactAllI (.slice oa FF.length oc) (FF.mergeSort leZ) W f9 r o (by rw [List.length_mergeSort]; omega) hns)
      have HG := Lib.hid ge9
      rw [← HF.out]
      clear HO HOF r9 o9 ge9 hns hfl
      go_wp2_with fail
      refine S1.out.mono ?_
      rintro e w1 ⟨rfl, r1, o1, hu1⟩
      have T2 := Lib.hid (S2.out w1 r1 o1)
      have U1 := Lib.hid (HU.out.fresh hu1 (fun b hb => Or.inl (HG.out b hb)))
      clear S1 S2 hu1 r1 o1
      go_wp2_with fail
      refine T2.out.mono ?_
      rintro e w2 ⟨⟨v', rfl, r2, ns2⟩, o2, hu2⟩
      have U2 := Lib.hid (U1.out.fresh hu2 (fun b hb => Or.inl (HG.out b hb)))
      have R2 := Lib.hid (And.intro r2 ns2)
      clear T2 o2 hu2 r2 ns2
      go_wp2_with fail
      go_ret
      exact ⟨⟨v', f9, rfl, R2.out.1, R2.out.2, fun b hb => Nat.le_trans HUA.out.size (HG.out b hb)⟩, HUA.out.trans U2.out⟩

theorem r1_one (w : World) (y : Int) (B : Nat) (hB : w.heap.size = B) : R1 [B] (w.alloc (.cells #[ei y] 2)) [.slice (some ⟨B, 0, none⟩) 1 1] [y] := by
  refine ⟨_, rfl, some ⟨B, 0, none⟩, 1, rfl, Nat.le_refl _, by unfold maxLen; omega, rfl, Or.inr ⟨B, 0, rfl, rfl, by simp; omega, fun j u hj => ?_⟩⟩
  rw [show (⟨B, 0 + j, none⟩ : Addr) = ⟨B, j, none⟩ by simp]
  exact cell_new w _ _ _ hB j u (by simpa using hj)

/-- an internal edge. -/
def TauS (T : Sys) (k j : Int) : Prop := j ∈ folF T [k] tauL
/-- what internal edges reach. -/
inductive ReachT (T : Sys) : Int → Int → Prop
  | refl (k : Int) : ReachT T k k
  | step {k j l : Int} : ReachT T k j → TauS T j l → ReachT T k l
theorem folF_bd2 {T : Sys} (h : sysOk T = true) {ys : List Int} {s : List UInt8} : ∀ u ∈ folF T ys s, 0 ≤ u ∧ u < T.st := by
  intro u hu
  unfold folF at hu
  obtain ⟨e, he, rfl⟩ := List.mem_map.1 hu
  have h2 := (List.mem_filter.1 he).1
  unfold sysOk at h
  simp only [Bool.and_eq_true] at h
  obtain ⟨i, hi, rfl⟩ := List.getElem_of_mem h2
  have := allF_get h.2 i (by omega) (by omega)
  rw [edP_at _ _ hi] at this
  simp only [Bool.and_eq_true] at this
  have r2 := inB_true this.1.1.2
  omega
theorem nodup_le : ∀ (n : Nat) (L : List Int), L.Nodup → (∀ k ∈ L, 0 ≤ k ∧ k < n) → L.length ≤ n
  | 0, L, _, hb => by
    cases L with
    | nil => simp
    | cons x l => have := hb x (by simp); omega
  | n + 1, L, hn, hb => by
    have h1 := nodup_le n (L.erase (n : Int)) (hn.erase _) (fun k hk => by
      have h2 := (List.Nodup.mem_erase_iff hn).1 hk
      have h3 := hb k h2.2
      have : k ≠ n := h2.1
      omega)
    rw [List.length_erase] at h1
    split at h1 <;> omega

/-- the list of states under way, closed for its first i. -/
structure IntInv (T : Sys) (xs L : List Int) (i : Nat) : Prop where
  nd : L.Nodup
  bd : ∀ k ∈ L, 0 ≤ k ∧ k < T.st
  base : ∀ x ∈ xs, x ∈ L
  from' : ∀ k ∈ L, ∃ x ∈ xs, ReachT T x k
  shut : ∀ k ∈ L.take i, ∀ j, TauS T k j → j ∈ L
theorem IntInv.len {T : Sys} {xs L : List Int} {i : Nat} (h : IntInv T xs L i) (hs : 1 ≤ T.st ∧ T.st ≤ 40) : L.length ≤ 40 := by
  have := nodup_le T.st.toNat L h.nd (fun k hk => by have := h.bd k hk; omega)
  omega
theorem IntInv.push {T : Sys} {xs L : List Int} {i : Nat} (h : IntInv T xs L i) (hok : sysOk T = true) {y z : Int} (hi : i ≤ L.length) (hy : y ∈ L) (hz : TauS T y z) (hn : z ∉ L) : IntInv T xs (L ++ [z]) i := by
  refine ⟨?_, ?_, ?_, ?_, ?_⟩
  · rw [List.nodup_append]
    exact ⟨h.nd, by simp, fun a ha b hb => by simp at hb; subst hb; exact fun e => hn (e ▸ ha)⟩
  · intro k hk
    rcases List.mem_append.1 hk with hk | hk
    · exact h.bd k hk
    · simp at hk; subst hk; exact folF_bd2 hok _ hz
  · intro x hx; exact List.mem_append_left _ (h.base x hx)
  · intro k hk
    rcases List.mem_append.1 hk with hk | hk
    · exact h.from' k hk
    · simp at hk; subst hk
      obtain ⟨x, hx, hr⟩ := h.from' y hy
      exact ⟨x, hx, hr.step hz⟩
  · intro k hk j hj
    rw [List.take_append_of_le_length hi] at hk
    exact List.mem_append_left _ (h.shut k hk j hj)
theorem IntInv.next {T : Sys} {xs L : List Int} {i : Nat} (h : IntInv T xs L i) (hi : i < L.length) (hc : ∀ j, TauS T L[i] j → j ∈ L) : IntInv T xs L (i + 1) := by
  refine ⟨h.nd, h.bd, h.base, h.from', fun k hk j hj => ?_⟩
  rw [List.take_succ_eq_append_getElem hi, List.mem_append] at hk
  rcases hk with hk | hk
  · exact h.shut k hk j hj
  · simp at hk; subst hk; exact hc j hj
theorem IntInv.done {T : Sys} {xs L : List Int} {i : Nat} (h : IntInv T xs L i) (hi : L.length ≤ i) (k : Int) : k ∈ L ↔ ∃ x ∈ xs, ReachT T x k := by
  refine ⟨h.from' k, ?_⟩
  rintro ⟨x, hx, hr⟩
  have hx := h.base x hx
  induction hr with
  | refl => exact hx
  | step _ h2 ih => exact h.shut _ (by rw [List.take_of_length_le hi]; exact ih) _ h2

theorem take_same {L' L : List Int} {i : Nat} (h : L'.take (i + 1) = L.take (i + 1)) (hl' : i < L'.length) (hl : i < L.length) : L'[i] = L[i] := by
  have h1 : (L'.take (i + 1))[i]? = (L.take (i + 1))[i]? := by rw [h]
  rw [List.getElem?_take_of_lt (by omega), List.getElem?_take_of_lt (by omega), List.getElem?_eq_getElem hl', List.getElem?_eq_getElem hl] at h1
  exact Option.some.inj h1
theorem setF_len (xs : List Int) (n : Nat) (h : xs.length ≤ n) : (setF xs).length ≤ n := by
  unfold setF cmpF Lib.compactUpTo
  rw [List.length_map]
  refine Nat.le_trans (List.length_filter_le _ _) ?_
  simpa using h
set_option maxRecDepth 20000 in
set_option maxHeartbeats 8000000 in
theorem internalI (T : Sys) (v1 v2 v3 : Value) (xs : List Int) (w : World) (f1 f2 f3 : List Nat) (h1 : RS f1 w [v1] T.labs) (h2 : R_E1 f2 w [v2] T.eds) (h3 : R1 f3 w [v3] xs) (hns : NoSpot v3) (hok : sysOk T = true) (hnd : xs.Nodup) (hbd : ∀ x ∈ xs, 0 ≤ x ∧ x < T.st) :
    Calls Tryz.prog 70 #[.agg #[ei T.st, ei T.ini, v1, v2], v3] w fun e w' => (∃ v' f' zs, e = .returned v' ∧ R1 f' w' [v'] zs ∧ NoSpot v' ∧ zs.Nodup ∧ ∀ k, k ∈ zs ↔ ∃ x ∈ xs, ReachT T x k) ∧ Upd [] w w' := by
  obtain ⟨i1, ki, kz0, kz1, kz2⟩ := info_parts Tryz.info2
  have hst := (sys_parts hok).1
  have I0 : IntInv T xs xs 0 := ⟨hnd, hbd, fun x h => h, fun k h => ⟨k, h, ReachT.refl k⟩, fun k hk => by simp at hk⟩
  have hxl := I0.len hst
  obtain ⟨la, ca, rfl, -, -, -⟩ := slF1_open h1
  obtain ⟨a, cap, rfl, -, -, -⟩ := slF3_open h2
  obtain ⟨xa, xc, rfl, -, -, -⟩ := slF1_open h3
  obtain ⟨wA, hwA⟩ : ∃ wA, wA = w.alloc (.cells #[ei T.st, ei T.ini, .slice la T.labs.length ca, .slice a T.eds.length cap] 32) := ⟨_, rfl⟩
  have U := Lib.hid (show Upd [] w wA by rw [hwA]; exact (Upd.refl _ _).alloc _)
  have hS : SysAt w.heap.size wA T.st T.ini (.slice la T.labs.length ca) (.slice a T.eds.length cap) := by rw [hwA]; exact heap_alloc_new w _
  obtain ⟨BT, hBT⟩ : ∃ BT, BT = w.heap.size := ⟨_, rfl⟩
  rw [← hBT] at hS
  have HS := Lib.hid hS
  have S1 := Lib.hid (cloneZ _ xs wA f3 (R1k.upd h3 U.out (by simp)) (by omega) hns)
  have F1 := Lib.hid (fun (y : Int) W B (hu : Upd [] wA W) (hr : R1 [B] W [.slice (some ⟨B, 0, none⟩) 1 1] [y]) => show Calls Tryz.prog 65 #[.agg #[ei T.st, ei T.ini, .slice la T.labs.length ca, .slice a T.eds.length cap], .slice (some ⟨B, 0, none⟩) 1 1, .string ⟨#[116, 97, 117]⟩] W fun e w' => (∃ v' f', e = .returned v' ∧ R1 f' w' [v'] (setF (folF T [y] tauL)) ∧ NoSpot v' ∧ ∀ b ∈ f', W.heap.size ≤ b) ∧ Upd [] W w' from followG T (.slice la T.labs.length ca) (.slice a T.eds.length cap) (.slice (some ⟨B, 0, none⟩) 1 1) [y] tauL W f1 f2 [B] (RSk.upd h1 (U.out.trans hu) (by simp)) (R_E1k.upd h2 (U.out.trans hu) (by simp)) hr hok)
  have FL := Lib.hid (fun y => setF_len (folF T [y] tauL) 40 (folF_le hok y tauL))
  have HOK := Lib.hid hok
  have HST := Lib.hid hst
  have HI0 := Lib.hid I0
  clear h1 h2 h3 hns hok hnd hbd hS hst I0
  go_enter Tryz.func70, Tryz.ntmps70
  go_upto_region 1 with (fail)
  rw [← hwA, ← hBT]
  clear hwA hBT
  go_wp2_with fail
  refine S1.out.mono ?_
  rintro e w1 ⟨⟨v', rfl, hown⟩, hu1⟩
  have U1 := Lib.hid hu1
  have HO1 := Lib.hid hown
  have HSZ := Lib.hid hu1.size
  obtain ⟨BO, hBO⟩ : ∃ BO, BO = wA.heap.size := ⟨_, rfl⟩
  rw [← hBO] at HO1
  have HBO := Lib.hid hBO
  clear S1 hu1 hown hBO
  go_wp2_with fail
  go_loopw [5, 6] (fun ov iv wr => ∃ (L : List Int) (i : Nat), i ≤ L.length ∧ iv = .int .i64 i ∧ Hid (IntInv T xs L i) ∧ Hid (wr.ownsRow BO 2 1 ov L.length (L.map ei)) ∧ Hid (Upd [] wA wr)) (fun _ iv _ => 41 - (intOf iv).toNat)
  case atStart => exact ⟨xs, 0, Nat.zero_le _, rfl, HI0, HO1, U1⟩
  case round =>
    clear HI0 HO1 U1 HSZ
    obtain ⟨wo, rfl⟩ : ∃ wo : World, wo = wr := ⟨_, rfl⟩
    obtain ⟨L, i, hi, rfl, HI, HO, HU⟩ := hrel
    obtain ⟨oa, oc, hov⟩ := ownsRow_form HO.out
    subst hov
    have hLl := HI.out.len HST.out
    by_cases hlt : i < L.length
    · have hown0 : wo.ownsRow wA.heap.size 2 1 (.slice oa L.length oc) L.length (L.map ei) := by rw [← HBO.out]; exact HO.out
      obtain ⟨fr, rr, or', -⟩ := New.ofOwns hown0
      obtain ⟨ra, rc, hrv, -, hrm, hrc⟩ := slF1_open rr
      cases hrv
      obtain ⟨b, o, rfl, -, hbl, q1⟩ := hrc i hlt
      have hil : (i : Int) < (L.length : Int) := by omega
      obtain ⟨z0, z1, z2, z3, -⟩ := (HS.out.upd HU.out (by simp)).facts
      have HY := Lib.hid (List.getElem_mem hlt)
      have hty : ∀ j, TauS T L[i] j ↔ j ∈ setF (folF T [L[i]] tauL) := fun j => (setF_mem _ j).symm
      have HTY := Lib.hid hty
      have FO1 := Lib.hid (F1.out L[i])
      have hfl := FL.out L[i]
      have HLY := Lib.hid (fun (L' : List Int) (h : L'.take (i + 1) = L.take (i + 1)) (hl : i < L'.length) => take_same h hl hlt)
      generalize L[i] = y at *
      clear hty rr or' hrc hown0
      generalize setF (folF T [y] tauL) = FO at *
      go_wp2_with fail
      have FW := Lib.hid (FO1.out ((wo.alloc (.cells #[ei y] 2)).drew) wo.heap.size ((HU.out.alloc _).drew) (R1k.upd (r1_one wo y _ rfl) (Upd.refl [] _).drew (by simp)))
      have UW := Lib.hid (((Upd.refl [] wo).alloc (.cells #[ei y] 2)).drew)
      have x0 := UW.out.keep z0
      have x1 := UW.out.keep z1
      have x2 := UW.out.keep z2
      have x3 := UW.out.keep z3
      have x4 := UW.out.keep q1
      go_region_held3 (fun w' => w'.cell? ⟨BT, 0, none⟩ = some (ei T.st) ∧ w'.cell? ⟨BT, 1, none⟩ = some (ei T.ini) ∧ w'.cell? ⟨BT, 2, none⟩ = some (.slice la T.labs.length ca) ∧ w'.cell? ⟨BT, 3, none⟩ = some (.slice a T.eds.length cap) ∧ w'.cell? ⟨b, o + i, none⟩ = some (ei y)) (go_keep)
        (first
          | ((go_at_call 65); (with_reducible refine FW.out.mono ?_); rintro e w4 ⟨⟨v4, g4, rfl, r4, ns4, ge4⟩, hu4⟩; obtain ⟨va, vc, rfl, l4, m4, c4⟩ := slF1_open r4; have y0 := hu4.keep x0; have y1 := hu4.keep x1; have y2 := hu4.keep x2; have y3 := hu4.keep x3; have y4 := hu4.keep x4))
      have HR4 := Lib.hid r4
      have HBW := Lib.hid (show b < wo.heap.size by assumption)
      have HG4 := Lib.hid (fun c (hc : c ∈ g4) => show c ≠ b by have h1 := ge4 c hc; have h2 := HBW.out; simp at h1; omega)
      have HU4 := Lib.hid (HU.out.trans (UW.out.trans hu4))
      have HO4 := Lib.hid (ownsRow_upd HO.out (UW.out.trans hu4))
      have HI4 := Lib.hid (show IntInv T xs L i ∧ i < L.length ∧ L.take (i + 1) = L.take (i + 1) ∧ y ∈ L ∧ ∀ q ∈ FO.take 0, q ∈ L from ⟨HI.out, hlt, rfl, HY.out, fun q hq => by simp at hq⟩)
      clear FW UW x0 x1 x2 x3 x4 y0 y1 y2 y3 y4 z0 z1 z2 z3 q1 hu4 r4 c4 HI HO HU FO1 ns4 ge4
      go_wp2_with fail
      go_loopw [5, 25] (fun ov jv wr => ∃ (L' : List Int) (j : Nat), j ≤ FO.length ∧ jv = .int .i64 j ∧ Hid (IntInv T xs L' i ∧ i < L'.length ∧ L'.take (i + 1) = L.take (i + 1) ∧ y ∈ L' ∧ ∀ q ∈ FO.take j, q ∈ L') ∧ Hid (wr.ownsRow BO 2 1 ov L'.length (L'.map ei)) ∧ Hid (Upd [] wA wr) ∧ Hid (Upd [b] w4 wr) ∧ Hid (∀ g, ov.ownBlock = some g → g = b ∨ w4.heap.size ≤ g)) (fun _ jv _ => FO.length - (intOf jv).toNat)
      case atStart => exact ⟨L, 0, Nat.zero_le _, rfl, Lib.hid ⟨HI4.out.1, HI4.out.2.1, rfl, HI4.out.2.2.2.1, HI4.out.2.2.2.2⟩, HO4, HU4, Lib.hid (Upd.refl _ _), Lib.hid (fun g hg => Or.inl (by simpa [Value.ownBlock] using hg.symm))⟩
      case round =>
        clear HI4 HO4 HU4
        obtain ⟨wq, rfl⟩ : ∃ wq : World, wq = wr := ⟨_, rfl⟩
        obtain ⟨L', j, hj, rfl, HI, HO, HU, HX, HB⟩ := hrel
        obtain ⟨oa', oc', hov⟩ := ownsRow_form HO.out
        subst hov
        have hLl' := HI.out.1.len HST.out
        by_cases hjl : j < FO.length
        · obtain ⟨va', vc', hv', -, -, c4⟩ := slF1_open (R1k.upd HR4.out HX.out (fun c hc hm => HG4.out c hc (by simpa using hm)))
          cases hv'
          obtain ⟨b4, o4, rfl, -, -, p4⟩ := c4 j hjl
          have hji : (j : Int) < (FO.length : Int) := by omega
          have hown0 : wq.ownsRow wA.heap.size 2 1 (.slice oa' L'.length oc') L'.length (L'.map ei) := by rw [← HBO.out]; exact HO.out
          obtain ⟨fr, rr, -, -⟩ := New.ofOwns hown0
          have HTX := Lib.hid (show TauS T y FO[j] from (HTY.out FO[j]).2 (List.getElem_mem hjl))
          have hstep : FO.take (j + 1) = FO.take j ++ [FO[j]] := List.take_succ_eq_append_getElem hjl
          have HSTP := Lib.hid hstep
          generalize FO[j] = x at *
          have SC := Lib.hid (containsI (.slice oa' L'.length oc') L' x wq fr rr)
          clear hstep c4 rr hown0
          go_wp2_with fail
          refine SC.out.mono ?_
          rintro e w5 ⟨rfl, rfl⟩
          clear SC
          cases hc : L'.contains x with
          | true =>
            have hmem : x ∈ L' := by simpa using hc
            have HI9 := Lib.hid (show IntInv T xs L' i ∧ i < L'.length ∧ L'.take (i + 1) = L.take (i + 1) ∧ y ∈ L' ∧ ∀ q ∈ FO.take (j + 1), q ∈ L' from ⟨HI.out.1, HI.out.2.1, HI.out.2.2.1, HI.out.2.2.2.1, fun q hq => by
              rw [HSTP.out] at hq
              rcases List.mem_append.1 hq with h | h
              · exact HI.out.2.2.2.2 q h
              · simp at h; subst h; exact hmem⟩)
            clear hmem hc HI
            go_wp2_with fail
            go_roundw
            case rel => exact ⟨L', j + 1, by omega, by go_num, HI9, HO, HU, HX, HB⟩
            case measure => simp [intOf]; omega
          | false =>
            have hmem : x ∉ L' := by simpa using hc
            have hil' := HI.out.2.1
            have HI9 := Lib.hid (show IntInv T xs (L' ++ [x]) i ∧ i < (L' ++ [x]).length ∧ (L' ++ [x]).take (i + 1) = L.take (i + 1) ∧ y ∈ L' ++ [x] ∧ ∀ q ∈ FO.take (j + 1), q ∈ L' ++ [x] from ⟨HI.out.1.push HOK.out (by omega) HI.out.2.2.2.1 HTX.out hmem, by simp; omega, by rw [List.take_append_of_le_length (by omega)]; exact HI.out.2.2.1, List.mem_append_left _ HI.out.2.2.2.1, fun q hq => by
              rw [HSTP.out] at hq
              rcases List.mem_append.1 hq with h | h
              · exact List.mem_append_left _ (HI.out.2.2.2.2 q h)
              · exact List.mem_append_right _ h⟩)
            have hszq : BO ≤ wq.heap.size := by have h1 := HU.out.size; have h2 := HBO.out; omega
            have hown1 := HO.out
            clear hmem hc HI
            go_wp2_with (first
              | (at_builtin; refine wpList_append_tight _ rfl _ _ 45 rfl BO 2 i1 (.int .i64 0) 1 8 Tryz.underlying45 ki kz0 kz1 kz2 rfl (by decide) _ _ _ rfl (hown1.alloc _) ⟨wq.heap.size, 0, none⟩ 1 1 [ei x] rfl rfl (fun j u hj => by rw [addr_add]; exact cell_new wq #[ei x] _ _ rfl _ _ (by simpa using hj)) (by simp [Value.oneCell']) (by unfold maxLen; omega) (by omega) (by simp; omega) ?_)
              | fail)
            intro v6 w6 hown6 hg6 ht6
            have HO6 := Lib.hid (show w6.ownsRow BO 2 1 v6 (L' ++ [x]).length ((L' ++ [x]).map ei) by
              rw [List.length_append, List.map_append]; simpa using hown6)
            have HU6 := Lib.hid ((HU.out.alloc (.cells #[ei x] 2)).grown hg6 (fun c hc => Or.inl (by have h1 := (hown1.lt c hc).1; have h2 := HBO.out; omega)))
            have HX6 := Lib.hid ((HX.out.alloc (.cells #[ei x] 2)).grown hg6 (fun c hc => by
              rcases HB.out c hc with h | h
              · exact Or.inr (by simp [h])
              · exact Or.inl h))
            have HB6 := Lib.hid (show ∀ g, v6.ownBlock = some g → g = b ∨ w4.heap.size ≤ g from fun g hg => by
              rcases ht6 g hg with h | h
              · exact HB.out g h
              · exact Or.inr (by have h1 := HX.out.size; have h3 : wq.heap.size ≤ g := (by omega); omega))
            clear hown6 hg6 ht6 hown1
            go_wp2_with fail
            go_roundw
            case rel => exact ⟨L' ++ [x], j + 1, by omega, by go_num, HI9, HO6, HU6, HX6, HB6⟩
            case measure => simp [intOf]; omega
        · obtain rfl : j = FO.length := by omega
          have HI9 := Lib.hid (show IntInv T xs L' (i + 1) ∧ i + 1 ≤ L'.length from ⟨HI.out.1.next HI.out.2.1 (fun q hq => by
            rw [HLY.out L' HI.out.2.2.1 HI.out.2.1] at hq
            exact HI.out.2.2.2.2 q (by rw [List.take_length]; exact (HTY.out q).1 hq)), HI.out.2.1⟩)
          clear HI
          go_wp2_with fail
          go_roundw
          case rel => exact ⟨L', i + 1, HI9.out.2, by go_num, Lib.hid HI9.out.1, HO, HU⟩
          case measure => simp [intOf]; omega
    · obtain rfl : i = L.length := by omega
      have hown0 : wo.ownsRow wA.heap.size 2 1 (.slice oa L.length oc) L.length (L.map ei) := by rw [← HBO.out]; exact HO.out
      have HNS := Lib.hid (ownsRow_noSpot hown0)
      obtain ⟨f9, r9, o9, ge9⟩ := New.ofOwns hown0
      have S3 := Lib.hid (sortAllI _ L wo f9 r9 o9 (by omega))
      have HG := Lib.hid ge9
      have HD := Lib.hid (fun k => HI.out.done (Nat.le_refl _) k)
      have HND := Lib.hid HI.out.nd
      clear HO HI r9 o9 ge9 hown0 F1
      go_wp2_with fail
      refine S3.out.mono ?_
      rintro e w5 ⟨rfl, r5, -, hu5⟩
      have U5 := Lib.hid (HU.out.fresh hu5 (fun c hc => Or.inl (HG.out c hc)))
      have R5 := Lib.hid r5
      clear S3 hu5 r5
      go_wp2_with fail
      go_ret
      exact ⟨⟨_, f9, _, rfl, R5.out, HNS.out, ((List.mergeSort_perm L leZ).nodup_iff).2 HND.out, fun k => by rw [(List.mergeSort_perm L leZ).mem_iff]; exact HD.out k⟩, U.out.trans U5.out⟩

end Go.Proofs.YtcnaapiljmgfoaaGreatDoor
