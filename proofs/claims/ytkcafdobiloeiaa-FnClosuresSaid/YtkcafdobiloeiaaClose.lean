/-
  ClosureOf, both sides: the same steps on the matrix.
-/
import Derived.Test.YtkcafdobiloeiaaComp
namespace Go.Proofs.Ytkcafdobiloeiaa
open Go.RowKit

def reflTo (F : Nat → Nat → Bool) (k : Nat) : Nat → Nat → Bool := fun i j => F i j || decide (i = j ∧ i < k)
def rowPart (F : Nat → Nat → Bool) (b a c : Nat) : Nat → Nat → Bool := fun i j => F i j || (decide (i = a ∧ j < c) && (F a b && F b j))
def wRow (m : Nat) (F : Nat → Nat → Bool) (b : Nat) : Nat → Nat → Nat → Bool
  | 0 => F
  | a + 1 => rowPart (wRow m F b a) b a m
def wAll (m : Nat) (F : Nat → Nat → Bool) : Nat → Nat → Nat → Bool
  | 0 => F
  | b + 1 => wRow m (wAll m F b) b m
def closeF (m : Nat) (F : Nat → Nat → Bool) : Nat → Nat → Bool := wAll m (reflTo F m) m

theorem reflTo_zero (F : Nat → Nat → Bool) : reflTo F 0 = F := by funext i j; simp [reflTo]
theorem reflTo_step (F : Nat → Nat → Bool) (k : Nat) : Go.Proofs.Ytkcafdobiloeiaa.upd (reflTo F k) k k true = reflTo F (k + 1) := by
  funext i j
  unfold Go.Proofs.Ytkcafdobiloeiaa.upd reflTo
  split
  · rename_i h; obtain ⟨rfl, rfl⟩ := h; simp
  · rename_i h
    congr 1
    rw [decide_eq_decide]; omega
theorem rowPart_zero (F : Nat → Nat → Bool) (b a : Nat) : rowPart F b a 0 = F := by funext i j; simp [rowPart]
theorem rowPart_ac (F : Nat → Nat → Bool) (b a c : Nat) : rowPart F b a c a c = F a c := by simp [rowPart]
theorem rowPart_ab (F : Nat → Nat → Bool) (b a c : Nat) : rowPart F b a c a b = F a b := by
  unfold rowPart; cases F a b <;> simp
theorem rowPart_bc (F : Nat → Nat → Bool) (b a c : Nat) : rowPart F b a c b c = F b c := by simp [rowPart]
theorem rowPart_step (F : Nat → Nat → Bool) (b a c : Nat) (x : Bool) (hx : x = (F a c || (F a b && F b c))) :
    Go.Proofs.Ytkcafdobiloeiaa.upd (rowPart F b a c) a c x = rowPart F b a (c + 1) := by
  funext i j
  unfold Go.Proofs.Ytkcafdobiloeiaa.upd rowPart
  split
  · rename_i h; obtain ⟨rfl, rfl⟩ := h; simp [hx]
  · rename_i h
    congr 2
    rw [decide_eq_decide]; omega
theorem rowPart_same (F : Nat → Nat → Bool) (b a c : Nat) (h : (F a b && F b c) = true → F a c = true) : rowPart F b a c = rowPart F b a (c + 1) := by
  rw [← rowPart_step F b a c (F a c) (by cases h1 : F a c <;> cases h2 : (F a b && F b c) <;> simp_all)]
  funext i j
  unfold Go.Proofs.Ytkcafdobiloeiaa.upd
  split
  · rename_i h; obtain ⟨rfl, rfl⟩ := h; rw [rowPart_ac]
  · rfl
theorem rowPart_no (F : Nat → Nat → Bool) (b a m : Nat) (h : F a b = false) : rowPart F b a m = F := by funext i j; simp [rowPart, h]

theorem matF_row {fp : List Nat} {w : World} {v : Value} {m : Nat} {F : Nat → Nat → Bool} (h : Rm fp w [v] (mat m F)) (hO : Own fp w) (i : Nat) (hi : i < m) :
    ∃ cap b off b2 o2 c2, v = .slice (some ⟨b, off, none⟩) m cap ∧ m ≤ cap ∧ cap ≤ 9223372036854775807 ∧ w.cell? ⟨b, off + i, none⟩ = some (.slice (some ⟨b2, o2, none⟩) m c2) ∧ m ≤ c2 ∧ c2 ≤ 9223372036854775807 ∧ b2 ∈ fp ∧
      ∀ j, j < m → w.cell? ⟨b2, o2 + j, none⟩ = some (.bool (F i j)) ∧ w.frozen? ⟨b2, o2 + j, none⟩ = false ∧
        ∀ x, Rm fp (w.setCell ⟨b2, o2 + j, none⟩ (.bool x)) [v] (mat m (Go.Proofs.Ytkcafdobiloeiaa.upd F i j x)) ∧ Own fp (w.setCell ⟨b2, o2 + j, none⟩ (.bool x)) := by
  obtain ⟨cap, b, off, b2, o2, c2, hv, g1, g2, g3, g4, g5, -, -, g6, -⟩ := matF_cell h hO i 0 hi (by omega)
  refine ⟨cap, b, off, b2, o2, c2, hv, g1, g2, g3, g4, g5, g6, fun j hj => ?_⟩
  obtain ⟨cap', b', off', b2', o2', c2', hv', -, -, k3, -, -, k4, k5, -, k6⟩ := matF_cell h hO i j hi hj
  rw [hv] at hv'
  simp only [Value.slice.injEq, Option.some.injEq, Addr.mk.injEq, and_true, true_and] at hv'
  obtain ⟨⟨rfl, rfl⟩, rfl⟩ := hv'
  rw [g3] at k3
  simp only [Option.some.injEq, Value.slice.injEq, Addr.mk.injEq, and_true, true_and] at k3
  obtain ⟨⟨rfl, rfl⟩, rfl⟩ := k3
  exact ⟨k4, k5, k6⟩

set_option maxHeartbeats 2000000 in
theorem closure59 (m : Nat) (F : Nat → Nat → Bool) (v : Value) (w : World) (fp : List Nat) (hR : Rm fp w [v] (mat m F)) (hO : Own fp w) :
    Calls Try.prog 59 #[v] w fun e w' => e = .returned (.tuple #[]) ∧ Rm fp w' [v] (mat m (closeF m F)) ∧ Own fp w' ∧ Upd fp w w' := by
  obtain ⟨a, cap, hv, h1, h2, -⟩ := slP_open hR
  simp only [mat_length] at *
  subst hv
  unfold maxLen at h2
  rw [← reflTo_zero F] at hR
  go_enter Try.func59, Try.ntmps59
  go_wp2
  go_loopw [8] (fun i wr => ∃ k : Nat, k ≤ m ∧ i = .int .i64 k ∧ Upd fp w wr ∧ Rm fp wr [.slice a m cap] (mat m (reflTo F k)) ∧ Own fp wr) (fun i _ => m - (intOf i).toNat)
  case atStart => exact ⟨0, Nat.zero_le _, rfl, Upd.refl _ _, hR, hO⟩
  case round =>
    clear hR hO
    obtain ⟨k, hk, rfl, hU, hR, hO⟩ := hrel
    by_cases hlt : k < m
    · obtain ⟨cap', b, off, b2, o2, c2, hv, -, -, r1, g1, g2, hin, hrow⟩ := matF_row hR hO k hlt
      simp only [Value.slice.injEq] at hv
      obtain ⟨rfl, -, rfl⟩ := hv
      obtain ⟨r2, hfr, hset⟩ := hrow k hlt
      have hset := hset true
      rw [reflTo_step] at hset
      have HS := Lib.hid hset
      clear hset hrow hR hO
      go_wp2
      go_roundw
      case rel => exact ⟨k + 1, by omega, by go_num, hU.setCell (Or.inr hin) _, HS.out.1, HS.out.2⟩
      case measure => simp [intOf]; omega
    · obtain rfl : m = k := by omega
      go_wp2
      obtain ⟨wo, rfl⟩ : ∃ wo : World, wo = wr := ⟨_, rfl⟩
      go_loopw [20] (fun i wr => ∃ b : Nat, b ≤ m ∧ i = .int .i64 b ∧ Upd fp w wr ∧ Rm fp wr [.slice a m cap] (mat m (wAll m (reflTo F m) b)) ∧ Own fp wr) (fun i _ => m - (intOf i).toNat)
      case atStart => exact ⟨0, Nat.zero_le _, rfl, hU, hR, hO⟩
      case round =>
        clear hU hR hO
        obtain ⟨b, hb, rfl, hU, hR, hO⟩ := hrel
        by_cases hbm : b < m
        · have HA := Lib.hid (show wAll m (reflTo F m) (b + 1) = wRow m (wAll m (reflTo F m) b) b m from rfl)
          generalize wAll m (reflTo F m) b = A at *
          go_wp2
          obtain ⟨wo2, rfl⟩ : ∃ wo2 : World, wo2 = wr := ⟨_, rfl⟩
          go_loopw [25] (fun i wr => ∃ x : Nat, x ≤ m ∧ i = .int .i64 x ∧ Upd fp w wr ∧ Rm fp wr [.slice a m cap] (mat m (wRow m A b x)) ∧ Own fp wr) (fun i _ => m - (intOf i).toNat)
          case atStart => exact ⟨0, Nat.zero_le _, rfl, hU, hR, hO⟩
          case round =>
            clear hU hR hO
            obtain ⟨x, hx, rfl, hU, hR, hO⟩ := hrel
            by_cases hxm : x < m
            · have HB := Lib.hid (show wRow m A b (x + 1) = rowPart (wRow m A b x) b x m from rfl)
              generalize wRow m A b x = B at *
              rw [← rowPart_zero B b x] at hR
              go_wp2
              obtain ⟨wo3, rfl⟩ : ∃ wo3 : World, wo3 = wr := ⟨_, rfl⟩
              go_loopw [30] (fun i wr => ∃ c : Nat, c ≤ m ∧ i = .int .i64 c ∧ Upd fp w wr ∧ Rm fp wr [.slice a m cap] (mat m (rowPart B b x c)) ∧ Own fp wr) (fun i _ => m - (intOf i).toNat)
              case atStart => exact ⟨0, Nat.zero_le _, rfl, hU, hR, hO⟩
              case round =>
                clear hU hR hO
                obtain ⟨c, hc, rfl, hU, hR, hO⟩ := hrel
                by_cases hcm : c < m
                · obtain ⟨cap', b0, off, b2, o2, c2, hv, -, -, r1, g1, g2, hin, hrow⟩ := matF_row hR hO x hxm
                  simp only [Value.slice.injEq] at hv
                  obtain ⟨rfl, -, rfl⟩ := hv
                  obtain ⟨q1, hfr, hset⟩ := hrow c hcm
                  obtain ⟨q2, -, -⟩ := hrow b hbm
                  obtain ⟨cap'', b0', off', b3, o3, c3, hv, -, -, r3, g3, g4, -, hrow3⟩ := matF_row hR hO b hbm
                  simp only [Value.slice.injEq, Option.some.injEq, Addr.mk.injEq, and_true, true_and] at hv
                  obtain ⟨⟨rfl, rfl⟩, rfl⟩ := hv
                  obtain ⟨q3, -, -⟩ := hrow3 c hcm
                  rw [rowPart_ac] at q1
                  rw [rowPart_ab] at q2
                  rw [rowPart_bc] at q3
                  have hset := hset (B x c || (B x b && B b c))
                  rw [rowPart_step _ _ _ _ _ rfl] at hset
                  clear hrow hrow3 hR hO
                  cases h1 : B x c
                  · cases h2 : B x b
                    · rw [h1] at q1
                      rw [h2] at q2
                      rw [h1, h2] at hset
                      simp only [Bool.false_and, Bool.or_false] at hset
                      have HS := Lib.hid hset
                      clear hset h1 h2 q3
                      go_wp2
                      go_region
                      go_wp2
                      go_roundw
                      case rel => exact ⟨c + 1, by omega, by go_num, (hU.setCell (Or.inr hin) _).drew, Rmk.drew HS.out.1, HS.out.2.drew⟩
                      case measure => simp [intOf]; omega
                    · rw [h1] at q1
                      rw [h2] at q2
                      rw [h1, h2] at hset
                      simp only [Bool.true_and, Bool.false_or] at hset
                      have HS := Lib.hid hset
                      clear hset h1 h2
                      go_wp2
                      go_region
                      go_wp2
                      go_roundw
                      case rel => exact ⟨c + 1, by omega, by go_num, (hU.setCell (Or.inr hin) _).drew, Rmk.drew HS.out.1, HS.out.2.drew⟩
                      case measure => simp [intOf]; omega
                  · rw [h1] at q1
                    rw [h1] at hset
                    simp only [Bool.true_or] at hset
                    have HS := Lib.hid hset
                    clear hset h1 q2 q3
                    go_wp2
                    go_region
                    go_wp2
                    go_roundw
                    case rel => exact ⟨c + 1, by omega, by go_num, (hU.setCell (Or.inr hin) _).drew, Rmk.drew HS.out.1, HS.out.2.drew⟩
                    case measure => simp [intOf]; omega
                · obtain rfl : m = c := by omega
                  rw [← HB.out] at hR
                  go_wp2
                  go_roundw
                  case rel => exact ⟨x + 1, by omega, by go_num, hU, hR, hO⟩
                  case measure => simp [intOf]; omega
            · obtain rfl : m = x := by omega
              rw [← HA.out] at hR
              go_wp2
              go_roundw
              case rel => exact ⟨b + 1, by omega, by go_num, hU, hR, hO⟩
              case measure => simp [intOf]; omega
        · obtain rfl : m = b := by omega
          go_wp2
          go_end0
          exact ⟨rfl, hR, hO, hU⟩

set_option maxHeartbeats 2000000 in
theorem l02Close (m : Nat) (F : Nat → Nat → Bool) (v : Value) (w : World) (fp : List Nat) (hm : m ≤ 40) (hR : Rb fp w [v] (flat m F)) (hO : Own fp w) :
    Calls Try.prog 65 #[.int .i64 m, v] w fun e w' => e = .returned (.tuple #[]) ∧ Rb fp w' [v] (flat m (closeF m F)) ∧ Own fp w' ∧ Upd fp w w' := by
  obtain ⟨a, cap, hv, h1, h2, -⟩ := slF1_open hR
  simp only [flat_length] at *
  subst hv
  unfold maxLen at h2
  rw [← reflTo_zero F] at hR
  go_enter Try.func65, Try.ntmps65
  go_wp2
  go_loopw [4] (fun i wr => ∃ k : Nat, k ≤ m ∧ i = .int .i64 k ∧ Upd fp w wr ∧ Rb fp wr [.slice a (m * m) cap] (flat m (reflTo F k)) ∧ Own fp wr) (fun i _ => m - (intOf i).toNat)
  case atStart => exact ⟨0, Nat.zero_le _, rfl, Upd.refl _ _, hR, hO⟩
  case round =>
    clear hR hO
    obtain ⟨k, hk, rfl, hU, hR, hO⟩ := hrel
    by_cases hlt : k < m
    · obtain ⟨b, off, cap', hv, -, -, hfp, r1, hset⟩ := flatF_cell hR k k hlt hlt
      simp only [Value.slice.injEq, true_and] at hv
      obtain ⟨rfl, rfl⟩ := hv
      have hset := hset true
      rw [reflTo_step] at hset
      have hfr : wr.frozen? ⟨b, off + (k * m + k), none⟩ = false := hO.frozen (by rw [hfp]; simp) _
      have ho2 := hO.setCell ⟨b, off + (k * m + k), none⟩ (.bool true)
      have hin : b ∈ fp := by rw [hfp]; simp
      have hix : k * m + k < m * m := idx_lt hlt hlt
      have hbd2 := mul_bd (i := k) (j := m) (n := m) (by omega) (Nat.le_refl _) hm
      have HS := Lib.hid (And.intro hset ho2)
      clear hset ho2 hR hO hfp
      go_wp2
      go_roundw
      case rel => exact ⟨k + 1, by omega, by go_num, hU.setCell (Or.inr hin) _, HS.out.1, HS.out.2⟩
      case measure => simp [intOf]; omega
    · obtain rfl : m = k := by omega
      go_wp2
      obtain ⟨wo, rfl⟩ : ∃ wo : World, wo = wr := ⟨_, rfl⟩
      go_loopw [5] (fun i wr => ∃ b : Nat, b ≤ m ∧ i = .int .i64 b ∧ Upd fp w wr ∧ Rb fp wr [.slice a (m * m) cap] (flat m (wAll m (reflTo F m) b)) ∧ Own fp wr) (fun i _ => m - (intOf i).toNat)
      case atStart => exact ⟨0, Nat.zero_le _, rfl, hU, hR, hO⟩
      case round =>
        clear hU hR hO
        obtain ⟨b, hb, rfl, hU, hR, hO⟩ := hrel
        by_cases hbm : b < m
        · have HA := Lib.hid (show wAll m (reflTo F m) (b + 1) = wRow m (wAll m (reflTo F m) b) b m from rfl)
          generalize wAll m (reflTo F m) b = A at *
          go_wp2
          obtain ⟨wo2, rfl⟩ : ∃ wo2 : World, wo2 = wr := ⟨_, rfl⟩
          go_loopw [6] (fun i wr => ∃ x : Nat, x ≤ m ∧ i = .int .i64 x ∧ Upd fp w wr ∧ Rb fp wr [.slice a (m * m) cap] (flat m (wRow m A b x)) ∧ Own fp wr) (fun i _ => m - (intOf i).toNat)
          case atStart => exact ⟨0, Nat.zero_le _, rfl, hU, hR, hO⟩
          case round =>
            clear hU hR hO
            obtain ⟨x, hx, rfl, hU, hR, hO⟩ := hrel
            by_cases hxm : x < m
            · have HB := Lib.hid (show wRow m A b (x + 1) = rowPart (wRow m A b x) b x m from rfl)
              generalize wRow m A b x = B at *
              have hbd2 := mul_bd (i := x) (j := m) (n := m) (by omega) (Nat.le_refl _) hm
              have hix := idx_lt hxm hbm
              obtain ⟨b4, off, cap', hv, -, -, hfp, r1, -⟩ := flatF_cell hR x b hxm hbm
              simp only [Value.slice.injEq, true_and] at hv
              obtain ⟨rfl, rfl⟩ := hv
              cases hxb : B x b
              · rw [hxb] at r1
                have hno := rowPart_no B b x m hxb
                have hR2 : Rb fp wr [.slice (some ⟨b4, off, none⟩) (m * m) cap] (flat m (wRow m A b (x + 1))) := by rw [HB.out, hno]; exact hR
                clear hxb hno hR hfp
                go_wp2
                go_roundw
                case rel => exact ⟨x + 1, by omega, by go_num, hU, hR2, hO⟩
                case measure => simp [intOf]; omega
              · rw [hxb] at r1
                have HXB := Lib.hid hxb
                rw [← rowPart_zero B b x] at hR
                clear hxb hfp
                go_wp2
                obtain ⟨wo3, rfl⟩ : ∃ wo3 : World, wo3 = wr := ⟨_, rfl⟩
                clear r1 hix
                go_loopw [7] (fun i wr => ∃ c : Nat, c ≤ m ∧ i = .int .i64 c ∧ Upd fp w wr ∧ Rb fp wr [.slice (some ⟨b4, off, none⟩) (m * m) cap] (flat m (rowPart B b x c)) ∧ Own fp wr) (fun i _ => m - (intOf i).toNat)
                case atStart => exact ⟨0, Nat.zero_le _, rfl, hU, hR, hO⟩
                case round =>
                  clear hU hR hO
                  obtain ⟨c, hc, rfl, hU, hR, hO⟩ := hrel
                  by_cases hcm : c < m
                  · have hbd3 := mul_bd (i := b) (j := m) (n := m) (by omega) (Nat.le_refl _) hm
                    have hix2 := idx_lt hbm hcm
                    have hix3 := idx_lt hxm hcm
                    obtain ⟨b5, off5, cap5, hv, -, -, hfp, r2, -⟩ := flatF_cell hR b c hbm hcm
                    simp only [Value.slice.injEq, Option.some.injEq, Addr.mk.injEq, and_true, true_and] at hv
                    obtain ⟨⟨rfl, rfl⟩, rfl⟩ := hv
                    obtain ⟨b5, off5, cap5, hv, -, -, -, r3, hset⟩ := flatF_cell hR x c hxm hcm
                    simp only [Value.slice.injEq, Option.some.injEq, Addr.mk.injEq, and_true, true_and] at hv
                    obtain ⟨⟨rfl, rfl⟩, rfl⟩ := hv
                    rw [rowPart_bc] at r2
                    have hset := hset true
                    have hfr : wr.frozen? ⟨b4, off + (x * m + c), none⟩ = false := hO.frozen (by rw [hfp]; simp) _
                    have ho2 := hO.setCell ⟨b4, off + (x * m + c), none⟩ (.bool true)
                    have hin : b4 ∈ fp := by rw [hfp]; simp
                    cases h2 : B b c
                    · rw [h2] at r2
                      rw [rowPart_same B b x c (by simp [h2])] at hR
                      clear h2 hset ho2 hfr r3 hfp
                      go_wp2
                      go_roundw
                      case rel => exact ⟨c + 1, by omega, by go_num, hU, hR, hO⟩
                      case measure => simp [intOf]; omega
                    · rw [h2] at r2
                      rw [rowPart_step B b x c true (by rw [HXB.out, h2]; simp)] at hset
                      have HS := Lib.hid (And.intro hset ho2)
                      clear h2 hset ho2 hR hO hfp
                      go_wp2
                      go_roundw
                      case rel => exact ⟨c + 1, by omega, by go_num, hU.setCell (Or.inr hin) _, HS.out.1, HS.out.2⟩
                      case measure => simp [intOf]; omega
                  · obtain rfl : m = c := by omega
                    rw [← HB.out] at hR
                    go_wp2
                    go_roundw
                    case rel => exact ⟨x + 1, by omega, by go_num, hU, hR, hO⟩
                    case measure => simp [intOf]; omega
            · obtain rfl : m = x := by omega
              rw [← HA.out] at hR
              go_wp2
              go_roundw
              case rel => exact ⟨b + 1, by omega, by go_num, hU, hR, hO⟩
              case measure => simp [intOf]; omega
        · obtain rfl : m = b := by omega
          go_wp2
          go_end0
          exact ⟨rfl, hR, hO, hU⟩

noncomputable def closRes (n : Int) (r : List (List Int)) : List (List Int) × Int :=
  if relB n r then (allTo n.toNat (closeF n.toNat (hasF r)) n.toNat, 0) else ([], 1)

set_option maxHeartbeats 1000000 in
theorem clos_i (n : Int) (r : List (List Int)) (v : Value) (w : World) (b : -9223372036854775808 ≤ n ∧ n ≤ 9223372036854775807) (fp : List Nat) (hR : R_N2 fp w [v] r) :
    Calls Try.prog 27 #[.int .i64 n, v] w fun e w' => (∃ v', e = .returned (.tuple #[v', .int .i64 (closRes n r).2]) ∧ New R_N2 w w' v' (closRes n r).1) ∧ Upd [] w w' := by
  cases hb : relB n r
  · have hres : closRes n r = ([], 1) := by simp [closRes, hb]
    have HR := Lib.hid hres
    clear hres
    go_enter Try.func27, Try.ntmps27
    go_wp2_with (go_at_call 49; refine (isRelation _ _ _ _ _ b.1 b.2 hR).mono ?_; rintro e w' ⟨rfl, rfl⟩)
    go_ret2
    rw [HR.out]
    exact ⟨⟨_, rfl, New.nilP _ _ _⟩, Upd.refl _ _⟩
  · have hnn := relB_n hb
    obtain ⟨m, rfl⟩ := Int.eq_ofNat_of_zero_le (show 0 ≤ n by omega)
    have hres : closRes m r = (allTo m (closeF m (hasF r)) m, 0) := by simp [closRes, hb]
    have HR := Lib.hid hres
    have HB := Lib.hid hb
    clear hres
    go_enter Try.func27, Try.ntmps27
    go_wp2_with fail
    refine (isRelation _ _ _ _ _ b.1 b.2 hR).mono ?_
    rintro e w' ⟨rfl, rfl⟩
    go_wp2_with fail
    refine (matrixOf m r v _ fp HB.out hR).mono ?_
    rintro e w1 ⟨⟨v1, rfl, fp1, hm1, ho1, hf1⟩, hU⟩
    have HF1 := Lib.hid (fun b hb => Or.inl (hf1 b hb) : ∀ b ∈ fp1, w.heap.size ≤ b ∨ b ∈ ([] : List Nat))
    clear hb hf1
    go_wp2_with fail
    refine (closure59 m _ v1 _ fp1 hm1 ho1).mono ?_
    rintro e w2 ⟨rfl, hm2, ho2, hu2⟩
    have hU2 := hU.fresh hu2 HF1.out
    clear hm1 ho1 hU hu2
    go_wp2_with fail
    refine (list51 m _ _ _ fp1 (by omega) hm2).mono ?_
    rintro e w3 ⟨⟨v2, rfl, hn⟩, hu3⟩
    go_wp2_with fail
    go_ret2
    rw [HR.out]
    obtain ⟨f2, k1, k2, k3⟩ := hn
    exact ⟨⟨_, rfl, f2, k1, k2, fun b hb => by have := k3 b hb; have := hU2.size; omega⟩, hU2.trans hu3⟩

set_option maxHeartbeats 1000000 in
theorem clos_s (n : Int) (r : List (List Int)) (v : Value) (w : World) (_b : -9223372036854775808 ≤ n ∧ n ≤ 9223372036854775807) (fp : List Nat) (hR : R_N2 fp w [v] r) :
    Calls Try.prog 36 #[.int .i64 n, v] w fun e w' => (∃ v', e = .returned (.tuple #[v', .int .i64 (closRes n r).2]) ∧ New R_N2 w w' v' (closRes n r).1) ∧ Upd [] w w' := by
  cases hb : relB n r
  · have hres : closRes n r = ([], 1) := by simp [closRes, hb]
    have HR := Lib.hid hres
    clear hres
    go_enter Try.func36, Try.ntmps36
    go_wp2_with fail
    refine (l02Relation _ _ _ _ _ hR).mono ?_
    rintro e w1 ⟨rfl, d, hw1⟩
    have hU : Upd [] w w1 := by rw [hw1]; exact (Upd.refl _ _).drewN _
    clear hw1
    go_wp2_with fail
    go_ret2
    rw [HR.out]
    exact ⟨⟨_, rfl, New.nilP _ _ _⟩, hU⟩
  · have hnn := relB_n hb
    obtain ⟨m, rfl⟩ := Int.eq_ofNat_of_zero_le (show 0 ≤ n by omega)
    have hres : closRes m r = (allTo m (closeF m (hasF r)) m, 0) := by simp [closRes, hb]
    have HR := Lib.hid hres
    have HB := Lib.hid hb
    clear hres
    go_enter Try.func36, Try.ntmps36
    go_wp2_with fail
    refine (l02Relation _ _ _ _ _ hR).mono ?_
    rintro e w0 ⟨rfl, d, hw0⟩
    have hU0 : Upd [] w w0 := by rw [hw0]; exact (Upd.refl _ _).drewN _
    clear hw0
    go_wp2_with fail
    refine (l02Matrix m r v _ fp HB.out (R2k.upd hR hU0 (by simp))).mono ?_
    rintro e w1 ⟨⟨v1, rfl, fp1, hm1, ho1, hf1⟩, hU1⟩
    have hU := hU0.trans hU1
    have h0s := hU0.size
    have HF1 := Lib.hid (fun b hb => Or.inl (Nat.le_trans h0s (hf1 b hb)) : ∀ b ∈ fp1, w.heap.size ≤ b ∨ b ∈ ([] : List Nat))
    clear hb hf1 hU0 hU1 h0s
    go_wp2_with fail
    refine (l02Close m _ v1 _ fp1 (by omega) hm1 ho1).mono ?_
    rintro e w2 ⟨rfl, hm2, ho2, hu2⟩
    have hU2 := hU.fresh hu2 HF1.out
    clear hm1 ho1 hU hu2
    go_wp2_with fail
    refine (l02List m _ _ _ fp1 (by omega) hm2).mono ?_
    rintro e w3 ⟨⟨v2, rfl, hn⟩, hu3⟩
    go_wp2_with fail
    go_ret2
    rw [HR.out]
    obtain ⟨f2, k1, k2, k3⟩ := hn
    exact ⟨⟨_, rfl, f2, k1, k2, fun b hb => by have := k3 b hb; have := hU2.size; omega⟩, hU2.trans hu3⟩

theorem clos_b (n : Int) (r : List (List Int)) : mkF_N2 (closRes n r).1 ≤ 3200 := by
  unfold closRes mkF_N2
  split
  · rename_i h; exact pairs_tot _ _ (by have := relB_n h; omega)
  · simp [tot]

end Go.Proofs.Ytkcafdobiloeiaa
