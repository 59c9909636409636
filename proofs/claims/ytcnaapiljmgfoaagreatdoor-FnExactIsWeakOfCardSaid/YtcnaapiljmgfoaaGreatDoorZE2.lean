/-
  Texts joined in one file: Mat, RelW, Norm, Inv, Comp, Close, Span, Closure, BisK, FunM, FunN, OpenC, OpenL.
-/
import Derived.Test.YtcnaapiljmgfoaaGreatDoorZE1
import Derived.StillTailTactics
import Derived.Maps.OwnSet
import Derived.Maps.OwnOps
import Derived.Maps.RangeWalk
import Derived.DeepKeys5
import Derived.Lib.SmallJoins
import Derived.Deep.Strs
/-
  Matrices of bools as functions, and the pairs that they list: plain facts.
-/
namespace Go.Proofs.YtcnaapiljmgfoaaGreatDoor

def mat (n : Nat) (f : Nat → Nat → Bool) : List (List Bool) := (List.range n).map fun i => (List.range n).map (f i)
def upd (f : Nat → Nat → Bool) (i j : Nat) (b : Bool) : Nat → Nat → Bool := fun i' j' => if i' = i ∧ j' = j then b else f i' j'
def flat (n : Nat) (f : Nat → Nat → Bool) : List Bool := (List.range (n * n)).map fun k => f (k / n) (k % n)

@[simp] theorem mat_length (n : Nat) (f : Nat → Nat → Bool) : (mat n f).length = n := by simp [mat]
theorem mat_row (n : Nat) (f : Nat → Nat → Bool) (i : Nat) (h : i < n) : (mat n f)[i]'(by simpa using h) = (List.range n).map (f i) := by simp [mat]
@[simp] theorem flat_length (n : Nat) (f : Nat → Nat → Bool) : (flat n f).length = n * n := by simp [flat]
theorem idx_lt {n i j : Nat} (hi : i < n) (hj : j < n) : i * n + j < n * n := by
  have : (i + 1) * n ≤ n * n := Nat.mul_le_mul_right _ hi
  rw [Nat.add_mul] at this; omega
theorem idx_div {n i j : Nat} (hj : j < n) : (i * n + j) / n = i := by
  rw [Nat.mul_comm, Nat.mul_add_div (by omega), Nat.div_eq_of_lt hj, Nat.add_zero]
theorem idx_mod {n i j : Nat} (hj : j < n) : (i * n + j) % n = j := by
  rw [Nat.mul_comm, Nat.mul_add_mod, Nat.mod_eq_of_lt hj]
theorem flat_get (n : Nat) (f : Nat → Nat → Bool) (i j : Nat) (hi : i < n) (hj : j < n) : (flat n f)[i * n + j]? = some (f i j) := by
  simp [flat, idx_lt hi hj, idx_div hj, idx_mod hj]
theorem flat_set (n : Nat) (f : Nat → Nat → Bool) (i j : Nat) (b : Bool) (hj : j < n) :
    (flat n f).set (i * n + j) b = flat n (upd f i j b) := by
  apply List.ext_getElem
  · simp
  · intro k h1 h2
    simp at h1
    rw [List.getElem_set]
    simp only [flat, List.getElem_map, List.getElem_range, upd]
    split
    · subst k; rw [idx_div hj, idx_mod hj]; simp
    · rename_i hne
      rw [if_neg]
      rintro ⟨h3, h4⟩
      apply hne
      have := Nat.div_add_mod k n
      rw [h3, h4, Nat.mul_comm] at this
      exact this
theorem flat_false (n : Nat) : flat n (fun _ _ => false) = List.replicate (n * n) false := by
  apply List.ext_getElem <;> simp [flat]

theorem flat_false_map {β : Type} (g : Bool → β) (n : Nat) : List.replicate (n * n) (g false) = (flat n (fun _ _ => false)).map g := by
  rw [flat_false, List.map_replicate]

end Go.Proofs.YtcnaapiljmgfoaaGreatDoor

/-
  The matrices behind the relations' functions, made, written and listed.
-/
namespace Go.Proofs.YtcnaapiljmgfoaaGreatDoor
open Go.RowKit

abbrev Rb : Rp (List Bool) := slF 1 (fun b => [Value.bool b])
theorem Rbk : Kept Rb := slF_kept _ _
theorem Tryz.infoB : (Tryz.prog.info? 4).map (fun i => (i.zero, i.size, i.bytes)) = some (some (.bool false), 1, 1) := by kernel_rfl
theorem mul_bd {i j n : Nat} (hi : i ≤ n) (hj : j ≤ n) (hn : n ≤ 40) : (0 : Int) ≤ (i : Int) * (j : Int) ∧ (i : Int) * (j : Int) ≤ 1600 ∧ i * j ≤ 1600 := by
  have h : i * j ≤ 40 * 40 := Nat.mul_le_mul (by omega) (by omega)
  have e : (i : Int) * (j : Int) = ((i * j : Nat) : Int) := (Int.natCast_mul i j).symm
  omega

end Go.Proofs.YtcnaapiljmgfoaaGreatDoor

/-
  Numbering by first occurrence: plainly, and the program's walk with a map.
-/
namespace Go.Proofs.YtcnaapiljmgfoaaGreatDoor
open Go.RowKit Go.Maps

def seen (xs : List Int) : List Int := xs.foldl (fun s x => if x ∈ s then s else s ++ [x]) []
theorem idx_new {S s : List Int} {x : Int} (h : s ++ [x] <+: S) (hx : x ∉ s) : S.idxOf x = s.length := by
  obtain ⟨r, rfl⟩ := h
  rw [List.append_assoc, List.idxOf_append, if_neg hx]
  simp
theorem keyI : Keyed Tryz.prog 2 := int_keyed Tryz.underlying2
/-- what a map of numbers reads as, behind k elements. -/
def NMap (S s : List Int) (D : DataW Unit) : Prop := Maps.Tidy D ∧ Maps.size D = s.length ∧ (∀ n : Int, Maps.has D (.int .i64 n) = decide (n ∈ s)) ∧ ∀ n ∈ s, D.atKey (.int .i64 n) (.lit (.int .i64 0)) = .lit (.int .i64 (S.idxOf n))

theorem NMap.put {S s : List Int} {D : DataW Unit} (h : NMap S s D) {x : Int} (hw : (Lit.int .i64 x).wf = true) (hx : x ∉ s) (hp : s ++ [x] <+: S) : NMap S (s ++ [x]) (D.put (.int .i64 x) (.lit (.int .i64 (s.length : Int)))) := by
  obtain ⟨h1, h2, h3, h4⟩ := h
  have hk : WideAt.IsKeyLit (.int .i64 x) := keyI.key (keyOf_int_mk Tryz.underlying2 hw)
  have hxi := idx_new hp hx
  refine ⟨h1.put hk _, ?_, ?_, ?_⟩
  · rw [size_put h1, h3 x, if_neg (by simpa using hx), h2, List.length_append]; rfl
  · intro n
    by_cases hn : n = x
    · subst hn; rw [has_put_same h1.isMap hk]; simp
    · rw [has_put_other (by intro e; injection e with _ e2; exact hn e2), h3 n]; simp [hn]
  · intro n hn
    by_cases hnx : n = x
    · subst hnx; rw [atKey_put_same h1.isMap hk, hxi]
    · rw [atKey_put_other (by intro e; injection e with _ e2; exact hnx e2)]
      exact h4 n (by simpa [hnx] using hn)

theorem ownsMap_upd {H : Type} {P : Program} {w w' : World} {f : List Nat} {k : TypeId} {R : Value → Option (DataW H × List MemPlace)} {b n : Nat} {D : DataW H} (h : w.ownsMap P k R b n D) (hu : Upd f w w') (hb : b ∉ f) : w'.ownsMap P k R b n D := by
  obtain ⟨es, clock, h1, h2, h3, h4⟩ := h
  exact ⟨es, clock, (hu.block b (Array.getElem?_eq_some_iff.1 h1).1 hb).trans h1, h2, h3, h4⟩

end Go.Proofs.YtcnaapiljmgfoaaGreatDoor

/-
  InverseRelation, both sides, in the form that the law's walk wants.
-/
namespace Go.Proofs.YtcnaapiljmgfoaaGreatDoor

end Go.Proofs.YtcnaapiljmgfoaaGreatDoor

/-
  ComposeRelations, both sides; a relation as a matrix.
-/
namespace Go.Proofs.YtcnaapiljmgfoaaGreatDoor
open Go.RowKit

theorem flatF_cell {fp : List Nat} {w : World} {v : Value} {m : Nat} {F : Nat → Nat → Bool} (h : Rb fp w [v] (flat m F)) (i j : Nat) (hi : i < m) (hj : j < m) :
    ∃ b off cap, v = .slice (some ⟨b, off, none⟩) (m * m) cap ∧ m * m ≤ cap ∧ cap ≤ 9223372036854775807 ∧ fp = [b] ∧ w.cell? ⟨b, off + (i * m + j), none⟩ = some (.bool (F i j)) ∧
      ∀ x, Rb fp (w.setCell ⟨b, off + (i * m + j), none⟩ (.bool x)) [v] (flat m (Go.Proofs.YtcnaapiljmgfoaaGreatDoor.upd F i j x)) := by
  have hix := idx_lt hi hj
  obtain ⟨b, off, cap, rfl, g1, g2, g3, -, g4, g5⟩ := slF1_cell h (i * m + j) (by simpa using hix)
  simp only [flat_length] at *
  unfold maxLen at g2
  refine ⟨b, off, cap, rfl, g1, by omega, g3, ?_, fun x => ?_⟩
  · rw [g4]
    have := flat_get m F i j hi hj
    rw [List.getElem?_eq_getElem (by simpa using hix)] at this
    rw [Option.some.inj this]
  · have := g5 x
    rwa [flat_set _ _ _ _ _ hj] at this

/-- the pairs p, s meet in (i, j). -/
def M1 (p s : List Int) (i j : Nat) : Prop := p.getD 1 0 = s.getD 0 0 ∧ p.getD 0 0 = (i : Int) ∧ s.getD 1 0 = (j : Int)
end Go.Proofs.YtcnaapiljmgfoaaGreatDoor

/-
  ClosureOf, both sides: the same steps on the matrix.
-/
namespace Go.Proofs.YtcnaapiljmgfoaaGreatDoor
open Go.RowKit

def reflTo (F : Nat → Nat → Bool) (k : Nat) : Nat → Nat → Bool := fun i j => F i j || decide (i = j ∧ i < k)
def rowPart (F : Nat → Nat → Bool) (b a c : Nat) : Nat → Nat → Bool := fun i j => F i j || (decide (i = a ∧ j < c) && (F a b && F b j))
def wRow (m : Nat) (F : Nat → Nat → Bool) (b : Nat) : Nat → Nat → Nat → Bool
  | 0 => F
  | a + 1 => rowPart (wRow m F b a) b a m
def wAll (m : Nat) (F : Nat → Nat → Bool) : Nat → Nat → Nat → Bool
  | 0 => F
  | b + 1 => wRow m (wAll m F b) b m
def closeF (m : Nat) (F : Nat → Nat → Bool) : Nat → Nat → Bool := wAll m (reflTo F m) m

theorem reflTo_zero (F : Nat → Nat → Bool) : reflTo F 0 = F := by funext i j; simp [reflTo]
theorem reflTo_step (F : Nat → Nat → Bool) (k : Nat) : Go.Proofs.YtcnaapiljmgfoaaGreatDoor.upd (reflTo F k) k k true = reflTo F (k + 1) := by
  funext i j
  unfold Go.Proofs.YtcnaapiljmgfoaaGreatDoor.upd reflTo
  split
  · rename_i h; obtain ⟨rfl, rfl⟩ := h; simp
  · rename_i h
    congr 1
    rw [decide_eq_decide]; omega
theorem rowPart_zero (F : Nat → Nat → Bool) (b a : Nat) : rowPart F b a 0 = F := by funext i j; simp [rowPart]
theorem rowPart_ac (F : Nat → Nat → Bool) (b a c : Nat) : rowPart F b a c a c = F a c := by simp [rowPart]
theorem rowPart_bc (F : Nat → Nat → Bool) (b a c : Nat) : rowPart F b a c b c = F b c := by simp [rowPart]
theorem rowPart_step (F : Nat → Nat → Bool) (b a c : Nat) (x : Bool) (hx : x = (F a c || (F a b && F b c))) :
    Go.Proofs.YtcnaapiljmgfoaaGreatDoor.upd (rowPart F b a c) a c x = rowPart F b a (c + 1) := by
  funext i j
  unfold Go.Proofs.YtcnaapiljmgfoaaGreatDoor.upd rowPart
  split
  · rename_i h; obtain ⟨rfl, rfl⟩ := h; simp [hx]
  · rename_i h
    congr 2
    rw [decide_eq_decide]; omega
theorem rowPart_same (F : Nat → Nat → Bool) (b a c : Nat) (h : (F a b && F b c) = true → F a c = true) : rowPart F b a c = rowPart F b a (c + 1) := by
  rw [← rowPart_step F b a c (F a c) (by cases h1 : F a c <;> cases h2 : (F a b && F b c) <;> simp_all)]
  funext i j
  unfold Go.Proofs.YtcnaapiljmgfoaaGreatDoor.upd
  split
  · rename_i h; obtain ⟨rfl, rfl⟩ := h; rw [rowPart_ac]
  · rfl
theorem rowPart_no (F : Nat → Nat → Bool) (b a m : Nat) (h : F a b = false) : rowPart F b a m = F := by funext i j; simp [rowPart, h]

set_option maxHeartbeats 2000000 in
theorem l02Close (m : Nat) (F : Nat → Nat → Bool) (v : Value) (w : World) (fp : List Nat) (hm : m ≤ 40) (hR : Rb fp w [v] (flat m F)) (hO : Own fp w) :
    Calls Tryz.prog 105 #[.int .i64 m, v] w fun e w' => e = .returned (.tuple #[]) ∧ Rb fp w' [v] (flat m (closeF m F)) ∧ Own fp w' ∧ Upd fp w w' := by
  obtain ⟨a, cap, hv, h1, h2, -⟩ := slF1_open hR
  simp only [flat_length] at *
  subst hv
  unfold maxLen at h2
  rw [← reflTo_zero F] at hR
  go_enter Tryz.func105, Tryz.ntmps105
  go_wp2
  go_loopw [4] (fun i wr => ∃ k : Nat, k ≤ m ∧ i = .int .i64 k ∧ Upd fp w wr ∧ Rb fp wr [.slice a (m * m) cap] (flat m (reflTo F k)) ∧ Own fp wr) (fun i _ => m - (intOf i).toNat)
  case atStart => exact ⟨0, Nat.zero_le _, rfl, Upd.refl _ _, hR, hO⟩
  case round =>
    clear hR hO
    obtain ⟨k, hk, rfl, hU, hR, hO⟩ := hrel
    by_cases hlt : k < m
    · obtain ⟨b, off, cap', hv, -, -, hfp, r1, hset⟩ := flatF_cell hR k k hlt hlt
      simp only [Value.slice.injEq, true_and] at hv
      obtain ⟨rfl, rfl⟩ := hv
      have hset := hset true
      rw [reflTo_step] at hset
      have hfr : wr.frozen? ⟨b, off + (k * m + k), none⟩ = false := hO.frozen (by rw [hfp]; simp) _
      have ho2 := hO.setCell ⟨b, off + (k * m + k), none⟩ (.bool true)
      have hin : b ∈ fp := by rw [hfp]; simp
      have hix : k * m + k < m * m := idx_lt hlt hlt
      have hbd2 := mul_bd (i := k) (j := m) (n := m) (by omega) (Nat.le_refl _) hm
      have HS := Lib.hid (And.intro hset ho2)
      clear hset ho2 hR hO hfp
      go_wp2
      go_roundw
      case rel => exact ⟨k + 1, by omega, by go_num, hU.setCell (Or.inr hin) _, HS.out.1, HS.out.2⟩
      case measure => simp [intOf]; omega
    · obtain rfl : m = k := by omega
      go_wp2
      obtain ⟨wo, rfl⟩ : ∃ wo : World, wo = wr := ⟨_, rfl⟩
      go_loopw [5] (fun i wr => ∃ b : Nat, b ≤ m ∧ i = .int .i64 b ∧ Upd fp w wr ∧ Rb fp wr [.slice a (m * m) cap] (flat m (wAll m (reflTo F m) b)) ∧ Own fp wr) (fun i _ => m - (intOf i).toNat)
      case atStart => exact ⟨0, Nat.zero_le _, rfl, hU, hR, hO⟩
      case round =>
        clear hU hR hO
        obtain ⟨b, hb, rfl, hU, hR, hO⟩ := hrel
        by_cases hbm : b < m
        · have HA := Lib.hid (show wAll m (reflTo F m) (b + 1) = wRow m (wAll m (reflTo F m) b) b m from rfl)
          generalize wAll m (reflTo F m) b = A at *
          go_wp2
          obtain ⟨wo2, rfl⟩ : ∃ wo2 : World, wo2 = wr := ⟨_, rfl⟩
          go_loopw [6] (fun i wr => ∃ x : Nat, x ≤ m ∧ i = .int .i64 x ∧ Upd fp w wr ∧ Rb fp wr [.slice a (m * m) cap] (flat m (wRow m A b x)) ∧ Own fp wr) (fun i _ => m - (intOf i).toNat)
          case atStart => exact ⟨0, Nat.zero_le _, rfl, hU, hR, hO⟩
          case round =>
            clear hU hR hO
            obtain ⟨x, hx, rfl, hU, hR, hO⟩ := hrel
            by_cases hxm : x < m
            · have HB := Lib.hid (show wRow m A b (x + 1) = rowPart (wRow m A b x) b x m from rfl)
              generalize wRow m A b x = B at *
              have hbd2 := mul_bd (i := x) (j := m) (n := m) (by omega) (Nat.le_refl _) hm
              have hix := idx_lt hxm hbm
              obtain ⟨b4, off, cap', hv, -, -, hfp, r1, -⟩ := flatF_cell hR x b hxm hbm
              simp only [Value.slice.injEq, true_and] at hv
              obtain ⟨rfl, rfl⟩ := hv
              cases hxb : B x b
              · rw [hxb] at r1
                have hno := rowPart_no B b x m hxb
                have hR2 : Rb fp wr [.slice (some ⟨b4, off, none⟩) (m * m) cap] (flat m (wRow m A b (x + 1))) := by rw [HB.out, hno]; exact hR
                clear hxb hno hR hfp
                go_wp2
                go_roundw
                case rel => exact ⟨x + 1, by omega, by go_num, hU, hR2, hO⟩
                case measure => simp [intOf]; omega
              · rw [hxb] at r1
                have HXB := Lib.hid hxb
                rw [← rowPart_zero B b x] at hR
                clear hxb hfp
                go_wp2
                obtain ⟨wo3, rfl⟩ : ∃ wo3 : World, wo3 = wr := ⟨_, rfl⟩
                clear r1 hix
                go_loopw [7] (fun i wr => ∃ c : Nat, c ≤ m ∧ i = .int .i64 c ∧ Upd fp w wr ∧ Rb fp wr [.slice (some ⟨b4, off, none⟩) (m * m) cap] (flat m (rowPart B b x c)) ∧ Own fp wr) (fun i _ => m - (intOf i).toNat)
                case atStart => exact ⟨0, Nat.zero_le _, rfl, hU, hR, hO⟩
                case round =>
                  clear hU hR hO
                  obtain ⟨c, hc, rfl, hU, hR, hO⟩ := hrel
                  by_cases hcm : c < m
                  · have hbd3 := mul_bd (i := b) (j := m) (n := m) (by omega) (Nat.le_refl _) hm
                    have hix2 := idx_lt hbm hcm
                    have hix3 := idx_lt hxm hcm
                    obtain ⟨b5, off5, cap5, hv, -, -, hfp, r2, -⟩ := flatF_cell hR b c hbm hcm
                    simp only [Value.slice.injEq, Option.some.injEq, Addr.mk.injEq, and_true, true_and] at hv
                    obtain ⟨⟨rfl, rfl⟩, rfl⟩ := hv
                    obtain ⟨b5, off5, cap5, hv, -, -, -, r3, hset⟩ := flatF_cell hR x c hxm hcm
                    simp only [Value.slice.injEq, Option.some.injEq, Addr.mk.injEq, and_true, true_and] at hv
                    obtain ⟨⟨rfl, rfl⟩, rfl⟩ := hv
                    rw [rowPart_bc] at r2
                    have hset := hset true
                    have hfr : wr.frozen? ⟨b4, off + (x * m + c), none⟩ = false := hO.frozen (by rw [hfp]; simp) _
                    have ho2 := hO.setCell ⟨b4, off + (x * m + c), none⟩ (.bool true)
                    have hin : b4 ∈ fp := by rw [hfp]; simp
                    cases h2 : B b c
                    · rw [h2] at r2
                      rw [rowPart_same B b x c (by simp [h2])] at hR
                      clear h2 hset ho2 hfr r3 hfp
                      go_wp2
                      go_roundw
                      case rel => exact ⟨c + 1, by omega, by go_num, hU, hR, hO⟩
                      case measure => simp [intOf]; omega
                    · rw [h2] at r2
                      rw [rowPart_step B b x c true (by rw [HXB.out, h2]; simp)] at hset
                      have HS := Lib.hid (And.intro hset ho2)
                      clear h2 hset ho2 hR hO hfp
                      go_wp2
                      go_roundw
                      case rel => exact ⟨c + 1, by omega, by go_num, hU.setCell (Or.inr hin) _, HS.out.1, HS.out.2⟩
                      case measure => simp [intOf]; omega
                  · obtain rfl : m = c := by omega
                    rw [← HB.out] at hR
                    go_wp2
                    go_roundw
                    case rel => exact ⟨x + 1, by omega, by go_num, hU, hR, hO⟩
                    case measure => simp [intOf]; omega
            · obtain rfl : m = x := by omega
              rw [← HA.out] at hR
              go_wp2
              go_roundw
              case rel => exact ⟨b + 1, by omega, by go_num, hU, hR, hO⟩
              case measure => simp [intOf]; omega
        · obtain rfl : m = b := by omega
          go_wp2
          go_end0
          exact ⟨rfl, hR, hO, hU⟩

end Go.Proofs.YtcnaapiljmgfoaaGreatDoor

/-
  SpanOf: the walk.
-/
namespace Go.Proofs.YtcnaapiljmgfoaaGreatDoor
open Go.RowKit

end Go.Proofs.YtcnaapiljmgfoaaGreatDoor

/-
  The closure of a relation, the numbering and the span: plain facts.
-/
namespace Go.Proofs.YtcnaapiljmgfoaaGreatDoor

theorem wRow_eq (m : Nat) (F : Nat → Nat → Bool) (b : Nat) : ∀ (a i j : Nat), wRow m F b a i j = (F i j || (decide (i < a ∧ j < m) && (F i b && F b j)))
  | 0, i, j => by simp [wRow]
  | a + 1, i, j => by
    have h1 : wRow m F b a a b = F a b := by rw [wRow_eq m F b a]; simp
    have h2 : ∀ j, wRow m F b a b j = F b j := by
      intro j; rw [wRow_eq m F b a]; cases F b b <;> cases F b j <;> simp
    rw [wRow, rowPart, h1, h2, wRow_eq m F b a]
    by_cases hia : i = a
    · subst hia
      cases F i j <;> cases F i b <;> cases F b j <;> simp
    · have e1 : decide (i = a ∧ j < m) = false := by simp [hia]
      have e2 : decide (i < a + 1 ∧ j < m) = decide (i < a ∧ j < m) := by rw [decide_eq_decide]; omega
      rw [e1, e2]; simp

theorem wAll_succ (m : Nat) (F : Nat → Nat → Bool) (b i j : Nat) : wAll m F (b + 1) i j = true ↔ wAll m F b i j = true ∨ (i < m ∧ j < m ∧ wAll m F b i b = true ∧ wAll m F b b j = true) := by
  rw [wAll, wRow_eq]
  simp [and_assoc]

theorem wAll_closed (m : Nat) (F : Nat → Nat → Bool) : ∀ b, b ≤ m → ∀ k, k < b → ∀ i j, i < m → j < m → wAll m F b i k = true → wAll m F b k j = true → wAll m F b i j = true
  | 0, _, k, hk, _, _, _, _, _, _ => by omega
  | b + 1, hb, k, hk, i, j, hi, hj, h1, h2 => by
    have ih := wAll_closed m F b (by omega)
    rw [wAll_succ] at h1 h2 ⊢
    by_cases hkb : k = b
    · subst hkb
      have g1 : wAll m F k i k = true := by rcases h1 with h | ⟨-, -, h, -⟩ <;> exact h
      have g2 : wAll m F k k j = true := by rcases h2 with h | ⟨-, -, -, h⟩ <;> exact h
      exact Or.inr ⟨hi, hj, g1, g2⟩
    · have hkb' : k < b := by omega
      rcases h1 with h1 | ⟨-, -, h1, h1'⟩
      · rcases h2 with h2 | ⟨-, -, h2, h2'⟩
        · exact Or.inl (ih k hkb' i j hi hj h1 h2)
        · exact Or.inr ⟨hi, hj, ih k hkb' i b hi (by omega) h1 h2, h2'⟩
      · rcases h2 with h2 | ⟨-, -, h2, h2'⟩
        · exact Or.inr ⟨hi, hj, h1, ih k hkb' b j (by omega) hj h1' h2⟩
        · exact Or.inr ⟨hi, hj, h1, h2'⟩

theorem wAll_mono (m : Nat) (F : Nat → Nat → Bool) (i j : Nat) (h : F i j = true) : ∀ b, wAll m F b i j = true
  | 0 => h
  | b + 1 => by rw [wAll_succ]; exact Or.inl (wAll_mono m F i j h b)

theorem wAll_least (m : Nat) (F : Nat → Nat → Bool) (T : Nat → Nat → Prop) (ht : ∀ i j k, T i j → T j k → T i k) (hF : ∀ i j, F i j = true → T i j) : ∀ b i j, wAll m F b i j = true → T i j
  | 0, i, j, h => hF i j h
  | b + 1, i, j, h => by
    rw [wAll_succ] at h
    rcases h with h | ⟨-, -, h1, h2⟩
    · exact wAll_least m F T ht hF b i j h
    · exact ht _ _ _ (wAll_least m F T ht hF b i b h1) (wAll_least m F T ht hF b b j h2)

theorem closeF_refl (m : Nat) (F : Nat → Nat → Bool) (i : Nat) (h : i < m) : closeF m F i i = true := wAll_mono _ _ _ _ (by simp [reflTo, h]) _
theorem closeF_has (m : Nat) (F : Nat → Nat → Bool) (i j : Nat) (h : F i j = true) : closeF m F i j = true := wAll_mono _ _ _ _ (by simp [reflTo, h]) _
theorem closeF_trans (m : Nat) (F : Nat → Nat → Bool) (i j k : Nat) (hi : i < m) (hj : j < m) (hk : k < m) (h1 : closeF m F i k = true) (h2 : closeF m F k j = true) : closeF m F i j = true :=
  wAll_closed m _ m (Nat.le_refl _) k hk i j hi hj h1 h2
theorem closeF_least (m : Nat) (F : Nat → Nat → Bool) (T : Nat → Nat → Prop) (hr : ∀ i, T i i) (ht : ∀ i j k, T i j → T j k → T i k) (hF : ∀ i j, F i j = true → T i j) (i j : Nat) (h : closeF m F i j = true) : T i j := by
  refine wAll_least m _ T ht (fun i j h => ?_) m i j h
  simp only [reflTo, Bool.or_eq_true, decide_eq_true_eq] at h
  rcases h with h | ⟨rfl, -⟩
  · exact hF i j h
  · exact hr i

/-! ### Numbering -/
/-! ### The span -/
/-! ### The list of a matrix -/
end Go.Proofs.YtcnaapiljmgfoaaGreatDoor

/-
  Maps whose keys are pairs of numbers: the program's set of pairs.
-/
namespace Go.Proofs.YtcnaapiljmgfoaaGreatDoor
open Go.RowKit Go.Maps

theorem laidOutP : laidOutB Tryz.prog = true := by kernel_rfl
theorem rowP : (108 : TypeId) < Tryz.prog.types.size := of_decide_eq_true (by kernel_rfl)
theorem wideP : (match Tryz.prog.underlying 108 with | some (.array _ _) | some (.struct _) => true | _ => false) = true := by rw [Tryz.underlying108]
set_option maxRecDepth 20000 in
theorem lawP : WideMaps.KeyLaw Tryz.prog 108 := deep_law_laid laidOutP (m := 2) (by omega) rowP (by kernel_rfl) wideP
theorem keyP : Keyed Tryz.prog 108 := Keyed.of_law lawP
def In64 (a : Int) : Prop := (Lit.int .i64 a).wf = true
theorem in64_of {a : Int} (h : 0 ≤ a ∧ a ≤ 2000000) : In64 a := by
  obtain ⟨h1, h2⟩ := h
  unfold In64 Lit.wf
  simp only [IntKind.min, IntKind.max, IntKind.signed, IntKind.bits, decide_eq_true_eq, Bool.and_eq_true]
  omega
def klP (a b : Int) : Lit := .string (keyBytes [.int .i64 a, .int .i64 b])
theorem keyOfP {a b : Int} (ha : In64 a) (hb : In64 b) : keyOf Tryz.prog 108 (.agg #[ei a, ei b]) = some (klP a b) := by
  have h1 : Tryz.prog.keyType 108 = true := by kernel_rfl
  have h2 : Tryz.prog.cellsOf 108 = 2 := by kernel_rfl
  have h3 : Tryz.prog.cellsOf 2 = 1 := by kernel_rfl
  obtain ⟨m, hm⟩ : ∃ m, Tryz.prog.types.size = m + 1 := ⟨Tryz.prog.types.size - 1, by have h9 : 108 < Tryz.prog.types.size := rowP; omega⟩
  have e1 : ∀ c, In64 c → Tryz.prog.keyLits (m + 1) 2 [ei c] = some [.int .i64 c] := by
    intro c hc
    unfold Program.keyLits
    rw [Tryz.underlying2]
    unfold In64 at hc
    simp [hc]
  have e2 : Tryz.prog.keyLits (m + 1 + 1) 108 [ei a, ei b] = some [.int .i64 a, .int .i64 b] := by
    unfold Program.keyLits
    rw [Tryz.underlying108]
    simp only [h2, h3, List.length_cons, List.length_nil]
    rw [if_pos trivial, show List.range 2 = [0, 1] from rfl]
    simp [List.mapM_cons, e1 a ha, e1 b hb]
  unfold keyOf
  rw [Tryz.underlying108]
  simp only [h1, Value.formed, Tryz.underlying108, h2, hm, Value.cells]
  simp [e2, klP]
theorem klP_inj {a b c d : Int} (ha : In64 a) (hb : In64 b) (hc : In64 c) (hd : In64 d) (h : klP a b = klP c d) : a = c ∧ b = d := by
  have h1 := keyP.inj (keyOfP ha hb) (h ▸ keyOfP hc hd)
  simp [ei] at h1
  exact h1
theorem klP_key {a b : Int} (ha : In64 a) (hb : In64 b) : WideAt.IsKeyLit (klP a b) := keyP.key (keyOfP ha hb)
set_option maxRecDepth 20000 in
/-- a key that is read is a pair. -/
theorem keyOfP_inv {key : Value} {kl : Lit} (h : keyOf Tryz.prog 108 key = some kl) : ∃ x : Int × Int, key = .agg #[ei x.1, ei x.2] ∧ In64 x.1 ∧ In64 x.2 ∧ kl = klP x.1 x.2 := by
  have h0 := h
  have h2 : Tryz.prog.cellsOf 108 = 2 := by kernel_rfl
  have h3 : Tryz.prog.cellsOf 2 = 1 := by kernel_rfl
  obtain ⟨m, hm⟩ : ∃ m, Tryz.prog.types.size = m + 1 := ⟨Tryz.prog.types.size - 1, by have h9 : 108 < Tryz.prog.types.size := rowP; omega⟩
  have e1 : ∀ v ls, Tryz.prog.keyLits (m + 1) 2 [v] = some ls → ∃ c, v = ei c ∧ In64 c := by
    intro v ls hv
    unfold Program.keyLits at hv
    rw [Tryz.underlying2] at hv
    cases v <;> simp at hv
    exact ⟨_, by rw [ei, hv.1.1], hv.1.2⟩
  unfold keyOf at h
  rw [Tryz.underlying108] at h
  simp only [hm] at h
  split at h
  · rename_i hf
    simp only [Bool.and_eq_true] at hf
    cases key <;> simp only [Value.formed, Tryz.underlying108, Bool.false_eq_true, and_false] at hf
    rename_i cs
    rw [h2, beq_iff_eq] at hf
    obtain ⟨l, rfl⟩ : ∃ l : List Value, cs = l.toArray := ⟨cs.toList, by simp⟩
    match l, hf.2 with
    | [u, v], _ =>
      simp only [Value.cells, Option.map_eq_some_iff] at h
      obtain ⟨ls, h, rfl⟩ := h
      unfold Program.keyLits at h
      rw [Tryz.underlying108] at h
      simp only [h2, h3, List.length_cons, List.length_nil] at h
      rw [if_pos trivial, show List.range 2 = [0, 1] from rfl] at h
      simp [List.mapM_cons] at h
      cases hu : Tryz.prog.keyLits (m + 1) 2 [u] with
      | none => rw [hu] at h; exact absurd h (by simp)
      | some l1 =>
        cases hv : Tryz.prog.keyLits (m + 1) 2 [v] with
        | none => rw [hu, hv] at h; exact absurd h (by simp)
        | some l2 =>
          obtain ⟨a, rfl, ha⟩ := e1 u l1 hu
          obtain ⟨b, rfl, hb⟩ := e1 v l2 hv
          rw [keyOfP ha hb] at h0
          exact ⟨(a, b), rfl, ha, hb, (Option.some.inj h0).symm⟩
  · exact absurd h (by simp)

/-- a map of pairs that are there. -/
def PMap (S : List (Int × Int)) (D : DataW Unit) : Prop := Maps.Tidy D ∧ (∀ a b : Int, In64 a → In64 b → Maps.has D (klP a b) = decide ((a, b) ∈ S)) ∧ ∀ a b : Int, In64 a → In64 b → D.atKey (klP a b) (.lit (.bool false)) = .lit (.bool (decide ((a, b) ∈ S)))
theorem PMap.empty : PMap [] (.map []) := ⟨tidy_empty, fun a b _ _ => by simp [Maps.has], fun a b _ _ => by simp [atKey_of_not_has (D := (.map [] : DataW Unit)) (by simp [Maps.has])]⟩
theorem PMap.put {S : List (Int × Int)} {D : DataW Unit} (h : PMap S D) {x y : Int} (hx : In64 x) (hy : In64 y) : PMap (S ++ [(x, y)]) (D.put (klP x y) (.lit (.bool true))) := by
  obtain ⟨h1, h2, h3⟩ := h
  have hk := klP_key hx hy
  refine ⟨h1.put hk _, ?_, ?_⟩
  · intro a b ha hb
    by_cases he : klP a b = klP x y
    · obtain ⟨rfl, rfl⟩ := klP_inj ha hb hx hy he
      rw [has_put_same h1.isMap hk]; simp
    · rw [has_put_other he, h2 a b ha hb]
      have hne : (a, b) ≠ (x, y) := fun e => he (by cases e; rfl)
      simp [hne]
  · intro a b ha hb
    by_cases he : klP a b = klP x y
    · obtain ⟨rfl, rfl⟩ := klP_inj ha hb hx hy he
      rw [atKey_put_same h1.isMap hk]; simp
    · rw [atKey_put_other he, h3 a b ha hb]
      have hne : (a, b) ≠ (x, y) := fun e => he (by cases e; rfl)
      simp [hne]

theorem plainElem_bool_inv {H : Type} {P : Program} {e : TypeId} (he : P.underlying e = some .bool) {v : Value} {z : DataW H × List MemPlace} (h : plainElem P e v = some z) : ∃ x, v = .bool x ∧ z = (.lit (.bool x), []) := by
  unfold plainElem at h
  rw [he] at h
  cases v <;> simp at h
  exact ⟨_, rfl, h.symm⟩
noncomputable abbrev ElB : Value → Option (DataW Unit × List MemPlace) := plainElem (H := Unit) Tryz.prog 4
/-- a look-up in a set of pairs. -/
theorem run_pairs {w : World} {b n : Nat} {S : List (Int × Int)} {D : DataW Unit} (h : w.ownsMap Tryz.prog 108 ElB b n D) (hp : PMap S D) {x y : Int} (hx : In64 x) (hy : In64 y) :
    (Instr.lookup 105 (.map (some b)) (.agg #[.int .i64 x, .int .i64 y]) false).run Tryz.prog w = .ok (.bool (decide ((x, y) ∈ S))) w := by
  obtain ⟨v, ps, h1, h2⟩ := h.lookup keyP Tryz.underlying105 (z := .bool false) (by kernel_rfl) (plainElem_bool Tryz.underlying4 false) (keyOfP hx hy)
  rw [hp.2.2 x y hx hy] at h2
  obtain ⟨c, rfl, h3⟩ := plainElem_bool_inv Tryz.underlying4 h2
  simp only [Prod.mk.injEq, DataW.lit.injEq, Lit.bool.injEq] at h3
  rw [h3.1]
  exact h1

/-- a step of a range over a set of pairs. -/
theorem wpList_next_pairs {w : World} {ops : Array Oper} {rest : List Oper} {o : Oper} {a : Act} {Q : Exit → Act → World → Prop} (hg : o.guard = none) (it : Operand) (hop : o.op = Op.next it false) (b r n : Nat) (S : List (Int × Int)) (D : DataW Unit) (left : Lit → Bool) (cnt : Nat)
    (hp : PMap S D) (hit : a.eval it = .pointer (some ⟨r, 0, none⟩)) (h : w.ranges Tryz.prog 108 ElB b r n D left cnt)
    (hDone : (∀ kl, left kl = false) → wpList Tryz.prog ops Q rest (a.put o.dst (.tuple #[.bool false])) w)
    (hMore : ∀ (x y : Int) (w' : World) (cnt' : Nat), (x, y) ∈ S → In64 x → In64 y → w'.ranges Tryz.prog 108 ElB b r n D (fun z => left z && !z.sameKey (klP x y)) cnt' → cnt' < cnt →
      w.grownBy w' (some r) → w'.heap.size = w.heap.size → (Instr.entry (.pointer (some ⟨r, 0, none⟩))).run Tryz.prog w' = .ok (.tuple #[.agg #[ei x, ei y], .bool true]) w' → wpList Tryz.prog ops Q rest (a.put o.dst (.tuple #[.bool true, .agg #[ei x, ei y], .bool true])) w') :
    wpList Tryz.prog ops Q (o :: rest) a w := by
  refine wpList_next_ranges _ hg it hop 108 keyP ElB (fun p : Int × Int => .agg #[ei p.1, ei p.2]) Value.bool (fun key kl hk => by obtain ⟨x, rfl, _⟩ := keyOfP_inv hk; exact ⟨x, rfl⟩) (fun v y hv => by obtain ⟨c, rfl, _⟩ := plainElem_bool_inv Tryz.underlying4 hv; exact ⟨c, rfl⟩) b r n D left cnt hit h (fun _ => hDone) ?_
  rintro ⟨x, y⟩ c kl yy w1 cnt1 hkey hlk hy hat hrg1 hlt hg1 hs1 hen
  obtain ⟨⟨x', y'⟩, hxe, hxi, hyi, rfl⟩ := keyOfP_inv hkey
  have hxx : x = x' ∧ y = y' := by simpa [ei] using hxe
  obtain ⟨rfl, rfl⟩ := hxx
  have hin : (x, y) ∈ S := by
    have h1 := has_true_of_atKey hat
    rw [hp.2.1 x y hxi hyi] at h1
    simpa using h1
  have hc : c = true := by
    have h1 := hat (.lit (.bool false))
    rw [hp.2.2 x y hxi hyi] at h1
    obtain ⟨c', e1, e2⟩ := plainElem_bool_inv Tryz.underlying4 hy
    cases e1
    rw [e2] at h1
    simp [hin] at h1
    exact h1
  subst hc
  exact hMore x y w1 cnt1 hin hxi hyi hrg1 hlt hg1 hs1 hen

end Go.Proofs.YtcnaapiljmgfoaaGreatDoor

/-
  slices.IndexFunc and ContainsFunc over rows of numbers, at whatever function value.
-/
namespace Go.Proofs.YtcnaapiljmgfoaaGreatDoor
open Go.RowKit

def IdxM (P : List Int → Bool) (xs : List (List Int)) (w : World) (e : Ending) (w' : World) : Prop := (∃ q : Int, e = .returned (.int .i64 q) ∧ -1 ≤ q ∧ q ≤ 9223372036854775807 ∧ decide (0 ≤ q) = xs.any P) ∧ Upd [] w w'

set_option maxRecDepth 20000 in
set_option maxHeartbeats 1000000 in
theorem indexFuncM (P : List Int → Bool) (fn : FuncId) (caps : Array Value) (v : Value) (xs : List (List Int)) (w : World) (fp : List Nat) (hR : R_N2 fp w [v] xs)
    (hent : ∀ args w, Sem.run Tryz.prog (callFunc fn args) w = .ok (.enter fn args) w)
    (hby : ∀ wr u f x, x ∈ xs → Upd [] w wr → R1 f wr [u] x → Calls Tryz.prog fn (#[u] ++ caps) wr fun e w' => e = .returned (.bool (P x)) ∧ Upd [] wr w') :
    Calls Tryz.prog 89 #[v, .func (.func fn) #[] caps] w (IdxM P xs w) := by
  obtain ⟨a1, c1, rfl, hl1, hm1, hc1⟩ := slP_open hR
  unfold maxLen at hm1
  have HBY := Lib.hid hby
  clear hR hby
  go_enter Tryz.func89, Tryz.ntmps89
  go_wp2_with fail
  go_loopw [8] (fun i wr => ∃ k : Nat, k ≤ xs.length ∧ i = .int .i64 k ∧ Upd [] w wr ∧ (xs.drop k).any P = xs.any P) (fun i _ => xs.length - (intOf i).toNat)
  case atStart => exact ⟨0, Nat.zero_le _, rfl, Upd.refl _ _, rfl⟩
  case round =>
    obtain ⟨k, hk, rfl, hU, hF⟩ := hrel
    by_cases hlt : k < xs.length
    · obtain ⟨b1, o1, u, f, rfl, -, -, p1, -, hr⟩ := hc1 k hlt
      have p1' := hU.keep p1
      rw [List.drop_eq_getElem_cons hlt, List.any_cons] at hF
      have HF := Lib.hid hF
      have HU := Lib.hid hU
      have S1 := Lib.hid (HBY.out wr u f xs[k] (List.getElem_mem hlt) hU (R1k.upd hr hU (by simp)))
      generalize xs[k] = x at *
      generalize P x = bb at *
      clear hF hc1 p1 hU hr
      go_wp2_with fail
      refine S1.out.mono ?_
      rintro e w1 ⟨rfl, hu1⟩
      have HU1 := Lib.hid (HU.out.trans hu1)
      clear S1 hu1
      cases bb
      · go_wp2_with fail
        go_roundw
        case rel => exact ⟨k + 1, by omega, by go_num, HU1.out, by rw [← HF.out]; rfl⟩
        case measure => simp [intOf]; omega
      · go_wp2_with fail
        go_ret
        exact ⟨⟨k, rfl, by omega, by omega, by rw [← HF.out]; simp⟩, HU1.out⟩
    · rw [List.drop_of_length_le (by omega)] at hF
      have HF := Lib.hid hF
      clear hF hc1
      go_wp2_with fail
      go_ret
      exact ⟨⟨-1, rfl, by omega, by omega, by rw [← HF.out]; rfl⟩, hU⟩

set_option maxRecDepth 20000 in
theorem containsFuncM (P : List Int → Bool) (fn : FuncId) (caps : Array Value) (v : Value) (xs : List (List Int)) (w : World) (fp : List Nat) (hR : R_N2 fp w [v] xs)
    (hent : ∀ args w, Sem.run Tryz.prog (callFunc fn args) w = .ok (.enter fn args) w)
    (hby : ∀ wr u f x, x ∈ xs → Upd [] w wr → R1 f wr [u] x → Calls Tryz.prog fn (#[u] ++ caps) wr fun e w' => e = .returned (.bool (P x)) ∧ Upd [] wr w') :
    Calls Tryz.prog 60 #[v, .func (.func fn) #[] caps] w fun e w' => e = .returned (.bool (xs.any P)) ∧ Upd [] w w' := by
  have S2 := Lib.hid (indexFuncM P fn caps v xs w fp hR hent hby)
  clear hR hby
  go_enter Tryz.func60, Tryz.ntmps60
  go_wp2_with fail
  refine S2.out.mono ?_
  rintro e w1 ⟨⟨q, rfl, h1, h2, h3⟩, hu1⟩
  have H3 := Lib.hid (And.intro h3 hu1)
  clear h3 hu1
  go_wp2_with fail
  go_ret
  exact ⟨by rw [← H3.out.1]; rfl, H3.out.2⟩

end Go.Proofs.YtcnaapiljmgfoaaGreatDoor

/-
  slices.IndexFunc and ContainsFunc over numbers, at whatever function value.
-/
namespace Go.Proofs.YtcnaapiljmgfoaaGreatDoor
open Go.RowKit

def IdxN (P : Int → Bool) (xs : List Int) (w : World) (e : Ending) (w' : World) : Prop := (∃ q : Int, e = .returned (.int .i64 q) ∧ -1 ≤ q ∧ q ≤ 9223372036854775807 ∧ decide (0 ≤ q) = xs.any P) ∧ Upd [] w w'

set_option maxRecDepth 20000 in
set_option maxHeartbeats 1000000 in
theorem indexFuncN (P : Int → Bool) (fn : FuncId) (caps : Array Value) (v : Value) (xs : List Int) (w : World) (fp : List Nat) (hR : R1 fp w [v] xs)
    (hent : ∀ args w, Sem.run Tryz.prog (callFunc fn args) w = .ok (.enter fn args) w)
    (hby : ∀ wr x, x ∈ xs → Upd [] w wr → Calls Tryz.prog fn (#[.int .i64 x] ++ caps) wr fun e w' => e = .returned (.bool (P x)) ∧ Upd [] wr w') :
    Calls Tryz.prog 93 #[v, .func (.func fn) #[] caps] w (IdxN P xs w) := by
  obtain ⟨a1, c1, rfl, hl1, hm1, hc1⟩ := slF1_open hR
  unfold maxLen at hm1
  have HBY := Lib.hid hby
  clear hR hby
  go_enter Tryz.func93, Tryz.ntmps93
  go_wp2_with fail
  go_loopw [8] (fun i wr => ∃ k : Nat, k ≤ xs.length ∧ i = .int .i64 k ∧ Upd [] w wr ∧ (xs.drop k).any P = xs.any P) (fun i _ => xs.length - (intOf i).toNat)
  case atStart => exact ⟨0, Nat.zero_le _, rfl, Upd.refl _ _, rfl⟩
  case round =>
    obtain ⟨k, hk, rfl, hU, hF⟩ := hrel
    by_cases hlt : k < xs.length
    · obtain ⟨b1, o1, rfl, -, -, p1⟩ := hc1 k hlt
      have p1' := hU.keep p1
      rw [List.drop_eq_getElem_cons hlt, List.any_cons] at hF
      have HF := Lib.hid hF
      have HU := Lib.hid hU
      have S1 := Lib.hid (HBY.out wr xs[k] (List.getElem_mem hlt) hU)
      generalize xs[k] = x at *
      generalize P x = bb at *
      clear hF hc1 p1 hU
      go_wp2_with fail
      refine S1.out.mono ?_
      rintro e w1 ⟨rfl, hu1⟩
      have HU1 := Lib.hid (HU.out.trans hu1)
      clear S1 hu1
      cases bb
      · go_wp2_with fail
        go_roundw
        case rel => exact ⟨k + 1, by omega, by go_num, HU1.out, by rw [← HF.out]; rfl⟩
        case measure => simp [intOf]; omega
      · go_wp2_with fail
        go_ret
        exact ⟨⟨k, rfl, by omega, by omega, by rw [← HF.out]; simp⟩, HU1.out⟩
    · rw [List.drop_of_length_le (by omega)] at hF
      have HF := Lib.hid hF
      clear hF hc1
      go_wp2_with fail
      go_ret
      exact ⟨⟨-1, rfl, by omega, by omega, by rw [← HF.out]; rfl⟩, hU⟩

set_option maxRecDepth 20000 in
theorem containsFuncN (P : Int → Bool) (fn : FuncId) (caps : Array Value) (v : Value) (xs : List Int) (w : World) (fp : List Nat) (hR : R1 fp w [v] xs)
    (hent : ∀ args w, Sem.run Tryz.prog (callFunc fn args) w = .ok (.enter fn args) w)
    (hby : ∀ wr x, x ∈ xs → Upd [] w wr → Calls Tryz.prog fn (#[.int .i64 x] ++ caps) wr fun e w' => e = .returned (.bool (P x)) ∧ Upd [] wr w') :
    Calls Tryz.prog 64 #[v, .func (.func fn) #[] caps] w fun e w' => e = .returned (.bool (xs.any P)) ∧ Upd [] w w' := by
  have S2 := Lib.hid (indexFuncN P fn caps v xs w fp hR hent hby)
  clear hby hent hR
  go_enter Tryz.func64, Tryz.ntmps64
  go_wp2_with fail
  refine S2.out.mono ?_
  rintro e w1 ⟨⟨q, rfl, h1, h2, h3⟩, hu⟩
  have H3 := Lib.hid (And.intro h3 hu)
  clear h3 hu
  go_wp2_with fail
  go_ret
  exact ⟨by rw [← H3.out.1]; rfl, H3.out.2⟩

end Go.Proofs.YtcnaapiljmgfoaaGreatDoor

/-
  The form's reading of texts and lists of texts.
-/
namespace Go.Proofs.YtcnaapiljmgfoaaGreatDoor
open Go.RowKit Go.ChangeShapes Go.WideShapes Go.Deep

theorem opens_S1 : Opens Tryz.prog 22 R_S1 (fun xs => ∀ p ∈ xs, p.length ≤ maxLen) :=
  opens_slF1 Tryz.underlying22 (by kernel_rfl) (by
    intro H enc w fuel v x hx
    obtain ⟨s, hv, -, hs⟩ := DataW.trod_string Tryz.underlying9 hx
    simp at hv
    exact ⟨s.data.toList, hv, hs⟩)
theorem strs_of {xs : List (List UInt8)} (h : ∀ p ∈ xs, p.length ≤ maxLen) : strsOk xs := fun p hp => by
  have := h p hp
  simp only [maxLen] at this
  omega
end Go.Proofs.YtcnaapiljmgfoaaGreatDoor

/-
  The form's reading of systems.
-/
namespace Go.Proofs.YtcnaapiljmgfoaaGreatDoor
open Go.RowKit Go.ChangeShapes Go.WideShapes Go.Deep

theorem cells3 {w : World} {a : Addr} {cs : List Value} (h : w.cells? 0 a 3 = some cs) : ∃ c0 c1 c2, cs = [c0, c1, c2] ∧ w.cell? a = some c0 ∧ w.cell? (a.add 1) = some c1 ∧ w.cell? (a.add 2) = some c2 := by
  rw [World.cells?, if_pos (Nat.zero_le _), show List.range 3 = [0, 1, 2] from rfl] at h
  simp only [List.mapM_cons, List.mapM_nil, Addr.add, if_true] at h
  cases h0 : w.cell? a with
  | none => simp [h0] at h
  | some c0 =>
    cases h1 : w.cell? (a.add 1) with
    | none => simp [Addr.add] at h1; simp [h0, h1] at h
    | some c1 =>
      cases h2 : w.cell? (a.add 2) with
      | none => simp [Addr.add] at h1 h2; simp [h0, h1, h2] at h
      | some c2 =>
        refine ⟨c0, c1, c2, ?_, rfl, rfl, rfl⟩
        simp [Addr.add] at h1 h2
        simpa [h0, h1, h2] using h.symm

/-- slices of structs of three plain fields. -/
theorem opens_slF3 {α : Type} {P : Program} {t e : TypeId} {e1 e2 e3 : α → Value} {φ : α → Prop} (ht : P.underlying t = some (.slice e)) (hc : P.cellsOf e = 3)
    (h : ∀ {H : Type} {enc : TypeId × Value → H} {w : World} {fuel : Nat} {u v z : Value} {x : DataW H × List MemPlace}, DataW.trod enc P w 0 (fun _ => true) true fuel e [u, v, z] = some x → ∃ a, u = e1 a ∧ v = e2 a ∧ z = e3 a ∧ φ a) :
    Opens P t (slF 3 (fun x => [e1 x, e2 x, e3 x])) (fun xs => ∀ x ∈ xs, φ x) := by
  intro H enc w fuel cs x hx
  rcases open_slice ht hx with ⟨rfl, -⟩ | ⟨a, len, cap, m, n, D, Pl, rfl, -, hl, hm, hmm, -, hel⟩
  · exact ⟨[], [], ⟨_, rfl, flat_nil w 3⟩, by simp⟩
  · have hlm : len ≤ m := by subst hmm; simpa using hl
    rw [hc] at hel
    obtain ⟨l, hll, hlq⟩ := list_choice (fun i (y : α) => w.cell? (a.add (i * 3)) = some (e1 y) ∧ w.cell? ((a.add (i * 3)).add 1) = some (e2 y) ∧ w.cell? ((a.add (i * 3)).add 2) = some (e3 y) ∧ φ y) len (fun i hi => by
      obtain ⟨cs', h1, h2⟩ := hel i (by omega)
      obtain ⟨c0, c1, c2, rfl, g0, g1, g2⟩ := cells3 h1
      obtain ⟨y, rfl, rfl, rfl, hy⟩ := h h2
      exact ⟨y, g0, g1, g2, hy⟩)
    by_cases h0 : len = 0
    · subst h0
      obtain rfl : l = [] := List.eq_nil_of_length_eq_zero hll
      exact ⟨[], [], ⟨_, rfl, some a, cap, rfl, hl, hm, by simp, Or.inl ⟨rfl, rfl⟩⟩, by simp⟩
    · have hc0 := (hlq 0 l[0] (by simp)).1
      have hs : a.spot = none := by simpa [Addr.add] using World.cell?_spot hc0
      obtain ⟨b, off, spot⟩ := a
      simp at hs
      subst hs
      refine ⟨l, [b], ⟨_, rfl, some ⟨b, off, none⟩, cap, by rw [hll], by omega, hm, by rw [flatMap_three_length], Or.inr ⟨b, off, rfl, rfl, ?_, fun j u hu => ?_⟩⟩, fun x hx => ?_⟩
      · exact World.block_lt_of_cell? w ⟨b, off, none⟩ (by simpa [Addr.add] using hc0)
      · have hj : j < l.length * 3 := by rw [← flatMap_three_length e1 e2 e3]; exact (List.getElem?_eq_some_iff.1 hu).1
        have hi : j / 3 < l.length := by omega
        obtain ⟨g1, g2, g3⟩ := flatMap_three_get e1 e2 e3 l (j / 3) hi
        obtain ⟨q1, q2, q3, -⟩ := hlq (j / 3) l[j / 3] (by simp)
        have ha : (⟨b, off, none⟩ : Addr).add (j / 3 * 3) = ⟨b, off + j / 3 * 3, none⟩ := by simp only [Addr.add]; split <;> simp_all
        rw [ha] at q1 q2 q3
        have hmod : j % 3 = 0 ∨ j % 3 = 1 ∨ j % 3 = 2 := by omega
        rcases hmod with hmod | hmod | hmod
        · have e : j / 3 * 3 = j := by omega
          rw [e] at g1 q1
          rw [g1] at hu; cases hu; exact q1
        · have e : j / 3 * 3 + 1 = j := by omega
          rw [e] at g2
          rw [g2] at hu; cases hu
          simp [Addr.add] at q2
          rw [show off + j = off + j / 3 * 3 + 1 from by omega]; exact q2
        · have e : j / 3 * 3 + 2 = j := by omega
          rw [e] at g3
          rw [g3] at hu; cases hu
          simp [Addr.add] at q3
          rw [show off + j = off + j / 3 * 3 + 2 from by omega]; exact q3
      · obtain ⟨i, hi, rfl⟩ := List.mem_iff_getElem.1 hx
        exact (hlq i _ (by simp)).2.2.2

theorem opens_E1 : Opens Tryz.prog 23 R_E1 (fun xs => ∀ x ∈ xs, True) :=
  opens_slF3 Tryz.underlying23 (by kernel_rfl) (by
    intro H enc w fuel u v z x hx
    obtain ⟨y0, y1, y2, n, -, -, h0, h1, h2⟩ := trod_struct3 Tryz.underlying80 hx
    obtain ⟨a, e0, -, -⟩ := DataW.trod_int Tryz.underlying2 h0
    obtain ⟨b, e1, -, -⟩ := DataW.trod_int Tryz.underlying2 h1
    obtain ⟨c, e2, -, -⟩ := DataW.trod_int Tryz.underlying2 h2
    have c1 : Tryz.prog.cellsOf 2 = 1 := by kernel_rfl
    simp [c1] at e0 e1 e2
    exact ⟨⟨a, b, c⟩, e0, e1, e2, trivial⟩)

theorem open_L1 {H : Type} {enc : TypeId × Value → H} {w : World} {v : Value} {d : DataW H} {ps : List MemPlace} (hv : ∃ cs, v = .agg cs ∧ cs.size = Tryz.prog.cellsOf 25)
    (hd : DataW.Trod enc Tryz.prog w 0 (fun _ => true) true 25 v d ps) : ∃ x fp, R_L1 fp w [v] x ∧ strsOk x.labs := by
  obtain ⟨cs, rfl, hcs⟩ := hv
  rw [show Tryz.prog.cellsOf 25 = 4 by kernel_rfl] at hcs
  obtain ⟨l, rfl⟩ : ∃ l : List Value, cs = l.toArray := ⟨cs.toList, by simp⟩
  match l, hcs with
  | [a, b, c, e], _ =>
    obtain ⟨fuel, hf⟩ := hd
    obtain ⟨y0, y1, y2, y3, n, -, -, h0, h1, h2, h3⟩ := Go.Joins.trod_struct4 Tryz.underlying25 hf
    obtain ⟨s, e0, -, -⟩ := DataW.trod_int Tryz.underlying2 h0
    obtain ⟨i, e1, -, -⟩ := DataW.trod_int Tryz.underlying2 h1
    have c1 : Tryz.prog.cellsOf 2 = 1 := by kernel_rfl
    have c2 : Tryz.prog.cellsOf 22 = 1 := by kernel_rfl
    have c3 : Tryz.prog.cellsOf 23 = 1 := by kernel_rfl
    simp [c1, c2, c3, Value.cells] at e0 e1 h2 h3
    obtain ⟨labs, f1, r1, g1⟩ := opens_S1 h2
    obtain ⟨eds, f2, r2, -⟩ := opens_E1 h3
    exact ⟨⟨s, i, labs, eds⟩, f1 ++ f2, ⟨c, e, f1, f2, by rw [e0, e1], r1, r2, rfl⟩, strs_of g1⟩

end Go.Proofs.YtcnaapiljmgfoaaGreatDoor
