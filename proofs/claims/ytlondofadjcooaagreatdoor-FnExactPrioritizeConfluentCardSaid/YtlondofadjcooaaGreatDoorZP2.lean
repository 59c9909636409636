/-
  Texts joined in one file: Norm, BisK, FunM, FunN, Mat, RelW, Lib3, HarnW, Lib4, Lib5, HarnM, OpenC, OpenL.
-/
import Derived.Test.YtlondofadjcooaaGreatDoorZP1
import Derived.Maps.OwnSet
import Derived.Maps.OwnOps
import Derived.Maps.RangeWalk
import Derived.DeepKeys5
import Derived.StillTailTactics
import Derived.Deep.MidRow
import Derived.Lib.SliceRun
import Derived.Deep.AppendLies
import Derived.Deep.RegionLaw
import Derived.Lib.SmallJoins
import Derived.Deep.Strs
/-
  Numbering by first occurrence: plainly, and the program's walk with a map.
-/
namespace Go.Proofs.YtlondofadjcooaaGreatDoor
open Go.RowKit Go.Maps

theorem idx_new {S s : List Int} {x : Int} (h : s ++ [x] <+: S) (hx : x ∉ s) : S.idxOf x = s.length := by
  obtain ⟨r, rfl⟩ := h
  rw [List.append_assoc, List.idxOf_append, if_neg hx]
  simp
theorem keyI : Keyed Tryz.prog 2 := int_keyed Tryz.underlying2
/-- what a map of numbers reads as, behind k elements. -/
def NMap (S s : List Int) (D : DataW Unit) : Prop := Maps.Tidy D ∧ Maps.size D = s.length ∧ (∀ n : Int, Maps.has D (.int .i64 n) = decide (n ∈ s)) ∧ ∀ n ∈ s, D.atKey (.int .i64 n) (.lit (.int .i64 0)) = .lit (.int .i64 (S.idxOf n))

theorem NMap.put {S s : List Int} {D : DataW Unit} (h : NMap S s D) {x : Int} (hw : (Lit.int .i64 x).wf = true) (hx : x ∉ s) (hp : s ++ [x] <+: S) : NMap S (s ++ [x]) (D.put (.int .i64 x) (.lit (.int .i64 (s.length : Int)))) := by
  obtain ⟨h1, h2, h3, h4⟩ := h
  have hk : WideAt.IsKeyLit (.int .i64 x) := keyI.key (keyOf_int_mk Tryz.underlying2 hw)
  have hxi := idx_new hp hx
  refine ⟨h1.put hk _, ?_, ?_, ?_⟩
  · rw [size_put h1, h3 x, if_neg (by simpa using hx), h2, List.length_append]; rfl
  · intro n
    by_cases hn : n = x
    · subst hn; rw [has_put_same h1.isMap hk]; simp
    · rw [has_put_other (by intro e; injection e with _ e2; exact hn e2), h3 n]; simp [hn]
  · intro n hn
    by_cases hnx : n = x
    · subst hnx; rw [atKey_put_same h1.isMap hk, hxi]
    · rw [atKey_put_other (by intro e; injection e with _ e2; exact hnx e2)]
      exact h4 n (by simpa [hnx] using hn)

end Go.Proofs.YtlondofadjcooaaGreatDoor

/-
  Maps whose keys are pairs of numbers: the program's set of pairs.
-/
namespace Go.Proofs.YtlondofadjcooaaGreatDoor
open Go.RowKit Go.Maps

end Go.Proofs.YtlondofadjcooaaGreatDoor

/-
  slices.IndexFunc and ContainsFunc over rows of numbers, at whatever function value.
-/
namespace Go.Proofs.YtlondofadjcooaaGreatDoor
open Go.RowKit

end Go.Proofs.YtlondofadjcooaaGreatDoor

/-
  slices.IndexFunc and ContainsFunc over numbers, at whatever function value.
-/
namespace Go.Proofs.YtlondofadjcooaaGreatDoor
open Go.RowKit

def IdxN (P : Int → Bool) (xs : List Int) (w : World) (e : Ending) (w' : World) : Prop := (∃ q : Int, e = .returned (.int .i64 q) ∧ -1 ≤ q ∧ q ≤ 9223372036854775807 ∧ decide (0 ≤ q) = xs.any P) ∧ Upd [] w w'

set_option maxRecDepth 20000 in
set_option maxHeartbeats 1000000 in
theorem indexFuncN (P : Int → Bool) (fn : FuncId) (caps : Array Value) (v : Value) (xs : List Int) (w : World) (fp : List Nat) (hR : R1 fp w [v] xs)
    (hent : ∀ args w, Sem.run Tryz.prog (callFunc fn args) w = .ok (.enter fn args) w)
    (hby : ∀ wr x, x ∈ xs → Upd [] w wr → Calls Tryz.prog fn (#[.int .i64 x] ++ caps) wr fun e w' => e = .returned (.bool (P x)) ∧ Upd [] wr w') :
    Calls Tryz.prog 102 #[v, .func (.func fn) #[] caps] w (IdxN P xs w) := by
  obtain ⟨a1, c1, rfl, hl1, hm1, hc1⟩ := slF1_open hR
  unfold maxLen at hm1
  have HBY := Lib.hid hby
  clear hR hby
  go_enter Tryz.func102, Tryz.ntmps102
  go_wp2_with fail
  go_loopw [8] (fun i wr => ∃ k : Nat, k ≤ xs.length ∧ i = .int .i64 k ∧ Upd [] w wr ∧ (xs.drop k).any P = xs.any P) (fun i _ => xs.length - (intOf i).toNat)
  case atStart => exact ⟨0, Nat.zero_le _, rfl, Upd.refl _ _, rfl⟩
  case round =>
    obtain ⟨k, hk, rfl, hU, hF⟩ := hrel
    by_cases hlt : k < xs.length
    · obtain ⟨b1, o1, rfl, -, -, p1⟩ := hc1 k hlt
      have p1' := hU.keep p1
      rw [List.drop_eq_getElem_cons hlt, List.any_cons] at hF
      have HF := Lib.hid hF
      have HU := Lib.hid hU
      have S1 := Lib.hid (HBY.out wr xs[k] (List.getElem_mem hlt) hU)
      generalize xs[k] = x at *
      generalize P x = bb at *
      clear hF hc1 p1 hU
      go_wp2_with fail
      refine S1.out.mono ?_
      rintro e w1 ⟨rfl, hu1⟩
      have HU1 := Lib.hid (HU.out.trans hu1)
      clear S1 hu1
      cases bb
      · go_wp2_with fail
        go_roundw
        case rel => exact ⟨k + 1, by omega, by go_num, HU1.out, by rw [← HF.out]; rfl⟩
        case measure => simp [intOf]; omega
      · go_wp2_with fail
        go_ret
        exact ⟨⟨k, rfl, by omega, by omega, by rw [← HF.out]; simp⟩, HU1.out⟩
    · rw [List.drop_of_length_le (by omega)] at hF
      have HF := Lib.hid hF
      clear hF hc1
      go_wp2_with fail
      go_ret
      exact ⟨⟨-1, rfl, by omega, by omega, by rw [← HF.out]; rfl⟩, hU⟩

set_option maxRecDepth 20000 in
theorem containsFuncN (P : Int → Bool) (fn : FuncId) (caps : Array Value) (v : Value) (xs : List Int) (w : World) (fp : List Nat) (hR : R1 fp w [v] xs)
    (hent : ∀ args w, Sem.run Tryz.prog (callFunc fn args) w = .ok (.enter fn args) w)
    (hby : ∀ wr x, x ∈ xs → Upd [] w wr → Calls Tryz.prog fn (#[.int .i64 x] ++ caps) wr fun e w' => e = .returned (.bool (P x)) ∧ Upd [] wr w') :
    Calls Tryz.prog 91 #[v, .func (.func fn) #[] caps] w fun e w' => e = .returned (.bool (xs.any P)) ∧ Upd [] w w' := by
  have S2 := Lib.hid (indexFuncN P fn caps v xs w fp hR hent hby)
  clear hby hent hR
  go_enter Tryz.func91, Tryz.ntmps91
  go_wp2_with fail
  refine S2.out.mono ?_
  rintro e w1 ⟨⟨q, rfl, h1, h2, h3⟩, hu⟩
  have H3 := Lib.hid (And.intro h3 hu)
  clear h3 hu
  go_wp2_with fail
  go_ret
  exact ⟨by rw [← H3.out.1]; rfl, H3.out.2⟩

end Go.Proofs.YtlondofadjcooaaGreatDoor

/-
  Matrices of bools as functions, and the pairs that they list: plain facts.
-/
namespace Go.Proofs.YtlondofadjcooaaGreatDoor

def mat (n : Nat) (f : Nat → Nat → Bool) : List (List Bool) := (List.range n).map fun i => (List.range n).map (f i)
def upd (f : Nat → Nat → Bool) (i j : Nat) (b : Bool) : Nat → Nat → Bool := fun i' j' => if i' = i ∧ j' = j then b else f i' j'
def flat (n : Nat) (f : Nat → Nat → Bool) : List Bool := (List.range (n * n)).map fun k => f (k / n) (k % n)

@[simp] theorem mat_length (n : Nat) (f : Nat → Nat → Bool) : (mat n f).length = n := by simp [mat]
theorem mat_row (n : Nat) (f : Nat → Nat → Bool) (i : Nat) (h : i < n) : (mat n f)[i]'(by simpa using h) = (List.range n).map (f i) := by simp [mat]
@[simp] theorem flat_length (n : Nat) (f : Nat → Nat → Bool) : (flat n f).length = n * n := by simp [flat]
theorem idx_lt {n i j : Nat} (hi : i < n) (hj : j < n) : i * n + j < n * n := by
  have : (i + 1) * n ≤ n * n := Nat.mul_le_mul_right _ hi
  rw [Nat.add_mul] at this; omega
end Go.Proofs.YtlondofadjcooaaGreatDoor

/-
  The matrices behind the relations' functions, made, written and listed.
-/
namespace Go.Proofs.YtlondofadjcooaaGreatDoor
open Go.RowKit

theorem Tryz.infoB : (Tryz.prog.info? 4).map (fun i => (i.zero, i.size, i.bytes)) = some (some (.bool false), 1, 1) := by kernel_rfl
end Go.Proofs.YtlondofadjcooaaGreatDoor

/-
  Readings of slices whose elements are several cells each and hold memory of their own.
-/
namespace Go.Proofs.YtlondofadjcooaaGreatDoor
open Go.RowKit

theorem flat_len {β : Type} {n : Nat} : ∀ {us : List (List β)}, (∀ u ∈ us, u.length = n) → us.flatten.length = us.length * n
  | [], _ => by simp
  | u :: us, h => by
    rw [List.flatten_cons, List.length_append, h u (by simp), flat_len (fun v hv => h v (by simp [hv])), List.length_cons, Nat.add_mul]
    omega
theorem flat_at {β : Type} {n : Nat} : ∀ {us : List (List β)}, (∀ u ∈ us, u.length = n) → ∀ {i : Nat} {u : List β}, us[i]? = some u → ∀ {j : Nat} {c : β}, u[j]? = some c → us.flatten[i * n + j]? = some c
  | [], _, i, u, hu, _, _, _ => by simp at hu
  | v :: us, h, i, u, hu, j, c, hc => by
    have hv := h v (by simp)
    rw [List.flatten_cons]
    cases i with
    | zero =>
      simp at hu; subst hu
      rw [Nat.zero_mul, Nat.zero_add, List.getElem?_append_left (List.getElem?_eq_some_iff.1 hc).1]; exact hc
    | succ i =>
      simp at hu
      rw [List.getElem?_append_right (by rw [Nat.add_mul]; omega), hv, show (i + 1) * n + j - n = i * n + j by rw [Nat.add_mul]; omega]
      exact flat_at (fun x hx => h x (by simp [hx])) hu hc

/-- A slice whose elements are n cells each, and hold memory of their own. -/
def slQ {α : Type} (n : Nat) (R : Rp α) : Rp (List α) := fun fp w cs xs =>
  ∃ (a : Option Addr) (cap : Nat) (us : List (List Value)) (fb : List Nat) (fps : List (List Nat)), cs = [.slice a xs.length cap] ∧ xs.length ≤ cap ∧ cap ≤ maxLen ∧ us.length = xs.length ∧ (∀ u ∈ us, u.length = n) ∧ fps.length = xs.length ∧ fp = fb ++ fps.flatten ∧
    ((xs.length = 0 ∧ fb = []) ∨ ∃ b off, a = some ⟨b, off, none⟩ ∧ fb = [b] ∧ b < w.heap.size ∧ ∀ (i j : Nat) (u : List Value) (c : Value), us[i]? = some u → u[j]? = some c → w.cell? ⟨b, off + i * n + j, none⟩ = some c) ∧
    ∀ i (h : i < xs.length) u (f : List Nat), us[i]? = some u → fps[i]? = some f → R f w u xs[i]

/-- Elements of several cells each, with memory of their own, from block base on and apart from the blocks ob. -/
def RowsQ {α : Type} (n : Nat) (R : Rp α) (base : Nat) (ob : List Nat) (w : World) (us : List (List Value)) (xs : List α) : Prop :=
  ∃ fps : List (List Nat), fps.length = xs.length ∧ us.length = xs.length ∧ (∀ u ∈ us, u.length = n) ∧ Own fps.flatten w ∧ (∀ b ∈ fps.flatten, base ≤ b ∧ b ∉ ob) ∧
    ∀ i (h : i < xs.length) u (f : List Nat), us[i]? = some u → fps[i]? = some f → R f w u xs[i]

/-- What a call makes anew, as several cells. -/
def NewQ {α : Type} (R : Rp α) (w w' : World) (u : List Value) (x : α) : Prop :=
  ∃ fp, R fp w' u x ∧ Own fp w' ∧ ∀ b ∈ fp, w.heap.size ≤ b

namespace RowsQ
variable {α : Type} {n : Nat} {R : Rp α} {base : Nat} {ob : List Nat} {w w1 : World} {us : List (List Value)} {xs : List α}

theorem nil (n : Nat) (R : Rp α) (base : Nat) (ob : List Nat) (w : World) : RowsQ n R base ob w [] [] := ⟨[], rfl, rfl, by simp, Own.nil w, by simp, by simp⟩
theorem length (h : RowsQ n R base ob w us xs) : us.length = xs.length := by obtain ⟨_, _, h, _⟩ := h; exact h
theorem each (h : RowsQ n R base ob w us xs) : ∀ u ∈ us, u.length = n := by obtain ⟨_, _, _, h, _⟩ := h; exact h
theorem flat (h : RowsQ n R base ob w us xs) : us.flatten.length = xs.length * n := by rw [flat_len h.each, h.length]

theorem upd (K : Kept R) (h : RowsQ n R base ob w us xs) {f : List Nat} (hu : Upd f w w1) (hf : ∀ b ∈ f, b ∈ ob ∨ b < base) : RowsQ n R base ob w1 us xs := by
  obtain ⟨fps, h1, h2, h6, h3, h4, h5⟩ := h
  have hd : ∀ b ∈ fps.flatten, b ∉ f := fun b hb hm => by
    rcases hf b hm with h | h
    · exact (h4 b hb).2 h
    · have := (h4 b hb).1; omega
  refine ⟨fps, h1, h2, h6, h3.upd hu hd, h4, fun i hi u f' hu' hf' => K.upd (h5 i hi u f' hu' hf') hu fun b hb => hd b (List.mem_flatten.2 ⟨_, List.mem_of_getElem? hf', hb⟩)⟩

theorem ob' (h : RowsQ n R base ob w us xs) {ob2 : List Nat} (hb : ∀ b ∈ ob2, b ∈ ob ∨ b < base ∨ w.heap.size ≤ b) : RowsQ n R base ob2 w us xs := by
  obtain ⟨fps, h1, h2, h6, h3, h4, h5⟩ := h
  refine ⟨fps, h1, h2, h6, h3, fun b hb' => ⟨(h4 b hb').1, fun hm => ?_⟩, h5⟩
  rcases hb b hm with h | h | h
  · exact (h4 b hb').2 h
  · have := (h4 b hb').1; omega
  · have := h3.lt b hb'; omega

theorem push (K : Kept R) (h : RowsQ n R base ob w us xs) {u : List Value} {x : α} (hu : Upd [] w w1) (hn : NewQ R w w1 u x) (hl : u.length = n) (hb : base ≤ w.heap.size) (hob : ∀ b ∈ ob, b < w.heap.size) :
    RowsQ n R base ob w1 (us ++ [u]) (xs ++ [x]) := by
  obtain ⟨fps, h1, h2, h6, h3, h4, h5⟩ := h.upd K hu (by simp)
  obtain ⟨fps', h1', h2', h6', h3', h4', h5'⟩ := h
  obtain ⟨fp, g1, g2, g3⟩ := hn
  have hlt : ∀ b ∈ fps'.flatten, b < w.heap.size := h3'.lt
  refine ⟨fps' ++ [fp], by simp [h1'], by simp [h2], ?_, ⟨?_, ?_⟩, ?_, ?_⟩
  · intro v hv
    rcases List.mem_append.1 hv with hv | hv
    · exact h6 v hv
    · simp at hv; subst hv; exact hl
  · rw [List.flatten_append, List.nodup_append]
    refine ⟨h3'.1, by simpa using g2.1, fun a ha b hb' e => ?_⟩
    subst e
    have := hlt a ha
    have := g3 a (by simpa using hb')
    omega
  · intro b hb'
    rw [List.flatten_append] at hb'
    rcases List.mem_append.1 hb' with hb' | hb'
    · exact (h3'.upd hu (by simp)).2 b hb'
    · exact g2.2 b (by simpa using hb')
  · intro b hb'
    rw [List.flatten_append] at hb'
    rcases List.mem_append.1 hb' with hb' | hb'
    · exact h4' b hb'
    · have := g3 b (by simpa using hb')
      exact ⟨by omega, fun hm => by have := hob b hm; omega⟩
  · intro i hi u' f' hu' hf'
    by_cases e : i < xs.length
    · rw [List.getElem?_append_left (by omega)] at hu' hf'
      rw [List.getElem_append_left e]
      exact K.upd (h5' i e u' f' hu' hf') hu (by simp)
    · have ei : i = xs.length := by simp at hi; omega
      subst ei
      rw [List.getElem?_append_right (by omega)] at hu' hf'
      rw [h2, Nat.sub_self] at hu'
      rw [h1', Nat.sub_self] at hf'
      simp at hu' hf'
      subst hu' hf'
      simpa using g1

theorem new (h : RowsQ n R base ob w us xs) {w0 : World} {e : TypeId} {v : Value} (ho : w.ownsRow w0.heap.size e n v xs.length us.flatten) (hob : ∀ b, v.ownBlock = some b → b ∈ ob) (hb : w0.heap.size ≤ base) :
    New (slQ n R) w0 w v xs := by
  obtain ⟨fps, h1, h2, h6, h3, h4, h5⟩ := h
  obtain ⟨fb, ⟨a, cap, rfl, q1, q2, -, q4⟩, g2, g3, g4⟩ := Flat.ofOwns ho
  refine ⟨fb ++ fps.flatten, ⟨a, cap, us, fb, fps, rfl, q1, q2, h2, h6, h1, rfl, ?_, h5⟩, ⟨?_, ?_⟩, ?_⟩
  · rcases q4 with q4 | ⟨b, off, rfl, rfl, hbl, hc⟩
    · exact Or.inl q4
    · refine Or.inr ⟨b, off, rfl, rfl, hbl, fun i j u c hu hj => ?_⟩
      rw [Nat.add_assoc]
      exact hc _ _ (flat_at h6 hu hj)
  · rw [List.nodup_append]
    refine ⟨g2.1, h3.1, fun a ha b hb' e => ?_⟩
    subst e
    exact (h4 a hb').2 (hob a (g4 a ha))
  · intro b hb'
    rcases List.mem_append.1 hb' with hb' | hb'
    · exact g2.2 b hb'
    · exact h3.2 b hb'
  · intro b hb'
    rcases List.mem_append.1 hb' with hb' | hb'
    · exact g3 b hb'
    · have := (h4 b hb').1; omega
end RowsQ

theorem Upd.keepF {f : List Nat} {w w1 : World} {b o : Nat} {v : Value} (hu : Upd f w w1) (hb : b ∉ f) (h : w.cell? ⟨b, o, none⟩ = some v) : w1.cell? ⟨b, o, none⟩ = some v := by
  have hl := World.block_lt_of_cell? w _ h
  unfold World.cell? at h ⊢
  rw [hu.block b hl hb]; exact h
theorem Upd.cellF {f : List Nat} {w w1 : World} {b : Nat} (hu : Upd f w w1) (hb : b ∉ f) (hl : b < w.heap.size) (o : Nat) : w1.cell? ⟨b, o, none⟩ = w.cell? ⟨b, o, none⟩ := by
  unfold World.cell?
  rw [hu.block b hl hb]
theorem Upd.row {f : List Nat} {w w1 : World} (h : Upd f w w1) {g : Nat} (hg : w.heap.size ≤ g ∨ g ∈ f) (cs : Array Value) : Upd f w (w1.setRow g cs) :=
  h.fresh (f := [g]) ⟨rfl, rfl, rfl, by simp [World.setRow], fun k _ hf => setRow_other _ _ _ _ (by simpa using hf)⟩ (by simpa using hg)
/-- memory made between two worlds, as it lies later. -/
structure Part {α : Type} (R : Rp α) (lo hi : Nat) (w : World) (v : Value) (x : α) (fp : List Nat) : Prop where
  r : R fp w [v] x
  o : Own fp w
  b : ∀ b ∈ fp, lo ≤ b ∧ b < hi
theorem Part.of {α : Type} {R : Rp α} (K : Kept R) {w w1 : World} {v : Value} {x : α} (h : New R w w1 v x) : ∃ fp, Part R w.heap.size w1.heap.size w1 v x fp := by
  obtain ⟨fp, h1, h2, h3⟩ := h
  exact ⟨fp, h1, h2, fun b hb => ⟨h3 b hb, K.lt h1 b hb⟩⟩
theorem Part.upd {α : Type} {R : Rp α} (K : Kept R) {lo hi : Nat} {w w1 : World} {v : Value} {x : α} {fp f : List Nat} (h : Part R lo hi w v x fp) (hu : Upd f w w1) (hf : ∀ b ∈ f, b < lo ∨ hi ≤ b) : Part R lo hi w1 v x fp := by
  have hd : ∀ b ∈ fp, b ∉ f := fun b hb hm => by have := h.b b hb; have := hf b hm; omega
  exact ⟨K.upd h.r hu hd, h.o.upd hu hd, h.b⟩
/-- outside of a part of block b the cells are as they were. -/
def FarEq (w w' : World) (b lo hi : Nat) : Prop := ∀ o, (o < lo ∨ hi ≤ o) → w'.cell? ⟨b, o, none⟩ = w.cell? ⟨b, o, none⟩
theorem FarEq.refl (w : World) (b lo hi : Nat) : FarEq w w b lo hi := fun _ _ => rfl
theorem FarEq.upd {w w1 w2 : World} {b lo hi : Nat} {f : List Nat} (h : FarEq w w1 b lo hi) (hu : Upd f w1 w2) (hb : b ∉ f) (hl : b < w1.heap.size) : FarEq w w2 b lo hi := fun o ho => (hu.cellF hb hl o).trans (h o ho)
theorem FarEq.put {w w1 w2 : World} {b lo hi j : Nat} (h : FarEq w w1 b lo hi) (hc : ∀ o, o ≠ j → w2.cell? ⟨b, o, none⟩ = w1.cell? ⟨b, o, none⟩) (hj : lo ≤ j ∧ j < hi) : FarEq w w2 b lo hi := fun o ho => (hc o (by omega)).trans (h o ho)

/-- three blocks in a row: what came in, the result's, and the one under way. -/
structure Three (w W : World) (T1 T2 : TypeId) (B : Nat) (p z o : List Value) : Prop where
  base : w.heap.size = B
  upd : Upd [] w W
  h0 : W.heap[B]? = some (.cells p.toArray T1 (0, 0))
  h1 : W.heap[B + 1]? = some (.cells z.toArray T2 (0, 0))
  h2 : W.heap[B + 2]? = some (.cells o.toArray T2 (0, 0))
namespace Three
variable {w W W' : World} {T1 T2 : TypeId} {B : Nat} {p z o : List Value}
theorem size (h : Three w W T1 T2 B p z o) : B + 2 < W.heap.size := (Array.getElem?_eq_some_iff.1 h.h2).1
theorem call (h : Three w W T1 T2 B p z o) (hu : Upd [] W W') : Three w W' T1 T2 B p z o :=
  ⟨h.base, h.upd.trans hu, by rw [hu.block _ (Array.getElem?_eq_some_iff.1 h.h0).1 (by simp)]; exact h.h0, by rw [hu.block _ (Array.getElem?_eq_some_iff.1 h.h1).1 (by simp)]; exact h.h1, by rw [hu.block _ (Array.getElem?_eq_some_iff.1 h.h2).1 (by simp)]; exact h.h2⟩
theorem store (h : Three w W T1 T2 B p z o) (j : Nat) (v : Value) : Three w (W.setCell ⟨B + 2, j, none⟩ v) T1 T2 B p z (o.set j v) := by
  refine ⟨h.base, h.upd.setCell (Or.inl (by rw [h.base]; simp)) _, ?_, ?_, ?_⟩
  · rw [Below.heap_setCell _ _ _ _ (by simp)]; exact h.h0
  · rw [Below.heap_setCell _ _ _ _ (by simp)]; exact h.h1
  · simp [World.setCell, Array.getElem?_modify, h.h2]
theorem pc (h : Three w W T1 T2 B p z o) (j : Nat) (c : Value) (hc : p[j]? = some c) : W.cell? ⟨B, j, none⟩ = some c := by simp [World.cell?, h.h0, hc]
theorem oc (h : Three w W T1 T2 B p z o) (j : Nat) (c : Value) (hc : o[j]? = some c) : W.cell? ⟨B + 2, j, none⟩ = some c := by simp [World.cell?, h.h2, hc]
theorem fz (h : Three w W T1 T2 B p z o) (j : Nat) : W.frozen? ⟨B + 2, j, none⟩ = false := by simp [World.frozen?, h.h2]
end Three

end Go.Proofs.YtlondofadjcooaaGreatDoor

/-
  Lists of numbers and lists of expressions under the names that the printed texts want.
-/
namespace Go.Proofs.YtlondofadjcooaaGreatDoor
open Go.RowKit

end Go.Proofs.YtlondofadjcooaaGreatDoor

/-
  Append of a whole slice to an owned row, whatever the slice: a law for the walks; slices.Clone and the reference's copies.
-/
namespace Go.Proofs.YtlondofadjcooaaGreatDoor
open Go.RowKit

section
variable {P : Program} {w : World}
theorem run_append_owned_empty (base : Nat) (t ty e : TypeId) (i : TypeInfo) (size : Nat) (ht : P.underlying t = some (.slice e)) (hi : P.info? e = some i)
    (v : Value) (n : Nat) (xs : List Value) (hown : w.ownsRow base e size v n xs) (a : Option Addr) (c : Nat) :
    (Builtin.append_ #[t, t] ty #[v, .slice a 0 c]).run P w = .ok v w := by
  have hf : (Builtin.firstCells i.size 0 (.slice a 0 c)).run P w = .ok #[] w := by
    cases a <;> simp [Builtin.firstCells, loadCells, loadCellsFrom]
  rcases hown.2 with ⟨rfl, rfl⟩ | ⟨g, cap, cur, rfl, _, _, hnc, _⟩
  · simp [Builtin.append_, run_underlying ht, sizeOf, typeInfo, hi, Builtin.lenOf, hf]
  · simp [Builtin.append_, run_underlying ht, sizeOf, typeInfo, hi, Builtin.lenOf, hf, hnc, storeCells]

theorem wpList_append_flat {ops : Array Oper} {rest : List Oper} {o : Oper} {a : Act} {Q : Exit → Act → World → Prop} (hgd : o.guard = none) (s x : Operand) (t : TypeId)
    (ho : o.op = .call { callee := .builtin .append, args := #[s, x], argTypes := #[t, t] })
    (base : Nat) (e : TypeId) (i : TypeInfo) (z : Value) (size bytes : Nat) (ht : P.underlying t = some (.slice e)) (hi : P.info? e = some i) (hz : i.zero = some z)
    (hsize : i.size = size) (hby : i.bytes = bytes) (hzs : z.cells.size = size) (hsz : 0 < size)
    (v : Value) (n : Nat) (xs : List Value) (hs : a.eval s = v) (hown : w.ownsRow base e size v n xs)
    (sv : Value) (m : Nat) (news : List Value) (hx : a.eval x = sv) (fp : List Nat) (hF : Flat fp w sv size m news) (h1 : ∀ u ∈ news, u.oneCell' = true)
    (h63 : n + m ≤ maxLen) (hbytes : (n + m) * bytes ≤ 140737488355328) (hbase : base ≤ w.heap.size)
    (h : ∀ v' w', w'.ownsRow base e size v' (n + m) (xs ++ news) → w.grownBy w' v.ownBlock → (∀ b, v'.ownBlock = some b → v.ownBlock = some b ∨ w.heap.size ≤ b) → wpList P ops Q rest (a.put o.dst v') w') : wpList P ops Q (o :: rest) a w := by
  obtain ⟨ad, cap, rfl, q1, q2, q3, q4⟩ := hF
  by_cases hm : m = 0
  · subst hm
    have hnil : news = [] := List.eq_nil_of_length_eq_zero (by simpa using q3)
    subst hnil
    refine wpList_plain hgd fun K hK => ?_
    have hrun := run_append_owned_empty (P := P) (w := w) base t o.type e i size ht hi v n xs hown ad cap
    unfold Oper.wp
    simp [execOp, ho, resolve, invoke, builtin, hs, hx, hrun, Result.andThen]
    exact hK _ _ (h v w (by simpa using hown) ⟨rfl, rfl, rfl, Nat.le_refl _, fun _ _ _ => rfl⟩ (fun b hb => Or.inl hb))
  · rcases q4 with ⟨h0, -⟩ | ⟨b, off, rfl, -, -, hc⟩
    · exact absurd h0 hm
    · exact wpList_append_tight w hgd s x t ho base e i z size bytes ht hi hz hsize hby hzs hsz v n xs hs hown ⟨b, off, none⟩ m cap news hx q3 (fun j u hj => by rw [addr_add]; exact hc j u hj) h1 h63 hbytes hbase h
end

end Go.Proofs.YtlondofadjcooaaGreatDoor

/-
  A row of cells known whole; elements of several cells collected by append.
-/
namespace Go.Proofs.YtlondofadjcooaaGreatDoor
open Go.RowKit

/-- block T holds these cells, and none is frozen. -/
def RowAt (W : World) (T : Nat) (ty : TypeId) (cs : List Value) : Prop := W.heap[T]? = some (.cells cs.toArray ty (0, 0))
namespace RowAt
variable {W W' : World} {T : Nat} {ty : TypeId} {cs : List Value}
theorem new (W : World) (ty : TypeId) (cs : List Value) : RowAt (W.alloc (.cells cs.toArray ty)) W.heap.size ty cs := heap_alloc_new W _
theorem lt (h : RowAt W T ty cs) : T < W.heap.size := (Array.getElem?_eq_some_iff.1 h).1
theorem upd (h : RowAt W T ty cs) {f : List Nat} (hu : Upd f W W') (hT : T ∉ f) : RowAt W' T ty cs := by
  unfold RowAt; rw [hu.block T h.lt hT]; exact h
theorem cell (h : RowAt W T ty cs) (j : Nat) (c : Value) (hc : cs[j]? = some c) : W.cell? ⟨T, j, none⟩ = some c := by unfold RowAt at h; simp [World.cell?, h, hc]
theorem fz (h : RowAt W T ty cs) (j : Nat) : W.frozen? ⟨T, j, none⟩ = false := by unfold RowAt at h; simp [World.frozen?, h]
theorem store (h : RowAt W T ty cs) (j : Nat) (v : Value) : RowAt (W.setCell ⟨T, j, none⟩ v) T ty (cs.set j v) := by
  unfold RowAt at h ⊢; simp [World.setCell, Array.getElem?_modify, h]
theorem other (h : RowAt W T ty cs) (g j : Nat) (v : Value) (hg : g ≠ T) : RowAt (W.setCell ⟨g, j, none⟩ v) T ty cs := by
  unfold RowAt at h ⊢; rw [Below.heap_setCell _ _ _ _ (by simpa using fun e => hg e.symm)]; exact h
theorem row (h : RowAt W T ty cs) (ds : List Value) : RowAt (W.setRow T ds.toArray) T ty ds := setRow_heap W T _ _ _ _ h
theorem own (h : RowAt W T ty cs) : Own [T] W := ⟨by simp, by intro b hb; obtain rfl : b = T := (by simpa using hb); exact ⟨_, _, h⟩⟩
end RowAt

/-- A slice of elements of n cells each, with memory of their own, that a call collects by append: e is the element's type. -/
def AccQ {α : Type} (n : Nat) (R : Rp α) (w0 : World) (e : TypeId) (w : World) (v : Value) (xs : List α) : Prop :=
  ∃ us, w.ownsRow w0.heap.size e n v xs.length (List.flatten us) ∧ RowsQ n R w0.heap.size v.ownBlock.toList w us xs

namespace AccQ
variable {α : Type} {n : Nat} {R : Rp α} {w0 w w1 w2 : World} {e : TypeId} {v : Value} {xs : List α}

theorem nil (n : Nat) (R : Rp α) (w0 : World) (e : TypeId) (w : World) : AccQ n R w0 e w (.slice none 0 0) [] := ⟨[], World.ownsRow_nil _ _ _ _, RowsQ.nil _ _ _ _ _⟩
theorem upd (K : Kept R) (h : AccQ n R w0 e w v xs) (hu : Upd [] w w1) : AccQ n R w0 e w1 v xs := by
  obtain ⟨us, h1, h2⟩ := h
  exact ⟨us, ownsRow_upd h1 hu, h2.upd K hu (by simp)⟩
theorem other (K : Kept R) (h : AccQ n R w0 e w v xs) {b : Nat} (hu : Upd [b] w w1) (hb : b < w0.heap.size) : AccQ n R w0 e w1 v xs := by
  obtain ⟨us, h1, h2⟩ := h
  refine ⟨us, h1.kept (row := some b) ⟨hu.os, hu.tape, hu.output, hu.size, fun k hk hne => hu.block k hk (by simpa using hne)⟩ ?_, h2.upd K hu (by simp; omega)⟩
  cases hv : v.ownBlock with
  | none => exact Or.inl rfl
  | some g =>
    right
    have := (h1.lt g hv).1
    intro e; cases e; omega
theorem new (h : AccQ n R w0 e w v xs) : New (slQ n R) w0 w v xs := by
  obtain ⟨us, h1, h2⟩ := h
  exact h2.new h1 (fun b hb => by simp [hb]) (Nat.le_refl _)
theorem own (h : AccQ n R w0 e w v xs) : ∃ us, w.ownsRow w0.heap.size e n v xs.length us := by obtain ⟨us, h1, -⟩ := h; exact ⟨_, h1⟩
theorem form (h : AccQ n R w0 e w v xs) : ∃ a c, v = .slice a xs.length c := by obtain ⟨us, h1, -⟩ := h; exact ownsRow_form h1
/-- Behind an append of one element, its cells made between w and w1 and laid into a new block: what the append's law leaves. -/
theorem push (K : Kept R) {us : List (List Value)} (hown : w.ownsRow w0.heap.size e n v xs.length us.flatten) (hrows : RowsQ n R w0.heap.size v.ownBlock.toList w us xs) (hs : w0.heap.size ≤ w.heap.size) {u : List Value} {x : α} (hu : Upd [] w w1) (hn : NewQ R w w1 u x) (hl : u.length = n) (o : Obj) {v2 : Value}
    (h2 : w2.ownsRow w0.heap.size e n v2 (xs.length + 1) (us.flatten ++ u)) (hg : (w1.alloc o).grownBy w2 v.ownBlock)
    (ht : ∀ b, v2.ownBlock = some b → v.ownBlock = some b ∨ (w1.alloc o).heap.size ≤ b) : AccQ n R w0 e w2 v2 (xs ++ [x]) := by
  refine ⟨us ++ [u], by simpa using h2, ?_⟩
  have hob : ∀ b ∈ v.ownBlock.toList, b < w.heap.size := fun b hb => (hown.lt b (by simpa using hb)).2
  have hr1 := hrows.push K hu hn hl hs hob
  have hu2 : Upd [] w1 (w1.alloc o) := (Upd.refl _ _).alloc o
  have hr2 := hr1.upd K hu2 (by simp)
  have hu3 : Upd v.ownBlock.toList (w1.alloc o) w2 := (Upd.refl _ _).grown hg (fun k hk => Or.inr (by simp [hk]))
  have hr3 := RowsQ.ob' hr2 (ob2 := v.ownBlock.toList ++ v2.ownBlock.toList) (by
    intro b hb
    rcases List.mem_append.1 hb with hb | hb
    · exact Or.inl hb
    · rcases ht b (by simpa using hb) with h | h
      · exact Or.inl (by simp [h])
      · exact Or.inr (Or.inr h))
  have hr4 := hr3.upd K hu3 (fun b hb => Or.inl (List.mem_append_left _ hb))
  exact hr4.ob' (fun b hb => Or.inl (List.mem_append_right _ hb))
end AccQ

end Go.Proofs.YtlondofadjcooaaGreatDoor

/-
  Edges and systems marked and found marked by the laws' helper functions.
-/
namespace Go.Proofs.YtlondofadjcooaaGreatDoor
open Go.RowKit Go.ChangeShapes

/-- n marked edges from k on. -/
def upE (k : Int) : Nat → List Ed
  | 0 => []
  | n + 1 => ⟨k, k + 1, k + 1 + 1⟩ :: upE (k + 3) n
@[simp] theorem upE_length (k : Int) (n : Nat) : (upE k n).length = n := by
  induction n generalizing k with
  | zero => rfl
  | succ n ih => simp [upE, ih]
theorem upE_snoc (k : Int) (n : Nat) : upE k (n + 1) = upE k n ++ [⟨k + 3 * n, k + 3 * n + 1, k + 3 * n + 1 + 1⟩] := by
  induction n generalizing k with
  | zero => simp [upE]
  | succ n ih =>
    rw [upE, ih (k + 3)]
    simp only [upE, List.cons_append, List.cons.injEq, List.append_cancel_left_eq, Ed.mk.injEq, and_true, true_and]
    omega
theorem upE_get (k : Int) (n i : Nat) (h : i < n) : (upE k n)[i]'(by simpa using h) = ⟨k + 3 * i, k + 3 * i + 1, k + 3 * i + 1 + 1⟩ := by
  induction n generalizing k i with
  | zero => omega
  | succ n ih =>
    cases i with
    | zero => simp [upE]
    | succ i => simp only [upE, List.getElem_cons_succ]; rw [ih _ _ (by omega)]; simp; omega
theorem upE_set (xs : List Ed) (k0 : Int) (k : Nat) (hk : k < xs.length) :
    (upE k0 k ++ xs.drop k).set k ⟨k0 + 3 * k, k0 + 3 * k + 1, k0 + 3 * k + 1 + 1⟩ = upE k0 (k + 1) ++ xs.drop (k + 1) := by
  rw [List.set_append_right _ _ (by simp), upE_length, Nat.sub_self, List.drop_eq_getElem_cons hk, List.set_cons_zero, upE_snoc]
  simp

set_option maxRecDepth 20000 in
set_option maxHeartbeats 1600000 in
theorem mark_E1 (v : Value) (xs : List Ed) (k0 : Int) (w : World) (fp : List Nat) (hk0 : 0 ≤ k0) (hk1 : k0 + mkF_E1 xs ≤ 4611686018427387904) (hR : R_E1 fp w [v] xs) (hO : Own fp w) :
    Calls Tryz.prog 37 #[v, .int .i64 k0] w fun e w' => e = .returned (.int .i64 (k0 + mkF_E1 xs)) ∧ R_E1 fp w' [v] (upE k0 xs.length) ∧ Own fp w' ∧ Upd fp w w' := by
  obtain ⟨a, cap, rfl, h1, h2, -⟩ := slF3_open hR
  unfold maxLen at h2
  unfold mkF_E1 at hk1 ⊢
  go_enter Tryz.func37, Tryz.ntmps37
  go_wp2
  go_loopw [1, 5] (fun kk i wr => ∃ k : Nat, k ≤ xs.length ∧ i = .int .i64 k ∧ kk = .int .i64 (k0 + 3 * k) ∧ Upd fp w wr ∧ Own fp wr ∧
      R_E1 fp wr [.slice a xs.length cap] (upE k0 k ++ xs.drop k))
    (fun _ i _ => xs.length - (intOf i).toNat)
  case atStart => exact ⟨0, Nat.zero_le _, rfl, by simp, Upd.refl _ _, hO, by simpa [upE] using hR⟩
  case round =>
    clear hR hO
    obtain ⟨k, hk, rfl, rfl, hU, hO, hT⟩ := hrel
    have hlen : (upE k0 k ++ xs.drop k).length = xs.length := by simp; omega
    by_cases hlt : k < xs.length
    · have hT' := hT
      obtain ⟨a', cap', hv, -, -, hcell⟩ := slF3_open hT'
      obtain ⟨b, off, rfl, hfo, hb', r1, r2, r3⟩ := hcell k (by omega)
      simp only [Value.slice.injEq] at hv
      obtain ⟨rfl, -, rfl⟩ := hv
      have hfr1 : wr.frozen? ⟨b, off + k * 3, none⟩ = false := hO.frozen (by rw [hfo]; simp) _
      have hfr2 : wr.frozen? ⟨b, off + k * 3 + 1, none⟩ = false := hO.frozen (by rw [hfo]; simp) _
      have hfr3 : wr.frozen? ⟨b, off + k * 3 + 2, none⟩ = false := hO.frozen (by rw [hfo]; simp) _
      have hset := slF3_set (b := b) (off := off) (cap := cap) (by rw [hlen]; exact hT) k (by omega) (⟨k0 + 3 * k, k0 + 3 * k + 1, k0 + 3 * k + 1 + 1⟩ : Ed)
      rw [hlen, upE_set xs k0 k hlt] at hset
      have HS := Lib.hid (And.intro hset (((hO.setCell ⟨b, off + k * 3, none⟩ (ei (k0 + 3 * k))).setCell ⟨b, off + k * 3 + 1, none⟩ (ei (k0 + 3 * k + 1))).setCell ⟨b, off + k * 3 + 2, none⟩ (ei (k0 + 3 * k + 1 + 1))))
      have hin : b ∈ fp := by rw [hfo]; simp
      generalize (upE k0 k ++ xs.drop k)[k]'_ = el at r1 r2 r3
      clear hset hT hT' hcell hfo hO hlen
      go_wp2
      go_roundw
      case rel => exact ⟨k + 1, by omega, by go_num, by go_num, ((hU.setCell (Or.inr hin) _).setCell (Or.inr hin) _).setCell (Or.inr hin) _, HS.out.2, HS.out.1⟩
      case measure => simp [intOf]; omega
    · obtain rfl : k = xs.length := by omega
      go_wp2
      go_ret
      refine ⟨rfl, by simpa using hT, hO, hU⟩

set_option maxRecDepth 20000 in
set_option maxHeartbeats 1600000 in
theorem held_E1 (v : Value) (xs : List Ed) (k0 : Int) (w : World) (fp : List Nat) (hk0 : 0 ≤ k0) (hk1 : k0 + mkF_E1 xs ≤ 4611686018427387904) (hR : R_E1 fp w [v] (upE k0 xs.length)) :
    Calls Tryz.prog 39 #[v, .int .i64 k0] w fun e w' => e = .returned (.int .i64 (k0 + mkF_E1 xs)) ∧ w = w' := by
  obtain ⟨a, cap, rfl, h1, h2, hc⟩ := slF3_open hR
  simp only [upE_length] at *
  unfold maxLen at h2
  unfold mkF_E1 at hk1 ⊢
  clear hR
  generalize xs.length = n at *
  go_enter Tryz.func39, Tryz.ntmps39
  go_wp2
  go_loop [1, 5] (fun kk i => ∃ k : Nat, k ≤ n ∧ i = .int .i64 k ∧ kk = .int .i64 (k0 + 3 * k)) (fun _ i => n - (intOf i).toNat)
  case atStart => exact ⟨0, Nat.zero_le _, rfl, by simp⟩
  case round =>
    obtain ⟨k, hk, rfl, rfl⟩ := hrel
    by_cases hlt : k < n
    · obtain ⟨b, off, rfl, -, hb, hcell, hcell2, hcell3⟩ := hc k hlt
      rw [upE_get k0 n k hlt] at hcell hcell2 hcell3
      have hne : ((k0 + 3 * (k : Int)) != (k0 + 3 * (k : Int))) = false := by simp
      have hne2 : ((k0 + 3 * (k : Int) + 1) != (k0 + 3 * (k : Int) + 1)) = false := by simp
      have hne3 : ((k0 + 3 * (k : Int) + 1 + 1) != (k0 + 3 * (k : Int) + 1 + 1)) = false := by simp
      clear hc
      go_wp2
      go_round
      case rel => exact ⟨k + 1, by omega, by go_num, by go_num⟩
      case measure => simp [intOf]; omega
    · obtain rfl : k = n := by omega
      clear hc
      go_wp2
      go_ret
      exact ⟨rfl, rfl⟩

/-- a marked system. -/
def upL (k : Int) (x : Sys) : Sys := ⟨x.st, x.ini, mkS k x.labs.length, upE (k + mkF_S1 x.labs) x.eds.length⟩

set_option maxRecDepth 20000 in
set_option maxHeartbeats 1600000 in
theorem mark_Lts (v : Value) (x : Sys) (k0 : Int) (w : World) (fp : List Nat) (hk0 : 0 ≤ k0) (hk1 : k0 + mkF_L1 x ≤ 4611686018427387904) (hR : R_L1 fp w [v] x) (hO : Own fp w) :
    Calls Tryz.prog 12 #[v, .int .i64 k0] w fun e w' => e = .returned (.int .i64 (k0 + mkF_L1 x)) ∧ R_L1 fp w' [v] (upL k0 x) ∧ Own fp w' ∧ Upd fp w w' := by
  obtain ⟨v1, v2, f1, f2, hv, r1, r2, rfl⟩ := hR
  cases hv
  unfold mkF_L1 at hk1
  have hz1 := mkF_S1_nonneg x.labs
  have hz2 := mkF_E1_nonneg x.eds
  have HMK := Lib.hid (show mkF_L1 x = mkF_S1 x.labs + mkF_E1 x.eds from rfl)
  have hd0 := List.nodup_append.1 hO.1
  have o1 : Own f1 w := ⟨hd0.1, fun b hb => hO.2 b (by simp [hb])⟩
  have o2 : Own f2 w := ⟨hd0.2.1, fun b hb => hO.2 b (by simp [hb])⟩
  have l1 := RSk.lt r1
  have l2 := R_E1k.lt r2
  obtain ⟨wA, hwA⟩ : ∃ wA, wA = w.alloc (.cells #[ei x.st, ei x.ini, v1, v2] 30) := ⟨_, rfl⟩
  have uA : Upd [] w wA := by rw [hwA]; exact (Upd.refl _ _).alloc _
  have S1 := Lib.hid (mark_S1 v1 x.labs k0 wA f1 hk0 (by omega) (RSk.upd r1 uA (by simp)) (o1.upd uA (by simp)))
  have HC := Lib.hid (show wA.cell? ⟨w.heap.size, 3, none⟩ = some v2 ∧ w.heap.size < wA.heap.size from by
    rw [hwA]; exact ⟨cell_new w _ _ _ rfl 3 _ rfl, by simp⟩)
  have S2 := Lib.hid (fun W (hu : Upd f1 wA W) => mark_E1 v2 x.eds (k0 + mkF_S1 x.labs) W f2 (by omega) (by omega) (R_E1k.upd (R_E1k.upd r2 uA (by simp)) hu (fun b hb hc => hd0.2.2 b hc b hb rfl)) ((o2.upd uA (by simp)).upd hu (fun b hb hc => hd0.2.2 b hc b hb rfl)))
  have HL := Lib.hid (And.intro l1 (And.intro l2 uA))
  have HD := Lib.hid hd0
  clear r1 r2 hO o1 o2 l1 l2 hd0
  go_enter Tryz.func12, Tryz.ntmps12
  go_wp2_with fail
  rw [← hwA]
  clear hwA
  refine S1.out.mono ?_
  rintro e w1 ⟨rfl, hr1, ho1, hu1⟩
  have T2 := Lib.hid (S2.out w1 hu1)
  have c3 : w1.cell? ⟨w.heap.size, 3, none⟩ = some v2 := by
    have h := HC.out.1
    unfold World.cell? at h ⊢
    rw [hu1.block w.heap.size HC.out.2 (fun hb => absurd (HL.out.1 _ hb) (Nat.lt_irrefl _))]; exact h
  have HH := Lib.hid (And.intro hr1 (And.intro ho1 hu1))
  clear S1 S2 hr1 ho1 hu1 HC uA
  go_wp2_with fail
  refine T2.out.mono ?_
  rintro e w2 ⟨rfl, hr2, ho2, hu2⟩
  have HJ := Lib.hid (And.intro hr2 (And.intro ho2 hu2))
  clear T2 hr2 ho2 hu2
  go_wp2_with fail
  go_ret
  obtain ⟨l1, l2, uA⟩ := HL.out
  obtain ⟨hr1, ho1, hu1⟩ := HH.out
  obtain ⟨hr2, ho2, hu2⟩ := HJ.out
  have hdd := HD.out.2.2
  have ho1' := ho1.upd hu2 (fun b hb hc => hdd b hb b hc rfl)
  refine ⟨?_, ⟨v1, v2, f1, f2, rfl, RSk.upd hr1 hu2 (fun b hb hc => hdd b hb b hc rfl), hr2, rfl⟩, ⟨HD.out |> List.nodup_append.2, fun b hb => ?_⟩, ?_⟩
  · rw [HMK.out, Int.add_assoc]; rfl
  · rcases List.mem_append.1 hb with hb | hb
    · exact ho1'.2 b hb
    · exact ho2.2 b hb
  · exact ((uA.mono (by simp)).trans (hu1.mono (by intro b hb; simp [hb]))).trans (hu2.mono (by intro b hb; simp [hb]))

set_option maxRecDepth 20000 in
set_option maxHeartbeats 1600000 in
theorem held_Lts (v : Value) (x : Sys) (k0 : Int) (w : World) (fp : List Nat) (hk0 : 0 ≤ k0) (hk1 : k0 + mkF_L1 x ≤ 4611686018427387904) (hR : R_L1 fp w [v] (upL k0 x)) :
    Calls Tryz.prog 14 #[v, .int .i64 k0] w fun e w' => e = .returned (.int .i64 (k0 + mkF_L1 x)) ∧ Upd [] w w' := by
  obtain ⟨v1, v2, f1, f2, hv, r1, r2, rfl⟩ := hR
  cases hv
  unfold mkF_L1 at hk1
  have hz1 := mkF_S1_nonneg x.labs
  have hz2 := mkF_E1_nonneg x.eds
  have HMK := Lib.hid (show mkF_L1 x = mkF_S1 x.labs + mkF_E1 x.eds from rfl)
  have r1' : RS f1 w [v1] (mkS k0 x.labs.length) := r1
  have r2' : R_E1 f2 w [v2] (upE (k0 + mkF_S1 x.labs) x.eds.length) := r2
  obtain ⟨wA, hwA⟩ : ∃ wA, wA = w.alloc (.cells #[ei (upL k0 x).st, ei (upL k0 x).ini, v1, v2] 30) := ⟨_, rfl⟩
  have uA : Upd [] w wA := by rw [hwA]; exact (Upd.refl _ _).alloc _
  have S1 := Lib.hid (held_S1 v1 x.labs k0 wA f1 hk0 (by omega) (RSk.upd r1' uA (by simp)))
  have HC := Lib.hid (show wA.cell? ⟨w.heap.size, 3, none⟩ = some v2 from by
    rw [hwA]; exact cell_new w _ _ _ rfl 3 _ rfl)
  have S2 := Lib.hid (fun W (hu : Upd [] wA W) => held_E1 v2 x.eds (k0 + mkF_S1 x.labs) W f2 (by omega) (by omega) (R_E1k.upd r2' (uA.trans hu) (by simp)))
  have UA := Lib.hid uA
  generalize (upL k0 x).st = s1 at *
  generalize (upL k0 x).ini = s2 at *
  clear r1 r2 r1' r2' uA
  go_enter Tryz.func14, Tryz.ntmps14
  go_wp2_with fail
  rw [← hwA]
  clear hwA
  refine S1.out.mono ?_
  rintro e w1 ⟨rfl, hu1⟩
  have T2 := Lib.hid (S2.out w1 hu1)
  have c3 := hu1.keep HC.out
  have HU := Lib.hid (UA.out.trans hu1)
  have hge : 0 ≤ k0 + mkF_S1 x.labs := by omega
  clear S1 S2 hu1 HC UA
  go_wp2_with fail
  refine T2.out.mono ?_
  rintro e w2 ⟨rfl, rfl⟩
  have hge2 : 0 ≤ k0 + mkF_S1 x.labs + mkF_E1 x.eds := by omega
  clear T2
  go_wp2_with fail
  go_ret
  exact ⟨by rw [HMK.out, Int.add_assoc]; rfl, HU.out⟩

end Go.Proofs.YtlondofadjcooaaGreatDoor

/-
  The form's reading of texts and lists of texts.
-/
namespace Go.Proofs.YtlondofadjcooaaGreatDoor
open Go.RowKit Go.ChangeShapes Go.WideShapes Go.Deep

theorem opens_S1 : Opens Tryz.prog 22 R_S1 (fun xs => ∀ p ∈ xs, p.length ≤ maxLen) :=
  opens_slF1 Tryz.underlying22 (by kernel_rfl) (by
    intro H enc w fuel v x hx
    obtain ⟨s, hv, -, hs⟩ := DataW.trod_string Tryz.underlying9 hx
    simp at hv
    exact ⟨s.data.toList, hv, hs⟩)
theorem strs_of {xs : List (List UInt8)} (h : ∀ p ∈ xs, p.length ≤ maxLen) : strsOk xs := fun p hp => by
  have := h p hp
  simp only [maxLen] at this
  omega
end Go.Proofs.YtlondofadjcooaaGreatDoor

/-
  The form's reading of systems.
-/
namespace Go.Proofs.YtlondofadjcooaaGreatDoor
open Go.RowKit Go.ChangeShapes Go.WideShapes Go.Deep

theorem cells3 {w : World} {a : Addr} {cs : List Value} (h : w.cells? 0 a 3 = some cs) : ∃ c0 c1 c2, cs = [c0, c1, c2] ∧ w.cell? a = some c0 ∧ w.cell? (a.add 1) = some c1 ∧ w.cell? (a.add 2) = some c2 := by
  rw [World.cells?, if_pos (Nat.zero_le _), show List.range 3 = [0, 1, 2] from rfl] at h
  simp only [List.mapM_cons, List.mapM_nil, Addr.add, if_true] at h
  cases h0 : w.cell? a with
  | none => simp [h0] at h
  | some c0 =>
    cases h1 : w.cell? (a.add 1) with
    | none => simp [Addr.add] at h1; simp [h0, h1] at h
    | some c1 =>
      cases h2 : w.cell? (a.add 2) with
      | none => simp [Addr.add] at h1 h2; simp [h0, h1, h2] at h
      | some c2 =>
        refine ⟨c0, c1, c2, ?_, rfl, rfl, rfl⟩
        simp [Addr.add] at h1 h2
        simpa [h0, h1, h2] using h.symm

/-- slices of structs of three plain fields. -/
theorem opens_slF3 {α : Type} {P : Program} {t e : TypeId} {e1 e2 e3 : α → Value} {φ : α → Prop} (ht : P.underlying t = some (.slice e)) (hc : P.cellsOf e = 3)
    (h : ∀ {H : Type} {enc : TypeId × Value → H} {w : World} {fuel : Nat} {u v z : Value} {x : DataW H × List MemPlace}, DataW.trod enc P w 0 (fun _ => true) true fuel e [u, v, z] = some x → ∃ a, u = e1 a ∧ v = e2 a ∧ z = e3 a ∧ φ a) :
    Opens P t (slF 3 (fun x => [e1 x, e2 x, e3 x])) (fun xs => ∀ x ∈ xs, φ x) := by
  intro H enc w fuel cs x hx
  rcases open_slice ht hx with ⟨rfl, -⟩ | ⟨a, len, cap, m, n, D, Pl, rfl, -, hl, hm, hmm, -, hel⟩
  · exact ⟨[], [], ⟨_, rfl, flat_nil w 3⟩, by simp⟩
  · have hlm : len ≤ m := by subst hmm; simpa using hl
    rw [hc] at hel
    obtain ⟨l, hll, hlq⟩ := list_choice (fun i (y : α) => w.cell? (a.add (i * 3)) = some (e1 y) ∧ w.cell? ((a.add (i * 3)).add 1) = some (e2 y) ∧ w.cell? ((a.add (i * 3)).add 2) = some (e3 y) ∧ φ y) len (fun i hi => by
      obtain ⟨cs', h1, h2⟩ := hel i (by omega)
      obtain ⟨c0, c1, c2, rfl, g0, g1, g2⟩ := cells3 h1
      obtain ⟨y, rfl, rfl, rfl, hy⟩ := h h2
      exact ⟨y, g0, g1, g2, hy⟩)
    by_cases h0 : len = 0
    · subst h0
      obtain rfl : l = [] := List.eq_nil_of_length_eq_zero hll
      exact ⟨[], [], ⟨_, rfl, some a, cap, rfl, hl, hm, by simp, Or.inl ⟨rfl, rfl⟩⟩, by simp⟩
    · have hc0 := (hlq 0 l[0] (by simp)).1
      have hs : a.spot = none := by simpa [Addr.add] using World.cell?_spot hc0
      obtain ⟨b, off, spot⟩ := a
      simp at hs
      subst hs
      refine ⟨l, [b], ⟨_, rfl, some ⟨b, off, none⟩, cap, by rw [hll], by omega, hm, by rw [flatMap_three_length], Or.inr ⟨b, off, rfl, rfl, ?_, fun j u hu => ?_⟩⟩, fun x hx => ?_⟩
      · exact World.block_lt_of_cell? w ⟨b, off, none⟩ (by simpa [Addr.add] using hc0)
      · have hj : j < l.length * 3 := by rw [← flatMap_three_length e1 e2 e3]; exact (List.getElem?_eq_some_iff.1 hu).1
        have hi : j / 3 < l.length := by omega
        obtain ⟨g1, g2, g3⟩ := flatMap_three_get e1 e2 e3 l (j / 3) hi
        obtain ⟨q1, q2, q3, -⟩ := hlq (j / 3) l[j / 3] (by simp)
        have ha : (⟨b, off, none⟩ : Addr).add (j / 3 * 3) = ⟨b, off + j / 3 * 3, none⟩ := by simp only [Addr.add]; split <;> simp_all
        rw [ha] at q1 q2 q3
        have hmod : j % 3 = 0 ∨ j % 3 = 1 ∨ j % 3 = 2 := by omega
        rcases hmod with hmod | hmod | hmod
        · have e : j / 3 * 3 = j := by omega
          rw [e] at g1 q1
          rw [g1] at hu; cases hu; exact q1
        · have e : j / 3 * 3 + 1 = j := by omega
          rw [e] at g2
          rw [g2] at hu; cases hu
          simp [Addr.add] at q2
          rw [show off + j = off + j / 3 * 3 + 1 from by omega]; exact q2
        · have e : j / 3 * 3 + 2 = j := by omega
          rw [e] at g3
          rw [g3] at hu; cases hu
          simp [Addr.add] at q3
          rw [show off + j = off + j / 3 * 3 + 2 from by omega]; exact q3
      · obtain ⟨i, hi, rfl⟩ := List.mem_iff_getElem.1 hx
        exact (hlq i _ (by simp)).2.2.2

theorem opens_E1 : Opens Tryz.prog 23 R_E1 (fun xs => ∀ x ∈ xs, True) :=
  opens_slF3 Tryz.underlying23 (by kernel_rfl) (by
    intro H enc w fuel u v z x hx
    obtain ⟨y0, y1, y2, n, -, -, h0, h1, h2⟩ := trod_struct3 Tryz.underlying83 hx
    obtain ⟨a, e0, -, -⟩ := DataW.trod_int Tryz.underlying2 h0
    obtain ⟨b, e1, -, -⟩ := DataW.trod_int Tryz.underlying2 h1
    obtain ⟨c, e2, -, -⟩ := DataW.trod_int Tryz.underlying2 h2
    have c1 : Tryz.prog.cellsOf 2 = 1 := by kernel_rfl
    simp [c1] at e0 e1 e2
    exact ⟨⟨a, b, c⟩, e0, e1, e2, trivial⟩)

theorem open_L1 {H : Type} {enc : TypeId × Value → H} {w : World} {v : Value} {d : DataW H} {ps : List MemPlace} (hv : ∃ cs, v = .agg cs ∧ cs.size = Tryz.prog.cellsOf 25)
    (hd : DataW.Trod enc Tryz.prog w 0 (fun _ => true) true 25 v d ps) : ∃ x fp, R_L1 fp w [v] x ∧ strsOk x.labs := by
  obtain ⟨cs, rfl, hcs⟩ := hv
  rw [show Tryz.prog.cellsOf 25 = 4 by kernel_rfl] at hcs
  obtain ⟨l, rfl⟩ : ∃ l : List Value, cs = l.toArray := ⟨cs.toList, by simp⟩
  match l, hcs with
  | [a, b, c, e], _ =>
    obtain ⟨fuel, hf⟩ := hd
    obtain ⟨y0, y1, y2, y3, n, -, -, h0, h1, h2, h3⟩ := Go.Joins.trod_struct4 Tryz.underlying25 hf
    obtain ⟨s, e0, -, -⟩ := DataW.trod_int Tryz.underlying2 h0
    obtain ⟨i, e1, -, -⟩ := DataW.trod_int Tryz.underlying2 h1
    have c1 : Tryz.prog.cellsOf 2 = 1 := by kernel_rfl
    have c2 : Tryz.prog.cellsOf 22 = 1 := by kernel_rfl
    have c3 : Tryz.prog.cellsOf 23 = 1 := by kernel_rfl
    simp [c1, c2, c3, Value.cells] at e0 e1 h2 h3
    obtain ⟨labs, f1, r1, g1⟩ := opens_S1 h2
    obtain ⟨eds, f2, r2, -⟩ := opens_E1 h3
    exact ⟨⟨s, i, labs, eds⟩, f1 ++ f2, ⟨c, e, f1, f2, by rw [e0, e1], r1, r2, rfl⟩, strs_of g1⟩

end Go.Proofs.YtlondofadjcooaaGreatDoor
