/-
  Substitute: what the call returns for valid expressions.
-/
import Derived.Test.YtnioopbficcbeaaRepl
namespace Go.Proofs.Ytnioopbficcbeaa
open Go.RowKit

theorem enter_sub (args : Array Value) (w : World) : Sem.run Try.prog (callFunc 59 args) w = .ok (.enter 59 args) w := by go_simp

theorem sub1 (n k : Int) (b : List Tm) (v : Value) (w : World) (fp : List Nat) (p q : Nat) (h0 : 0 < b.length) (h1 : b.length ≤ 60) (hp : w.cell? ⟨p, 0, none⟩ = some (ei k)) (hq : w.cell? ⟨q, 0, none⟩ = some v) (hR : R_T1 fp w [v] b) :
    Calls Try.prog 59 #[.int .i64 n, .pointer (some ⟨p, 0, none⟩), .pointer (some ⟨q, 0, none⟩)] w (ByOut (if n = k then some b else none) w) := by
  have HR := Lib.hid hR
  clear hR
  by_cases h : n = k
  · subst h
    rw [if_pos rfl]
    go_enter Try.func59, Try.ntmps59
    go_wp2_with fail
    go_ret
    exact ⟨⟨_, rfl, h0, h1, _, HR.out⟩, Upd.refl _ _⟩
  · rw [if_neg h]
    have h' : (n == k) = false := by simpa using h
    go_enter Try.func59, Try.ntmps59
    go_wp2_with fail
    go_ret
    exact ⟨⟨_, rfl, rfl⟩, Upd.refl _ _⟩

theorem replF_L (k : Int) (b e : List Tm) : replF (fun n => if n = k then some b else none) e = replL k b e := by
  induction e with
  | nil => rfl
  | cons t ts ih =>
    rw [replF, replL, ih]
    congr 1
    by_cases h1 : t.1 = 1
    · by_cases h2 : t.2 = k
      · simp [h1, h2]
      · simp [h1, h2]
    · simp [h1]

def SubOut (L : List Tm) (w : World) (e : Ending) (w' : World) : Prop :=
  (if 60 < L.length then e = .returned (.tuple #[.slice none 0 0, .int .i64 5]) else ∃ v', e = .returned (.tuple #[v', .int .i64 0]) ∧ New R_T1 w w' v' L) ∧ Upd [] w w'

set_option maxRecDepth 20000 in
set_option maxHeartbeats 2000000 in
theorem substI (x y : Ex) (k : Int) (v vy : Value) (w : World) (fp fq : List Nat) (hx : eOk (flatE x) = true) (hy : eOk (flatE y) = true) (hk : 0 ≤ k) (hk2 : k ≤ 28)
    (hlx : (flatE x).length ≤ 60) (hly : (flatE y).length ≤ 60) (hR : R_T1 fp w [v] (flatE x)) (hS : R_T1 fq w [vy] (flatE y)) :
    Calls Try.prog 28 #[v, .int .i64 k, vy] w (SubOut (replL k (flatE y) (flatE x)) w) := by
  have hu2 : Upd [] w ((w.alloc (.cells #[ei k] 2)).alloc (.cells #[vy] 24)) := ((Upd.refl _ _).alloc _).alloc _
  obtain ⟨bx, ox, cx, rfl, -, mx, -, -⟩ := slF_src hR (flatE_pos x)
  obtain ⟨by', oy, cy, rfl, -, my, -, -⟩ := slF_src hS (flatE_pos y)
  have S1 := fun (w' : World) (hu : Upd [] w w') => termsOk _ (flatE x) w' fp (R_T1k.upd hR hu (by simp))
  have S2 := fun (w' : World) (hu : Upd [] w w') => termsOk _ (flatE y) w' fq (R_T1k.upd hS hu (by simp))
  rw [hx] at S1
  rw [hy] at S2
  have HS1 := Lib.hid S1
  have HS2 := Lib.hid S2
  have HR := Lib.hid hR
  have HS := Lib.hid hS
  have HU2 := Lib.hid hu2
  have hpos := flatE_pos y
  unfold maxLen at mx my
  have hp0 : ((w.alloc (.cells #[ei k] 2)).alloc (.cells #[.slice (some ⟨by', oy, none⟩) (flatE y).length cy] 24)).cell? ⟨w.heap.size, 0, none⟩ = some (ei k) :=
    ((Upd.refl [] _).alloc _).keep (cell_new w #[ei k] 2 _ rfl 0 _ rfl)
  have hp1 : ((w.alloc (.cells #[ei k] 2)).alloc (.cells #[.slice (some ⟨by', oy, none⟩) (flatE y).length cy] 24)).cell? ⟨w.heap.size + 1, 0, none⟩ = some (.slice (some ⟨by', oy, none⟩) (flatE y).length cy) :=
    cell_new _ _ _ _ (by simp) 0 _ rfl
  have HP := Lib.hid (And.intro hp0 hp1)
  clear S1 S2 hR hS hx hy hu2 hp0 hp1
  go_enter Try.func28, Try.ntmps28
  go_wp2_with fail
  refine (HS1.out _ HU2.out).mono ?_
  rintro e w3 ⟨rfl, hu3⟩
  have p0 := hu3.keep HP.out.1
  have p1 := hu3.keep HP.out.2
  have HU3 := Lib.hid (HU2.out.trans hu3)
  clear hu3 HU2 HP
  go_wp2_with fail
  refine (HS2.out _ HU3.out).mono ?_
  rintro e w4 ⟨rfl, hu4⟩
  have p0 := hu4.keep p0
  have p1 := hu4.keep p1
  have HU4 := Lib.hid (HU3.out.trans hu4)
  have SW := within k 0 28 w4
  rw [inB_mk ⟨hk, hk2⟩] at SW
  have HSW := Lib.hid SW
  clear hu4 HU3 HS1 HS2 SW
  go_wp2_with fail
  refine HSW.out.mono ?_
  rintro e w5 ⟨rfl, rfl⟩
  have SR := Lib.hid (replaced (fun n => if n = k then some (flatE y) else none) 59 #[.pointer (some ⟨w.heap.size, 0, none⟩), .pointer (some ⟨w.heap.size + 1, 0, none⟩)] (flatE x) _ w4 fp hlx
    (fun n l h => by split at h <;> simp at h; subst h; exact hly) (R_T1k.upd HR.out HU4.out (by simp)) enter_sub
    (fun wr n hu => sub1 n k (flatE y) _ wr fq _ _ (by omega) hly (hu.keep p0) (hu.keep p1) (R_T1k.upd HS.out (HU4.out.trans hu) (by simp))))
  clear HSW
  go_wp2_with fail
  refine SR.out.mono ?_
  rintro e w6 ⟨⟨v6, rfl, hn6⟩, hu6⟩
  rw [replF_L] at hn6
  obtain ⟨a6, c6, rfl⟩ := hn6.form
  have hlen := replL_len k (flatE y) (flatE x) 60 hly (by omega)
  have HN := Lib.hid (And.intro (hn6.mono HU4.out.size) (HU4.out.trans hu6))
  clear hn6 hu6 SR
  generalize replL k (flatE y) (flatE x) = L at *
  by_cases h60 : 60 < L.length
  · go_wp2_with fail
    go_ret2
    exact ⟨by rw [if_pos h60]; rfl, HN.out.2⟩
  · go_wp2_with fail
    go_ret2
    exact ⟨by rw [if_neg h60]; exact ⟨_, rfl, HN.out.1⟩, HN.out.2⟩

end Go.Proofs.Ytnioopbficcbeaa
