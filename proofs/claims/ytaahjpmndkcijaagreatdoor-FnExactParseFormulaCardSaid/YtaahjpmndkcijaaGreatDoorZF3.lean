/-
  Texts joined in one file: PrL, PfI, PfQ, PrM, PfJ, PfK, PfL, PfM, PfN, PfR, PrR, PfS, ForS, PrS, PrT, PrU, PrV, PfT, PfU.
-/
import Derived.Test.YtaahjpmndkcijaaGreatDoorZF1
import Derived.Test.YtaahjpmndkcijaaGreatDoorZF2
import Derived.Recover
import Derived.Defers
import Derived.Deep.QuietTactic
import Derived.BigQuiet
/-
  Regular expressions parsed: the program's run over a whole text: its deferred closure takes the panic.
-/
namespace Go.Proofs.YtaahjpmndkcijaaGreatDoor
open Go.RowKit

set_option maxRecDepth 20000 in
set_option maxHeartbeats 1000000 in
theorem caughtR (A : Nat) (a : Nat) (z : Value) (older : List PanicEntry) (w : World) (hc : w.cell? ⟨A, 0, none⟩ = some z) (hz : w.frozen? ⟨A, 0, none⟩ = false) :
    CallsD Tryz.prog 30 #[.pointer (some ⟨A, 0, none⟩)] (.panicking ({ v := .iface 64 (.agg #[.int .i64 a]), recovered := false } :: older)) w fun e u' w' =>
      e = .returned (.tuple #[]) ∧ u' = .panicking ({ v := .iface 64 (.agg #[.int .i64 a]), recovered := true } :: older) ∧ w'.cell? ⟨A, 0, none⟩ = some (.int .i64 a) ∧ Upd [A] w w' := by
  have hA : A < w.heap.size := World.block_lt_of_cell? w _ hc
  have hb2 : ∀ o, (w.alloc o).heap[A]? = w.heap[A]? := fun o => Below.heap_alloc _ _ _ hA
  have hc2 : ∀ o, (w.alloc o).cell? ⟨A, 0, none⟩ = some z := fun o => (World.cell?_of_block (w := w) (hb2 o)).trans hc
  have hz2 : ∀ o, (w.alloc o).frozen? ⟨A, 0, none⟩ = false := fun o => by rw [← hz]; simp only [World.frozen?, hb2 o]
  have hta : ∀ W : World, (Instr.typeAssert (.iface 64 (.agg #[.int .i64 a])) 20 64 true).run Tryz.prog W = .ok (.tuple #[.agg #[.int .i64 a], .bool true]) W := fun _ => by kernel_rfl
  refine callsD_of_wpS Tryz.func30 rfl fun c₀ cs hu => ?_
  apply wpS_seq
  apply wpS_region
  simp [wpOpsS, go_sem, recoverD, hu, Tryz.ntmps30, Exit.thenS]
  refine wpS_of_wp ?_
  simp [Array.replicate, List.replicate]
  go_wp2_with fail
  have h3 : ((w.setCell ⟨A, 0, none⟩ (.int .i64 a)).alloc (.cells #[.int .i64 a] 64)).cell? ⟨A, 0, none⟩ = some (.int .i64 a) := by
    rw [World.cell?_alloc_lt _ _ _ (by simpa using hA)]
    exact World.cell?_setCell_same _ _ _ hc
  have h4 : Upd [A] w ((w.setCell ⟨A, 0, none⟩ (.int .i64 a)).alloc (.cells #[.int .i64 a] 64)) := ((Upd.refl _ _).setCell (Or.inr (by simp)) _).alloc _
  simp [bodyPostS, results, Tryz.results30]
  exact ⟨h3, h4⟩

theorem idleR (A : Nat) (w : World) :
    CallsD Tryz.prog 30 #[.pointer (some ⟨A, 0, none⟩)] .returning w fun e u' w' => e = .returned (.tuple #[]) ∧ u' = .returning ∧ w' = w := by
  refine callsD_of_wpS Tryz.func30 rfl fun c₀ cs hu => ?_
  apply wpS_seq
  apply wpS_region
  simp [wpOpsS, go_sem, recoverD, hu, Tryz.ntmps30, Exit.thenS]
  refine wpS_of_wp ?_
  simp [Array.replicate, List.replicate]
  go_wp2_with fail
  cases c₀
  simp_all [bodyPostS, results, Tryz.results30]

theorem RdAt.putText {P : Nat} {w : World} {s0 : List UInt8} {f : Bool} {u : Int} (h : RdAt P w s0 0 f u) (s : List UInt8) : RdAt P (w.setCell ⟨P, 0, none⟩ (es s)) s 0 f u := by
  have far : ∀ o, o ≠ 0 → (w.setCell ⟨P, 0, none⟩ (es s)).cell? ⟨P, o, none⟩ = w.cell? ⟨P, o, none⟩ := fun o ho => World.cell?_setCell_other _ _ _ _ (by simp)
  exact ⟨h.own.setCell _ _, World.cell?_setCell_same _ _ _ h.c0, (far 2 (by decide)).trans h.c2, (far 9 (by decide)).trans h.c9, (far 10 (by decide)).trans h.c10, Nat.zero_le _⟩

/-- what a reading leaves: where the reader stands, or the first error. -/
def ClR (P C : Nat) (s : List UInt8) (r : Except Nat (Nat × Bool × Int)) (K : World → Prop) (w : World) (e : Ending) (w' : World) : Prop :=
  (match r with
  | .ok (p, f, u) => e = .returned (.tuple #[]) ∧ RdAt P w' s p f u ∧ K w'
  | .error a => e = synE a) ∧ Upd [P, C] w w'
/-- what the run returns: the first error's offset or -1. -/
def RnR (P C : Nat) (s : List UInt8) (r : Except Nat (Nat × Bool × Int)) (K : World → Prop) (w : World) (e : Ending) (w' : World) : Prop :=
  (match r with
  | .ok (p, f, u) => if skR s p = s.length then e = .returned (.int .i64 (-1)) ∧ RdAt P w' s s.length f u ∧ K w' else e = .returned (.int .i64 (skR s p))
  | .error a => e = .returned (.int .i64 a)) ∧ Upd [P, C] w w'

set_option maxRecDepth 20000 in
set_option maxHeartbeats 4000000 in
theorem runR (fn : FuncId) (caps : Array Value) (P C : Nat) (w : World) (s : List UInt8) (r : Except Nat (Nat × Bool × Int)) (K : World → Prop) (hs : s.length ≤ 1000000) (hR : RdAt P w [] 0 false 0) (hC : C < w.heap.size)
    (hent : ∀ args w, Sem.run Tryz.prog (callFunc fn args) w = .ok (.enter fn args) w)
    (hcl : ∀ W, RdAt P W s 0 false (-1) → Upd [P] w W → w.heap.size < W.heap.size → Calls Tryz.prog fn caps W (ClR P C s r K W))
    (hK : ∀ W W', K W → Upd [P, w.heap.size] W W' → K W') :
    Calls Tryz.prog 16 #[.pointer (some ⟨P, 0, none⟩), es s, .func (.func fn) #[] caps] w (RnR P C s r K w) := by
  have hmf : ∀ (fn : Fn) (first cap : Array Value) (w : World), (Instr.makeFunc fn first cap).run Tryz.prog w = .ok (.func fn first cap) w := fun _ _ _ _ => rfl
  have hA := hR.keep ((Upd.refl [] w).alloc (.cells #[.int .i64 0] 3))
  have a1 := hA.c0
  have a2 : (w.alloc (.cells #[.int .i64 0] 3)).frozen? ⟨P, 0, none⟩ = false := hA.own.frozen (by simp) _
  have b1 := hA.c10
  have b2 : (w.alloc (.cells #[.int .i64 0] 3)).frozen? ⟨P, 10, none⟩ = false := hA.own.frozen (by simp) _
  clear hA
  have HR := Lib.hid hR
  have HCL := Lib.hid hcl
  have HK := Lib.hid hK
  clear hR hcl hK
  go_enter_defers Tryz.func16, Tryz.ntmps16
  go_wp2_with fail
  obtain ⟨W0, hW0⟩ : ∃ W0, ((w.alloc (.cells #[.int .i64 0] 3)).setCell ⟨P, 0, none⟩ (.string ⟨s.toArray⟩)).setCell ⟨P, 10, none⟩ (.int .i64 (-1)) = W0 := ⟨_, rfl⟩
  obtain ⟨A, hAe⟩ : ∃ A, w.heap.size = A := ⟨_, rfl⟩
  have hPA : P < A := by rw [← hAe]; exact HR.out.lt
  have hr0 : RdAt P W0 s 0 false (-1) := by rw [← hW0]; exact ((HR.out.keep ((Upd.refl [] w).alloc _)).putText s).putU (-1)
  have hu0 : Upd [P] w W0 := by rw [← hW0]; exact (((Upd.refl [P] w).alloc _).setCell (Or.inr (by simp)) _).setCell (Or.inr (by simp)) _
  have hb0 : W0.heap[A]? = some (.cells #[.int .i64 0] 3) := by
    have e1 : (w.alloc (.cells #[.int .i64 0] 3)).heap[A]? = some (.cells #[.int .i64 0] 3) := by rw [← hAe]; exact heap_alloc_new w _
    have hv : Upd [P] (w.alloc (.cells #[.int .i64 0] 3)) W0 := by rw [← hW0]; exact ((Upd.refl [P] _).setCell (Or.inr (by simp)) _).setCell (Or.inr (by simp)) _
    exact (hv.block A (heap_lt e1) (by simp; omega)).trans e1
  have hsz : A < W0.heap.size := heap_lt hb0
  have S1 := HCL.out W0 hr0 hu0 (by rw [hAe]; exact hsz)
  have HU0 := Lib.hid (hu0.mono (g := [P, C]) (by simp))
  have HB0 := Lib.hid hb0
  rw [hW0, hAe]
  rw [hAe] at HK hC
  clear hW0 hr0 hu0 hb0 HCL HR a1 a2 b1 b2
  cases r with
  | error a =>
    refine S1.mono ?_
    rintro e w2 ⟨rfl, hu2⟩
    have hb2 := (hu2.block A hsz (by simp; omega)).trans HB0.out
    have hc2 : w2.cell? ⟨A, 0, none⟩ = some (.int .i64 0) := by simp [World.cell?, hb2]
    have hz2 : w2.frozen? ⟨A, 0, none⟩ = false := by simp [World.frozen?, hb2]
    have HU2 := Lib.hid (HU0.out.trans hu2)
    clear S1 hu2 HU0
    go_wp2_with fail
    refine leaves_cons (f := 30) (args := #[.pointer (some ⟨A, 0, none⟩)]) (by simp) (by simp [go_sem]) ?_
    refine (caughtR A a _ [] w2 hc2 hz2).mono ?_
    rintro e u' w3 ⟨rfl, rfl, hc3, hu3⟩
    have HU3 := Lib.hid (HU2.out.fresh hu3 (fun b hb => Or.inl (by simp at hb; omega)))
    simp [Leaves, settle, results, Tryz.results16, go_sem, hc3]
    exact ⟨rfl, HU3.out⟩
  | ok x =>
    obtain ⟨p, f', u'⟩ := x
    refine S1.mono ?_
    rintro e w2 ⟨⟨rfl, hr2, hk2⟩, hu2⟩
    have hb2 := (hu2.block A hsz (by simp; omega)).trans HB0.out
    have E1 := Lib.hid (endedR P w2 s p f' u' hs hr2)
    have HU2 := Lib.hid (HU0.out.trans hu2)
    have HK2 := Lib.hid hk2
    have hsz2 : A < w2.heap.size := heap_lt hb2
    have HB2 := Lib.hid hb2
    clear S1 hu2 HU0 hk2 hr2 hb2
    by_cases hp : skR s p = s.length
    · simp only [if_pos hp] at E1
      go_wp2_with fail
      refine E1.out.mono ?_
      rintro e w3 ⟨⟨rfl, hr3⟩, hu3⟩
      have hb3 := (hu3.block A hsz2 (by simp; omega)).trans HB2.out
      have hc3 : w3.cell? ⟨A, 0, none⟩ = some (.int .i64 0) := by simp [World.cell?, hb3]
      have hz3 : w3.frozen? ⟨A, 0, none⟩ = false := by simp [World.frozen?, hb3]
      have hc4 : (w3.setCell ⟨A, 0, none⟩ (.int .i64 (-1))).cell? ⟨A, 0, none⟩ = some (.int .i64 (-1)) := World.cell?_setCell_same _ _ _ hc3
      have hv : Upd [A] w3 (w3.setCell ⟨A, 0, none⟩ (.int .i64 (-1))) := (Upd.refl _ _).setCell (Or.inr (by simp)) _
      have HR4 := Lib.hid (hr3.far hv (by simp; omega))
      have HK4 := Lib.hid (HK.out _ _ HK2.out ((hu3.mono (g := [P, A]) (by simp)).trans (hv.mono (by simp))))
      have HU4 := Lib.hid ((HU2.out.trans (hu3.mono (by simp))).fresh hv (fun b hb => Or.inl (by simp at hb; omega)))
      clear E1 hr3 hu3 hv HK HK2 HU2
      go_wp2_with fail
      refine leaves_cons (f := 30) (args := #[.pointer (some ⟨A, 0, none⟩)]) (by simp) (by simp [go_sem]) ?_
      refine (idleR A _).mono ?_
      rintro e u' w3 ⟨rfl, rfl, rfl⟩
      simp [Leaves, settle, results, Tryz.results16, go_sem, hc4]
      refine ⟨?_, HU4.out⟩
      simp only [if_pos hp]
      exact ⟨trivial, HR4.out, HK4.out⟩
    · simp only [if_neg hp] at E1
      go_wp2_with fail
      refine E1.out.mono ?_
      rintro e w3 ⟨rfl, hu3⟩
      have hb3 := (hu3.block A hsz2 (by simp; omega)).trans HB2.out
      have hc3 : w3.cell? ⟨A, 0, none⟩ = some (.int .i64 0) := by simp [World.cell?, hb3]
      have hz3 : w3.frozen? ⟨A, 0, none⟩ = false := by simp [World.frozen?, hb3]
      have HU3 := Lib.hid (HU2.out.trans (hu3.mono (by simp)))
      clear E1 hu3 HK HK2 HU2
      go_wp2_with fail
      refine leaves_cons (f := 30) (args := #[.pointer (some ⟨A, 0, none⟩)]) (by simp) (by simp [go_sem]) ?_
      refine (caughtR A _ _ [] w3 hc3 hz3).mono ?_
      rintro e u' w4 ⟨rfl, rfl, hc4, hu4⟩
      have HU4 := Lib.hid (HU3.out.fresh hu4 (fun b hb => Or.inl (by simp at hb; omega)))
      simp [Leaves, settle, results, Tryz.results16, go_sem, hc4]
      refine ⟨?_, HU4.out⟩
      simp only [if_neg hp]

end Go.Proofs.YtaahjpmndkcijaaGreatDoor

/-
  Formulas parsed: the program reads a word, a variable.
-/
namespace Go.Proofs.YtaahjpmndkcijaaGreatDoor
open Go.RowKit

set_option maxHeartbeats 1000000 in
theorem cloneRow (v : Value) (xs : List Int) (w : World) (fp : List Nat) (hl : xs.length ≤ 2000000) (hR : R_I1 fp w [v] xs) :
    Calls Tryz.prog 59 #[v] w fun r w' => (∃ v', r = .returned v' ∧ w'.ownsRow w.heap.size 2 1 v' xs.length (xs.map ei)) ∧ Upd [] w w' := by
  obtain ⟨i0, hi, hz0, hz1, hz2⟩ := info_parts Tryz.info2
  have hown : (w.alloc (.cells #[] 2)).ownsRow w.heap.size 2 1 (.slice (some ⟨w.heap.size, 0, none⟩) 0 0) 0 [] := by
    simpa using World.ownsRow_lit (base := w.heap.size) (e := 2) (size := 1) w #[] 0 (Nat.le_refl _) (by simp [maxLen]) (by simp)
  have HF := Lib.hid (Flat.ofI1 (R_I1k.upd hR ((Upd.refl [] w).alloc (.cells #[] 2)) (by simp)))
  obtain ⟨a, cap, rfl, hcl, hcm, hce⟩ := slF1_open hR
  clear hR
  cases a with
  | none =>
    have hx : xs = [] := by
      cases xs with
      | nil => rfl
      | cons y ys => obtain ⟨b, off, h, -⟩ := hce 0 (by simp); cases h
    subst hx
    have HN := Lib.hid (show w.ownsRow w.heap.size 2 1 (.slice none 0 0) 0 [] from World.ownsRow_nil _ _ _ _)
    clear HF hown hce
    have hq := fun (w : World) (a : Option Addr) (n c : Nat) => Lib.run_eql_slice_nil (P := Tryz.prog) w 76 2 a n c 0 0 Tryz.underlying76
    go_enter Tryz.func59, Tryz.ntmps59
    go_wp2_with fail
    go_ret
    exact ⟨⟨_, rfl, HN.out⟩, Upd.refl _ _⟩
  | some ad =>
    clear hce
    have hq := fun (w : World) (a : Option Addr) (n c : Nat) => Lib.run_eql_slice_nil (P := Tryz.prog) w 76 2 a n c 0 0 Tryz.underlying76
    go_enter Tryz.func59, Tryz.ntmps59
    go_wp2_with (first
      | (at_builtin; refine wpList_append_flat rfl _ _ 76 rfl w.heap.size 2 i0 (.int .i64 0) 1 8 Tryz.underlying76 hi hz0 hz1 hz2 rfl (by decide) _ _ _ rfl hown _ xs.length _ rfl _ HF.out (one_I1 xs) (by unfold maxLen; omega) (by omega) (by simp) ?_)
      | fail)
    intro v2 w2 hown2 hg2 ht2
    have hU : Upd [] w w2 := ((Upd.refl [] w).alloc _).grown hg2 (fun k hk => Or.inl (hown.lt k hk).1)
    have hn : w2.ownsRow w.heap.size 2 1 v2 xs.length (xs.map ei) := by simpa using hown2
    have HE := Lib.hid (And.intro hn hU)
    clear hown2 hg2 ht2 hown hn hU
    go_wp2_with fail
    go_ret
    exact ⟨⟨_, rfl, HE.out.1⟩, HE.out.2⟩


theorem itoaS (n : Nat) (h : n < 10) : Lib.itoa (n : Int) = [UInt8.ofNat (48 + n)] := by
  have : Lib.itoa (n : Int) = Lib.decDigits n := by simp [Lib.itoa]
  rw [this, Lib.decDigits_one h]
theorem small3 (d : List UInt8) : smallF 3 d = if d = [48] then some 0 else if d = [49] then some 1 else if d = [50] then some 2 else none := by
  unfold smallF
  cases hn : numF d with
  | none =>
    simp only
    rw [if_neg (fun e => by subst e; simp [show numF [48] = some 0 by decide] at hn), if_neg (fun e => by subst e; simp [show numF [49] = some 1 by decide] at hn), if_neg (fun e => by subst e; simp [show numF [50] = some 2 by decide] at hn)]
  | some n =>
    have hd := (numF_some hn).1
    have i0 : Lib.itoa 0 = [48] := itoaS 0 (by omega)
    have i1 : Lib.itoa 1 = [49] := itoaS 1 (by omega)
    have i2 : Lib.itoa 2 = [50] := itoaS 2 (by omega)
    simp only
    by_cases h : 0 ≤ n ∧ n < 3
    · rw [if_pos h]
      rcases (by omega : n = 0 ∨ n = 1 ∨ n = 2) with rfl | rfl | rfl
      · rw [if_pos (by rw [hd, i0])]
      · rw [if_neg (by rw [hd, i1]; decide), if_pos (by rw [hd, i1])]
      · rw [if_neg (by rw [hd, i2]; decide), if_neg (by rw [hd, i2]; decide), if_pos (by rw [hd, i2])]
    · rw [if_neg h]
      have h0 : d ≠ [48] := fun e => by
        have : numF d = some 0 := by rw [e]; decide
        rw [hn] at this; cases this; omega
      have h1 : d ≠ [49] := fun e => by
        have : numF d = some 1 := by rw [e]; decide
        rw [hn] at this; cases this; omega
      have h2 : d ≠ [50] := fun e => by
        have : numF d = some 2 := by rw [e]; decide
        rw [hn] at this; cases this; omega
      rw [if_neg h0, if_neg h1, if_neg h2]

/-- the token of a variable at m, as the program cuts it. -/
theorem vrF_tok {s : List UInt8} {m : Nat} (hm : m ≤ s.length) :
    vrF s m = (if cutS s m (runE isDig s (min (m + 1) s.length)) = [88, 48] then some (0, runE isDig s (min (m + 1) s.length)) else if cutS s m (runE isDig s (min (m + 1) s.length)) = [88, 49] then some (1, runE isDig s (min (m + 1) s.length)) else if cutS s m (runE isDig s (min (m + 1) s.length)) = [88, 50] then some (2, runE isDig s (min (m + 1) s.length)) else none) := by
  by_cases hlt : m < s.length
  · rw [Nat.min_eq_left (by omega)]
    have hr := runE_le (p := isDig) (s := s) (n := m + 1) (by omega)
    have hc : cutS s m (runE isDig s (m + 1)) = s[m] :: cutS s (m + 1) (runE isDig s (m + 1)) := by
      unfold cutS
      rw [List.drop_eq_getElem_cons hlt, show runE isDig s (m + 1) - m = (runE isDig s (m + 1) - (m + 1)) + 1 by omega, List.take_succ_cons]
    rw [hc]
    unfold vrF
    rw [isB_at hlt, small3]
    generalize cutS s (m + 1) (runE isDig s (m + 1)) = d
    generalize s[m] = b
    by_cases hb : b = 88
    · subst hb
      simp only [List.cons.injEq, true_and, beq_self_eq_true, if_true]
      by_cases h0 : d = [48]
      · simp [h0]
      · by_cases h1 : d = [49]
        · simp [h1]
        · by_cases h2 : d = [50]
          · simp [h2]
          · simp [h0, h1, h2]
    · have : (b == (88 : UInt8)) = false := by simpa using hb
      rw [this]
      simp [hb]
  · obtain rfl : m = s.length := by omega
    rw [Nat.min_eq_right (by omega), runE_end]
    have hc : cutS s s.length s.length = [] := by unfold cutS; rw [Nat.sub_self]; rfl
    rw [hc]
    unfold vrF
    rw [show isB s s.length 88 = false by unfold isB; rw [List.getElem?_eq_none (Nat.le_refl _)]; rfl]
    simp

set_option maxRecDepth 20000 in
set_option maxHeartbeats 4000000 in
theorem peekR (P : Nat) (w : World) (s : List UInt8) (n : Nat) (f : Bool) (u : Int) (hs : s.length ≤ 1000000) (hR : RdAt P w s n f u) :
    Calls Tryz.prog 55 #[.pointer (some ⟨P, 0, none⟩)] w fun e w' => e = .returned (es (cutS s (skR s n) (wordE s (skR s n)))) ∧ RdAt P w' s (skR s n) f u ∧ Upd [P] w w' := by
  have S1 := Lib.hid (skipR P w s n f u hs hR)
  have hle := (skR_le hR.le).2
  generalize skR s n = m at *
  have hw := wordE_le hle
  obtain ⟨Z, hZ⟩ : ∃ Z, wordE s m = Z := ⟨_, rfl⟩
  have HZ := Lib.hid (show wE s m m = Z by unfold wE; rw [if_pos rfl, hZ])
  rw [hZ] at hw ⊢
  have HST := Lib.hid (fun k (h : k < s.length) (hm : m ≤ k) => wE_at h hm)
  have HEN := Lib.hid (wE_end (s := s) (m := m))
  have HD := Lib.hid isDigitI
  have hext : (⟨s.toArray⟩ : ByteArray).extract m Z = ⟨(cutS s m Z).toArray⟩ := extract_list s m Z
  generalize cutS s m Z = t at *
  clear hZ hR
  go_enter Tryz.func55, Tryz.ntmps55
  go_wp2_with fail
  refine S1.out.mono ?_
  rintro e w1 ⟨rfl, hr, hu⟩
  have c0 := hr.c0
  have c2 := hr.c2
  have HR := Lib.hid hr
  have HU := Lib.hid hu
  clear S1 hr hu
  go_upto_block 0 with (fail)
  go_cut [3] (fun s3 wx => s3 = .int .i64 Z ∧ wx = w1)
  case first =>
    go_wp2_with fail
    go_loopw [3] (fun iv wr => ∃ k : Nat, m ≤ k ∧ k ≤ s.length ∧ iv = .int .i64 k ∧ Hid (wE s m k = Z) ∧ wr = w1) (fun iv _ => s.length - (intOf iv).toNat)
    case atStart => exact ⟨m, Nat.le_refl _, hle, rfl, HZ, rfl⟩
    case round =>
      clear HZ
      obtain ⟨wo, rfl⟩ : ∃ wo : World, wo = wr := ⟨_, rfl⟩
      obtain ⟨k, hmk, hk, rfl, HZ, hww⟩ := hrel
      subst hww
      by_cases hlt : k < s.length
      · obtain ⟨b, hb⟩ : ∃ b, s[k] = b := ⟨_, rfl⟩
        have hix : (⟨s.toArray⟩ : ByteArray)[k]'(by simpa [ByteArray.size] using hlt) = b := by rw [← hb]; simp [ByteArray.getElem_eq_getElem_data]
        have hkl : (k : Int) < (s.length : Int) := by omega
        have h1 := HST.out k hlt hmk
        rw [hb, HZ.out] at h1
        have D1 := Lib.hid (HD.out b wo)
        have HX1 := Lib.hid (show (sml b || (decide (m < k) && isDig b)) = true → wE s m (k + 1) = Z from fun h => by rw [h1, if_pos h])
        have HX0 := Lib.hid (show (sml b || (decide (m < k) && isDig b)) = false → Z = k from fun h => by rw [h1, if_neg (by rw [h]; decide)])
        clear h1 hb HST HEN HZ
        by_cases hs : sml b = true
        · have hs' : 97 ≤ b.toNat ∧ b.toNat ≤ 122 := by simpa [sml] using hs
          have g1 : (97 : Int) ≤ (b.toNat : Int) := by omega
          have g2 : (b.toNat : Int) ≤ 122 := by omega
          have HX := Lib.hid (HX1.out (by rw [hs]; rfl))
          clear hs hs' HX1 HX0 D1
          go_wp2_with fail
          go_roundw
          case rel => exact ⟨k + 1, by omega, by omega, by go_num, HX, by first | rfl | trivial⟩
          case measure => simp [intOf]; omega
        · have hs0 : sml b = false := by simpa using hs
          have hs' : ¬ (97 ≤ b.toNat ∧ b.toNat ≤ 122) := by simpa [sml] using hs
          rw [hs0, Bool.false_or] at HX1 HX0
          generalize isDig b = q at *
          clear hs hs0
          by_cases hmk2 : m = k
          · subst hmk2
            have HX := Lib.hid (HX0.out (by simp))
            clear HX1 HX0 D1
            by_cases g1 : (97 : Int) ≤ (b.toNat : Int)
            · have g2 : ¬ (b.toNat : Int) ≤ 122 := by omega
              go_wp2_with fail
              go_meet
              exact ⟨by rw [HX.out], rfl⟩
            · go_wp2_with fail
              go_meet
              exact ⟨by rw [HX.out], rfl⟩
          · have hmk3 : (m : Int) < (k : Int) := by omega
            have hd : decide (m < k) = true := decide_eq_true (by omega)
            rw [hd, Bool.true_and] at HX1 HX0
            clear hd
            cases q with
            | true =>
              have HX := Lib.hid (HX1.out rfl)
              clear HX1 HX0
              by_cases g1 : (97 : Int) ≤ (b.toNat : Int)
              · have g2 : ¬ (b.toNat : Int) ≤ 122 := by omega
                go_wp2_with fail
                refine D1.out.mono ?_
                rintro e w2 ⟨rfl, rfl⟩
                clear D1
                go_wp2_with fail
                go_roundw
                case rel => exact ⟨k + 1, by omega, by omega, by go_num, HX, by first | rfl | trivial⟩
                case measure => simp [intOf]; omega
              · go_wp2_with fail
                refine D1.out.mono ?_
                rintro e w2 ⟨rfl, rfl⟩
                clear D1
                go_wp2_with fail
                go_roundw
                case rel => exact ⟨k + 1, by omega, by omega, by go_num, HX, by first | rfl | trivial⟩
                case measure => simp [intOf]; omega
            | false =>
              have HX := Lib.hid (HX0.out rfl)
              clear HX1 HX0
              by_cases g1 : (97 : Int) ≤ (b.toNat : Int)
              · have g2 : ¬ (b.toNat : Int) ≤ 122 := by omega
                go_wp2_with fail
                refine D1.out.mono ?_
                rintro e w2 ⟨rfl, rfl⟩
                clear D1
                go_wp2_with fail
                go_meet
                exact ⟨by rw [HX.out], rfl⟩
              · go_wp2_with fail
                refine D1.out.mono ?_
                rintro e w2 ⟨rfl, rfl⟩
                clear D1
                go_wp2_with fail
                go_meet
                exact ⟨by rw [HX.out], rfl⟩
      · obtain rfl : k = s.length := by omega
        have HX := Lib.hid (show Z = s.length by rw [← HZ.out, HEN.out])
        clear HST HEN HZ
        go_wp2_with fail
        go_meet
        exact ⟨by rw [HX.out], rfl⟩
  case rest =>
    obtain ⟨rfl, hww⟩ := hcut
    replace hww := hww.symm
    subst hww
    clear HST HEN HZ HD
    have hmZ : (m : Int) ≤ (Z : Int) := by omega
    have hZl : (Z : Int) ≤ (s.length : Int) := by omega
    go_wp2_with fail
    go_quiet (fail)
    go_wp2_with fail
    go_ret
    exact ⟨rfl, HR.out.keep ((Upd.refl _ _).drewN _), HU.out.drewN _⟩

set_option maxRecDepth 20000 in
set_option maxHeartbeats 4000000 in
theorem varR (P : Nat) (w : World) (s : List UInt8) (n : Nat) (f : Bool) (u : Int) (hs : s.length ≤ 1000000) (hR : RdAt P w s n f u) :
    Calls Tryz.prog 57 #[.pointer (some ⟨P, 0, none⟩)] w fun e w' => (∀ v p, vrF s (skR s n) = some (v, p) → e = .returned (.int .i64 v) ∧ RdAt P w' s p f u) ∧ (vrF s (skR s n) = none → e = synE (skR s n)) ∧ Upd [P] w w' := by
  have S1 := Lib.hid (skipR P w s n f u hs hR)
  have hle := (skR_le hR.le).2
  have S2 := Lib.hid (fun W (h : RdAt P W s (skR s n) f u) => by have := failR P W s (skR s n) f u hs h; rw [skR_idem hR.le] at this; exact this)
  generalize skR s n = m at *
  have HV := Lib.hid (vrF_tok hle)
  obtain ⟨E0, hE0⟩ : ∃ E0, min (m + 1) s.length = E0 := ⟨_, rfl⟩
  have hE0l : E0 ≤ s.length := by omega
  have hE0m : m ≤ E0 := by omega
  have hmin : min (IntKind.i64.wrap ((m : Int) + 1)) (s.length : Int) = (E0 : Int) := by rw [IntKind.wrap_i64]; omega
  rw [hE0] at HV
  have D1 := Lib.hid (fun W => digitsEndI s E0 W (by omega) hE0l)
  obtain ⟨E, hE⟩ : ∃ E, runE isDig s E0 = E := ⟨_, rfl⟩
  have hr := runE_le (p := isDig) hE0l
  rw [hE] at hr HV
  rw [show E0 + ((s.drop E0).takeWhile isDig).length = E from hE] at D1
  have hext : (⟨s.toArray⟩ : ByteArray).extract m E = ⟨(cutS s m E).toArray⟩ := extract_list s m E
  have hmE : (m : Int) ≤ (E : Int) := by omega
  have hEl : (E : Int) ≤ (s.length : Int) := by omega
  have hE2 := hr.2
  generalize cutS s m E = t at *
  generalize vrF s m = VF at *
  clear hR hE hE0 hr
  go_enter Tryz.func57, Tryz.ntmps57
  go_wp2_with fail
  refine S1.out.mono ?_
  rintro e w1 ⟨rfl, hr, hu⟩
  have c0 := hr.c0
  have c2 := hr.c2
  have HR := Lib.hid hr
  have HU := Lib.hid hu
  clear S1 hr hu
  go_upto_region 2 with (fail)
  go_region_held3 (fun w' => w'.cell? ⟨P, 0, none⟩ = some (es s) ∧ w'.cell? ⟨P, 2, none⟩ = some (.int .i64 m)) (go_keep)
    (first
      | (go_at_call 69; (with_reducible refine (D1.out _).mono ?_); rintro e w2 ⟨rfl, hu2⟩; have hV2 : Upd [] w1 w2 := Upd.trans ((Upd.refl _ _).drew) hu2; have x0 := hV2.keep c0; have x2 := hV2.keep c2))
  all_goals
    have HR2 := Lib.hid (HR.out.keep hV2)
    have HU2 := Lib.hid (HU.out.trans (hV2.mono (by simp)))
    clear hV2 hu2 D1 HR HU c0 c2
    go_wp2_with fail
    go_quiet (fail)
    by_cases k0 : t = [88, 48]
    · have HX := Lib.hid (show VF = some (0, E) by rw [HV.out, if_pos k0])
      have HP := Lib.hid (fun W (h : Upd [] w2 W) => (HR2.out.keep h).put (m := E) hE2 (z := (E : Int)) rfl)
      have hfz : ∀ n, (w2.drewN n).frozen? ⟨P, 2, none⟩ = false := fun n => (HR2.out.keep ((Upd.refl _ _).drewN n)).own.frozen (by simp) _
      have c22 : ∀ n, (w2.drewN n).cell? ⟨P, 2, none⟩ = some (.int .i64 m) := fun n => (HR2.out.keep ((Upd.refl _ _).drewN n)).c2
      have HV2 := Lib.hid (fun n => (HU2.out.drewN n).setCell (p := ⟨P, 2, none⟩) (Or.inr (by simp)) (.int .i64 (E : Int)))
      subst k0
      clear HV S2 HR2 HU2
      go_wp2_with fail
      go_ret
      rw [HX.out]
      exact ⟨fun v p h => (by cases h; exact ⟨rfl, HP.out _ ((Upd.refl _ _).drewN _)⟩), fun h => (by cases h), HV2.out _⟩
    · by_cases k1 : t = [88, 49]
      · have HX := Lib.hid (show VF = some (1, E) by rw [HV.out, if_neg k0, if_pos k1])
        have HP := Lib.hid (fun W (h : Upd [] w2 W) => (HR2.out.keep h).put (m := E) hE2 (z := (E : Int)) rfl)
        have hfz : ∀ n, (w2.drewN n).frozen? ⟨P, 2, none⟩ = false := fun n => (HR2.out.keep ((Upd.refl _ _).drewN n)).own.frozen (by simp) _
        have c22 : ∀ n, (w2.drewN n).cell? ⟨P, 2, none⟩ = some (.int .i64 m) := fun n => (HR2.out.keep ((Upd.refl _ _).drewN n)).c2
        have HV2 := Lib.hid (fun n => (HU2.out.drewN n).setCell (p := ⟨P, 2, none⟩) (Or.inr (by simp)) (.int .i64 (E : Int)))
        subst k1
        clear HV S2 HR2 HU2
        go_wp2_with fail
        go_ret
        rw [HX.out]
        exact ⟨fun v p h => (by cases h; exact ⟨rfl, HP.out _ ((Upd.refl _ _).drewN _)⟩), fun h => (by cases h), HV2.out _⟩
      · by_cases k2 : t = [88, 50]
        · have HX := Lib.hid (show VF = some (2, E) by rw [HV.out, if_neg k0, if_neg k1, if_pos k2])
          have HP := Lib.hid (fun W (h : Upd [] w2 W) => (HR2.out.keep h).put (m := E) hE2 (z := (E : Int)) rfl)
          have hfz : ∀ n, (w2.drewN n).frozen? ⟨P, 2, none⟩ = false := fun n => (HR2.out.keep ((Upd.refl _ _).drewN n)).own.frozen (by simp) _
          have c22 : ∀ n, (w2.drewN n).cell? ⟨P, 2, none⟩ = some (.int .i64 m) := fun n => (HR2.out.keep ((Upd.refl _ _).drewN n)).c2
          have HV2 := Lib.hid (fun n => (HU2.out.drewN n).setCell (p := ⟨P, 2, none⟩) (Or.inr (by simp)) (.int .i64 (E : Int)))
          subst k2
          clear HV S2 HR2 HU2
          go_wp2_with fail
          go_ret
          rw [HX.out]
          exact ⟨fun v p h => (by cases h; exact ⟨rfl, HP.out _ ((Upd.refl _ _).drewN _)⟩), fun h => (by cases h), HV2.out _⟩
        · have HX := Lib.hid (show VF = none by rw [HV.out, if_neg k0, if_neg k1, if_neg k2])
          have n0 : (t == [88, 48]) = false := by simpa using k0
          have n1 : (t == [88, 49]) = false := by simpa using k1
          have n2 : (t == [88, 50]) = false := by simpa using k2
          have HS2 := Lib.hid (fun n => S2.out (w2.drewN n) (HR2.out.keep ((Upd.refl _ _).drewN n)))
          have HU3 := Lib.hid (fun n => HU2.out.drewN n)
          clear HV S2 k0 k1 k2 HR2 HU2
          go_wp2_with fail
          refine (HS2.out _).mono ?_
          rintro e w3 ⟨rfl, hu3⟩
          have HU4 := Lib.hid ((HU3.out _).trans hu3)
          clear HS2 hu3 HU3
          go_wp2_with fail
          refine ⟨rfl, ?_⟩
          rw [HX.out]
          exact ⟨fun v p h => (by cases h), fun _ => rfl, HU4.out⟩

end Go.Proofs.YtaahjpmndkcijaaGreatDoor

/-
  Formulas parsed, plainly: the trees that are parsed are well made; the nodes of a formula.
-/
namespace Go.Proofs.YtaahjpmndkcijaaGreatDoor
open Go.RowKit

/-- a well made tree. -/
def TOk (x : Tr Rg) : Prop := okT arR x = true ∧ ∀ t ∈ flatT x, 0 ≤ t.kd ∧ t.kd ≤ 3
theorem TOk.leaf (l : List UInt8) (nt : Bool) : TOk (leafR l nt) := ⟨by simp [leafR, okT, okTs, arR, arRg], fun t ht => by simp [leafR, flatT, flatTs] at ht; subst ht; exact ⟨Int.le_refl 0, show (0 : Int) ≤ 3 by omega⟩⟩
theorem TOk.star {x : Tr Rg} (h : TOk x) : TOk (starR x) := ⟨by simp [starR, okT, okTs, arR, arRg, h.1], fun t ht => by
  simp only [starR, flatT, flatTs, List.append_nil, List.mem_cons] at ht
  rcases ht with rfl | ht
  · exact ⟨by decide, by decide⟩
  · exact h.2 t ht⟩
theorem TOk.two {x y : Tr Rg} (k : Int) (hk : k = 1 ∨ k = 2) (h : TOk x) (h2 : TOk y) : TOk (twoR k x y) := ⟨by rcases hk with rfl | rfl <;> simp [twoR, okT, okTs, arR, arRg, h.1, h2.1], fun t ht => by
  simp only [twoR, flatT, flatTs, List.append_nil, List.mem_cons, List.mem_append] at ht
  rcases ht with rfl | ht | ht
  · rcases hk with rfl | rfl <;> exact ⟨by decide, by decide⟩
  · exact h.2 t ht
  · exact h2.2 t ht⟩
theorem starsF_ok {s : List UInt8} : ∀ (k : Nat) (x : Tr Rg) (n : Nat), TOk x → TOk (starsF s k x n).1
  | 0, x, n, h => h
  | k + 1, x, n, h => by
    rw [starsF]
    split
    · exact starsF_ok k _ _ h.star
    · exact h
theorem testP_ok {s : List UInt8} {m : Nat} {x : Tr Rg} {p : Nat} (h : testP s m = .ok (x, p)) : TOk x := by
  unfold testP at h
  generalize (if isB s m 33 then skR s (m + 1) else m) = m2 at *
  split at h
  · cases h; exact TOk.leaf _ _
  · split at h
    · cases h
    · cases h; exact TOk.leaf _ _
mutual
theorem atomF_ok {s : List UInt8} : ∀ (k n : Nat) (x : Tr Rg) (p : Nat), atomF s k n = .ok (x, p) → TOk x
  | 0, n, x, p, h => by simp [atomF] at h
  | k + 1, n, x, p, h => by
    rw [atomF] at h
    split at h
    · cases he : eitherF s k (skR s n + 1) with
      | error e => rw [he] at h; cases h
      | ok r =>
        obtain ⟨y, q⟩ := r
        rw [he] at h
        have hq := eitherF_ok k _ y q he
        simp only at h
        split at h
        · have h3 := starsF_ok (s := s) s.length y (q + 1) hq
          simp only [Except.ok.injEq] at h
          rw [h] at h3; exact h3
        · cases h
    · cases ht : testP s (skR s n) with
      | error e => rw [ht] at h; cases h
      | ok r =>
        obtain ⟨y, q⟩ := r
        rw [ht] at h
        have h3 := starsF_ok (s := s) s.length y q (testP_ok ht)
        simp only [Except.ok.injEq] at h
        rw [h] at h3; exact h3
theorem thenF_ok {s : List UInt8} : ∀ (k n : Nat) (x : Tr Rg) (p : Nat), thenF s k n = .ok (x, p) → TOk x
  | 0, n, x, p, h => by simp [thenF] at h
  | k + 1, n, x, p, h => by
    rw [thenF] at h
    cases he : atomF s k n with
    | error e => rw [he] at h; cases h
    | ok r =>
      obtain ⟨y, q⟩ := r
      rw [he] at h
      have hq := atomF_ok k n y q he
      simp only at h
      split at h
      · cases h2 : thenF s k (q + 1) with
        | error e => rw [h2] at h; cases h
        | ok r2 =>
          obtain ⟨y2, q2⟩ := r2
          rw [h2] at h
          have hq2 := thenF_ok k _ y2 q2 h2
          cases h
          exact TOk.two 1 (Or.inl rfl) hq hq2
      · cases h; exact hq
theorem eitherF_ok {s : List UInt8} : ∀ (k n : Nat) (x : Tr Rg) (p : Nat), eitherF s k n = .ok (x, p) → TOk x
  | 0, n, x, p, h => by simp [eitherF] at h
  | k + 1, n, x, p, h => by
    rw [eitherF] at h
    cases he : thenF s k n with
    | error e => rw [he] at h; cases h
    | ok r =>
      obtain ⟨y, q⟩ := r
      rw [he] at h
      have hq := thenF_ok k n y q he
      simp only at h
      split at h
      · cases h2 : eitherF s k (q + 1) with
        | error e => rw [h2] at h; cases h
        | ok r2 =>
          obtain ⟨y2, q2⟩ := r2
          rw [h2] at h
          have hq2 := eitherF_ok k _ y2 q2 h2
          cases h
          exact TOk.two 2 (Or.inr rfl) hq hq2
      · cases h; exact hq
end
theorem ofF_len (box : Bool) : ∀ (N : Nat) (r : Tr Rg) (used : List Int) (f o : List Nd), (flatT r).length ≤ N → ofF box r used f = some o → 0 < o.length
  | 0, r, used, f, o, h, _ => by have := flatT_pos r; omega
  | N + 1, .mk n args, used, f, o, h, ho => by
    have hl : (flatTs args).length ≤ N := by simpa [flatT] using h
    rw [ofF.eq_def] at ho
    simp only at ho
    split at ho
    · cases ho
    · split at ho
      · cases ho; simp
      · match args, hl with
        | [], _ => cases ho
        | [a], hl =>
          simp only at ho
          split at ho
          · cases ho
          · split at ho
            · cases ho
            · cases ho; simp
        | a :: b :: c, hl =>
          have hab : (flatT a).length ≤ N ∧ (flatT b).length ≤ N := by simp [flatTs] at hl; omega
          simp only at ho
          split at ho
          · split at ho
            · cases ho
            · rename_i g hg
              exact ofF_len box N a used g o hab.1 ho
          · split at ho
            · cases ho
            · split at ho
              · cases ho
              · cases ho; simp
theorem impF_pos {f : Fm} {u : List Int} {o : List Nd} (h : impF f u = some o) : 0 < o.length := by
  cases f with
  | leaf k => cases h; simp
  | var v a => cases h; simp
  | two k a b =>
    rw [impF] at h
    split at h
    · cases h
    · split at h
      · cases h
      · cases h; simp
  | fix k v a =>
    rw [impF] at h
    split at h
    · cases h
    · cases h; simp
  | modal box r p a =>
    rw [impF] at h
    split at h
    · cases h
    · split at h
      · cases h
      · exact ofF_len box _ r u _ o (Nat.le_refl _) h

/-- the first variable that nothing binds, known or new. -/
def uF (u : Int) (o : Option Nat) : Int := if u < 0 then (match o with | some p => (p : Int) | none => u) else u
theorem uF_none (u : Int) : uF u none = u := by unfold uF; split <;> rfl
theorem uF_two (u : Int) (k : Int) (a b : Fm) (l : List Int) : uF (uF u (freF a l)) (freF b l) = uF u (freF (.two k a b) l) := by
  rw [freF]
  unfold uF
  by_cases hu : u < 0
  · rw [if_pos hu]
    cases freF a l with
    | none => rfl
    | some p => simp only; rw [if_neg (by omega), if_pos hu]
  · rw [if_neg hu, if_neg hu, if_neg hu]
/-- a word's first byte is a small letter. -/
theorem word_first {s : List UInt8} {m : Nat} {t : List UInt8} (h : cutS s m (wordE s m) = t) (ht : t ≠ []) : ∃ h2 : m < s.length, sml s[m] = true := by
  have hp := wordE_pos h ht
  unfold wordE at hp
  split at hp
  · rename_i ha
    rcases Nat.lt_or_ge m s.length with h2 | h2
    · rw [List.getElem?_eq_getElem h2] at ha
      exact ⟨h2, ha⟩
    · rw [List.getElem?_eq_none h2] at ha; cases ha
  · omega
theorem word_not {s : List UInt8} {m : Nat} {t : List UInt8} (h : cutS s m (wordE s m) = t) (ht : t ≠ []) (c : UInt8) (hc : sml c = false) : isB s m c = false := by
  obtain ⟨h2, h3⟩ := word_first h ht
  rw [isB_at h2]
  cases hb : s[m] == c with
  | false => rfl
  | true =>
    have : s[m] = c := by simpa using hb
    rw [this, hc] at h3; cases h3

end Go.Proofs.YtaahjpmndkcijaaGreatDoor

/-
  Regular expressions parsed: the program's ParseRegular.
-/
namespace Go.Proofs.YtaahjpmndkcijaaGreatDoor
open Go.RowKit

/-- what the program's reader of a whole expression leaves. -/
def RgR (P : Nat) (w : World) (s : List UInt8) (f : Bool) (u : Int) (r : Except Nat (Tr Rg × Nat)) (e : Ending) (w' : World) : Prop :=
  (match r with
  | .ok (x, p) => (∃ v, e = .returned v ∧ New R_Y w w' v x) ∧ RdAt P w' s p (f || decide (20 < (flatT x).length)) u
  | .error a => e = synE a) ∧ Upd [P] w w'

set_option maxRecDepth 20000 in
set_option maxHeartbeats 4000000 in
theorem regularR (P : Nat) (w : World) (s : List UInt8) (n : Nat) (f : Bool) (u : Int) (hs : s.length ≤ 1000000) (hR : RdAt P w s n f u) (hE : ∀ W, Upd [P] w W → Env W) :
    Calls Tryz.prog 18 #[.pointer (some ⟨P, 0, none⟩)] w (RgR P w s f u (regP s n)) := by
  have S1 := (parR s P f u hs (3 * s.length + 3) n w hR hE).2.2 (by omega)
  have hPl := hR.lt
  have hLN := Lib.hid (fun x p (h : eitherF s (3 * s.length + 3) n = .ok (x, p)) => eitherF_len _ n x p hR.le h)
  have hPS := Lib.hid (fun x p (h : eitherF s (3 * s.length + 3) n = .ok (x, p)) => eitherF_pos _ n x p hR.le h)
  unfold regP
  clear hE hR
  cases he : eitherF s (3 * s.length + 3) n with
  | error a =>
    rw [he] at S1
    have HS := Lib.hid S1
    clear S1 hLN hPS he
    go_enter Tryz.func18, Tryz.ntmps18
    go_wp2_with fail
    refine HS.out.mono ?_
    rintro e w1 ⟨rfl, hu⟩
    have HU := Lib.hid hu
    clear HS hu
    go_wp2_with fail
    exact ⟨rfl, rfl, HU.out⟩
  | ok r =>
    obtain ⟨x, p⟩ := r
    rw [he] at S1
    have hl := hLN.out x p he
    have hp2 := (hPS.out x p he).2.1
    have hxl : (flatT x).length ≤ 1000000 := by omega
    have HS := Lib.hid S1
    clear S1 hLN hPS he
    cases f with
    | true =>
      go_enter Tryz.func18, Tryz.ntmps18
      go_wp2_with fail
      refine HS.out.mono ?_
      rintro e w1 ⟨⟨⟨v, rfl, hn⟩, hr⟩, hu⟩
      have c9 := hr.c9
      have f9 : w1.frozen? ⟨P, 9, none⟩ = false := hr.own.frozen (by simp) _
      have hv : Upd [P] w1 (w1.setCell ⟨P, 9, none⟩ (.bool true)) := (Upd.refl _ _).setCell (Or.inr (by simp)) _
      have HR := Lib.hid (hr.putF true)
      have HN := Lib.hid (R_Yk.new hn hv (by simp; exact hPl))
      have HU := Lib.hid (hu.trans hv)
      clear HS hn hr hu hv
      go_wp2_with fail
      go_ret
      exact ⟨⟨⟨_, rfl, HN.out⟩, by rw [Bool.true_or]; exact HR.out⟩, HU.out⟩
    | false =>
      go_enter Tryz.func18, Tryz.ntmps18
      go_wp2_with fail
      refine HS.out.mono ?_
      rintro e w1 ⟨⟨⟨v, rfl, hn⟩, hr⟩, hu⟩
      have c9 := hr.c9
      obtain ⟨fv, r1, o1, g1⟩ := id hn
      obtain ⟨L, hL⟩ : ∃ L, (flatT x).length = L := ⟨_, rfl⟩
      have S2 := Lib.hid ((elemsY x w1 v fv hxl r1).mono (R' := fun e w' => (∃ a cp, e = .returned (.slice a L cp)) ∧ Upd [] w1 w') (by
        rintro e w2 ⟨⟨v2, rfl, hn2⟩, hu2⟩
        obtain ⟨a2, cp2, rfl⟩ := hn2.form
        exact ⟨⟨a2, cp2, by rw [hL]⟩, hu2⟩))
      have HL := Lib.hid hL
      clear hL
      have HR := Lib.hid hr
      have HN := Lib.hid hn
      have HU := Lib.hid hu
      clear HS hn hr hu r1 o1 g1
      go_wp2_with fail
      refine S2.out.mono ?_
      rintro e w2 ⟨⟨a2, cp2, rfl⟩, hu2⟩
      have hr2 := HR.out.keep hu2
      have f9 : w2.frozen? ⟨P, 9, none⟩ = false := hr2.own.frozen (by simp) _
      have c92 := hr2.c9
      obtain ⟨q, hq⟩ : ∃ q, decide (20 < L) = q := ⟨_, rfl⟩
      have hq2 : decide ((20 : Int) < (L : Int)) = q := by rw [← hq]; exact decide_eq_decide.2 (by omega)
      have HQ := Lib.hid (show decide (20 < (flatT x).length) = q by rw [HL.out]; exact hq)
      have hv : Upd [P] w2 (w2.setCell ⟨P, 9, none⟩ (.bool q)) := (Upd.refl _ _).setCell (Or.inr (by simp)) _
      have HR2 := Lib.hid (hr2.putF q)
      have HN2 := Lib.hid (R_Yk.new (R_Yk.new HN.out hu2 (by simp)) hv (by simp; exact hPl))
      have HU2 := Lib.hid ((HU.out.trans (hu2.mono (by simp))).trans hv)
      clear S2 hr2 hu2 hv hq HR HN HU
      go_wp2_with fail
      go_ret
      exact ⟨⟨⟨_, rfl, HN2.out⟩, by rw [Bool.false_or, HQ.out]; exact HR2.out⟩, HU2.out⟩

end Go.Proofs.YtaahjpmndkcijaaGreatDoor

/-
  Formulas parsed: the program reads a modality.
-/
namespace Go.Proofs.YtaahjpmndkcijaaGreatDoor
open Go.RowKit

/-- what a reader of formulas returns and leaves. -/
def FmR (P : Nat) (w : World) (s : List UInt8) (n : Nat) (f : Bool) (u : Int) (bound : List Int) (r : Except Nat (Fm × Nat)) (e : Ending) (w' : World) : Prop :=
  (match r with
  | .ok (fm, p) => ∃ (v : Value) (out : List Nd), e = .returned v ∧ w'.ownsRow w.heap.size 58 4 v out.length (out.flatMap encN) ∧ out.length ≤ 1000 * (p - n) ∧
      RdAt P w' s p (f || (impF fm bound).isNone) (uF u (freF fm bound)) ∧ (∀ o, f = false → impF fm bound = some o → out = o)
  | .error a => e = synE a) ∧ Upd [P] w w'

/-- what is read behind the first byte of a modality. -/
def mdP (s : List UInt8) (k n1 : Nat) (box : Bool) (c : UInt8) (at' : Nat) : Except Nat (Fm × Nat) :=
  match regP s n1 with
  | .error e => .error e
  | .ok (r, p) =>
    if isB s p c then
      match simF s k (p + 1) with
      | .error e => .error e
      | .ok (f, q) => .ok (.modal box r at' f, q)
    else .error p

set_option maxRecDepth 20000 in
set_option maxHeartbeats 2000000 in
theorem modalR (k P : Nat) (w : World) (s : List UInt8) (n : Nat) (f : Bool) (u : Int) (vb : Value) (fb : List Nat) (bound : List Int) (box : Bool) (c : UInt8) (z : Int) (at' : Nat) (hz : z = c.toNat) (hzb : (z == 93) = box) (hs : s.length ≤ 400) (hR : RdAt P w s n f u) (hE : ∀ W, Upd [P] w W → Env W)
    (hb : R1 fb w [vb] bound) (hbP : ∀ b ∈ fb, b ≠ P) (hbl : bound.length ≤ n) (hbx : ∀ x ∈ bound, 0 ≤ x ∧ x < 3)
    (hI : ∀ W n' f' u', n < n' → n' ≤ s.length → RdAt P W s n' f' u' → Upd [P] w W → Calls Tryz.prog 48 #[.pointer (some ⟨P, 0, none⟩), vb] W (FmR P W s n' f' u' bound (simF s k n'))) :
    Calls Tryz.prog 60 #[.pointer (some ⟨P, 0, none⟩), vb, .int .u8 z] w (FmR P w s n f u bound (mdP s k n box c at')) := by
  have hPl := hR.lt
  have hnl := hR.le
  have G1 := regularR P w s n f u (by omega) hR hE
  have HX := Lib.hid (show mdP s k n box c at' = _ from by rw [mdP])
  generalize mdP s k n box c at' = A at *
  have HI := Lib.hid hI
  have HB := Lib.hid hb
  have HZC := Lib.hid hz
  clear hI hE hR hz
  cases hp : regP s n with
  | error a =>
    rw [hp] at G1 HX
    have HG := Lib.hid G1
    have HY := Lib.hid (show A = .error a from HX.out)
    clear G1 HX HI hp
    go_enter Tryz.func60, Tryz.ntmps60
    go_wp2_with fail
    refine HG.out.mono ?_
    rintro e w1 ⟨rfl, hu⟩
    have HU := Lib.hid hu
    clear HG hu
    go_wp2_with fail
    refine ⟨rfl, ?_⟩
    rw [HY.out]
    exact ⟨rfl, HU.out⟩
  | ok r =>
    obtain ⟨x, p⟩ := r
    rw [hp] at G1 HX
    have hpp := eitherF_pos _ n x p hnl hp
    have hok := eitherF_ok _ n x p hp
    have hpl := hpp.2.1
    have hpn := hpp.1
    have hp3 := hpp.2.2
    have HG := Lib.hid G1
    have HY := Lib.hid (show A = (if isB s p c then (match simF s k (p + 1) with | .error e => .error e | .ok (f, q) => .ok (.modal box x at' f, q)) else .error p) from HX.out)
    clear G1 HX hp hpp
    go_enter Tryz.func60, Tryz.ntmps60
    go_wp2_with fail
    refine HG.out.mono ?_
    rintro e w1 ⟨⟨⟨vr, rfl, hn⟩, hr⟩, hu⟩
    have N1 := needR P w1 s p _ u c (by omega) hr
    rw [hp3, ← HZC.out] at N1
    have HN := Lib.hid hn
    have HU := Lib.hid hu
    obtain ⟨f1, hf1⟩ : ∃ f1, (f || decide (20 < (flatT x).length)) = f1 := ⟨_, rfl⟩
    rw [hf1] at N1
    clear HG hn hr hu
    cases hq : isB s p c with
    | false =>
      rw [hq] at N1 HY
      have HZ := Lib.hid (show A = .error p from HY.out)
      simp only [Bool.false_eq_true, ↓reduceIte] at N1
      have HN1 := Lib.hid N1
      clear N1 HY hq HI
      go_wp2_with fail
      refine HN1.out.mono ?_
      rintro e w2 ⟨rfl, hu2⟩
      have HU2 := Lib.hid (HU.out.trans hu2)
      clear HN1 hu2
      go_wp2_with fail
      refine ⟨rfl, ?_⟩
      rw [HZ.out]
      exact ⟨rfl, HU2.out⟩
    | true =>
      have hlt := isB_lt hq
      rw [hq] at N1 HY
      have hY2 := HY.out
      rw [if_pos rfl] at hY2
      have HY2 := Lib.hid hY2
      clear hY2
      simp only [↓reduceIte] at N1
      have HN1 := Lib.hid N1
      clear N1 HY hq
      go_wp2_with fail
      refine HN1.out.mono ?_
      rintro e w2 ⟨⟨rfl, hr2⟩, hu2⟩
      have hu02 := HU.out.trans hu2
      have S3 := HI.out w2 (p + 1) f1 u (by omega) (by omega) hr2 hu02
      have HN2 := Lib.hid (R_Yk.new HN.out hu2 (by simp; exact hPl))
      have HU2 := Lib.hid hu02
      clear HN1 hr2 hu2 hu02 HI HN HU
      cases hsm : simF s k (p + 1) with
      | error a =>
        have hY2 := HY2.out
        rw [hsm] at S3 hY2
        have HS3 := Lib.hid S3
        have HZ := Lib.hid (show A = .error a from hY2)
        clear S3 hY2 hsm HY2
        go_wp2_with fail
        refine HS3.out.mono ?_
        rintro e w3 ⟨rfl, hu3⟩
        have HU3 := Lib.hid (HU2.out.trans hu3)
        clear HS3 hu3
        go_wp2_with fail
        refine ⟨rfl, ?_⟩
        rw [HZ.out]
        exact ⟨rfl, HU3.out⟩
      | ok r =>
        obtain ⟨fm, q⟩ := r
        have hY2 := HY2.out
        rw [hsm] at S3 hY2
        have hq2 := simF_pos k _ fm q (by omega) hsm
        have HS3 := Lib.hid S3
        have HZ := Lib.hid (show A = .ok (.modal box x at' fm, q) from hY2)
        clear S3 hY2 hsm HY2
        go_wp2_with fail
        refine HS3.out.mono ?_
        rintro e w3 ⟨⟨vf, out, rfl, ho, hol, hr3, he⟩, hu3⟩
        obtain ⟨av, cv, rfl⟩ := ownsRow_form ho
        have hu03 := HU2.out.trans hu3
        have hb3 : R1 fb w3 [vb] bound := R1k.upd HB.out hu03 (fun b hb hm => hbP b hb (by simpa using hm))
        have C1 := Lib.hid (cloneRow vb bound w3 fb (by omega) hb3)
        have HN3 := Lib.hid (R_Yk.new HN2.out hu3 (by simp; exact hPl))
        have HU3 := Lib.hid hu03
        have HO3 := Lib.hid ho
        have HE3 := Lib.hid he
        have hsz3 := hu03.size
        have hbn : impF (.modal box x at' fm) bound = (if 20 < (flatT x).length then none else match impF fm bound with | none => none | some y => ofF box x bound y) := by rw [impF]; rfl
        obtain ⟨fx, hfx⟩ : ∃ fx, (f1 || (impF fm bound).isNone) = fx := ⟨_, rfl⟩
        rw [hfx] at hr3
        have HR3 := Lib.hid hr3
        have HBN := Lib.hid hbn
        have HFX := Lib.hid hfx
        have HF1 := Lib.hid hf1
        have HZB := Lib.hid hzb
        clear HS3 ho hr3 he hu3 hu03 hb3 HN2 HU2 hbn hfx hf1
        go_wp2_with fail
        refine C1.out.mono ?_
        rintro e w4 ⟨⟨v4, rfl, hrow4⟩, hu4⟩
        obtain ⟨a4, k4, rfl⟩ := ownsRow_form hrow4
        have hal : Upd [] w3 (w4.alloc (.cells #[.bool box, .slice a4 bound.length k4, .bool false] 102)) := hu4.alloc _
        have hr4 := HR3.out.keep hal
        have q9 := hr4.c9
        have HR4 := Lib.hid hr4
        have HU4 := Lib.hid hal
        have HW4 := Lib.hid hrow4
        have hsz4 := hu4.size
        clear C1 hrow4 hal hr4 hu4
        cases fx with
        | true =>
          go_wp2_with fail
          go_ret
          have hnone : (f || (impF (.modal box x at' fm) bound).isNone) = true := by
            have h1 := HFX.out
            have h2 := HF1.out
            have h3 := HBN.out
            cases f with
            | true => rfl
            | false =>
              rw [h3]
              by_cases h20 : 20 < (flatT x).length
              · rw [if_pos h20]; rfl
              · rw [if_neg h20]
                simp [h20] at h2
                subst h2
                simp at h1
                rw [h1]; rfl
          rw [HZ.out]
          refine ⟨⟨_, [], rfl, World.ownsRow_nil _ _ _ _, by simp, ?_, fun o hf ho => ?_⟩, HU3.out.trans (HU4.out.mono (by simp))⟩
          · rw [hnone]; exact HR4.out
          · rw [ho] at hnone; subst hf; simp at hnone
        | false =>
          have h1 := HFX.out
          have h2 := HF1.out
          rw [Bool.or_eq_false_iff] at h1
          obtain ⟨rfl, h1⟩ := h1
          rw [Bool.or_eq_false_iff] at h2
          obtain ⟨rfl, h2⟩ := h2
          have h20 : (flatT x).length ≤ 20 := by simpa using h2
          cases him : impF fm bound with
          | none => rw [him] at h1; cases h1
          | some o0 =>
          have hout : out = o0 := HE3.out o0 rfl him
          have hop : 0 < out.length := by rw [hout]; exact impF_pos him
          have hmod : impF (.modal box x at' fm) bound = ofF box x bound out := by
            have h3 := HBN.out
            rw [h3, if_neg (by omega), him, hout]
          have h400 := HR4.out.le
          obtain ⟨fr, hfr, -⟩ := HN3.out
          have hN4 : NdR (w4.alloc (.cells #[.bool box, .slice a4 bound.length k4, .bool false] 102)) (.slice av out.length cv) out := (NdR.row HO3.out).upd HU4.out (by simp)
          have hS4 : RpS w3.heap.size w4.heap.size (w4.alloc (.cells #[.bool box, .slice a4 bound.length k4, .bool false] 102)) box (.slice a4 bound.length k4) bound false :=
            ⟨heap_alloc_new w4 _, ownsRow_upd HW4.out ((Upd.refl [] w4).alloc _), hsz4⟩
          have O1 := Lib.hid (ofR (flatT x).length x _ vr (.slice av out.length cv) _ fr w3.heap.size w4.heap.size box bound out false (Nat.le_refl _) hok.1 hok.2 (by omega) h20 (fun _ => hop) (by omega) hbx (R_Yk.upd hfr HU4.out (by simp)) (fun b hb => R_Yk.lt hfr b hb) hN4 hS4)
          have HS4 := Lib.hid hS4
          have HM := Lib.hid hmod
          have HB' : bound.length ≤ 1000 := by omega
          clear h1 h2 him hout hmod hfr hN4 hS4 HBN HFX HF1 HE3
          go_wp2_with fail
          refine O1.out.mono ?_
          rintro e w5 ⟨vo, vn, o5, rfl, how5, hl5, hrp5, hex5, hu5, hvn5⟩
          obtain ⟨a5, k5, rfl⟩ := ownsRow_form how5
          have hPB : ∀ b ∈ wrt w4.heap.size (.slice a4 bound.length k4), w3.heap.size ≤ b := HS4.out.old
          have hr5 := HR4.out.far hu5 (fun hm => by have := hPB P hm; omega)
          have q9' := hr5.c9
          obtain ⟨-, -, d2, -⟩ := hrp5.cells
          have hU5 : Upd [P] w w5 := Upd.fresh (HU3.out.trans (HU4.out.mono (by simp))) hu5 (fun b hb => Or.inl (by have := hPB b hb; omega))
          have HR5 := Lib.hid hr5
          have HU5 := Lib.hid hU5
          have HO5 := Lib.hid (row_base (base' := w.heap.size) how5 (by simp; omega))
          have HX5 := Lib.hid hex5
          have fz9 : w5.frozen? ⟨P, 9, none⟩ = false := hr5.own.frozen (by simp) _
          clear how5 hrp5 hex5 hu5 hvn5 hPB hr5 hU5 O1 q9
          cases hof : ofF box x bound out with
          | none =>
            rw [hof] at d2
            have HOF := Lib.hid hof
            clear hof
            go_wp2_with fail
            go_ret
            rw [HZ.out]
            refine ⟨⟨_, o5, rfl, row_keepX HO5.out (fun g hg => ((Upd.refl [P] w5).setCell (p := ⟨P, 9, none⟩) (Or.inr (by simp)) (.bool true)).block g (HO5.out.lt g hg).2 (fun hm => ?_)), by omega, ?_, ?_⟩, HU5.out.setCell (Or.inr (by simp)) _⟩
            · have h1 := (HO5.out.lt g hg).1
              have h2 : g = P := by simpa using hm
              omega
            · rw [HM.out, HOF.out]; exact HR5.out.putF true
            · intro o _ ho
              rw [HM.out, HOF.out] at ho
              cases ho
          | some oo =>
            rw [hof] at d2
            have HOF := Lib.hid hof
            clear hof
            go_wp2_with fail
            go_ret
            rw [HZ.out]
            refine ⟨⟨_, o5, rfl, row_keepX HO5.out (fun g hg => ((Upd.refl [P] w5).setCell (p := ⟨P, 9, none⟩) (Or.inr (by simp)) (.bool false)).block g (HO5.out.lt g hg).2 (fun hm => ?_)), by omega, ?_, ?_⟩, HU5.out.setCell (Or.inr (by simp)) _⟩
            · have h1 := (HO5.out.lt g hg).1
              have h2 : g = P := by simpa using hm
              omega
            · rw [HM.out, HOF.out]; exact HR5.out.putF false
            · intro o _ ho
              rw [HM.out, HOF.out] at ho
              cases ho; exact HX5.out _ trivial HOF.out

end Go.Proofs.YtaahjpmndkcijaaGreatDoor

/-
  Formulas parsed: the program reads a conjunction, a formula.
-/
namespace Go.Proofs.YtaahjpmndkcijaaGreatDoor
open Go.RowKit
theorem litRow (W : World) (n : Nd) : (W.alloc (.cells #[ei n.kd, ei n.vr, es n.lb, .bool n.nt] 58)).ownsRow W.heap.size 58 4 (.slice (some ⟨W.heap.size, 0, none⟩) 1 1) [n].length ([n].flatMap encN) :=
  World.ownsRow_lit (base := W.heap.size) (e := 58) (size := 4) W #[ei n.kd, ei n.vr, es n.lb, .bool n.nt] 1 (Nat.le_refl _) (by simp [maxLen]) (by simp)

set_option maxRecDepth 20000 in
set_option maxHeartbeats 4000000 in
theorem andR (k P : Nat) (w : World) (s : List UInt8) (n : Nat) (f : Bool) (u : Int) (vb : Value) (bound : List Int) (hs : s.length ≤ 400) (hR : RdAt P w s n f u)
    (hA : Calls Tryz.prog 48 #[.pointer (some ⟨P, 0, none⟩), vb] w (FmR P w s n f u bound (simF s k n)))
    (hI : ∀ W n' f' u', n < n' → n' ≤ s.length → RdAt P W s n' f' u' → Upd [P] w W → Calls Tryz.prog 36 #[.pointer (some ⟨P, 0, none⟩), vb] W (FmR P W s n' f' u' bound (andF s k n'))) :
    Calls Tryz.prog 36 #[.pointer (some ⟨P, 0, none⟩), vb] w (FmR P w s n f u bound (andF s (k + 1) n)) := by
  have hPl := hR.lt
  have hnl := hR.le
  have HX := Lib.hid (show andF s (k + 1) n = _ from by rw [andF])
  generalize andF s (k + 1) n = A at *
  have HI := Lib.hid hI
  clear hI hR
  cases ha : simF s k n with
  | error a =>
    rw [ha] at hA HX
    have HA := Lib.hid hA
    have HY := Lib.hid (show A = .error a from HX.out)
    clear ha hA HX HI
    go_enter Tryz.func36, Tryz.ntmps36
    go_wp2_with fail
    refine HA.out.mono ?_
    rintro e w1 ⟨rfl, hu⟩
    have HU := Lib.hid hu
    clear HA hu
    go_wp2_with fail
    refine ⟨rfl, ?_⟩
    rw [HY.out]
    exact ⟨rfl, HU.out⟩
  | ok r =>
    obtain ⟨x, p⟩ := r
    rw [ha] at hA HX
    have hp := simF_pos k _ x p hnl ha
    have hp1 := hp.1
    have hp2 := hp.2
    have hsk := skR_le (s := s) (n := p) hp2
    obtain ⟨m, hm⟩ : ∃ m, skR s p = m := ⟨_, rfl⟩
    rw [hm] at hsk
    have hsk1 := hsk.1
    have hsk2 := hsk.2
    have HA := Lib.hid hA
    have HY := Lib.hid (show A = (if isB s m 38 then (match andF s k (m + 1) with | .error e => .error e | .ok (g, q) => .ok (.two 2 x g, q)) else .ok (x, m)) from by rw [HX.out]; simp only [hm]; rfl)
    clear ha hA HX hp hsk
    go_enter Tryz.func36, Tryz.ntmps36
    go_wp2_with fail
    refine HA.out.mono ?_
    rintro e w1 ⟨⟨v, out, rfl, ho, hol, hr, he⟩, hu⟩
    obtain ⟨av, cv, rfl⟩ := ownsRow_form ho
    have B2 := byteR P w1 s p _ _ 38 (by omega) hr
    unfold ByR at B2
    rw [hm, show (((38 : UInt8).toNat : Nat) : Int) = 38 from rfl] at B2
    obtain ⟨f1, hf1⟩ : ∃ f1, (f || (impF x bound).isNone) = f1 := ⟨_, rfl⟩
    obtain ⟨u1, hu1⟩ : ∃ u1, uF u (freF x bound) = u1 := ⟨_, rfl⟩
    rw [hf1, hu1] at B2
    obtain ⟨q, hq⟩ : ∃ q, isB s m 38 = q := ⟨_, rfl⟩
    rw [hq] at B2 HY
    have HB2 := Lib.hid B2
    have HO := Lib.hid ho
    have HE := Lib.hid he
    have HU := Lib.hid hu
    have HF1 := Lib.hid hf1
    have HU1 := Lib.hid hu1
    clear HA B2 ho he hu hr hf1 hu1
    go_wp2_with fail
    refine HB2.out.mono ?_
    rintro e w2 ⟨rfl, hr2, hu2⟩
    have hPO : ∀ g, (Value.slice av out.length cv).ownBlock = some g → w2.heap[g]? = w1.heap[g]? := fun g hg => hu2.block g (HO.out.lt g hg).2 (fun hm => by
      have h1 := (HO.out.lt g hg).1
      have h2 : g = P := by simpa using hm
      omega)
    have HO2 := Lib.hid (row_keepX HO.out hPO)
    have HU2 := Lib.hid (HU.out.trans hu2)
    clear HB2 hu2 HO HU hPO
    cases q with
    | false =>
      rw [if_neg (by decide)] at hr2
      have HR2 := Lib.hid hr2
      have HZ := Lib.hid (show A = .ok (x, m) by rw [HY.out]; rfl)
      clear hr2 HY HI
      go_wp2_with fail
      go_ret
      rw [HZ.out]
      refine ⟨⟨_, out, rfl, HO2.out, by omega, ?_, HE.out⟩, HU2.out⟩
      rw [HF1.out, HU1.out]; exact HR2.out
    | true =>
      have hlt := isB_lt hq
      rw [if_pos rfl] at hr2
      have E1 := Lib.hid (fun W (hu : Upd [] w2 W) => HI.out W (m + 1) f1 u1 (by omega) (by omega) (hr2.keep hu) (HU2.out.trans (hu.mono (by simp))))
      have hY2 := HY.out
      rw [if_pos rfl] at hY2
      have HY2 := Lib.hid hY2
      have hr2l := hr2.lt
      clear HI hr2 HY hY2 hq
      cases he : andF s k (m + 1) with
      | error a =>
        have hY2 := HY2.out
        rw [he] at E1 hY2
        have HZ := Lib.hid (show A = .error a from hY2)
        clear hY2 he HY2
        go_wp2_with fail
        refine (E1.out _ (by repeat (first | exact Upd.refl _ _ | assumption | refine Upd.drew ?_ | refine Upd.alloc ?_ _))).mono ?_
        rintro e w3 ⟨rfl, hu3⟩
        have hu4 : Upd [P] w2 w3 := Upd.trans (by repeat (first | exact Upd.refl _ _ | refine Upd.drew ?_ | refine Upd.alloc ?_ _)) hu3
        have HU3 := Lib.hid (HU2.out.trans hu4)
        clear hu3 hu4 E1
        go_wp2_with fail
        refine ⟨rfl, ?_⟩
        rw [HZ.out]
        exact ⟨rfl, HU3.out⟩
      | ok r =>
        obtain ⟨y, q'⟩ := r
        have hY2 := HY2.out
        rw [he] at E1 hY2
        have hp4 := andF_pos k _ y q' (by omega) he
        have hq1 := hp4.1
        have hq2 := hp4.2.1
        have HZ := Lib.hid (show A = .ok (.two 2 x y, q') from hY2)
        clear hY2 he HY2 hp4
        have HL := litRow w2 (ndK 2)
        have hV : Upd [] w2 (w2.alloc (.cells #[ei 2, ei 0, es [], .bool false] 58)) := (Upd.refl _ _).alloc _
        have HE1 := Lib.hid (E1.out _ hV)
        have HLH := Lib.hid HL
        have HVH := Lib.hid hV
        clear HL hV E1
        go_wp2_with fail
        refine HE1.out.mono ?_
        rintro e w3 ⟨⟨v3, out3, rfl, ho3, hol3, hr3, he3⟩, hu3⟩
        obtain ⟨a3, c3, rfl⟩ := ownsRow_form ho3
        have hw2 := HU2.out.size
        have hk3 : ∀ g, w.heap.size ≤ g → g < (w2.alloc (.cells #[ei 2, ei 0, es [], .bool false] 58)).heap.size → w3.heap[g]? = (w2.alloc (.cells #[ei 2, ei 0, es [], .bool false] 58)).heap[g]? := fun g h1 h2 => hu3.block g h2 (fun hm => by
          have h3 : g = P := by simpa using hm
          omega)
        have hl3 := NdR.row (row_keepX HLH.out (fun g hg => hk3 g (by have := (HLH.out.lt g hg).1; omega) (HLH.out.lt g hg).2))
        have ho23 := ownsRow_upd HO2.out HVH.out
        have ho33 := NdR.row (row_keepX ho23 (fun g hg => hk3 g (ho23.lt g hg).1 (ho23.lt g hg).2))
        have C3 := Lib.hid (concat3 w3 _ rfl _ _ _ [ndK 2] out out3 hl3 ho33 (NdR.row ho3) (by simp) (by simp; omega))
        have HU3 := Lib.hid ((HU2.out.trans (HVH.out.mono (by simp))).trans hu3)
        have hsz3 := hu3.size
        have HR3 := Lib.hid hr3
        have HE3 := Lib.hid he3
        clear HE1 ho3 hr3 he3 hu3 HLH HVH HO2 hk3 hl3 ho23 ho33 hw2
        go_wp2_with fail
        refine C3.out.mono ?_
        rintro e w4 ⟨v4, rfl, ho4, hu4⟩
        have hL : ([ndK 2] ++ (out ++ out3)).length = out.length + out3.length + 1 := by simp
        rw [hL] at ho4
        obtain ⟨a4, c4, rfl⟩ := ownsRow_form ho4
        have HLN := Lib.hid hL
        clear hL
        have hv4 : Upd [] w3 w4 := ((Upd.refl _ _).alloc _).trans hu4
        have HO4 := Lib.hid (row_base (base' := w.heap.size) ho4 HU3.out.size)
        have HR4 := Lib.hid (HR3.out.keep hv4)
        have HU4 := Lib.hid (HU3.out.trans (hv4.mono (by simp)))
        clear C3 ho4 hu4 hv4 HR3 HU3
        go_wp2_with fail
        go_ret
        rw [HZ.out]
        refine ⟨⟨_, [ndK 2] ++ (out ++ out3), rfl, by rw [HLN.out]; exact HO4.out, by simp only [List.length_append, List.length_cons, List.length_nil]; omega, ?_, ?_⟩, HU4.out⟩
        · have h := HR4.out
          have h1 := HF1.out
          have h2 := HU1.out
          rw [← uF_two u 2 x y bound, h2, show (f || (impF (.two 2 x y) bound).isNone) = (f1 || (impF y bound).isNone) by
            rw [← h1, impF]
            cases impF x bound with
            | none => simp
            | some o1 => cases impF y bound with | none => simp | some o2 => simp]
          exact h
        · intro o hf ho
          rw [impF] at ho
          cases h1 : impF x bound with
          | none => rw [h1] at ho; cases ho
          | some o1 =>
            cases h2 : impF y bound with
            | none => rw [h1, h2] at ho; cases ho
            | some o2 =>
              rw [h1, h2] at ho
              cases ho
              rw [HE.out o1 hf h1, HE3.out o2 (by rw [← HF1.out, hf, h1]; rfl) h2]
              rfl

set_option maxRecDepth 20000 in
set_option maxHeartbeats 4000000 in
theorem orR (k P : Nat) (w : World) (s : List UInt8) (n : Nat) (f : Bool) (u : Int) (vb : Value) (bound : List Int) (hs : s.length ≤ 400) (hR : RdAt P w s n f u)
    (hA : Calls Tryz.prog 36 #[.pointer (some ⟨P, 0, none⟩), vb] w (FmR P w s n f u bound (andF s k n)))
    (hI : ∀ W n' f' u', n < n' → n' ≤ s.length → RdAt P W s n' f' u' → Upd [P] w W → Calls Tryz.prog 24 #[.pointer (some ⟨P, 0, none⟩), vb] W (FmR P W s n' f' u' bound (orF s k n'))) :
    Calls Tryz.prog 24 #[.pointer (some ⟨P, 0, none⟩), vb] w (FmR P w s n f u bound (orF s (k + 1) n)) := by
  have hPl := hR.lt
  have hnl := hR.le
  have HX := Lib.hid (show orF s (k + 1) n = _ from by rw [orF])
  generalize orF s (k + 1) n = A at *
  have HI := Lib.hid hI
  clear hI hR
  cases ha : andF s k n with
  | error a =>
    rw [ha] at hA HX
    have HA := Lib.hid hA
    have HY := Lib.hid (show A = .error a from HX.out)
    clear ha hA HX HI
    go_enter Tryz.func24, Tryz.ntmps24
    go_wp2_with fail
    refine HA.out.mono ?_
    rintro e w1 ⟨rfl, hu⟩
    have HU := Lib.hid hu
    clear HA hu
    go_wp2_with fail
    refine ⟨rfl, ?_⟩
    rw [HY.out]
    exact ⟨rfl, HU.out⟩
  | ok r =>
    obtain ⟨x, p⟩ := r
    rw [ha] at hA HX
    have hp := andF_pos k _ x p hnl ha
    have hp1 := hp.1
    have hp2 := hp.2.1
    have hsk := skR_le (s := s) (n := p) hp2
    obtain ⟨m, hm⟩ : ∃ m, skR s p = m := ⟨_, rfl⟩
    rw [hm] at hsk
    have hsk1 := hsk.1
    have hsk2 := hsk.2
    have HA := Lib.hid hA
    have HY := Lib.hid (show A = (if isB s m 124 then (match orF s k (m + 1) with | .error e => .error e | .ok (g, q) => .ok (.two 3 x g, q)) else .ok (x, m)) from by rw [HX.out]; simp only [show p = m from hp.2.2.symm.trans hm]; rfl)
    clear ha hA HX hp hsk
    go_enter Tryz.func24, Tryz.ntmps24
    go_wp2_with fail
    refine HA.out.mono ?_
    rintro e w1 ⟨⟨v, out, rfl, ho, hol, hr, he⟩, hu⟩
    obtain ⟨av, cv, rfl⟩ := ownsRow_form ho
    have B2 := byteR P w1 s p _ _ 124 (by omega) hr
    unfold ByR at B2
    rw [hm, show (((124 : UInt8).toNat : Nat) : Int) = 124 from rfl] at B2
    obtain ⟨f1, hf1⟩ : ∃ f1, (f || (impF x bound).isNone) = f1 := ⟨_, rfl⟩
    obtain ⟨u1, hu1⟩ : ∃ u1, uF u (freF x bound) = u1 := ⟨_, rfl⟩
    rw [hf1, hu1] at B2
    obtain ⟨q, hq⟩ : ∃ q, isB s m 124 = q := ⟨_, rfl⟩
    rw [hq] at B2 HY
    have HB2 := Lib.hid B2
    have HO := Lib.hid ho
    have HE := Lib.hid he
    have HU := Lib.hid hu
    have HF1 := Lib.hid hf1
    have HU1 := Lib.hid hu1
    clear HA B2 ho he hu hr hf1 hu1
    go_wp2_with fail
    refine HB2.out.mono ?_
    rintro e w2 ⟨rfl, hr2, hu2⟩
    have hPO : ∀ g, (Value.slice av out.length cv).ownBlock = some g → w2.heap[g]? = w1.heap[g]? := fun g hg => hu2.block g (HO.out.lt g hg).2 (fun hm => by
      have h1 := (HO.out.lt g hg).1
      have h2 : g = P := by simpa using hm
      omega)
    have HO2 := Lib.hid (row_keepX HO.out hPO)
    have HU2 := Lib.hid (HU.out.trans hu2)
    clear HB2 hu2 HO HU hPO
    cases q with
    | false =>
      rw [if_neg (by decide)] at hr2
      have HR2 := Lib.hid hr2
      have HZ := Lib.hid (show A = .ok (x, m) by rw [HY.out]; rfl)
      clear hr2 HY HI
      go_wp2_with fail
      go_ret
      rw [HZ.out]
      refine ⟨⟨_, out, rfl, HO2.out, by omega, ?_, HE.out⟩, HU2.out⟩
      rw [HF1.out, HU1.out]; exact HR2.out
    | true =>
      have hlt := isB_lt hq
      rw [if_pos rfl] at hr2
      have E1 := Lib.hid (fun W (hu : Upd [] w2 W) => HI.out W (m + 1) f1 u1 (by omega) (by omega) (hr2.keep hu) (HU2.out.trans (hu.mono (by simp))))
      have hY2 := HY.out
      rw [if_pos rfl] at hY2
      have HY2 := Lib.hid hY2
      have hr2l := hr2.lt
      clear HI hr2 HY hY2 hq
      cases he : orF s k (m + 1) with
      | error a =>
        have hY2 := HY2.out
        rw [he] at E1 hY2
        have HZ := Lib.hid (show A = .error a from hY2)
        clear hY2 he HY2
        go_wp2_with fail
        refine (E1.out _ (by repeat (first | exact Upd.refl _ _ | assumption | refine Upd.drew ?_ | refine Upd.alloc ?_ _))).mono ?_
        rintro e w3 ⟨rfl, hu3⟩
        have hu4 : Upd [P] w2 w3 := Upd.trans (by repeat (first | exact Upd.refl _ _ | refine Upd.drew ?_ | refine Upd.alloc ?_ _)) hu3
        have HU3 := Lib.hid (HU2.out.trans hu4)
        clear hu3 hu4 E1
        go_wp2_with fail
        refine ⟨rfl, ?_⟩
        rw [HZ.out]
        exact ⟨rfl, HU3.out⟩
      | ok r =>
        obtain ⟨y, q'⟩ := r
        have hY2 := HY2.out
        rw [he] at E1 hY2
        have hp4 := orF_pos k _ y q' (by omega) he
        have hq1 := hp4.1
        have hq2 := hp4.2.1
        have HZ := Lib.hid (show A = .ok (.two 3 x y, q') from hY2)
        clear hY2 he HY2 hp4
        have HL := litRow w2 (ndK 3)
        have hV : Upd [] w2 (w2.alloc (.cells #[ei 3, ei 0, es [], .bool false] 58)) := (Upd.refl _ _).alloc _
        have HE1 := Lib.hid (E1.out _ hV)
        have HLH := Lib.hid HL
        have HVH := Lib.hid hV
        clear HL hV E1
        go_wp2_with fail
        refine HE1.out.mono ?_
        rintro e w3 ⟨⟨v3, out3, rfl, ho3, hol3, hr3, he3⟩, hu3⟩
        obtain ⟨a3, c3, rfl⟩ := ownsRow_form ho3
        have hw2 := HU2.out.size
        have hk3 : ∀ g, w.heap.size ≤ g → g < (w2.alloc (.cells #[ei 3, ei 0, es [], .bool false] 58)).heap.size → w3.heap[g]? = (w2.alloc (.cells #[ei 3, ei 0, es [], .bool false] 58)).heap[g]? := fun g h1 h2 => hu3.block g h2 (fun hm => by
          have h3 : g = P := by simpa using hm
          omega)
        have hl3 := NdR.row (row_keepX HLH.out (fun g hg => hk3 g (by have := (HLH.out.lt g hg).1; omega) (HLH.out.lt g hg).2))
        have ho23 := ownsRow_upd HO2.out HVH.out
        have ho33 := NdR.row (row_keepX ho23 (fun g hg => hk3 g (ho23.lt g hg).1 (ho23.lt g hg).2))
        have C3 := Lib.hid (concat3 w3 _ rfl _ _ _ [ndK 3] out out3 hl3 ho33 (NdR.row ho3) (by simp) (by simp; omega))
        have HU3 := Lib.hid ((HU2.out.trans (HVH.out.mono (by simp))).trans hu3)
        have hsz3 := hu3.size
        have HR3 := Lib.hid hr3
        have HE3 := Lib.hid he3
        clear HE1 ho3 hr3 he3 hu3 HLH HVH HO2 hk3 hl3 ho23 ho33 hw2
        go_wp2_with fail
        refine C3.out.mono ?_
        rintro e w4 ⟨v4, rfl, ho4, hu4⟩
        have hL : ([ndK 3] ++ (out ++ out3)).length = out.length + out3.length + 1 := by simp
        rw [hL] at ho4
        obtain ⟨a4, c4, rfl⟩ := ownsRow_form ho4
        have HLN := Lib.hid hL
        clear hL
        have hv4 : Upd [] w3 w4 := ((Upd.refl _ _).alloc _).trans hu4
        have HO4 := Lib.hid (row_base (base' := w.heap.size) ho4 HU3.out.size)
        have HR4 := Lib.hid (HR3.out.keep hv4)
        have HU4 := Lib.hid (HU3.out.trans (hv4.mono (by simp)))
        clear C3 ho4 hu4 hv4 HR3 HU3
        go_wp2_with fail
        go_ret
        rw [HZ.out]
        refine ⟨⟨_, [ndK 3] ++ (out ++ out3), rfl, by rw [HLN.out]; exact HO4.out, by simp only [List.length_append, List.length_cons, List.length_nil]; omega, ?_, ?_⟩, HU4.out⟩
        · have h := HR4.out
          have h1 := HF1.out
          have h2 := HU1.out
          rw [← uF_two u 3 x y bound, h2, show (f || (impF (.two 3 x y) bound).isNone) = (f1 || (impF y bound).isNone) by
            rw [← h1, impF]
            cases impF x bound with
            | none => simp
            | some o1 => cases impF y bound with | none => simp | some o2 => simp]
          exact h
        · intro o hf ho
          rw [impF] at ho
          cases h1 : impF x bound with
          | none => rw [h1] at ho; cases ho
          | some o1 =>
            cases h2 : impF y bound with
            | none => rw [h1, h2] at ho; cases ho
            | some o2 =>
              rw [h1, h2] at ho
              cases ho
              rw [HE.out o1 hf h1, HE3.out o2 (by rw [← HF1.out, hf, h1]; rfl) h2]
              rfl

end Go.Proofs.YtaahjpmndkcijaaGreatDoor

/-
  Formulas parsed: the program reads a simple formula that begins with a word.
-/
namespace Go.Proofs.YtaahjpmndkcijaaGreatDoor
open Go.RowKit

theorem litRowV (W : World) (G : Nat) (hG : W.heap.size = G) (k v : Int) : (W.alloc (.cells #[.int .i64 k, .int .i64 v, .string ⟨#[]⟩, .bool false] 58)).ownsRow G 58 4 (.slice (some ⟨G, 0, none⟩) 1 1) 1 ([ndV k v].flatMap encN) := by
  subst hG
  exact litRow W (ndV k v)
theorem wordE_len {s : List UInt8} {m : Nat} {t : List UInt8} (hm : m ≤ s.length) (h : cutS s m (wordE s m) = t) : wordE s m = m + t.length := by
  have h1 := wordE_le hm
  have h2 : t.length = wordE s m - m := by rw [← h]; simp [cutS]; omega
  omega
theorem vr_word {s : List UInt8} {m : Nat} {t : List UInt8} (h : cutS s m (wordE s m) = t) (ht : t ≠ []) : vrF s m = none := by
  unfold vrF
  rw [word_not h ht 88 (by decide)]
  simp
theorem sim_leaf {s : List UInt8} {k n : Nat} (b : Bool) (h : cutS s (skR s n) (wordE s (skR s n)) = if b then wFalse else wTrue) :
    simF s (k + 1) n = .ok (.leaf (if b then 1 else 0), wordE s (skR s n)) := by
  have ht : (if b then wFalse else wTrue) ≠ [] := by cases b <;> decide
  rw [simF, word_not h ht 40 (by decide), word_not h ht 60 (by decide), word_not h ht 91 (by decide), vr_word h ht, h]
  cases b
  · simp
  · simp [wFalse, wTrue]
theorem sim_fix {s : List UInt8} {k n : Nat} (b : Bool) (h : cutS s (skR s n) (wordE s (skR s n)) = if b then wNu else wMu) :
    simF s (k + 1) n = (match vrF s (skR s (wordE s (skR s n))) with
          | none => .error (skR s (wordE s (skR s n)))
          | some (v, e) =>
            if isB s (skR s e) 46 then
              match simF s k (skR s e + 1) with
              | .error e => .error e
              | .ok (f, q) => .ok (.fix (if b then 8 else 7) v f, q)
            else .error (skR s e)) := by
  have ht : (if b then wNu else wMu) ≠ [] := by cases b <;> decide
  rw [simF, word_not h ht 40 (by decide), word_not h ht 60 (by decide), word_not h ht 91 (by decide), vr_word h ht, h]
  cases b
  · simp [wFalse, wTrue, wMu, wNu]; rfl
  · simp [wFalse, wTrue, wMu, wNu]; rfl

theorem truthB (b : Bool) (w : World) : Calls Tryz.prog 56 #[.bool b] w fun e w' => e = .returned (.int .i64 (if b then 1 else 0)) ∧ w = w' := by
  cases b with
  | true =>
    go_enter Tryz.func56, Tryz.ntmps56
    go_wp2_with fail
    go_ret
    exact ⟨rfl, rfl⟩
  | false =>
    go_enter Tryz.func56, Tryz.ntmps56
    go_wp2_with fail
    go_ret
    exact ⟨rfl, rfl⟩

set_option maxRecDepth 20000 in
set_option maxHeartbeats 4000000 in
theorem simLeafR (k P : Nat) (w : World) (s : List UInt8) (n : Nat) (f : Bool) (u : Int) (vb : Value) (bound : List Int) (hs : s.length ≤ 400) (hR : RdAt P w s n f u) (b : Bool)
    (hw : cutS s (skR s n) (wordE s (skR s n)) = if b then wFalse else wTrue) :
    Calls Tryz.prog 48 #[.pointer (some ⟨P, 0, none⟩), vb] w (FmR P w s n f u bound (simF s (k + 1) n)) := by
  have hPl := hR.lt
  have hnl := hR.le
  have hsk := skR_le hnl
  have S1 := peekR P w s n f u (by omega) hR
  rw [sim_leaf b hw]
  have hE := wordE_len hsk.2 hw
  have hEl := (wordE_le hsk.2).2
  rw [hE] at hEl
  rw [hw] at S1
  rw [hE]
  generalize skR s n = m at *
  have hm1 := hsk.1
  clear hR hw hsk hE
  cases b with
  | false =>
    simp only [Bool.false_eq_true, ↓reduceIte] at S1 hEl ⊢
    rw [show es wTrue = .string ⟨#[116, 114, 117, 101]⟩ from rfl] at S1
    have HS1 := Lib.hid S1
    have hlen : wTrue.length = 4 := rfl
    rw [hlen] at hEl ⊢
    clear S1
    go_enter Tryz.func48, Tryz.ntmps48
    go_wp2_with fail
    refine HS1.out.mono ?_
    rintro e w1 ⟨rfl, hr, hu⟩
    have f2 : w1.frozen? ⟨P, 2, none⟩ = false := hr.own.frozen (by simp) _
    have c2 := hr.c2
    have hwr : IntKind.i64.wrap ((m : Int) + 4) = (m : Int) + 4 := by rw [IntKind.wrap_i64]; omega
    have hr1 : RdAt P ((w1.setCell ⟨P, 2, none⟩ (.int .i64 ((m : Int) + 4))).alloc (.cells #[ei 0, ei 0, es [], .bool false] 58)) s (m + 4) f u := (hr.put (m := m + 4) hEl (z := (m : Int) + 4) (by simp)).keep ((Upd.refl _ _).alloc _)
    have HR1 := Lib.hid hr1
    have HU1 := Lib.hid ((hu.setCell (p := ⟨P, 2, none⟩) (Or.inr (by simp)) (.int .i64 ((m : Int) + 4))).alloc (.cells #[ei 0, ei 0, es [], .bool false] 58))
    have HL := Lib.hid (row_base (base' := w.heap.size) (litRowV (w1.setCell ⟨P, 2, none⟩ (.int .i64 ((m : Int) + 4))) w1.heap.size (by simp) 0 0) hu.size)
    clear HS1 hr hu hr1
    have T := fun (w : World) => truthB false w
    go_wp2_with (go_at_call 56; refine (T _).mono ?_; rintro e w2 ⟨rfl, rfl⟩)
    go_ret
    refine ⟨⟨_, [ndK 0], rfl, HL.out, by simp; omega, ?_, fun o _ ho => by cases ho; rfl⟩, HU1.out⟩
    have h := HR1.out
    rw [show (f || (impF (.leaf 0) bound).isNone) = f by simp [impF], show freF (.leaf 0) bound = none from rfl, uF_none]
    exact h
  | true =>
    simp only [Bool.false_eq_true, ↓reduceIte] at S1 hEl ⊢
    rw [show es wFalse = .string ⟨#[102, 97, 108, 115, 101]⟩ from rfl] at S1
    have HS1 := Lib.hid S1
    have hlen : wFalse.length = 5 := rfl
    rw [hlen] at hEl ⊢
    clear S1
    go_enter Tryz.func48, Tryz.ntmps48
    go_wp2_with fail
    refine HS1.out.mono ?_
    rintro e w1 ⟨rfl, hr, hu⟩
    have f2 : w1.frozen? ⟨P, 2, none⟩ = false := hr.own.frozen (by simp) _
    have c2 := hr.c2
    have hwr : IntKind.i64.wrap ((m : Int) + 5) = (m : Int) + 5 := by rw [IntKind.wrap_i64]; omega
    have hr1 : RdAt P ((w1.setCell ⟨P, 2, none⟩ (.int .i64 ((m : Int) + 5))).alloc (.cells #[ei 1, ei 0, es [], .bool false] 58)) s (m + 5) f u := (hr.put (m := m + 5) hEl (z := (m : Int) + 5) (by simp)).keep ((Upd.refl _ _).alloc _)
    have HR1 := Lib.hid hr1
    have HU1 := Lib.hid ((hu.setCell (p := ⟨P, 2, none⟩) (Or.inr (by simp)) (.int .i64 ((m : Int) + 5))).alloc (.cells #[ei 1, ei 0, es [], .bool false] 58))
    have HL := Lib.hid (row_base (base' := w.heap.size) (litRowV (w1.setCell ⟨P, 2, none⟩ (.int .i64 ((m : Int) + 5))) w1.heap.size (by simp) 1 0) hu.size)
    clear HS1 hr hu hr1
    have T := fun (w : World) => truthB true w
    go_wp2_with (go_at_call 56; refine (T _).mono ?_; rintro e w2 ⟨rfl, rfl⟩)
    go_ret
    refine ⟨⟨_, [ndK 1], rfl, HL.out, by simp; omega, ?_, fun o _ ho => by cases ho; rfl⟩, HU1.out⟩
    have h := HR1.out
    rw [show (f || (impF (.leaf 1) bound).isNone) = f by simp [impF], show freF (.leaf 1) bound = none from rfl, uF_none]
    exact h

end Go.Proofs.YtaahjpmndkcijaaGreatDoor

/-
  Formulas parsed: the program reads a fixpoint.
-/
namespace Go.Proofs.YtaahjpmndkcijaaGreatDoor
open Go.RowKit

theorem vrF_lt {s : List UInt8} {m : Nat} {v : Int} {e : Nat} (h : vrF s m = some (v, e)) : 0 ≤ v ∧ v < 3 := by
  unfold vrF at h
  split at h
  · cases hq : smallF 3 (cutS s (m + 1) (runE isDig s (m + 1))) with
    | none => rw [hq] at h; cases h
    | some x =>
      rw [hq] at h
      cases h
      rw [small3] at hq
      split at hq
      · cases hq; omega
      · split at hq
        · cases hq; omega
        · split at hq
          · cases hq; omega
          · cases hq
  · cases h
/-- the row of the bound variables with one more. -/
theorem rowR1 {w : World} {b0 : Nat} {v : Value} {xs : List Int} (h : w.ownsRow b0 2 1 v xs.length (xs.map ei)) : ∃ fp, R1 fp w [v] xs ∧ ∀ b ∈ fp, b0 ≤ b := by
  obtain ⟨fp, q1, q2, q3, q4⟩ := Flat.ofOwns h
  exact ⟨fp, ⟨_, rfl, by rw [flatMap_single]; exact q1⟩, q3⟩

set_option maxRecDepth 20000 in
set_option maxHeartbeats 8000000 in
theorem simMuR (k P : Nat) (w : World) (s : List UInt8) (n : Nat) (f : Bool) (u : Int) (vb : Value) (fb : List Nat) (bound : List Int) (hs : s.length ≤ 400) (hR : RdAt P w s n f u)
    (hw : cutS s (skR s n) (wordE s (skR s n)) = wMu) (hb : R1 fb w [vb] bound) (hbP : ∀ b ∈ fb, b ≠ P) (hbl : bound.length ≤ n) (hbx : ∀ x ∈ bound, 0 ≤ x ∧ x < 3)
    (hI : ∀ W n' f' u' vb' fb' bound', n < n' → n' ≤ s.length → RdAt P W s n' f' u' → Upd [P] w W → R1 fb' W [vb'] bound' → (∀ b ∈ fb', b ≠ P) → bound'.length ≤ n' → (∀ x ∈ bound', 0 ≤ x ∧ x < 3) →
      Calls Tryz.prog 48 #[.pointer (some ⟨P, 0, none⟩), vb'] W (FmR P W s n' f' u' bound' (simF s k n'))) :
    Calls Tryz.prog 48 #[.pointer (some ⟨P, 0, none⟩), vb] w (FmR P w s n f u bound (simF s (k + 1) n)) := by
  have hPl := hR.lt
  have hnl := hR.le
  have hsk := skR_le (s := s) hnl
  have S1 := peekR P w s n f u (by omega) hR
  have HX := Lib.hid (sim_fix (k := k) false hw)
  generalize simF s (k + 1) n = A at *
  have hE := wordE_len hsk.2 hw
  have hEl := (wordE_le hsk.2).2
  rw [hE] at hEl HX
  rw [hw] at S1
  obtain ⟨i0, hi, hz0, hz1, hz2⟩ := info_parts Tryz.info2
  obtain ⟨j0, ji, jz0, jz1, jz2⟩ := info_parts Tryz.infoNd
  generalize skR s n = m at *
  have hm1 := hsk.1
  have HI := Lib.hid hI
  have HB := Lib.hid hb
  clear hR hw hsk hE hI hb
  have hlen : (wMu).length = 2 := rfl
  rw [hlen] at hEl HX
  rw [show es wMu = .string ⟨#[109, 117]⟩ from rfl] at S1
  have HS1 := Lib.hid S1
  clear S1
  have hwr : IntKind.i64.wrap ((m : Int) + 2) = (m : Int) + 2 := by rw [IntKind.wrap_i64]; omega
  go_enter Tryz.func48, Tryz.ntmps48
  go_wp2_with fail
  refine HS1.out.mono ?_
  rintro e w1 ⟨rfl, hr, hu⟩
  have f2 : w1.frozen? ⟨P, 2, none⟩ = false := hr.own.frozen (by simp) _
  have c2 := hr.c2
  have hr1 : RdAt P (w1.setCell ⟨P, 2, none⟩ (.int .i64 ((m : Int) + 2))) s (m + 2) f u := hr.put (m := m + 2) hEl (z := (m : Int) + 2) (by simp)
  have V1 := Lib.hid (varR P _ s (m + 2) f u (by omega) hr1)
  have HU1 := Lib.hid (hu.setCell (p := ⟨P, 2, none⟩) (Or.inr (by simp)) (.int .i64 ((m : Int) + 2)))
  clear HS1 hr hu hr1
  go_wp2_with fail
  refine V1.out.mono ?_
  rintro e w2 ⟨hv1, hv2, hu2⟩
  have HU2 := Lib.hid (HU1.out.trans hu2)
  clear V1 HU1 hu2
  cases hv : vrF s (skR s (m + 2)) with
  | none =>
    have he := hv2 hv
    subst he
    have HZ := Lib.hid (show A = .error (skR s (m + 2)) from by rw [HX.out, hv])
    clear hv1 hv2 hv HX HI
    go_wp2_with fail
    refine ⟨rfl, ?_⟩
    rw [HZ.out]
    exact ⟨rfl, HU2.out⟩
  | some r =>
    obtain ⟨v, e0⟩ := r
    obtain ⟨he, hr2⟩ := hv1 v e0 hv
    subst he
    have hvp := vrF_pos hv
    have hvl := vrF_lt hv
    have hvv : v = 0 ∨ v = 1 ∨ v = 2 := by omega
    have hsk3 := skR_le (s := s) hvp.2
    have hsk0 := skR_le (s := s) hEl
    have N1 := needR P w2 s e0 f u 46 (by omega) hr2
    have HY := Lib.hid (show A = (if isB s (skR s e0) 46 then (match simF s k (skR s e0 + 1) with | .error e => .error e | .ok (f, q) => .ok (.fix 7 v f, q)) else .error (skR s e0)) from by rw [HX.out, hv]; rfl)
    have hm3 : m + 2 < skR s e0 := by omega
    have hm4 := hsk3.2
    rw [show (((46 : UInt8).toNat : Nat) : Int) = 46 from rfl] at N1
    clear hv1 hv2 hv HX hsk3 hsk0
    generalize skR s e0 = m3 at *
    cases hq : isB s m3 46 with
    | false =>
      rw [hq] at N1 HY
      have HZ := Lib.hid (show A = .error m3 from HY.out)
      simp only [Bool.false_eq_true, ↓reduceIte] at N1
      have HN1 := Lib.hid N1
      clear N1 HY hq HI hr2
      go_wp2_with fail
      refine HN1.out.mono ?_
      rintro e w3 ⟨rfl, hu3⟩
      have HU3 := Lib.hid (HU2.out.trans hu3)
      clear HN1 hu3
      go_wp2_with fail
      refine ⟨rfl, ?_⟩
      rw [HZ.out]
      exact ⟨rfl, HU3.out⟩
    | true =>
      have hlt := isB_lt hq
      rw [hq] at N1 HY
      have hY2 := HY.out
      rw [if_pos rfl] at hY2
      have HY2 := Lib.hid hY2
      simp only [↓reduceIte] at N1
      have HN1 := Lib.hid N1
      clear N1 HY hq hY2 hr2
      go_wp2_with fail
      refine HN1.out.mono ?_
      rintro e w3 ⟨⟨rfl, hr3⟩, hu3⟩
      have hu03 := HU2.out.trans hu3
      have hV : Upd [] w3 (w3.alloc (.cells #[.int .i64 7, .int .i64 v, .string ⟨#[]⟩, .bool false] 58)) := (Upd.refl _ _).alloc _
      have HLT := Lib.hid (litRowV w3 w3.heap.size rfl 7 v)
      have hb3 : R1 fb (w3.alloc (.cells #[.int .i64 7, .int .i64 v, .string ⟨#[]⟩, .bool false] 58)) [vb] bound := R1k.upd (R1k.upd HB.out hu03 (fun b hb hm => hbP b hb (by simpa using hm))) hV (by simp)
      have C1 := Lib.hid (cloneRow vb bound _ fb (by omega) hb3)
      have HU3 := Lib.hid hu03
      have HV := Lib.hid hV
      have HR3 := Lib.hid hr3
      have hsz3 := hu03.size
      clear HN1 hr3 hu3 hu03 hb3 hV HU2
      go_wp2_with fail
      refine C1.out.mono ?_
      rintro e w4 ⟨⟨v4, rfl, hrow4⟩, hu4⟩
      obtain ⟨a4, k4, rfl⟩ := ownsRow_form hrow4
      have hrow5 := ownsRow_upd hrow4 ((Upd.refl [] w4).alloc (.cells #[.int .i64 v] 2))
      have hrow5' : (w4.alloc (.cells #[.int .i64 v] 2)).ownsRow w4.heap.size 2 1 (.slice (some ⟨w4.heap.size, 0, none⟩) 1 1) 1 [.int .i64 v] :=
        World.ownsRow_lit (base := w4.heap.size) (e := 2) (size := 1) w4 #[.int .i64 v] 1 (Nat.le_refl _) (by simp [maxLen]) (by simp)
      obtain ⟨fv, hfv, -⟩ := Flat.ofOwns hrow5'
      have HF := Lib.hid hfv
      have HW5 := Lib.hid hrow5
      have HU4 := Lib.hid (hu4.alloc (.cells #[.int .i64 v] 2))
      have hsz4 : w3.heap.size ≤ w4.heap.size := by have := hu4.size; simp at this; omega
      clear C1 hrow4 hrow5 hrow5' hfv hu4
      go_wp2_with (first
        | (at_builtin; refine wpList_append_flat rfl _ _ 76 rfl (w3.alloc (.cells #[.int .i64 7, .int .i64 v, .string ⟨#[]⟩, .bool false] 58)).heap.size 2 i0 (.int .i64 0) 1 8 Tryz.underlying76 hi hz0 hz1 hz2 rfl (by decide) _ _ _ rfl HW5.out _ 1 _ rfl _ HF.out (fun u hu => one_I1 [v] u hu) (by unfold maxLen; omega) (by omega) (by simp; omega) ?_)
        | fail)
      intro v5 w5 hown5 hg5 ht5
      obtain ⟨a5, k5, rfl⟩ := ownsRow_form hown5
      have hu5 : Upd [] (w3.alloc (.cells #[.int .i64 7, .int .i64 v, .string ⟨#[]⟩, .bool false] 58)) w5 := HU4.out.grown hg5 (fun k hk => Or.inl (HW5.out.lt k hk).1)
      have hrow5 : w5.ownsRow (w3.heap.size + 1) 2 1 (.slice a5 (bound.length + 1) k5) (bound ++ [v]).length ((bound ++ [v]).map ei) := by
        rw [List.length_append, List.map_append]; exact hown5
      obtain ⟨fb5, h5, h5b⟩ := rowR1 hrow5
      have hr5 := HR3.out.keep (HV.out.trans hu5)
      have I5 := HI.out w5 (m3 + 1) f u _ fb5 (bound ++ [v]) (by omega) (by omega) hr5 (HU3.out.trans ((HV.out.trans hu5).mono (by simp))) h5 (fun b hb e => by have := h5b b hb; omega) (by simp; omega) (by
        intro x hx
        rcases List.mem_append.1 hx with h | h
        · exact hbx x h
        · have : x = v := by simpa using h
          omega)
      have HLT5 := Lib.hid (ownsRow_upd HLT.out hu5)
      have HU5 := Lib.hid (HU3.out.trans ((HV.out.trans hu5).mono (by simp)))
      have hsz5 := hu5.size
      clear hown5 hg5 ht5 hu5 hrow5 h5 h5b hr5 HI HLT HU3 HV HU4 HF HW5 HR3
      cases hsm : simF s k (m3 + 1) with
      | error a =>
        have hY2 := HY2.out
        rw [hsm] at I5 hY2
        have HI5 := Lib.hid I5
        have HZ := Lib.hid (show A = .error a from hY2)
        clear I5 hY2 hsm HY2
        go_wp2_with fail
        refine HI5.out.mono ?_
        rintro e w6 ⟨rfl, hu6⟩
        have HU6 := Lib.hid (HU5.out.trans hu6)
        clear HI5 hu6
        go_wp2_with fail
        refine ⟨rfl, ?_⟩
        rw [HZ.out]
        exact ⟨rfl, HU6.out⟩
      | ok r =>
        obtain ⟨fm, q⟩ := r
        have hY2 := HY2.out
        rw [hsm] at I5 hY2
        have hq2 := simF_pos k _ fm q (by omega) hsm
        have hq3 := hq2.1
        have hq4 := hq2.2
        have HI5 := Lib.hid I5
        have HZ := Lib.hid (show A = .ok (.fix 7 v fm, q) from hY2)
        clear I5 hY2 hsm HY2 hq2
        go_wp2_with fail
        refine HI5.out.mono ?_
        rintro e w6 ⟨⟨v6, out, rfl, ho6, hol6, hr6, he6⟩, hu6⟩
        obtain ⟨a6, k6, rfl⟩ := ownsRow_form ho6
        obtain ⟨f6, hf6, -⟩ := Flat.ofOwns ho6
        have hl6 := row_keepX HLT5.out (fun g hg => hu6.block g (HLT5.out.lt g hg).2 (fun hm => by
          have h1 := (HLT5.out.lt g hg).1
          have h2 : g = P := by simpa using hm
          omega))
        have HL6 := Lib.hid hl6
        have HF6 := Lib.hid hf6
        have HR6 := Lib.hid hr6
        have HE6 := Lib.hid he6
        have HU6 := Lib.hid (HU5.out.trans hu6)
        have hsz6 := hu6.size
        have hb6 : w3.heap.size ≤ w6.heap.size := by simp at hsz5; omega
        clear HI5 ho6 hf6 hl6 hr6 he6 hu6 HLT5 HU5
        go_wp2_with (first
          | (at_builtin; refine wpList_append_flat rfl _ _ 28 rfl w3.heap.size 58 j0 (.agg #[.int .i64 0, .int .i64 0, .string ⟨#[]⟩, .bool false]) 4 40 Tryz.underlying28 ji jz0 jz1 jz2 rfl (by decide) _ _ _ rfl HL6.out _ out.length _ rfl _ HF6.out (one_F1 out) (by unfold maxLen; omega) (by omega) hb6 ?_)
          | fail)
        intro v7 w7 hown7 hg7 ht7
        obtain ⟨a7, k7, rfl⟩ := ownsRow_form hown7
        have HR7 := Lib.hid (HR6.out.far ((Upd.refl [w3.heap.size] w6).grown hg7 (fun k hk => Or.inr (by simpa [Value.ownBlock] using hk.symm))) (by simp; omega))
        have HU7 := Lib.hid (HU6.out.grown hg7 (fun k hk => Or.inl (by have := (HL6.out.lt k hk).1; omega)))
        have HO7 := Lib.hid (row_base (base' := w.heap.size) hown7 hsz3)
        clear hown7 hg7 ht7 HR6 HU6 HL6 HF6
        go_wp2_with fail
        go_ret
        rw [HZ.out]
        refine ⟨⟨_, ndV 7 v :: out, rfl, ?_, by simp only [List.length_cons]; omega, ?_, ?_⟩, HU7.out⟩
        · have h := HO7.out
          rw [show (ndV 7 v :: out).length = 1 + out.length by simp; omega]
          exact h
        · have h := HR7.out
          rw [show (impF (.fix 7 v fm) bound).isNone = (impF fm (bound ++ [v])).isNone by rw [impF]; cases impF fm (bound ++ [v]) <;> rfl]
          exact h
        · intro o hf ho
          rw [impF] at ho
          cases h1 : impF fm (bound ++ [v]) with
          | none => rw [h1] at ho; cases ho
          | some o1 =>
            rw [h1] at ho
            cases ho
            rw [HE6.out o1 hf h1]

set_option maxRecDepth 20000 in
set_option maxHeartbeats 8000000 in
theorem simNuR (k P : Nat) (w : World) (s : List UInt8) (n : Nat) (f : Bool) (u : Int) (vb : Value) (fb : List Nat) (bound : List Int) (hs : s.length ≤ 400) (hR : RdAt P w s n f u)
    (hw : cutS s (skR s n) (wordE s (skR s n)) = wNu) (hb : R1 fb w [vb] bound) (hbP : ∀ b ∈ fb, b ≠ P) (hbl : bound.length ≤ n) (hbx : ∀ x ∈ bound, 0 ≤ x ∧ x < 3)
    (hI : ∀ W n' f' u' vb' fb' bound', n < n' → n' ≤ s.length → RdAt P W s n' f' u' → Upd [P] w W → R1 fb' W [vb'] bound' → (∀ b ∈ fb', b ≠ P) → bound'.length ≤ n' → (∀ x ∈ bound', 0 ≤ x ∧ x < 3) →
      Calls Tryz.prog 48 #[.pointer (some ⟨P, 0, none⟩), vb'] W (FmR P W s n' f' u' bound' (simF s k n'))) :
    Calls Tryz.prog 48 #[.pointer (some ⟨P, 0, none⟩), vb] w (FmR P w s n f u bound (simF s (k + 1) n)) := by
  have hPl := hR.lt
  have hnl := hR.le
  have hsk := skR_le (s := s) hnl
  have S1 := peekR P w s n f u (by omega) hR
  have HX := Lib.hid (sim_fix (k := k) true hw)
  generalize simF s (k + 1) n = A at *
  have hE := wordE_len hsk.2 hw
  have hEl := (wordE_le hsk.2).2
  rw [hE] at hEl HX
  rw [hw] at S1
  obtain ⟨i0, hi, hz0, hz1, hz2⟩ := info_parts Tryz.info2
  obtain ⟨j0, ji, jz0, jz1, jz2⟩ := info_parts Tryz.infoNd
  generalize skR s n = m at *
  have hm1 := hsk.1
  have HI := Lib.hid hI
  have HB := Lib.hid hb
  clear hR hw hsk hE hI hb
  have hlen : (wNu).length = 2 := rfl
  rw [hlen] at hEl HX
  rw [show es wNu = .string ⟨#[110, 117]⟩ from rfl] at S1
  have HS1 := Lib.hid S1
  clear S1
  have hwr : IntKind.i64.wrap ((m : Int) + 2) = (m : Int) + 2 := by rw [IntKind.wrap_i64]; omega
  go_enter Tryz.func48, Tryz.ntmps48
  go_wp2_with fail
  refine HS1.out.mono ?_
  rintro e w1 ⟨rfl, hr, hu⟩
  have f2 : w1.frozen? ⟨P, 2, none⟩ = false := hr.own.frozen (by simp) _
  have c2 := hr.c2
  have hr1 : RdAt P (w1.setCell ⟨P, 2, none⟩ (.int .i64 ((m : Int) + 2))) s (m + 2) f u := hr.put (m := m + 2) hEl (z := (m : Int) + 2) (by simp)
  have V1 := Lib.hid (varR P _ s (m + 2) f u (by omega) hr1)
  have HU1 := Lib.hid (hu.setCell (p := ⟨P, 2, none⟩) (Or.inr (by simp)) (.int .i64 ((m : Int) + 2)))
  clear HS1 hr hu hr1
  go_wp2_with fail
  refine V1.out.mono ?_
  rintro e w2 ⟨hv1, hv2, hu2⟩
  have HU2 := Lib.hid (HU1.out.trans hu2)
  clear V1 HU1 hu2
  cases hv : vrF s (skR s (m + 2)) with
  | none =>
    have he := hv2 hv
    subst he
    have HZ := Lib.hid (show A = .error (skR s (m + 2)) from by rw [HX.out, hv])
    clear hv1 hv2 hv HX HI
    go_wp2_with fail
    refine ⟨rfl, ?_⟩
    rw [HZ.out]
    exact ⟨rfl, HU2.out⟩
  | some r =>
    obtain ⟨v, e0⟩ := r
    obtain ⟨he, hr2⟩ := hv1 v e0 hv
    subst he
    have hvp := vrF_pos hv
    have hvl := vrF_lt hv
    have hvv : v = 0 ∨ v = 1 ∨ v = 2 := by omega
    have hsk3 := skR_le (s := s) hvp.2
    have hsk0 := skR_le (s := s) hEl
    have N1 := needR P w2 s e0 f u 46 (by omega) hr2
    have HY := Lib.hid (show A = (if isB s (skR s e0) 46 then (match simF s k (skR s e0 + 1) with | .error e => .error e | .ok (f, q) => .ok (.fix 8 v f, q)) else .error (skR s e0)) from by rw [HX.out, hv]; rfl)
    have hm3 : m + 2 < skR s e0 := by omega
    have hm4 := hsk3.2
    rw [show (((46 : UInt8).toNat : Nat) : Int) = 46 from rfl] at N1
    clear hv1 hv2 hv HX hsk3 hsk0
    generalize skR s e0 = m3 at *
    cases hq : isB s m3 46 with
    | false =>
      rw [hq] at N1 HY
      have HZ := Lib.hid (show A = .error m3 from HY.out)
      simp only [Bool.false_eq_true, ↓reduceIte] at N1
      have HN1 := Lib.hid N1
      clear N1 HY hq HI hr2
      go_wp2_with fail
      refine HN1.out.mono ?_
      rintro e w3 ⟨rfl, hu3⟩
      have HU3 := Lib.hid (HU2.out.trans hu3)
      clear HN1 hu3
      go_wp2_with fail
      refine ⟨rfl, ?_⟩
      rw [HZ.out]
      exact ⟨rfl, HU3.out⟩
    | true =>
      have hlt := isB_lt hq
      rw [hq] at N1 HY
      have hY2 := HY.out
      rw [if_pos rfl] at hY2
      have HY2 := Lib.hid hY2
      simp only [↓reduceIte] at N1
      have HN1 := Lib.hid N1
      clear N1 HY hq hY2 hr2
      go_wp2_with fail
      refine HN1.out.mono ?_
      rintro e w3 ⟨⟨rfl, hr3⟩, hu3⟩
      have hu03 := HU2.out.trans hu3
      have hV : Upd [] w3 (w3.alloc (.cells #[.int .i64 8, .int .i64 v, .string ⟨#[]⟩, .bool false] 58)) := (Upd.refl _ _).alloc _
      have HLT := Lib.hid (litRowV w3 w3.heap.size rfl 8 v)
      have hb3 : R1 fb (w3.alloc (.cells #[.int .i64 8, .int .i64 v, .string ⟨#[]⟩, .bool false] 58)) [vb] bound := R1k.upd (R1k.upd HB.out hu03 (fun b hb hm => hbP b hb (by simpa using hm))) hV (by simp)
      have C1 := Lib.hid (cloneRow vb bound _ fb (by omega) hb3)
      have HU3 := Lib.hid hu03
      have HV := Lib.hid hV
      have HR3 := Lib.hid hr3
      have hsz3 := hu03.size
      clear HN1 hr3 hu3 hu03 hb3 hV HU2
      go_wp2_with fail
      refine C1.out.mono ?_
      rintro e w4 ⟨⟨v4, rfl, hrow4⟩, hu4⟩
      obtain ⟨a4, k4, rfl⟩ := ownsRow_form hrow4
      have hrow5 := ownsRow_upd hrow4 ((Upd.refl [] w4).alloc (.cells #[.int .i64 v] 2))
      have hrow5' : (w4.alloc (.cells #[.int .i64 v] 2)).ownsRow w4.heap.size 2 1 (.slice (some ⟨w4.heap.size, 0, none⟩) 1 1) 1 [.int .i64 v] :=
        World.ownsRow_lit (base := w4.heap.size) (e := 2) (size := 1) w4 #[.int .i64 v] 1 (Nat.le_refl _) (by simp [maxLen]) (by simp)
      obtain ⟨fv, hfv, -⟩ := Flat.ofOwns hrow5'
      have HF := Lib.hid hfv
      have HW5 := Lib.hid hrow5
      have HU4 := Lib.hid (hu4.alloc (.cells #[.int .i64 v] 2))
      have hsz4 : w3.heap.size ≤ w4.heap.size := by have := hu4.size; simp at this; omega
      clear C1 hrow4 hrow5 hrow5' hfv hu4
      go_wp2_with (first
        | (at_builtin; refine wpList_append_flat rfl _ _ 76 rfl (w3.alloc (.cells #[.int .i64 8, .int .i64 v, .string ⟨#[]⟩, .bool false] 58)).heap.size 2 i0 (.int .i64 0) 1 8 Tryz.underlying76 hi hz0 hz1 hz2 rfl (by decide) _ _ _ rfl HW5.out _ 1 _ rfl _ HF.out (fun u hu => one_I1 [v] u hu) (by unfold maxLen; omega) (by omega) (by simp; omega) ?_)
        | fail)
      intro v5 w5 hown5 hg5 ht5
      obtain ⟨a5, k5, rfl⟩ := ownsRow_form hown5
      have hu5 : Upd [] (w3.alloc (.cells #[.int .i64 8, .int .i64 v, .string ⟨#[]⟩, .bool false] 58)) w5 := HU4.out.grown hg5 (fun k hk => Or.inl (HW5.out.lt k hk).1)
      have hrow5 : w5.ownsRow (w3.heap.size + 1) 2 1 (.slice a5 (bound.length + 1) k5) (bound ++ [v]).length ((bound ++ [v]).map ei) := by
        rw [List.length_append, List.map_append]; exact hown5
      obtain ⟨fb5, h5, h5b⟩ := rowR1 hrow5
      have hr5 := HR3.out.keep (HV.out.trans hu5)
      have I5 := HI.out w5 (m3 + 1) f u _ fb5 (bound ++ [v]) (by omega) (by omega) hr5 (HU3.out.trans ((HV.out.trans hu5).mono (by simp))) h5 (fun b hb e => by have := h5b b hb; omega) (by simp; omega) (by
        intro x hx
        rcases List.mem_append.1 hx with h | h
        · exact hbx x h
        · have : x = v := by simpa using h
          omega)
      have HLT5 := Lib.hid (ownsRow_upd HLT.out hu5)
      have HU5 := Lib.hid (HU3.out.trans ((HV.out.trans hu5).mono (by simp)))
      have hsz5 := hu5.size
      clear hown5 hg5 ht5 hu5 hrow5 h5 h5b hr5 HI HLT HU3 HV HU4 HF HW5 HR3
      cases hsm : simF s k (m3 + 1) with
      | error a =>
        have hY2 := HY2.out
        rw [hsm] at I5 hY2
        have HI5 := Lib.hid I5
        have HZ := Lib.hid (show A = .error a from hY2)
        clear I5 hY2 hsm HY2
        go_wp2_with fail
        refine HI5.out.mono ?_
        rintro e w6 ⟨rfl, hu6⟩
        have HU6 := Lib.hid (HU5.out.trans hu6)
        clear HI5 hu6
        go_wp2_with fail
        refine ⟨rfl, ?_⟩
        rw [HZ.out]
        exact ⟨rfl, HU6.out⟩
      | ok r =>
        obtain ⟨fm, q⟩ := r
        have hY2 := HY2.out
        rw [hsm] at I5 hY2
        have hq2 := simF_pos k _ fm q (by omega) hsm
        have hq3 := hq2.1
        have hq4 := hq2.2
        have HI5 := Lib.hid I5
        have HZ := Lib.hid (show A = .ok (.fix 8 v fm, q) from hY2)
        clear I5 hY2 hsm HY2 hq2
        go_wp2_with fail
        refine HI5.out.mono ?_
        rintro e w6 ⟨⟨v6, out, rfl, ho6, hol6, hr6, he6⟩, hu6⟩
        obtain ⟨a6, k6, rfl⟩ := ownsRow_form ho6
        obtain ⟨f6, hf6, -⟩ := Flat.ofOwns ho6
        have hl6 := row_keepX HLT5.out (fun g hg => hu6.block g (HLT5.out.lt g hg).2 (fun hm => by
          have h1 := (HLT5.out.lt g hg).1
          have h2 : g = P := by simpa using hm
          omega))
        have HL6 := Lib.hid hl6
        have HF6 := Lib.hid hf6
        have HR6 := Lib.hid hr6
        have HE6 := Lib.hid he6
        have HU6 := Lib.hid (HU5.out.trans hu6)
        have hsz6 := hu6.size
        have hb6 : w3.heap.size ≤ w6.heap.size := by simp at hsz5; omega
        clear HI5 ho6 hf6 hl6 hr6 he6 hu6 HLT5 HU5
        go_wp2_with (first
          | (at_builtin; refine wpList_append_flat rfl _ _ 28 rfl w3.heap.size 58 j0 (.agg #[.int .i64 0, .int .i64 0, .string ⟨#[]⟩, .bool false]) 4 40 Tryz.underlying28 ji jz0 jz1 jz2 rfl (by decide) _ _ _ rfl HL6.out _ out.length _ rfl _ HF6.out (one_F1 out) (by unfold maxLen; omega) (by omega) hb6 ?_)
          | fail)
        intro v7 w7 hown7 hg7 ht7
        obtain ⟨a7, k7, rfl⟩ := ownsRow_form hown7
        have HR7 := Lib.hid (HR6.out.far ((Upd.refl [w3.heap.size] w6).grown hg7 (fun k hk => Or.inr (by simpa [Value.ownBlock] using hk.symm))) (by simp; omega))
        have HU7 := Lib.hid (HU6.out.grown hg7 (fun k hk => Or.inl (by have := (HL6.out.lt k hk).1; omega)))
        have HO7 := Lib.hid (row_base (base' := w.heap.size) hown7 hsz3)
        clear hown7 hg7 ht7 HR6 HU6 HL6 HF6
        go_wp2_with fail
        go_ret
        rw [HZ.out]
        refine ⟨⟨_, ndV 8 v :: out, rfl, ?_, by simp only [List.length_cons]; omega, ?_, ?_⟩, HU7.out⟩
        · have h := HO7.out
          rw [show (ndV 8 v :: out).length = 1 + out.length by simp; omega]
          exact h
        · have h := HR7.out
          rw [show (impF (.fix 8 v fm) bound).isNone = (impF fm (bound ++ [v])).isNone by rw [impF]; cases impF fm (bound ++ [v]) <;> rfl]
          exact h
        · intro o hf ho
          rw [impF] at ho
          cases h1 : impF fm (bound ++ [v]) with
          | none => rw [h1] at ho; cases ho
          | some o1 =>
            rw [h1] at ho
            cases ho
            rw [HE6.out o1 hf h1]

end Go.Proofs.YtaahjpmndkcijaaGreatDoor

/-
  Formulas parsed: the program reads a simple formula that begins with no word.
-/
namespace Go.Proofs.YtaahjpmndkcijaaGreatDoor
open Go.RowKit

theorem sim_par {s : List UInt8} {k n : Nat} (h : isB s (skR s n) 40 = true) :
    simF s (k + 1) n = (match orF s k (skR s n + 1) with
      | .error e => .error e
      | .ok (f, p) => if isB s p 41 then .ok (f, p + 1) else .error p) := by
  rw [simF, if_pos h]; rfl
theorem sim_dia {s : List UInt8} {k n : Nat} (h : isB s (skR s n) 40 = false) (h1 : isB s (skR s n) 60 = true) (h2 : isB s (skR s n) 91 = false) :
    simF s (k + 1) n = mdP s k (skR s n + 1) false 62 (skR s n) := by
  rw [simF, h, h1, h2, mdP]; simp; rfl
theorem sim_box {s : List UInt8} {k n : Nat} (h : isB s (skR s n) 40 = false) (h2 : isB s (skR s n) 91 = true) :
    simF s (k + 1) n = mdP s k (skR s n + 1) true 93 (skR s n) := by
  rw [simF, h, h2, mdP]; simp; rfl
theorem sim_var {s : List UInt8} {k n : Nat} (h : isB s (skR s n) 40 = false) (h1 : isB s (skR s n) 60 = false) (h2 : isB s (skR s n) 91 = false)
    (t1 : cutS s (skR s n) (wordE s (skR s n)) ≠ wTrue) (t2 : cutS s (skR s n) (wordE s (skR s n)) ≠ wFalse) (t3 : cutS s (skR s n) (wordE s (skR s n)) ≠ wMu) (t4 : cutS s (skR s n) (wordE s (skR s n)) ≠ wNu) :
    simF s (k + 1) n = (match vrF s (skR s n) with | some (v, e) => .ok (.var v (skR s n), e) | none => .error (skR s n)) := by
  rw [simF, h, h1, h2]
  simp only [Bool.false_eq_true, ↓reduceIte, Bool.or_self, if_neg t1, if_neg t2, if_neg (show ¬ (_ ∨ _) from fun h => h.elim t3 t4)]
  rfl

theorem FmR.lift {P : Nat} {w w0 w' : World} {s : List UInt8} {n n0 : Nat} {f : Bool} {u : Int} {bound : List Int} {r : Except Nat (Fm × Nat)} {e : Ending} (h : FmR P w s n f u bound r e w') (hu : Upd [P] w0 w) (hn : n0 ≤ n) :
    FmR P w0 s n0 f u bound r e w' := by
  obtain ⟨h1, h2⟩ := h
  refine ⟨?_, hu.trans h2⟩
  cases r with
  | error a => exact h1
  | ok r =>
    obtain ⟨fm, p⟩ := r
    obtain ⟨v, out, a1, a2, a3, a4, a5⟩ := h1
    exact ⟨v, out, a1, row_base a2 hu.size, by omega, a4, a5⟩

set_option maxRecDepth 20000 in
set_option maxHeartbeats 8000000 in
theorem simParR (k P : Nat) (w : World) (s : List UInt8) (n : Nat) (f : Bool) (u : Int) (vb : Value)  (bound : List Int) (hs : s.length ≤ 400) (hR : RdAt P w s n f u)
    (t1 : cutS s (skR s n) (wordE s (skR s n)) ≠ wTrue) (t2 : cutS s (skR s n) (wordE s (skR s n)) ≠ wFalse) (t3 : cutS s (skR s n) (wordE s (skR s n)) ≠ wMu) (t4 : cutS s (skR s n) (wordE s (skR s n)) ≠ wNu)
    (h40 : isB s (skR s n) 40 = true)
    (hO : ∀ W n' f' u', n < n' → n' ≤ s.length → RdAt P W s n' f' u' → Upd [P] w W → Calls Tryz.prog 24 #[.pointer (some ⟨P, 0, none⟩), vb] W (FmR P W s n' f' u' bound (orF s k n'))) :
    Calls Tryz.prog 48 #[.pointer (some ⟨P, 0, none⟩), vb] w (FmR P w s n f u bound (simF s (k + 1) n)) := by
  have hPl := hR.lt
  have hnl := hR.le
  have hsk := skR_le (s := s) hnl
  have hid := skR_idem (s := s) hnl
  have S1 := peekR P w s n f u (by omega) hR
  have HX := Lib.hid (sim_par (k := k) h40)
  have hlt := isB_lt h40
  have H40 := Lib.hid h40
  have HO := Lib.hid hO
  clear h40 hO
  generalize simF s (k + 1) n = A at *
  generalize wordE s (skR s n) = we at *
  generalize skR s n = m at *
  have g1 : (cutS s m we == [116, 114, 117, 101]) = false := by simpa [wTrue] using t1
  have g2 : (cutS s m we == [102, 97, 108, 115, 101]) = false := by simpa [wFalse] using t2
  have g3 : (cutS s m we == [109, 117]) = false := by simpa [wMu] using t3
  have g4 : (cutS s m we == [110, 117]) = false := by simpa [wNu] using t4
  have hm1 := hsk.1
  have hm2 := hsk.2
  generalize cutS s m we = t at *
  have HS1 := Lib.hid S1
  have HID := Lib.hid hid
  clear S1 t1 t2 t3 t4 hR hsk hid
  go_enter Tryz.func48, Tryz.ntmps48
  go_wp2_with fail
  refine HS1.out.mono ?_
  rintro e w1 ⟨rfl, hr, hu⟩
  have B1 := byteR P w1 s m f u 40 (by omega) hr
  unfold ByR at B1
  rw [HID.out, show (((40 : UInt8).toNat : Nat) : Int) = 40 from rfl, H40.out] at B1
  have HB1 := Lib.hid B1
  have HU1 := Lib.hid hu
  clear hr hu B1 HS1
  go_wp2_with fail
  refine HB1.out.mono ?_
  rintro e w2 ⟨rfl, hr, hu'⟩
  simp only [↓reduceIte] at hr
  have hu := HU1.out.trans hu'
  clear HB1 HU1 hu'
  have O1 := HO.out w2 (m + 1) f u (by omega) (by omega) hr hu
  have HU2 := Lib.hid hu
  clear hr hu HO
  cases ho : orF s k (m + 1) with
  | error a =>
    rw [ho] at O1
    have HO1 := Lib.hid O1
    have HZ := Lib.hid (show A = .error a from by rw [HX.out, ho])
    clear O1 ho HX
    go_wp2_with fail
    refine HO1.out.mono ?_
    rintro e w3 ⟨rfl, hu3⟩
    have HU3 := Lib.hid (HU2.out.trans hu3)
    clear HO1 hu3
    go_wp2_with fail
    refine ⟨rfl, ?_⟩
    rw [HZ.out]
    exact ⟨rfl, HU3.out⟩
  | ok r =>
    obtain ⟨fm, p⟩ := r
    rw [ho] at O1
    have hp := orF_pos k _ fm p (by omega) ho
    have hp1 := hp.1
    have hp2 := hp.2.1
    have hp3 := Lib.hid hp.2.2
    have HO1 := Lib.hid O1
    have HY := Lib.hid (show A = (if isB s p 41 then .ok (fm, p + 1) else .error p) from by rw [HX.out, ho])
    clear O1 ho HX hp
    go_wp2_with fail
    refine HO1.out.mono ?_
    rintro e w3 ⟨⟨v, out, rfl, ho, hol, hr, he⟩, hu3⟩
    obtain ⟨av, cv, rfl⟩ := ownsRow_form ho
    have N1 := needR P w3 s p _ _ 41 (by omega) hr
    rw [hp3.out, show (((41 : UInt8).toNat : Nat) : Int) = 41 from rfl] at N1
    have HOW := Lib.hid ho
    have HE := Lib.hid he
    have HU3 := Lib.hid (HU2.out.trans hu3)
    have hsz2 := HU2.out.size
    clear HO1 ho hr he hu3 HU2
    cases hq : isB s p 41 with
    | false =>
      rw [hq] at N1
      have HZ := Lib.hid (show A = .error p from by rw [HY.out, hq]; rfl)
      simp only [Bool.false_eq_true, ↓reduceIte] at N1
      have HN1 := Lib.hid N1
      clear N1 HY hq
      go_wp2_with fail
      refine HN1.out.mono ?_
      rintro e w4 ⟨rfl, hu4⟩
      have HU4 := Lib.hid (HU3.out.trans hu4)
      clear HN1 hu4
      go_wp2_with fail
      refine ⟨rfl, ?_⟩
      rw [HZ.out]
      exact ⟨rfl, HU4.out⟩
    | true =>
      have hlt := isB_lt hq
      rw [hq] at N1
      have HZ := Lib.hid (show A = .ok (fm, p + 1) from by rw [HY.out, hq]; rfl)
      simp only [↓reduceIte] at N1
      have HN1 := Lib.hid N1
      clear N1 HY hq
      go_wp2_with fail
      refine HN1.out.mono ?_
      rintro e w4 ⟨⟨rfl, hr4⟩, hu4⟩
      have hPO := row_keepX HOW.out (fun g hg => hu4.block g (HOW.out.lt g hg).2 (fun hm => by
        have h1 := (HOW.out.lt g hg).1
        have h2 : g = P := by simpa using hm
        omega))
      have HO4 := Lib.hid (row_base (base' := w.heap.size) hPO hsz2)
      have HR4 := Lib.hid hr4
      have HU4 := Lib.hid (HU3.out.trans hu4)
      clear HN1 hr4 hu4 hPO HOW HU3
      go_wp2_with fail
      go_ret
      rw [HZ.out]
      exact ⟨⟨_, out, rfl, HO4.out, by omega, HR4.out, HE.out⟩, HU4.out⟩

set_option maxRecDepth 20000 in
set_option maxHeartbeats 8000000 in
theorem simDiaR (k P : Nat) (w : World) (s : List UInt8) (n : Nat) (f : Bool) (u : Int) (vb : Value) (fb : List Nat) (bound : List Int) (hs : s.length ≤ 400) (hR : RdAt P w s n f u)
    (t1 : cutS s (skR s n) (wordE s (skR s n)) ≠ wTrue) (t2 : cutS s (skR s n) (wordE s (skR s n)) ≠ wFalse) (t3 : cutS s (skR s n) (wordE s (skR s n)) ≠ wMu) (t4 : cutS s (skR s n) (wordE s (skR s n)) ≠ wNu)
    (h40 : isB s (skR s n) 40 = false) (h60 : isB s (skR s n) 60 = true) (h91 : isB s (skR s n) 91 = false)
    (hb : R1 fb w [vb] bound) (hbP : ∀ b ∈ fb, b ≠ P) (hbl : bound.length ≤ n) (hbx : ∀ x ∈ bound, 0 ≤ x ∧ x < 3) (hE : ∀ W, Upd [P] w W → Env W)
    (hI : ∀ W n' f' u', n < n' → n' ≤ s.length → RdAt P W s n' f' u' → Upd [P] w W → Calls Tryz.prog 48 #[.pointer (some ⟨P, 0, none⟩), vb] W (FmR P W s n' f' u' bound (simF s k n'))) :
    Calls Tryz.prog 48 #[.pointer (some ⟨P, 0, none⟩), vb] w (FmR P w s n f u bound (simF s (k + 1) n)) := by
  have hPl := hR.lt
  have hnl := hR.le
  have hsk := skR_le (s := s) hnl
  have hid := skR_idem (s := s) hnl
  have S1 := peekR P w s n f u (by omega) hR
  have HX := Lib.hid (sim_dia (k := k) h40 h60 h91)
  have hlt := isB_lt h60
  have H40 := Lib.hid h40
  have H60 := Lib.hid h60
  clear h40 h60 h91
  have HI := Lib.hid hI
  have HB := Lib.hid hb
  have HEN := Lib.hid hE
  clear hI hb hE
  generalize simF s (k + 1) n = A at *
  generalize wordE s (skR s n) = we at *
  generalize skR s n = m at *
  have g1 : (cutS s m we == [116, 114, 117, 101]) = false := by simpa [wTrue] using t1
  have g2 : (cutS s m we == [102, 97, 108, 115, 101]) = false := by simpa [wFalse] using t2
  have g3 : (cutS s m we == [109, 117]) = false := by simpa [wMu] using t3
  have g4 : (cutS s m we == [110, 117]) = false := by simpa [wNu] using t4
  have hm1 := hsk.1
  have hm2 := hsk.2
  generalize cutS s m we = t at *
  have HS1 := Lib.hid S1
  have HID := Lib.hid hid
  clear S1 t1 t2 t3 t4 hR hsk hid
  go_enter Tryz.func48, Tryz.ntmps48
  go_wp2_with fail
  refine HS1.out.mono ?_
  rintro e w1 ⟨rfl, hr, hu⟩
  have B1 := byteR P w1 s m f u 40 (by omega) hr
  unfold ByR at B1
  rw [HID.out, show (((40 : UInt8).toNat : Nat) : Int) = 40 from rfl, H40.out] at B1
  have HB1 := Lib.hid B1
  have HU1 := Lib.hid hu
  clear hr hu B1 HS1
  go_wp2_with fail
  refine HB1.out.mono ?_
  rintro e w2 ⟨rfl, hr, hu'⟩
  rw [if_neg (by decide)] at hr
  have hu := HU1.out.trans hu'
  clear HB1 HU1 hu'
  have B2 := byteR P w2 s m f u 60 (by omega) hr
  unfold ByR at B2
  rw [HID.out, show (((60 : UInt8).toNat : Nat) : Int) = 60 from rfl, H60.out] at B2
  have HB2 := Lib.hid B2
  have HU2 := Lib.hid hu
  clear hr hu B2 
  go_wp2_with fail
  refine HB2.out.mono ?_
  rintro e w3 ⟨rfl, hr, hu'⟩
  simp only [↓reduceIte] at hr
  have hu := HU2.out.trans hu'
  clear HB2 HU2 hu'
  have M1 := modalR k P w3 s (m + 1) f u vb fb bound false 62 62 m rfl rfl hs hr (fun W h => HEN.out W (hu.trans h)) (R1k.upd HB.out hu (fun b hb hm => hbP b hb (by simpa using hm))) hbP (by omega) hbx (fun W n' f' u' a1 a2 a3 a4 => HI.out W n' f' u' (by omega) a2 a3 (hu.trans a4))
  have HM1 := Lib.hid M1
  have HUL := Lib.hid hu
  clear M1 hr hu HI HB HEN
  go_wp2_with fail
  refine HM1.out.mono ?_
  rintro e wl hfm
  have hfl := FmR.lift hfm HUL.out (n0 := n) (by omega)
  rw [← HX.out] at hfl
  clear hfm HM1 HX HUL
  cases A with
  | error a =>
    obtain ⟨rfl, hul⟩ := hfl
    have HUL := Lib.hid hul
    clear hul
    go_wp2_with fail
    exact ⟨rfl, rfl, HUL.out⟩
  | ok r =>
    obtain ⟨fm, q⟩ := r
    obtain ⟨⟨v, out, rfl, h1, h2, h3, h4⟩, hul⟩ := hfl
    have HL := Lib.hid (show FmR P w s n f u bound (.ok (fm, q)) (.returned v) wl from ⟨⟨v, out, rfl, h1, h2, h3, h4⟩, hul⟩)
    clear h1 h2 h3 h4 hul
    go_wp2_with fail
    go_ret
    exact HL.out

set_option maxRecDepth 20000 in
set_option maxHeartbeats 8000000 in
theorem simBoxR (k P : Nat) (w : World) (s : List UInt8) (n : Nat) (f : Bool) (u : Int) (vb : Value) (fb : List Nat) (bound : List Int) (hs : s.length ≤ 400) (hR : RdAt P w s n f u)
    (t1 : cutS s (skR s n) (wordE s (skR s n)) ≠ wTrue) (t2 : cutS s (skR s n) (wordE s (skR s n)) ≠ wFalse) (t3 : cutS s (skR s n) (wordE s (skR s n)) ≠ wMu) (t4 : cutS s (skR s n) (wordE s (skR s n)) ≠ wNu)
    (h40 : isB s (skR s n) 40 = false) (h60 : isB s (skR s n) 60 = false) (h91 : isB s (skR s n) 91 = true)
    (hb : R1 fb w [vb] bound) (hbP : ∀ b ∈ fb, b ≠ P) (hbl : bound.length ≤ n) (hbx : ∀ x ∈ bound, 0 ≤ x ∧ x < 3) (hE : ∀ W, Upd [P] w W → Env W)
    (hI : ∀ W n' f' u', n < n' → n' ≤ s.length → RdAt P W s n' f' u' → Upd [P] w W → Calls Tryz.prog 48 #[.pointer (some ⟨P, 0, none⟩), vb] W (FmR P W s n' f' u' bound (simF s k n'))) :
    Calls Tryz.prog 48 #[.pointer (some ⟨P, 0, none⟩), vb] w (FmR P w s n f u bound (simF s (k + 1) n)) := by
  have hPl := hR.lt
  have hnl := hR.le
  have hsk := skR_le (s := s) hnl
  have hid := skR_idem (s := s) hnl
  have S1 := peekR P w s n f u (by omega) hR
  have HX := Lib.hid (sim_box (k := k) h40 h91)
  have hlt := isB_lt h91
  have H40 := Lib.hid h40
  have H60 := Lib.hid h60
  have H91 := Lib.hid h91
  clear h40 h60 h91
  have HI := Lib.hid hI
  have HB := Lib.hid hb
  have HEN := Lib.hid hE
  clear hI hb hE
  generalize simF s (k + 1) n = A at *
  generalize wordE s (skR s n) = we at *
  generalize skR s n = m at *
  have g1 : (cutS s m we == [116, 114, 117, 101]) = false := by simpa [wTrue] using t1
  have g2 : (cutS s m we == [102, 97, 108, 115, 101]) = false := by simpa [wFalse] using t2
  have g3 : (cutS s m we == [109, 117]) = false := by simpa [wMu] using t3
  have g4 : (cutS s m we == [110, 117]) = false := by simpa [wNu] using t4
  have hm1 := hsk.1
  have hm2 := hsk.2
  generalize cutS s m we = t at *
  have HS1 := Lib.hid S1
  have HID := Lib.hid hid
  clear S1 t1 t2 t3 t4 hR hsk hid
  go_enter Tryz.func48, Tryz.ntmps48
  go_wp2_with fail
  refine HS1.out.mono ?_
  rintro e w1 ⟨rfl, hr, hu⟩
  have B1 := byteR P w1 s m f u 40 (by omega) hr
  unfold ByR at B1
  rw [HID.out, show (((40 : UInt8).toNat : Nat) : Int) = 40 from rfl, H40.out] at B1
  have HB1 := Lib.hid B1
  have HU1 := Lib.hid hu
  clear hr hu B1 HS1
  go_wp2_with fail
  refine HB1.out.mono ?_
  rintro e w2 ⟨rfl, hr, hu'⟩
  rw [if_neg (by decide)] at hr
  have hu := HU1.out.trans hu'
  clear HB1 HU1 hu'
  have B2 := byteR P w2 s m f u 60 (by omega) hr
  unfold ByR at B2
  rw [HID.out, show (((60 : UInt8).toNat : Nat) : Int) = 60 from rfl, H60.out] at B2
  have HB2 := Lib.hid B2
  have HU2 := Lib.hid hu
  clear hr hu B2 
  go_wp2_with fail
  refine HB2.out.mono ?_
  rintro e w3 ⟨rfl, hr, hu'⟩
  rw [if_neg (by decide)] at hr
  have hu := HU2.out.trans hu'
  clear HB2 HU2 hu'
  have B3 := byteR P w3 s m f u 91 (by omega) hr
  unfold ByR at B3
  rw [HID.out, show (((91 : UInt8).toNat : Nat) : Int) = 91 from rfl, H91.out] at B3
  have HB3 := Lib.hid B3
  have HU3 := Lib.hid hu
  clear hr hu B3 
  go_wp2_with fail
  refine HB3.out.mono ?_
  rintro e w4 ⟨rfl, hr, hu'⟩
  simp only [↓reduceIte] at hr
  have hu := HU3.out.trans hu'
  clear HB3 HU3 hu'
  have M1 := modalR k P w4 s (m + 1) f u vb fb bound true 93 93 m rfl rfl hs hr (fun W h => HEN.out W (hu.trans h)) (R1k.upd HB.out hu (fun b hb hm => hbP b hb (by simpa using hm))) hbP (by omega) hbx (fun W n' f' u' a1 a2 a3 a4 => HI.out W n' f' u' (by omega) a2 a3 (hu.trans a4))
  have HM1 := Lib.hid M1
  have HUL := Lib.hid hu
  clear M1 hr hu HI HB HEN
  go_wp2_with fail
  refine HM1.out.mono ?_
  rintro e wl hfm
  have hfl := FmR.lift hfm HUL.out (n0 := n) (by omega)
  rw [← HX.out] at hfl
  clear hfm HM1 HX HUL
  cases A with
  | error a =>
    obtain ⟨rfl, hul⟩ := hfl
    have HUL := Lib.hid hul
    clear hul
    go_wp2_with fail
    exact ⟨rfl, rfl, HUL.out⟩
  | ok r =>
    obtain ⟨fm, q⟩ := r
    obtain ⟨⟨v, out, rfl, h1, h2, h3, h4⟩, hul⟩ := hfl
    have HL := Lib.hid (show FmR P w s n f u bound (.ok (fm, q)) (.returned v) wl from ⟨⟨v, out, rfl, h1, h2, h3, h4⟩, hul⟩)
    clear h1 h2 h3 h4 hul
    go_wp2_with fail
    go_ret
    exact HL.out

set_option maxRecDepth 20000 in
set_option maxHeartbeats 8000000 in
theorem simVarR (k P : Nat) (w : World) (s : List UInt8) (n : Nat) (f : Bool) (u : Int) (vb : Value) (fb : List Nat) (bound : List Int) (hs : s.length ≤ 400) (hR : RdAt P w s n f u)
    (t1 : cutS s (skR s n) (wordE s (skR s n)) ≠ wTrue) (t2 : cutS s (skR s n) (wordE s (skR s n)) ≠ wFalse) (t3 : cutS s (skR s n) (wordE s (skR s n)) ≠ wMu) (t4 : cutS s (skR s n) (wordE s (skR s n)) ≠ wNu)
    (h40 : isB s (skR s n) 40 = false) (h60 : isB s (skR s n) 60 = false) (h91 : isB s (skR s n) 91 = false) (hb : R1 fb w [vb] bound) (hbP : ∀ b ∈ fb, b ≠ P) :
    Calls Tryz.prog 48 #[.pointer (some ⟨P, 0, none⟩), vb] w (FmR P w s n f u bound (simF s (k + 1) n)) := by
  have hPl := hR.lt
  have hnl := hR.le
  have hsk := skR_le (s := s) hnl
  have hid := skR_idem (s := s) hnl
  have S1 := peekR P w s n f u (by omega) hR
  have HX := Lib.hid (sim_var (k := k) h40 h60 h91 t1 t2 t3 t4)
  have H40 := Lib.hid h40
  have H60 := Lib.hid h60
  have H91 := Lib.hid h91
  have HB := Lib.hid hb
  clear h40 h60 h91 hb
  generalize simF s (k + 1) n = A at *
  generalize wordE s (skR s n) = we at *
  generalize skR s n = m at *
  have g1 : (cutS s m we == [116, 114, 117, 101]) = false := by simpa [wTrue] using t1
  have g2 : (cutS s m we == [102, 97, 108, 115, 101]) = false := by simpa [wFalse] using t2
  have g3 : (cutS s m we == [109, 117]) = false := by simpa [wMu] using t3
  have g4 : (cutS s m we == [110, 117]) = false := by simpa [wNu] using t4
  have hm1 := hsk.1
  have hm2 := hsk.2
  generalize cutS s m we = t at *
  have HS1 := Lib.hid S1
  have HID := Lib.hid hid
  clear S1 t1 t2 t3 t4 hR hsk hid
  go_enter Tryz.func48, Tryz.ntmps48
  go_wp2_with fail
  refine HS1.out.mono ?_
  rintro e w1 ⟨rfl, hr, hu⟩
  have B1 := byteR P w1 s m f u 40 (by omega) hr
  unfold ByR at B1
  rw [HID.out, show (((40 : UInt8).toNat : Nat) : Int) = 40 from rfl, H40.out] at B1
  have HB1 := Lib.hid B1
  have HU1 := Lib.hid hu
  clear hr hu B1 HS1
  go_wp2_with fail
  refine HB1.out.mono ?_
  rintro e w2 ⟨rfl, hr, hu'⟩
  rw [if_neg (by decide)] at hr
  have hu := HU1.out.trans hu'
  clear HB1 HU1 hu'
  have B2 := byteR P w2 s m f u 60 (by omega) hr
  unfold ByR at B2
  rw [HID.out, show (((60 : UInt8).toNat : Nat) : Int) = 60 from rfl, H60.out] at B2
  have HB2 := Lib.hid B2
  have HU2 := Lib.hid hu
  clear hr hu B2 
  go_wp2_with fail
  refine HB2.out.mono ?_
  rintro e w3 ⟨rfl, hr, hu'⟩
  rw [if_neg (by decide)] at hr
  have hu := HU2.out.trans hu'
  clear HB2 HU2 hu'
  have B3 := byteR P w3 s m f u 91 (by omega) hr
  unfold ByR at B3
  rw [HID.out, show (((91 : UInt8).toNat : Nat) : Int) = 91 from rfl, H91.out] at B3
  have HB3 := Lib.hid B3
  have HU3 := Lib.hid hu
  clear hr hu B3 
  go_wp2_with fail
  refine HB3.out.mono ?_
  rintro e w4 ⟨rfl, hr, hu'⟩
  rw [if_neg (by decide)] at hr
  have hu := HU3.out.trans hu'
  clear HB3 HU3 hu'
  have c2 := hr.c2
  have V1 := varR P w4 s m f u (by omega) hr
  rw [HID.out] at V1
  have HV1 := Lib.hid V1
  have HU4 := Lib.hid hu
  clear hr hu V1
  go_wp2_with fail
  refine HV1.out.mono ?_
  rintro e w5 ⟨hv1, hv2, hu5⟩
  have hu05 := HU4.out.trans hu5
  clear HV1
  cases hv : vrF s m with
  | none =>
    have he := hv2 hv
    subst he
    have HZ := Lib.hid (show A = .error m from by rw [HX.out, hv])
    have HU5 := Lib.hid hu05
    clear hv1 hv2 hv HX hu05 hu5 HU4
    go_wp2_with fail
    refine ⟨rfl, ?_⟩
    rw [HZ.out]
    exact ⟨rfl, HU5.out⟩
  | some r =>
    obtain ⟨v, e0⟩ := r
    obtain ⟨he, hr5⟩ := hv1 v e0 hv
    subst he
    have hvp := vrF_pos hv
    have HZ := Lib.hid (show A = .ok (.var v m, e0) from by rw [HX.out, hv])
    have C1 := Lib.hid (containsI vb bound v w5 fb (R1k.upd HB.out hu05 (fun b hb hm => hbP b hb (by simpa using hm))))
    have HR5 := Lib.hid hr5
    have HU5 := Lib.hid hu05
    have hsz5 := hu05.size
    have c10 := hr5.c10
    have f10 : w5.frozen? ⟨P, 10, none⟩ = false := hr5.own.frozen (by simp) _
    clear hv1 hv2 hv HX hu05 hu5 HU4 hr5
    obtain ⟨q, hq⟩ : ∃ q, bound.contains v = q := ⟨_, rfl⟩
    rw [hq] at C1
    have HQ := Lib.hid hq
    clear hq
    cases q with
    | true =>
      have HR6 := Lib.hid (HR5.out.keep ((Upd.refl [] w5).alloc (.cells #[.int .i64 6, .int .i64 v, .string ⟨#[]⟩, .bool false] 58)))
      have HU6 := Lib.hid (HU5.out.alloc (.cells #[.int .i64 6, .int .i64 v, .string ⟨#[]⟩, .bool false] 58))
      have HL := Lib.hid (row_base (base' := w.heap.size) (litRowV w5 w5.heap.size rfl 6 v) hsz5)
      clear HR5 HU5
      go_wp2_with (go_at_call 61; refine C1.out.mono ?_; rintro e w6 ⟨rfl, rfl⟩)
      go_ret
      rw [HZ.out]
      refine ⟨⟨_, [ndV 6 v], rfl, HL.out, by simp; omega, ?_, fun o _ ho => by cases ho; rfl⟩, HU6.out⟩
      have h := HR6.out
      rw [show (f || (impF (.var v m) bound).isNone) = f by simp [impF], freF, if_pos HQ.out, uF_none]
      exact h
    | false =>
      by_cases hu0 : u < 0
      · have HR6 := Lib.hid ((HR5.out.putU m).keep ((Upd.refl [] _).alloc (.cells #[.int .i64 6, .int .i64 v, .string ⟨#[]⟩, .bool false] 58)))
        have HU6 := Lib.hid ((HU5.out.setCell (p := ⟨P, 10, none⟩) (Or.inr (by simp)) (.int .i64 m)).alloc (.cells #[.int .i64 6, .int .i64 v, .string ⟨#[]⟩, .bool false] 58))
        have HL := Lib.hid (row_base (base' := w.heap.size) (litRowV (w5.setCell ⟨P, 10, none⟩ (.int .i64 m)) w5.heap.size (by simp) 6 v) hsz5)
        have HU0 := Lib.hid hu0
        clear HR5 HU5
        go_wp2_with (go_at_call 61; refine C1.out.mono ?_; rintro e w6 ⟨rfl, rfl⟩)
        go_ret
        rw [HZ.out]
        refine ⟨⟨_, [ndV 6 v], rfl, HL.out, by simp; omega, ?_, fun o _ ho => by cases ho; rfl⟩, HU6.out⟩
        have h := HR6.out
        rw [show (f || (impF (.var v m) bound).isNone) = f by simp [impF], freF, if_neg (by rw [HQ.out]; decide), uF, if_pos HU0.out]
        exact h
      · have HR6 := Lib.hid (HR5.out.keep ((Upd.refl [] w5).alloc (.cells #[.int .i64 6, .int .i64 v, .string ⟨#[]⟩, .bool false] 58)))
        have HU6 := Lib.hid (HU5.out.alloc (.cells #[.int .i64 6, .int .i64 v, .string ⟨#[]⟩, .bool false] 58))
        have HL := Lib.hid (row_base (base' := w.heap.size) (litRowV w5 w5.heap.size rfl 6 v) hsz5)
        have HU0 := Lib.hid hu0
        clear HR5 HU5
        go_wp2_with (go_at_call 61; refine C1.out.mono ?_; rintro e w6 ⟨rfl, rfl⟩)
        go_ret
        rw [HZ.out]
        refine ⟨⟨_, [ndV 6 v], rfl, HL.out, by simp; omega, ?_, fun o _ ho => by cases ho; rfl⟩, HU6.out⟩
        have h := HR6.out
        rw [show (f || (impF (.var v m) bound).isNone) = f by simp [impF]]
        unfold uF
        rw [if_neg (by have := HU0.out; omega)]
        exact h

end Go.Proofs.YtaahjpmndkcijaaGreatDoor

/-
  Formulas parsed: the program reads a formula: the three readers together.
-/
namespace Go.Proofs.YtaahjpmndkcijaaGreatDoor
open Go.RowKit

set_option maxHeartbeats 1000000 in
theorem formR (s : List UInt8) (P : Nat) (hs : s.length ≤ 400) : ∀ (k n : Nat) (w : World) (f : Bool) (u : Int) (vb : Value) (fb : List Nat) (bound : List Int), RdAt P w s n f u → (∀ W, Upd [P] w W → Env W) →
    R1 fb w [vb] bound → (∀ b ∈ fb, b ≠ P) → bound.length ≤ n → (∀ x ∈ bound, 0 ≤ x ∧ x < 3) →
    (3 * (s.length - n) + 1 ≤ k → Calls Tryz.prog 48 #[.pointer (some ⟨P, 0, none⟩), vb] w (FmR P w s n f u bound (simF s k n))) ∧
    (3 * (s.length - n) + 2 ≤ k → Calls Tryz.prog 36 #[.pointer (some ⟨P, 0, none⟩), vb] w (FmR P w s n f u bound (andF s k n))) ∧
    (3 * (s.length - n) + 3 ≤ k → Calls Tryz.prog 24 #[.pointer (some ⟨P, 0, none⟩), vb] w (FmR P w s n f u bound (orF s k n)))
  | 0, n, w, f, u, vb, fb, bound, hR, hE, hb, hbP, hbl, hbx => ⟨fun h => absurd h (by omega), fun h => absurd h (by omega), fun h => absurd h (by omega)⟩
  | k + 1, n, w, f, u, vb, fb, bound, hR, hE, hb, hbP, hbl, hbx => by
    have hbu : ∀ W, Upd [P] w W → R1 fb W [vb] bound := fun W hu => R1k.upd hb hu (fun b hb hm => hbP b hb (by simpa using hm))
    have I := fun (n' : Nat) W f' u' (h1 : n < n') (h3 : RdAt P W s n' f' u') (h4 : Upd [P] w W) => formR s P hs k n' W f' u' vb fb bound h3 (fun W' h' => hE W' (h4.trans h')) (hbu W h4) hbP (by omega) hbx
    refine ⟨fun h => ?_, fun h => ?_, fun h => ?_⟩
    · have hI : ∀ W n' f' u', n < n' → n' ≤ s.length → RdAt P W s n' f' u' → Upd [P] w W → Calls Tryz.prog 48 #[.pointer (some ⟨P, 0, none⟩), vb] W (FmR P W s n' f' u' bound (simF s k n')) :=
        fun W n' f' u' h1 h2 h3 h4 => (I n' W f' u' h1 h3 h4).1 (by omega)
      have hO : ∀ W n' f' u', n < n' → n' ≤ s.length → RdAt P W s n' f' u' → Upd [P] w W → Calls Tryz.prog 24 #[.pointer (some ⟨P, 0, none⟩), vb] W (FmR P W s n' f' u' bound (orF s k n')) :=
        fun W n' f' u' h1 h2 h3 h4 => (I n' W f' u' h1 h3 h4).2.2 (by omega)
      have hJ : ∀ W n' f' u' vb' fb' bound', n < n' → n' ≤ s.length → RdAt P W s n' f' u' → Upd [P] w W → R1 fb' W [vb'] bound' → (∀ b ∈ fb', b ≠ P) → bound'.length ≤ n' → (∀ x ∈ bound', 0 ≤ x ∧ x < 3) →
          Calls Tryz.prog 48 #[.pointer (some ⟨P, 0, none⟩), vb'] W (FmR P W s n' f' u' bound' (simF s k n')) :=
        fun W n' f' u' vb' fb' bound' h1 h2 h3 h4 h5 h6 h7 h8 => (formR s P hs k n' W f' u' vb' fb' bound' h3 (fun W' h' => hE W' (h4.trans h')) h5 h6 h7 h8).1 (by omega)
      by_cases t1 : cutS s (skR s n) (wordE s (skR s n)) = wTrue
      · exact simLeafR k P w s n f u vb bound hs hR false t1
      by_cases t2 : cutS s (skR s n) (wordE s (skR s n)) = wFalse
      · exact simLeafR k P w s n f u vb bound hs hR true t2
      by_cases t3 : cutS s (skR s n) (wordE s (skR s n)) = wMu
      · exact simMuR k P w s n f u vb fb bound hs hR t3 hb hbP hbl hbx hJ
      by_cases t4 : cutS s (skR s n) (wordE s (skR s n)) = wNu
      · exact simNuR k P w s n f u vb fb bound hs hR t4 hb hbP hbl hbx hJ
      cases h40 : isB s (skR s n) 40 with
      | true => exact simParR k P w s n f u vb bound hs hR t1 t2 t3 t4 h40 hO
      | false =>
        cases h91 : isB s (skR s n) 91 with
        | true =>
          have h60 : isB s (skR s n) 60 = false := by
            have hlt := isB_lt h91
            rw [isB_at hlt] at h91 ⊢
            have : s[skR s n] = 91 := by simpa using h91
            rw [this]; decide
          exact simBoxR k P w s n f u vb fb bound hs hR t1 t2 t3 t4 h40 h60 h91 hb hbP hbl hbx hE hI
        | false =>
          cases h60 : isB s (skR s n) 60 with
          | true => exact simDiaR k P w s n f u vb fb bound hs hR t1 t2 t3 t4 h40 h60 h91 hb hbP hbl hbx hE hI
          | false => exact simVarR k P w s n f u vb fb bound hs hR t1 t2 t3 t4 h40 h60 h91 hb hbP
    · exact andR k P w s n f u vb bound hs hR ((formR s P hs k n w f u vb fb bound hR hE hb hbP hbl hbx).1 (by omega)) (fun W n' f' u' h1 h2 h3 h4 => (I n' W f' u' h1 h3 h4).2.1 (by omega))
    · exact orR k P w s n f u vb bound hs hR ((formR s P hs k n w f u vb fb bound hR hE hb hbP hbl hbx).2.1 (by omega)) (fun W n' f' u' h1 h2 h3 h4 => (I n' W f' u' h1 h3 h4).2.2 (by omega))

end Go.Proofs.YtaahjpmndkcijaaGreatDoor

/-
  Regular expressions parsed: the program's ParseRegular over a whole text.
-/
namespace Go.Proofs.YtaahjpmndkcijaaGreatDoor
open Go.RowKit

end Go.Proofs.YtaahjpmndkcijaaGreatDoor

/-
  Formulas parsed: the program's ParseFormula over a whole text.
-/
namespace Go.Proofs.YtaahjpmndkcijaaGreatDoor
open Go.RowKit

/-- the whole reading of a text. -/
def frmP (s : List UInt8) : Except Nat (Fm × Nat) := orF s (3 * s.length + 3) 0
/-- what both sides return. -/
def parsF (s : List UInt8) : List Nd × Int × Int :=
  if 400 < s.length then ([], 0, 2)
  else match frmP s with
    | .error a => ([], (a : Int), 8)
    | .ok (fm, p) =>
      if p < s.length then ([], (p : Int), 8)
      else match freF fm [] with
        | some o => ([], (o : Int), 3)
        | none => match bldF fm [] with
          | none => ([], 0, 5)
          | some o => (o, 0, 0)

/-- what is collected at C when the reading went well. -/
def KeptF (s : List UInt8) (C A : Nat) (V : World) : Prop :=
  ∀ fm p, frmP s = .ok (fm, p) → ∃ v fp out, V.cell? ⟨C, 0, none⟩ = some v ∧ R_F1 fp V [v] out ∧ out.length ≤ 400000 ∧ (∀ o, impF fm [] = some o → out = o) ∧ Own fp V ∧ ∀ b ∈ fp, A < b
def resF (s : List UInt8) : Except Nat (Nat × Bool × Int) :=
  match frmP s with
  | .error a => .error a
  | .ok (fm, p) => .ok (p, (impF fm []).isNone, uF (-1) (freF fm []))

set_option maxRecDepth 20000 in
set_option maxHeartbeats 4000000 in
theorem closF (P D C A : Nat) (W : World) (s : List UInt8) (hs : s.length ≤ 400) (hR : RdAt P W s 0 false (-1)) (hE : ∀ V, Upd [P] W V → Env V) (hD : W.cell? ⟨D, 0, none⟩ = some (.pointer (some ⟨P, 0, none⟩))) (hDP : D ≠ P) (hCP : C ≠ P)
    (hC : W.heap[C]? = some (.cells #[.slice none 0 0] 28)) (hA : A < W.heap.size) (hPA : P < A) :
    Calls Tryz.prog 23 #[.pointer (some ⟨D, 0, none⟩), .pointer (some ⟨C, 0, none⟩)] W (ClR P C s (resF s) (KeptF s C A) W) := by
  have hPl := hR.lt
  obtain ⟨f0, hb0, -, hb1⟩ : New R1 W W (.slice none 0 0) [] := New.nilF 1 _ _ _
  have S1 := (formR s P hs (3 * s.length + 3) 0 W false (-1) (.slice none 0 0) f0 [] hR hE hb0 (fun b hb e => by have := hb1 b hb; omega) (by simp) (by simp)).2.2 (by omega)
  have hPS := Lib.hid (fun x p (h : frmP s = .ok (x, p)) => orF_pos _ 0 x p (Nat.zero_le _) h)
  have hCl := heap_lt hC
  have HC := Lib.hid hC
  rw [show orF s (3 * s.length + 3) 0 = frmP s from rfl] at S1
  clear hE hR hC hb0 hb1
  cases he : frmP s with
  | error a =>
    rw [he] at S1
    have HX := Lib.hid (show resF s = .error a by unfold resF; rw [he])
    have HS := Lib.hid S1
    clear S1 hPS he
    go_enter Tryz.func23, Tryz.ntmps23
    go_wp2_with fail
    refine HS.out.mono ?_
    rintro e w1 ⟨rfl, hu⟩
    have HU := Lib.hid hu
    clear HS hu
    go_wp2_with fail
    refine ⟨rfl, ?_⟩
    rw [HX.out]
    exact ⟨rfl, HU.out.mono (by simp)⟩
  | ok r =>
    obtain ⟨x, p⟩ := r
    have HX := Lib.hid (show resF s = .ok (p, (impF x []).isNone, uF (-1) (freF x [])) by unfold resF; rw [he])
    have HK := Lib.hid (show ∀ V, (∃ v fp out, V.cell? ⟨C, 0, none⟩ = some v ∧ R_F1 fp V [v] out ∧ out.length ≤ 400000 ∧ (∀ o, impF x [] = some o → out = o) ∧ Own fp V ∧ ∀ b ∈ fp, A < b) → KeptF s C A V from fun V h x' p' h' => by rw [he] at h'; cases h'; exact h)
    have hp2 := (hPS.out x p he).2.1
    rw [he] at S1
    have HS := Lib.hid S1
    clear S1 hPS he
    go_enter Tryz.func23, Tryz.ntmps23
    go_wp2_with fail
    refine HS.out.mono ?_
    rintro e w2 ⟨⟨v, out, rfl, ho, hol, hr, he⟩, hu⟩
    obtain ⟨a2, cp2, rfl⟩ := ownsRow_form ho
    have hc2 := (hu.block C hCl (by simp; exact hCP)).trans HC.out
    have c2 : w2.cell? ⟨C, 0, none⟩ = some (.slice none 0 0) := by simp [World.cell?, hc2]
    have f2 : w2.frozen? ⟨C, 0, none⟩ = false := by simp [World.frozen?, hc2]
    obtain ⟨w3, hw3⟩ : ∃ w3, w2.setCell ⟨C, 0, none⟩ (.slice a2 out.length cp2) = w3 := ⟨_, rfl⟩
    have hv : Upd [C] w2 w3 := by rw [← hw3]; exact (Upd.refl _ _).setCell (Or.inr (by simp)) _
    have hc3 : w3.cell? ⟨C, 0, none⟩ = some (.slice a2 out.length cp2) := by rw [← hw3]; exact World.cell?_setCell_same _ _ _ c2
    obtain ⟨f3, q1, o3, g3, q4⟩ := Flat.ofOwns ho
    have r3 : R_F1 f3 w2 [.slice a2 out.length cp2] out := ⟨_, rfl, q1⟩
    have hfar : ∀ b ∈ f3, b ∉ [C] := fun b hb hm => by have := g3 b hb; simp at hm; omega
    have hol2 : out.length ≤ 400000 := by omega
    have HKV := Lib.hid (HK.out w3 ⟨_, f3, out, hc3, R_F1k.upd r3 hv hfar, hol2, fun o ho => he o rfl ho, o3.upd hv hfar, fun b hb => by have := g3 b hb; omega⟩)
    have HR3 := Lib.hid (hr.far hv (by simp; exact Ne.symm hCP))
    have HU3 := Lib.hid ((hu.mono (g := [P, C]) (by simp)).trans (hv.mono (by simp)))
    clear ho hol he q1 hu hv hc3 r3 o3 g3 q4 hfar hc2 HK hr HS
    go_wp2_with fail
    go_end0
    rw [HX.out]
    exact ⟨⟨rfl, HR3.out, HKV.out⟩, HU3.out⟩

set_option maxRecDepth 20000 in
set_option maxHeartbeats 4000000 in
theorem parseFI (s : List UInt8) (w : World) (hs : s.length ≤ 1048576) (hE : Env w) :
    Calls Tryz.prog 11 #[es s] w fun e w' => (∃ v, e = .returned (.tuple #[v, .int .i64 (parsF s).2.1, .int .i64 (parsF s).2.2]) ∧ New R_F1 w w' v (parsF s).1) ∧ Upd [] w w' := by
  by_cases hlong : 400 < s.length
  · have HX := Lib.hid (show parsF s = ([], 0, 2) by unfold parsF; rw [if_pos hlong])
    have hl : (400 : Int) < (s.length : Int) := by omega
    go_enter Tryz.func11, Tryz.ntmps11
    go_wp2_with fail
    go_ret3
    rw [HX.out]
    exact ⟨⟨_, rfl, New.nilF 4 _ _ _⟩, Upd.refl _ _⟩
  · have hl : ¬ (400 : Int) < (s.length : Int) := by omega
    go_enter Tryz.func11, Tryz.ntmps11
    go_upto_region 5 with (fail)
    obtain ⟨P, hP⟩ : ∃ P, w.heap.size = P := ⟨_, rfl⟩
    obtain ⟨w3, hw3⟩ : ∃ w3, w3 = ((w.alloc (.cells #[.string ⟨#[]⟩, .int .i64 0, .int .i64 0, .slice none 0 0, .slice none 0 0, .slice none 0 0, .slice none 0 0, .slice none 0 0, .slice none 0 0, .bool false, .int .i64 0] 46)).alloc (.cells #[.pointer (some ⟨w.heap.size, 0, none⟩)] 35)).alloc (.cells #[.slice none 0 0] 28) := ⟨_, rfl⟩
    have hu3 : Upd [] w w3 := by rw [hw3]; exact (((Upd.refl _ _).alloc _).alloc _).alloc _
    have hsz3 : w3.heap.size = P + 1 + 1 + 1 := by rw [hw3, ← hP]; simp
    have b0 : w3.heap[P]? = some (.cells #[.string ⟨#[]⟩, .int .i64 0, .int .i64 0, .slice none 0 0, .slice none 0 0, .slice none 0 0, .slice none 0 0, .slice none 0 0, .slice none 0 0, .bool false, .int .i64 0] 46) := by
      rw [hw3, Below.heap_alloc _ _ _ (by simp; omega), Below.heap_alloc _ _ _ (by simp; omega), ← hP]
      exact heap_alloc_new w _
    have b1 : w3.heap[P + 1]? = some (.cells #[.pointer (some ⟨P, 0, none⟩)] 35) := by
      have e1 : ∀ o, (w.alloc o).heap.size = P + 1 := fun o => by rw [← hP]; simp
      rw [hw3, Below.heap_alloc _ _ _ (by simp; omega), ← e1, hP]
      exact heap_alloc_new _ _
    have b2 : w3.heap[P + 1 + 1]? = some (.cells #[.slice none 0 0] 28) := by
      have e1 : ∀ o o', ((w.alloc o).alloc o').heap.size = P + 1 + 1 := fun o o' => by rw [← hP]; simp
      rw [hw3, ← e1]
      exact heap_alloc_new _ _
    have hr3 : RdAt P w3 [] 0 false 0 := by
      have hc : ∀ j, w3.cell? ⟨P, j, none⟩ = (#[.string ⟨#[]⟩, .int .i64 0, .int .i64 0, .slice none 0 0, .slice none 0 0, .slice none 0 0, .slice none 0 0, .slice none 0 0, .slice none 0 0, .bool false, .int .i64 0] : Array Value)[j]? := fun j => by simp [World.cell?, b0]
      exact ⟨⟨by simp, fun c hcc => (by obtain rfl : c = P := (by simpa using hcc); exact ⟨_, _, b0⟩)⟩, (hc 0).trans rfl, (hc 2).trans rfl, (hc 9).trans rfl, (hc 10).trans rfl, Nat.zero_le _⟩
    have hE3 : ∀ V, Upd [P] w3 V → Env V := fun V h => hE.upd (hu3.fresh h (fun b hb => Or.inl (by simp at hb; omega)))
    have d1 : ∀ V, Upd [P] w3 V → V.cell? ⟨P + 1, 0, none⟩ = some (.pointer (some ⟨P, 0, none⟩)) := fun V h => by
      rw [World.cell?_of_block (w := w3) (h.block (P + 1) (heap_lt b1) (by simp))]; simp [World.cell?, b1]
    have S1 := runR 23 #[.pointer (some ⟨P + 1, 0, none⟩), .pointer (some ⟨P + 1 + 1, 0, none⟩)] P (P + 1 + 1) w3 s (resF s) (KeptF s (P + 1 + 1) w3.heap.size) (by omega) hr3 (by omega)
      (fun args W => by go_simp)
      (fun W hr hu hsz => closF P (P + 1) (P + 1 + 1) w3.heap.size W s (by omega) hr (fun V h => hE3 V (hu.trans h)) (d1 W hu) (by omega) (by omega) ((hu.block _ (heap_lt b2) (by simp; omega)).trans b2) hsz (by omega))
      (fun V V' hk hu x p h => by
        obtain ⟨v, fp, out, h1, h2, h5, h6, h3, h4⟩ := hk x p h
        have hcl : P + 1 + 1 < V.heap.size := World.block_lt_of_cell? V _ h1
        have hd : ∀ b ∈ fp, b ∉ [P, w3.heap.size] := fun b hb hm => by have := h4 b hb; simp at hm; omega
        exact ⟨v, fp, out, (World.cell?_of_block (w := V) (hu.block _ hcl (by simp; omega))).trans h1, R_F1k.upd h2 hu hd, h5, h6, h3.upd hu hd, h4⟩)
    have HS := Lib.hid S1
    have HU3 := Lib.hid hu3
    have HPS := Lib.hid (fun x p (h : frmP s = .ok (x, p)) => orF_pos _ 0 x p (Nat.zero_le _) h)
    have D1 := Lib.hid (show ∀ V, Upd [P, P + 1 + 1] w3 V → V.cell? ⟨P + 1, 0, none⟩ = some (.pointer (some ⟨P, 0, none⟩)) from fun V h => by
      rw [World.cell?_of_block (w := w3) (h.block (P + 1) (heap_lt b1) (by simp))]; simp [World.cell?, b1])
    have d1 := d1 w3 (Upd.refl _ _)
    have HRG := Lib.hid (show parsF s = _ from by rw [parsF, if_neg hlong])
    rw [← hw3, hP]
    clear hw3 b0 b1 b2 hr3 hE3 hu3 S1
    cases he : frmP s with
    | error a =>
      have HX := Lib.hid (show parsF s = ([], (a : Int), 8) by rw [HRG.out, he])
      rw [show resF s = .error a by unfold resF; rw [he]] at HS
      clear HRG HPS he
      go_wp2_with fail
      refine HS.out.mono ?_
      rintro e w4 ⟨rfl, hu4⟩
      have HU4 := Lib.hid (HU3.out.fresh hu4 (fun b hb => Or.inl (by simp at hb; omega)))
      clear HS hu4
      go_wp2_with fail
      go_ret3
      rw [HX.out]
      exact ⟨⟨_, rfl, New.nilF 4 _ _ _⟩, HU4.out⟩
    | ok r =>
      obtain ⟨x, p⟩ := r
      have hp := HPS.out x p he
      have hp3 := hp.2.2
      have hp2 := hp.2.1
      rw [show resF s = .ok (p, (impF x []).isNone, uF (-1) (freF x [])) by unfold resF; rw [he]] at HS
      have HG2 := Lib.hid (show parsF s = (if p < s.length then (([], (p : Int), 8) : List Nd × Int × Int) else match freF x [] with | some o => (([], (o : Int), 3) : List Nd × Int × Int) | none => match bldF x [] with | none => (([], 0, 5) : List Nd × Int × Int) | some o => (o, 0, 0)) by rw [HRG.out, he])
      have HKR := Lib.hid (show ∀ V, KeptF s (P + 1 + 1) w3.heap.size V → ∃ v fp out, V.cell? ⟨P + 1 + 1, 0, none⟩ = some v ∧ R_F1 fp V [v] out ∧ out.length ≤ 400000 ∧ (∀ o, impF x [] = some o → out = o) ∧ Own fp V ∧ ∀ b ∈ fp, w3.heap.size < b from fun V h => h x p he)
      clear HRG HPS hp he
      by_cases hpl : p = s.length
      · have hc : skR s p = s.length := by rw [hp3, hpl]
        have HS2 := Lib.hid (HS.out.mono (R' := fun e w' => (e = .returned (.int .i64 (-1)) ∧ RdAt P w' s s.length (impF x []).isNone (uF (-1) (freF x [])) ∧ KeptF s (P + 1 + 1) w3.heap.size w') ∧ Upd [P, P + 1 + 1] w3 w') (by
          rintro e w4 ⟨h, hu⟩
          simp only [if_pos hc] at h
          exact ⟨h, hu⟩))
        have HG3 := Lib.hid (show parsF s = (match freF x [] with | some o => (([], (o : Int), 3) : List Nd × Int × Int) | none => match bldF x [] with | none => (([], 0, 5) : List Nd × Int × Int) | some o => (o, 0, 0)) by rw [HG2.out, if_neg (by omega)])
        clear HS hc HG2
        go_wp2_with fail
        refine HS2.out.mono ?_
        rintro e w4 ⟨⟨rfl, hr4, hk4⟩, hu4⟩
        have HU4 := Lib.hid (HU3.out.fresh hu4 (fun b hb => Or.inl (by simp at hb; omega)))
        have e1 := D1.out w4 hu4
        have e9 := hr4.c9
        have e10 := hr4.c10
        obtain ⟨v, fp, out, k1, k2, k5, k6, k3, k4⟩ := HKR.out w4 hk4
        cases hf : freF x [] with
        | some o =>
          have HX := Lib.hid (show parsF s = ([], (o : Int), 3) by rw [HG3.out, hf])
          rw [hf, show uF (-1) (some o) = (o : Int) from rfl] at e10
          clear HS2 hu4 hr4 hk4 HG3 HKR HU3 k1 k2 k3 k4 k5 k6 hf
          go_wp2_with fail
          go_region_held3 (fun w' => w'.cell? ⟨P + 1, 0, none⟩ = some (.pointer (some ⟨P, 0, none⟩)) ∧ w'.cell? ⟨P, 10, none⟩ = some (.int .i64 o)) (go_keep) (fail)
          all_goals
            have HU5 := Lib.hid HU4.out.drew
            clear HU4
            go_wp2_with fail
            go_ret3
            rw [HX.out]
            exact ⟨⟨_, rfl, New.nilF 4 _ _ _⟩, HU5.out⟩
        | none =>
          rw [hf, show uF (-1) none = -1 from rfl] at e10
          have HG4 := Lib.hid (show parsF s = (match fitF (impF x []) with | none => (([], 0, 5) : List Nd × Int × Int) | some o => (o, 0, 0)) by rw [HG3.out, hf, bld_imp])
          clear HG3 hf
          cases hi : impF x [] with
          | none =>
            have HX := Lib.hid (show parsF s = ([], 0, 5) by rw [HG4.out, hi]; rfl)
            rw [hi, show (none : Option (List Nd)).isNone = true from rfl] at e9
            clear HS2 hu4 hr4 hk4 HG4 HKR HU3 k1 k2 k3 k4 k5 k6 hi
            go_wp2_with fail
            go_ret3
            rw [HX.out]
            exact ⟨⟨_, rfl, New.nilF 4 _ _ _⟩, HU4.out⟩
          | some o =>
            have hout := k6 o hi
            subst hout
            rw [hi, show (some out : Option (List Nd)).isNone = false from rfl] at e9
            have HG5 := Lib.hid (show parsF s = (match (if out.length ≤ 30 then some out else none) with | none => (([], 0, 5) : List Nd × Int × Int) | some o => (o, 0, 0)) by rw [HG4.out, hi, fitF_some])
            obtain ⟨av, cv, rfl⟩ : ∃ a c, v = .slice a out.length c := by
              obtain ⟨v', hv, a, c, rfl, -⟩ := k2
              cases hv; exact ⟨a, c, rfl⟩
            by_cases h30 : 30 < out.length
            · have HX := Lib.hid (show parsF s = ([], 0, 5) by rw [HG5.out, if_neg (by omega)])
              have h30' : (30 : Int) < (out.length : Int) := by omega
              clear HS2 hu4 hr4 hk4 HG4 HG5 HKR HU3 k2 k3 k4 k5 k6 hi
              go_wp2_with fail
              go_ret3
              rw [HX.out]
              exact ⟨⟨_, rfl, New.nilF 4 _ _ _⟩, HU4.out⟩
            · have HX := Lib.hid (show parsF s = (out, 0, 0) by rw [HG5.out, if_pos (by omega)])
              have h30' : ¬ (30 : Int) < (out.length : Int) := by omega
              have HN := Lib.hid (show New R_F1 w w4 (.slice av out.length cv) out from ⟨fp, k2, k3, fun b hb => by have := k4 b hb; omega⟩)
              clear HS2 hu4 hr4 hk4 HG4 HG5 HKR HU3 k2 k3 k4 k5 k6 hi
              go_wp2_with fail
              go_ret3
              rw [HX.out]
              exact ⟨⟨_, rfl, HN.out⟩, HU4.out⟩
      · have hc : ¬ skR s p = s.length := by rw [hp3]; exact hpl
        have HX := Lib.hid (show parsF s = ([], (p : Int), 8) by rw [HG2.out, if_pos (by omega)])
        have HS2 := Lib.hid (HS.out.mono (R' := fun e w' => e = .returned (.int .i64 p) ∧ Upd [P, P + 1 + 1] w3 w') (by
          rintro e w4 ⟨h, hu⟩
          simp only [if_neg hc] at h
          rw [hp3] at h
          exact ⟨h, hu⟩))
        clear HS hc HG2 HKR
        go_wp2_with fail
        refine HS2.out.mono ?_
        rintro e w4 ⟨rfl, hu4⟩
        have HU4 := Lib.hid (HU3.out.fresh hu4 (fun b hb => Or.inl (by simp at hb; omega)))
        clear HS2 hu4
        go_wp2_with fail
        go_ret3
        rw [HX.out]
        exact ⟨⟨_, rfl, New.nilF 4 _ _ _⟩, HU4.out⟩

end Go.Proofs.YtaahjpmndkcijaaGreatDoor

/-
  The reference's checks of nodes and of a formula's shape: what the calls return.
-/
namespace Go.Proofs.YtaahjpmndkcijaaGreatDoor
open Go.RowKit

set_option maxRecDepth 20000 in
set_option maxHeartbeats 800000 in
theorem arityS (a : Int) (w : World) : Calls Tryz.prog 45 #[ei a] w fun e w' => e = .returned (.int .i64 (arS a)) ∧ w = w' := by
  by_cases h0 : a = 0
  · have HI := Lib.hid (show arS a = 0 by subst h0; rfl)
    have b0 : (a == 0) = true := by simpa using h0
    clear h0
    go_enter Tryz.func45, Tryz.ntmps45
    go_wp2_with fail
    go_ret
    exact ⟨by rw [HI.out]; rfl, rfl⟩
  · have b0 : (a == 0) = false := by simpa using h0
    by_cases h1 : a = 1
    · have HI := Lib.hid (show arS a = 0 by subst h1; rfl)
      have b1 : (a == 1) = true := by simpa using h1
      clear h1 h0
      go_enter Tryz.func45, Tryz.ntmps45
      go_wp2_with fail
      go_ret
      exact ⟨by rw [HI.out]; rfl, rfl⟩
    · have b1 : (a == 1) = false := by simpa using h1
      by_cases h6 : a = 6
      · have HI := Lib.hid (show arS a = 0 by subst h6; rfl)
        have b6 : (a == 6) = true := by simpa using h6
        clear h6 h0 h1
        go_enter Tryz.func45, Tryz.ntmps45
        go_wp2_with fail
        go_ret
        exact ⟨by rw [HI.out]; rfl, rfl⟩
      · have b6 : (a == 6) = false := by simpa using h6
        by_cases h2 : a = 2
        · have HI := Lib.hid (show arS a = 2 by subst h2; rfl)
          have b2 : (a == 2) = true := by simpa using h2
          clear h2 h0 h1 h6
          go_enter Tryz.func45, Tryz.ntmps45
          go_wp2_with fail
          go_ret
          exact ⟨by rw [HI.out]; rfl, rfl⟩
        · have b2 : (a == 2) = false := by simpa using h2
          by_cases h3 : a = 3
          · have HI := Lib.hid (show arS a = 2 by subst h3; rfl)
            have b3 : (a == 3) = true := by simpa using h3
            clear h3 h0 h1 h6 h2
            go_enter Tryz.func45, Tryz.ntmps45
            go_wp2_with fail
            go_ret
            exact ⟨by rw [HI.out]; rfl, rfl⟩
          · have b3 : (a == 3) = false := by simpa using h3
            have HI := Lib.hid (show arS a = 1 by unfold arS; rw [if_neg (by omega), if_neg (by omega)])
            clear h0 h1 h6 h2 h3
            go_enter Tryz.func45, Tryz.ntmps45
            go_wp2_with fail
            go_ret
            exact ⟨by rw [HI.out]; rfl, rfl⟩

set_option maxRecDepth 20000 in
set_option maxHeartbeats 2000000 in
theorem patS (s : List UInt8) (w : World) (hl : s.length ≤ 2000000) : Calls Tryz.prog 64 #[es s] w fun e w' => e = .returned (.bool (patF s)) ∧ Upd [] w w' := by
  have S1 := Lib.hid (labelS s w hl)
  have HP := Lib.hid (show patF s = (s == [] || isLab s || (s.getLast? == some 42 && actF s.dropLast)) from rfl)
  by_cases h0 : s = []
  · subst h0
    have HR := Lib.hid (show patF [] = true from rfl)
    clear S1 HP
    go_enter Tryz.func64, Tryz.ntmps64
    go_wp2_with fail
    go_ret
    exact ⟨by rw [HR.out]; rfl, Upd.refl _ _⟩
  · have b0 : (s == ([] : List UInt8)) = false := by simpa using h0
    cases hlab : isLab s with
    | true =>
      rw [hlab] at S1
      have HR := Lib.hid (show patF s = true by rw [HP.out, hlab]; simp)
      clear HP hlab h0
      go_enter Tryz.func64, Tryz.ntmps64
      go_wp2_with fail
      refine S1.out.mono ?_
      rintro e w1 ⟨rfl, hu⟩
      have HU := Lib.hid hu
      clear S1 hu
      go_wp2_with fail
      go_ret
      exact ⟨by rw [HR.out]; rfl, HU.out⟩
    | false =>
      rw [hlab] at S1
      obtain ⟨l, x, rfl⟩ : ∃ l x, s = l ++ [x] := by
        rcases List.eq_nil_or_concat s with h | ⟨l, x, h⟩
        · exact absurd h h0
        · exact ⟨l, x, by rw [h]; simp⟩
      have HR := Lib.hid (show patF (l ++ [x]) = (x == 42 && actF l) by rw [HP.out, hlab, b0]; simp)
      have hlen : (l ++ [x]).length = l.length + 1 := by simp
      have hll : l.length ≤ 2000000 := by rw [hlen] at hl; omega
      have S2 := Lib.hid (fun W => actionS l W hll)
      have hext := extract_list (l ++ [x]) 0 l.length
      have e1 : ((l ++ [x]).drop 0).take (l.length - 0) = l := by simp
      rw [e1] at hext
      have hix : (⟨(l ++ [x]).toArray⟩ : ByteArray)[l.length]'(by simp [ByteArray.size]) = x := by simp [ByteArray.getElem_eq_getElem_data]
      have hm1 : ((l.length : Int) + 1) - 1 = (l.length : Int) := by omega
      have hm4 : (l.length : Int) ≤ (l.length : Int) + 1 := by omega
      have hzz : l.length < (l ++ [x]).length := by omega
      clear HP hlab h0 e1
      obtain ⟨S, hS⟩ : ∃ S, S = l ++ [x] := ⟨_, rfl⟩
      have hix2 : ∃ hh, (⟨S.toArray⟩ : ByteArray)[l.length]'hh = x := by subst hS; exact ⟨_, hix⟩
      rw [← hS] at S1 HR hlen hext b0 hzz hl
      rw [← hS]
      clear hix hS
      obtain ⟨hh, hix⟩ := hix2
      by_cases hx : x = 42
      · have bx : ((x.toNat : Int) == 42) = true := by rw [hx]; rfl
        have HR2 := Lib.hid (show patF S = actF l by rw [HR.out, hx]; simp)
        clear HR hx
        generalize actF l = q at *
        go_enter Tryz.func64, Tryz.ntmps64
        go_wp2_with fail
        refine S1.out.mono ?_
        rintro e w1 ⟨rfl, hu⟩
        have HU := Lib.hid hu
        clear S1 hu
        go_wp2_with fail
        refine (S2.out _).mono ?_
        rintro e w2 ⟨rfl, rfl⟩
        clear S2
        go_wp2_with fail
        go_ret
        exact ⟨by rw [HR2.out]; rfl, HU.out⟩
      · have bx : ((x.toNat : Int) == 42) = false := by
          simp; intro h; apply hx; exact UInt8.toNat_inj.1 (by rw [show (42 : UInt8).toNat = 42 from rfl]; omega)
        have HR2 := Lib.hid (show patF S = false by rw [HR.out]; simp [hx])
        clear HR hx S2
        go_enter Tryz.func64, Tryz.ntmps64
        go_wp2_with fail
        refine S1.out.mono ?_
        rintro e w1 ⟨rfl, hu⟩
        have HU := Lib.hid hu
        clear S1 hu
        go_wp2_with fail
        go_ret
        exact ⟨by rw [HR2.out]; rfl, HU.out⟩

end Go.Proofs.YtaahjpmndkcijaaGreatDoor

/-
  Regular expressions parsed: the reference reads a pattern.
-/
namespace Go.Proofs.YtaahjpmndkcijaaGreatDoor
open Go.RowKit

set_option maxRecDepth 20000 in
set_option maxHeartbeats 1000000 in
theorem isBS (s : List UInt8) (n : Nat) (c : UInt8) (z : Int) (hz : z = c.toNat) (w : World) (_hs : s.length ≤ 2000000) (hn : n ≤ s.length) :
    Calls Tryz.prog 28 #[es s, .int .i64 n, .int .u8 z] w fun e w' => e = .returned (.bool (isB s n c)) ∧ w = w' := by
  by_cases hlt : n < s.length
  · obtain ⟨b, hb⟩ : ∃ b, s[n] = b := ⟨_, rfl⟩
    have hix : (⟨s.toArray⟩ : ByteArray)[n]'(by simpa [ByteArray.size] using hlt) = b := by rw [← hb]; simp [ByteArray.getElem_eq_getElem_data]
    have hkl : (n : Int) < (s.length : Int) := by omega
    rw [isB_at hlt, hb]
    have hq := byteU b c.toNat c.toNat_lt
    rw [show UInt8.ofNat c.toNat = c by simp, ← hz] at hq
    obtain ⟨q, hqq⟩ : ∃ q, (b == c) = q := ⟨_, rfl⟩
    rw [hqq] at hq ⊢
    clear hb hqq hz
    go_enter Tryz.func28, Tryz.ntmps28
    go_wp2_with fail
    go_ret
    exact ⟨rfl, rfl⟩
  · have hf : isB s n c = false := by unfold isB; rw [List.getElem?_eq_none (by omega)]; rfl
    obtain rfl : n = s.length := by omega
    rw [hf]
    go_enter Tryz.func28, Tryz.ntmps28
    go_wp2_with fail
    go_ret
    exact ⟨rfl, rfl⟩

/-- a test's pattern, the reference's way. -/
def tokF (s : List UInt8) (n : Nat) : Option (List UInt8 × Nat) := if isB s n 95 then some ([], n + 1) else labF s n

set_option maxRecDepth 20000 in
set_option maxHeartbeats 4000000 in
theorem tokenS (s : List UInt8) (m : Nat) (w : World) (hs : s.length ≤ 1000000) (hm : m ≤ s.length) :
    Calls Tryz.prog 50 #[es s, .int .i64 m] w fun e w' => (∃ (t : List UInt8) (q : Nat) (b : Bool), e = .returned (.tuple #[es t, .int .i64 q, .bool b]) ∧ Hid (tokF s m = if b then some (t, q) else none)) ∧ Upd [] w w' := by
  by_cases hlt : m < s.length
  · obtain ⟨b, hb⟩ : ∃ b, s[m] = b := ⟨_, rfl⟩
    have hix : (⟨s.toArray⟩ : ByteArray)[m]'(by simpa [ByteArray.size] using hlt) = b := by rw [← hb]; simp [ByteArray.getElem_eq_getElem_data]
    have hkl : (m : Int) < (s.length : Int) := by omega
    have hq := byteU b 95 (by omega)
    rw [show ((95 : Nat) : Int) = 95 from rfl, show UInt8.ofNat 95 = 95 from rfl] at hq
    cases h95 : (b == (95 : UInt8)) with
    | true =>
      rw [h95] at hq
      have HX := Lib.hid (show tokF s m = some ([], m + 1) by unfold tokF; rw [isB_at hlt, hb, h95]; rfl)
      clear hb h95
      go_enter Tryz.func50, Tryz.ntmps50
      go_wp2_with fail
      go_ret3
      exact ⟨⟨[], m + 1, true, by first | rfl | (simp; rfl), HX⟩, Upd.refl _ _⟩
    | false =>
      rw [h95] at hq
      have HX := Lib.hid (show tokF s m = labF s m by unfold tokF; rw [isB_at hlt, hb, h95]; rfl)
      have M1 := Lib.hid (smallS b w)
      cases hsm : sml b with
      | false =>
        rw [hsm] at M1
        have HY := Lib.hid (show tokF s m = none by rw [HX.out, labF_no (by rw [List.getElem?_eq_getElem hlt, hb]; exact hsm)])
        clear hb h95 HX hsm
        go_enter Tryz.func50, Tryz.ntmps50
        go_wp2_with fail
        refine M1.out.mono ?_
        rintro e w1 ⟨rfl, rfl⟩
        clear M1
        go_wp2_with fail
        go_ret3
        exact ⟨⟨[], m, false, rfl, HY⟩, Upd.refl _ _⟩
      | true =>
        obtain ⟨hZ1, hZ2, hZ3, hLF⟩ := labF_eq hlt (by rw [hb]; exact hsm)
        rw [hsm] at M1
        have HLF := Lib.hid (HX.out.trans hLF)
        obtain ⟨Z, hZ⟩ : ∃ Z, wordE s m = Z := ⟨_, rfl⟩
        have HZ := Lib.hid (show runE wch s m = Z by
          rw [runE_step hlt, if_pos (by rw [hb]; unfold wch; rw [hsm]; rfl), ← hZ3, hZ])
        rw [hZ] at hZ1 hZ2 HLF
        generalize tokF s m = LS at *
        clear hZ3 hLF hZ hb h95 HX hsm
        go_enter Tryz.func50, Tryz.ntmps50
        go_wp2_with fail
        refine M1.out.mono ?_
        rintro e w1 ⟨rfl, hww⟩
        subst hww
        clear M1
        go_upto_block 0 with (fail)
        go_cut [7] (fun s7 wx => s7 = .int .i64 Z ∧ wx = w)
        case first =>
          clear HLF
          have HST := Lib.hid (fun k (h : k < s.length) => runE_step (p := wch) h)
          have HEN := Lib.hid (runE_end (p := wch) (s := s))
          have HSM := Lib.hid smallS
          have HDG := Lib.hid digitS
          go_wp2_with fail
          go_loopw [7] (fun iv wr => ∃ k : Nat, k ≤ s.length ∧ iv = .int .i64 k ∧ Hid (runE wch s k = Z) ∧ wr = w) (fun iv _ => s.length - (intOf iv).toNat)
          case atStart => exact ⟨m, hm, rfl, HZ, rfl⟩
          case round =>
            clear HZ
            obtain ⟨wo, rfl⟩ : ∃ wo : World, wo = wr := ⟨_, rfl⟩
            obtain ⟨k, hk, rfl, HZ, hww⟩ := hrel
            subst hww
            by_cases hlk : k < s.length
            · obtain ⟨c, hc⟩ : ∃ c, s[k] = c := ⟨_, rfl⟩
              have hixk : (⟨s.toArray⟩ : ByteArray)[k]'(by simpa [ByteArray.size] using hlk) = c := by rw [← hc]; simp [ByteArray.getElem_eq_getElem_data]
              have hkk : (k : Int) < (s.length : Int) := by omega
              have h1 := HST.out k hlk
              rw [hc, HZ.out] at h1
              have A1 := Lib.hid (HSM.out c wo)
              have A2 := Lib.hid (HDG.out c wo)
              have HW := Lib.hid (show wch c = (sml c || isDig c) from rfl)
              clear hc HST HEN HZ HSM HDG
              cases hs1 : sml c with
              | true =>
                rw [hs1] at A1 HW
                have HX := Lib.hid (show runE wch s (k + 1) = Z by rw [h1, if_pos (by rw [HW.out]; rfl)])
                clear h1 HW A2 hs1
                go_wp2_with fail
                refine A1.out.mono ?_
                rintro e w2 ⟨rfl, rfl⟩
                clear A1
                go_wp2_with fail
                go_roundw
                case rel => exact ⟨k + 1, by omega, by go_num, HX, by first | rfl | trivial⟩
                case measure => simp [intOf]; omega
              | false =>
                rw [hs1] at A1 HW
                cases hd1 : isDig c with
                | true =>
                  rw [hd1] at A2 HW
                  have HX := Lib.hid (show runE wch s (k + 1) = Z by rw [h1, if_pos (by rw [HW.out]; rfl)])
                  clear h1 HW hs1 hd1
                  go_wp2_with fail
                  refine A1.out.mono ?_
                  rintro e w2 ⟨rfl, rfl⟩
                  clear A1
                  go_wp2_with fail
                  refine A2.out.mono ?_
                  rintro e w2 ⟨rfl, rfl⟩
                  clear A2
                  go_wp2_with fail
                  go_roundw
                  case rel => exact ⟨k + 1, by omega, by go_num, HX, by first | rfl | trivial⟩
                  case measure => simp [intOf]; omega
                | false =>
                  rw [hd1] at A2 HW
                  have HX := Lib.hid (show Z = k by rw [h1, if_neg (by rw [HW.out]; decide)])
                  clear h1 HW hs1 hd1
                  go_wp2_with fail
                  refine A1.out.mono ?_
                  rintro e w2 ⟨rfl, rfl⟩
                  clear A1
                  go_wp2_with fail
                  refine A2.out.mono ?_
                  rintro e w2 ⟨rfl, rfl⟩
                  clear A2
                  go_wp2_with fail
                  go_meet
                  exact ⟨by rw [HX.out], rfl⟩
            · obtain rfl : k = s.length := by omega
              have HX := Lib.hid (show Z = s.length by rw [← HZ.out, HEN.out])
              clear HST HEN HZ HSM HDG
              go_wp2_with fail
              go_meet
              exact ⟨by rw [HX.out], rfl⟩
        case rest =>
          obtain ⟨rfl, hww⟩ := hcut
          replace hww := hww.symm
          subst hww
          clear HZ
          have I1 := Lib.hid (fun W => isBS s Z 40 40 rfl W (by omega) hZ2)
          obtain ⟨q4, hq4⟩ : ∃ q, isB s Z 40 = q := ⟨_, rfl⟩
          rw [hq4] at I1 HLF
          have hx1 := runE_le (p := (· != (41 : UInt8))) hZ2
          obtain ⟨c, hc⟩ : ∃ c, runE (· != 41) s Z = c := ⟨_, rfl⟩
          have HC := Lib.hid hc
          rw [hc] at HLF hx1
          have hextn : (⟨s.toArray⟩ : ByteArray).extract m Z = ⟨(cutS s m Z).toArray⟩ := extract_list s m Z
          have hnl : (cutS s m Z).length ≤ 1000000 := by rw [cutS_len hZ2]; omega
          have hmZ : (m : Int) ≤ (Z : Int) := by omega
          have hZl : (Z : Int) ≤ (s.length : Int) := by omega
          obtain ⟨E, hE1, hE2, hEE⟩ : ∃ E : Nat, Z ≤ E ∧ E ≤ s.length ∧ Hid ((q4 = false → E = Z) ∧ (q4 = true → c < s.length → E = c + 1)) := by
            cases q4 with
            | false => exact ⟨Z, Nat.le_refl _, hZ2, Lib.hid ⟨(fun _ => rfl), (fun h => nomatch h)⟩⟩
            | true =>
              by_cases hcl : c < s.length
              · exact ⟨c + 1, by omega, by omega, Lib.hid ⟨(fun h => nomatch h), (fun _ _ => rfl)⟩⟩
              · exact ⟨Z, Nat.le_refl _, hZ2, Lib.hid ⟨(fun h => nomatch h), (fun _ h => absurd h hcl)⟩⟩
          have HLF2 := Lib.hid (show q4 = true → ¬ c < s.length → LS = none from fun h1 h2 => by rw [HLF.out, h1, if_pos rfl, if_neg h2])
          have HLF3 := Lib.hid (show (q4 = true → c < s.length) → LS = (if (labQ (cutS s m Z) (cutS s m E) != []) && patF (labQ (cutS s m Z) (cutS s m E)) then some (labQ (cutS s m Z) (cutS s m E), E) else none) from fun h => by
            rw [HLF.out]
            cases q4 with
            | false => rw [hEE.out.1 rfl, if_neg (by decide)]
            | true => rw [hEE.out.2 rfl (h rfl), if_pos rfl, if_pos (h rfl)])
          have HPT := Lib.hid (fun (t : List UInt8) (h : t.length ≤ 2000000) => patS t w h)
          clear hc hq4 HLF
          go_upto_region 11 with (fail)
          clear hextn
          go_wp2_with fail
          refine (I1.out _).mono ?_
          rintro e w1 ⟨rfl, hww⟩
          subst hww
          clear I1
          go_upto_if 52 with (fail)
          go_cut [7] (fun s7 wx => s7 = .int .i64 E ∧ (q4 = true → c < s.length) ∧ wx = w)
          case first =>
            clear HLF3 HPT
            cases q4 with
            | false =>
              have HX := Lib.hid (hEE.out.1 rfl)
              clear HLF2 hEE HC
              go_wp2_with fail
              go_meet
              exact ⟨by rw [HX.out], (fun h => nomatch h), rfl⟩
            | true =>
              have HST := Lib.hid (fun k (h : k < s.length) => runE_step (p := (· != (41 : UInt8))) h)
              have HEN := Lib.hid (runE_end (p := (· != (41 : UInt8))) (s := s))
              go_wp2_with fail
              go_loopw [7] (fun iv wr => ∃ k : Nat, k ≤ s.length ∧ iv = .int .i64 k ∧ Hid (runE (· != 41) s k = c) ∧ wr = w) (fun iv _ => s.length - (intOf iv).toNat)
              case atStart => exact ⟨Z, hZ2, rfl, HC, rfl⟩
              case round =>
                clear HC
                obtain ⟨wo, rfl⟩ : ∃ wo : World, wo = wr := ⟨_, rfl⟩
                obtain ⟨k, hk, rfl, HC, hww⟩ := hrel
                subst hww
                by_cases hlk : k < s.length
                · obtain ⟨y, hy⟩ : ∃ y, s[k] = y := ⟨_, rfl⟩
                  have hixk : (⟨s.toArray⟩ : ByteArray)[k]'(by simpa [ByteArray.size] using hlk) = y := by rw [← hy]; simp [ByteArray.getElem_eq_getElem_data]
                  have hkk : (k : Int) < (s.length : Int) := by omega
                  have h1 := HST.out k hlk
                  rw [hy, HC.out] at h1
                  have hqy := byteU y 41 (by omega)
                  rw [show ((41 : Nat) : Int) = 41 from rfl, show UInt8.ofNat 41 = 41 from rfl] at hqy
                  obtain ⟨q, hq'⟩ : ∃ q, (y == (41 : UInt8)) = q := ⟨_, rfl⟩
                  rw [hq'] at hqy
                  have hne : ((y.toNat : Int) != 41) = !q := by rw [bne, hqy]
                  have hpn : (y != (41 : UInt8)) = !q := by rw [bne, hq']
                  rw [hpn] at h1
                  clear hy hq' hpn HST HEN HC
                  cases q with
                  | false =>
                    have HX := Lib.hid (show runE (· != 41) s (k + 1) = c by rw [h1]; rfl)
                    clear h1
                    go_wp2_with fail
                    go_roundw
                    case rel => exact ⟨k + 1, by omega, by go_num, HX, by first | rfl | trivial⟩
                    case measure => simp [intOf]; omega
                  | true =>
                    have HX := Lib.hid (show c = k by rw [h1]; rfl)
                    have HE9 := Lib.hid (show E = k + 1 by rw [hEE.out.2 (by trivial) (by rw [HX.out]; exact hlk), HX.out])
                    have hkne : ((k : Int) == (s.length : Int)) = false := by rw [beq_eq_false_iff_ne]; omega
                    clear h1 HLF2 hEE
                    go_wp2_with fail
                    go_meet
                    exact ⟨by rw [HE9.out]; go_num, (fun _ => by rw [HX.out]; exact hlk), rfl⟩
                · obtain rfl : k = s.length := by omega
                  have HX := Lib.hid (show LS = none from HLF2.out (by trivial) (by rw [← HC.out, HEN.out]; omega))
                  clear HST HEN HC HLF2 hEE
                  go_wp2_with fail
                  go_ret3
                  exact ⟨⟨[], m, false, rfl, HX⟩, Upd.refl _ _⟩
          case rest =>
            obtain ⟨rfl, hqc, hww⟩ := hcut
            replace hww := hww.symm
            subst hww
            have HLS := Lib.hid (HLF3.out hqc)
            clear HLF2 HLF3 hqc hEE HC hx1
            have hextl : (⟨s.toArray⟩ : ByteArray).extract m E = ⟨(cutS s m E).toArray⟩ := extract_list s m E
            have hll : (cutS s m E).length ≤ 1000000 := by rw [cutS_len hE2]; omega
            have hl0 : 0 < (cutS s m E).length := by rw [cutS_len hE2]; omega
            have hmE : (m : Int) ≤ (E : Int) := by omega
            have hEl : (E : Int) ≤ (s.length : Int) := by omega
            have hn0 : 0 < (cutS s m Z).length := by rw [cutS_len hZ2]; omega
            generalize cutS s m E = lb at *
            generalize cutS s m Z = nm at *
            obtain ⟨NX, hNX⟩ : ∃ NX, nm ++ [40, 42, 41] = NX := ⟨_, rfl⟩
            obtain ⟨NY, hNY⟩ : ∃ NY, nm ++ [42] = NY := ⟨_, rfl⟩
            have hcatX : (ByteArray.mk nm.toArray ++ ⟨#[40, 42, 41]⟩) = ByteArray.mk NX.toArray := by rw [← hNX]; exact ByteArray.mk_append_mk nm [40, 42, 41]
            have hcatY : (ByteArray.mk nm.toArray ++ ⟨#[42]⟩) = ByteArray.mk NY.toArray := by rw [← hNY]; exact ByteArray.mk_append_mk nm [42]
            have hz1 : ¬ (9223372036854775807 < nm.length + 3) := by omega
            have hz2 : ¬ (9223372036854775807 < nm.length + 1) := by omega
            have hNYl : NY.length ≤ 2000000 := by rw [← hNY]; simp; omega
            have hNY0 : (NY == ([] : List UInt8)) = false := by rw [← hNY]; simp
            have hlb0 : (lb == ([] : List UInt8)) = false := by rw [beq_eq_false_iff_ne]; intro h; rw [h] at hl0; simp at hl0
            obtain ⟨q7, hq7⟩ : ∃ q, (lb == NX) = q := ⟨_, rfl⟩
            have HLQ := Lib.hid (show labQ nm lb = if q7 then NY else lb by unfold labQ; rw [hNX, hNY, ← hq7]; by_cases h : lb = NX <;> simp [h])
            rw [HLQ.out] at HLS
            clear hNX hNY HLQ hn0 hl0
            cases q7 with
            | true =>
              rw [if_pos rfl, show (NY != ([] : List UInt8)) = true by rw [bne, hNY0]; rfl, Bool.true_and] at HLS
              have P1 := Lib.hid (HPT.out NY hNYl)
              generalize patF NY = pq at *
              clear HPT
              go_wp2_with fail
              refine P1.out.mono ?_
              rintro e w1 ⟨rfl, hu⟩
              have HU := Lib.hid hu
              clear P1 hu
              go_wp2_with fail
              go_ret3
              exact ⟨⟨NY, E, pq, rfl, HLS⟩, HU.out⟩
            | false =>
              rw [if_neg (show ¬ (false = true) by decide), show (lb != ([] : List UInt8)) = true by rw [bne, hlb0]; rfl, Bool.true_and] at HLS
              have P1 := Lib.hid (HPT.out lb (by omega))
              generalize patF lb = pq at *
              clear HPT
              go_wp2_with fail
              refine P1.out.mono ?_
              rintro e w1 ⟨rfl, hu⟩
              have HU := Lib.hid hu
              clear P1 hu
              go_wp2_with fail
              go_ret3
              exact ⟨⟨lb, E, pq, rfl, HLS⟩, HU.out⟩
  · have HX := Lib.hid (show tokF s m = none by
      unfold tokF
      rw [show isB s m 95 = false by unfold isB; rw [List.getElem?_eq_none (by omega)]; rfl]
      exact labF_no (by rw [List.getElem?_eq_none (by omega)]; rfl))
    have hgeq : (s.length : Int) ≤ (m : Int) := by omega
    go_enter Tryz.func50, Tryz.ntmps50
    go_wp2_with fail
    go_ret3
    exact ⟨⟨[], m, false, rfl, HX⟩, Upd.refl _ _⟩

end Go.Proofs.YtaahjpmndkcijaaGreatDoor

/-
  Regular expressions parsed: the reference joins parts by an operator.
-/
namespace Go.Proofs.YtaahjpmndkcijaaGreatDoor
open Go.RowKit

theorem Tryz.infoRgL : (Tryz.prog.info? 22).map (fun i => (i.zero, i.size, i.bytes)) = some (some (.slice none 0 0), 1, 24) := by kernel_rfl
theorem one_G1 (xs : List Rg) : ∀ u ∈ xs.flatMap encR, u.oneCell' = true := by
  intro u hu
  obtain ⟨x, -, hx⟩ := List.mem_flatMap.1 hu
  simp at hx
  rcases hx with rfl | rfl | rfl <;> rfl
theorem Flat.ofG1 {fp : List Nat} {w : World} {v : Value} {xs : List Rg} (h : R_G1 fp w [v] xs) : Flat fp w v 3 xs.length (xs.flatMap encR) := by
  obtain ⟨v', hv, hf⟩ := h
  cases hv; exact hf
theorem chP_len (op : Rg) (P : List (List Rg)) (l : List Rg) : (chP' op P l).length = (chP' op P []).length + l.length := by
  induction P with
  | nil => simp [chP']
  | cons x P ih =>
    have e : ∀ l, chP' op (x :: P) l = op :: (x ++ chP' op P l) := fun _ => rfl
    rw [e, e, List.length_cons, List.length_append, ih, List.length_cons, List.length_append]; omega
theorem chain_drop (op : Rg) (P : List (List Rg)) (k : Nat) (h : k < P.length) : chainF op (P.drop k) = (if k + 1 < P.length then [op] else []) ++ (P[k] ++ chainF op (P.drop (k + 1))) := by
  rw [List.drop_eq_getElem_cons h]
  by_cases h1 : k + 1 < P.length
  · rw [if_pos h1, List.drop_eq_getElem_cons h1]; rfl
  · rw [if_neg h1, List.drop_of_length_le (by omega)]; simp [chainF]

set_option maxRecDepth 20000 in
set_option maxHeartbeats 4000000 in
theorem chainS (v : Value) (P : List (List Rg)) (kd : Int) (w : World) (fp : List Nat) (hR : slP R_G1 fp w [v] P) (hl : (chainF ⟨kd, [], false⟩ P).length ≤ 1000000) (hP : P.length ≤ 1000000) :
    Calls Tryz.prog 29 #[v, .int .i64 kd] w fun e w' => (∃ v', e = .returned v' ∧ New R_G1 w w' v' (chainF ⟨kd, [], false⟩ P)) ∧ Upd [] w w' := by
  obtain ⟨i0, hi, hz0, hz1, hz2⟩ := info_parts Tryz.infoRg
  have hfp := (slP_kept R_G1k).lt hR
  obtain ⟨a, cap, rfl, g1, g2, hc⟩ := slP_open hR
  unfold maxLen at g2
  have HC := Lib.hid hc
  have HFP := Lib.hid hfp
  obtain ⟨B, hB⟩ : ∃ B, w.heap.size = B := ⟨_, rfl⟩
  have hown0 : (w.alloc (.cells #[] 53)).ownsRow B 53 3 (.slice (some ⟨B, 0, none⟩) 0 0) 0 [] := by
    rw [← hB]
    simpa using World.ownsRow_lit (base := w.heap.size) (e := 53) (size := 3) w #[] 0 (Nat.le_refl _) (by simp [maxLen]) (by simp)
  have hbel : Below B w (w.alloc (.cells #[] 53)) := (Below.refl B w).alloc (by omega) _
  have HBB := Lib.hid hB
  obtain ⟨op, hop⟩ : ∃ op : Rg, op = ⟨kd, [], false⟩ := ⟨_, rfl⟩
  have HOP := Lib.hid hop
  have henc : encR op = [ei kd, es [], .bool false] := by rw [hop]
  have HENC := Lib.hid henc
  rw [← hop] at hl ⊢
  clear hR hc hfp henc hop
  go_enter Tryz.func29, Tryz.ntmps29
  go_wp2_with fail
  clear hB
  go_loopw [5, 6] (fun ov iv wr => ∃ (k : Nat) (out : List Rg) (vv : Value), vv = ov ∧ k ≤ P.length ∧ iv = .int .i64 k ∧ Below B w wr ∧ wr.ownsRow B 53 3 vv out.length (out.flatMap encR) ∧ Hid (out ++ chainF op (P.drop k) = chainF op P)) (fun _ iv _ => P.length - (intOf iv).toNat)
  case atStart => exact ⟨0, [], _, rfl, Nat.zero_le _, rfl, hbel, by simpa using hown0, Lib.hid rfl⟩
  case round =>
    clear hown0 hbel
    obtain ⟨k, out, vv, rfl, hk, rfl, hb, hown, HJ⟩ := hrel
    obtain ⟨av, cv, rfl⟩ := ownsRow_form hown
    have hol : out.length ≤ 1000000 := by have := congrArg List.length HJ.out; rw [List.length_append] at this; omega
    by_cases hlt : k < P.length
    · obtain ⟨b, off, u, f, rfl, hbm, hbl, hcell, hsub, hr⟩ := HC.out k hlt
      have hbB : b < B := by rw [← HBB.out]; exact hbl
      have hfB : ∀ c ∈ f, c < B := fun c hc => by rw [← HBB.out]; exact HFP.out c (hsub c hc)
      have hcell' : wr.cell? ⟨b, off + k, none⟩ = some u := (hb.cell (p := ⟨b, off + k, none⟩) hbB).trans hcell
      have hr' : R_G1 f wr [u] P[k] := R_G1k.frame hr hb.size (fun b hm => hb.block b (hfB b hm))
      have hkl : (k : Int) < (P.length : Int) := by omega
      have hcd := chain_drop op P k hlt
      have hlen := congrArg List.length HJ.out
      rw [hcd, List.length_append, List.length_append, List.length_append] at hlen
      have hsz := hb.size
      have hbsz : B ≤ wr.heap.size := by rw [← HBB.out]; exact hsz
      by_cases hk1 : k + 1 < P.length
      · rw [if_pos hk1] at hcd hlen
        simp only [List.length_cons, List.length_nil] at hlen
        have hki : (k : Int) + 1 < (P.length : Int) := by omega
        have HJ2 := Lib.hid (show ((out ++ [op]) ++ P[k]) ++ chainF op (P.drop (k + 1)) = chainF op P by rw [← HJ.out, hcd]; simp)
        have HR := Lib.hid hr'
        have HFB := Lib.hid hfB
        have HCL := Lib.hid hcell'
        have HBB2 := Lib.hid hbB
        clear hcd hr hr' hcell HJ hfB
        go_wp2_with (first
          | (at_builtin; refine wpList_append_tight _ rfl _ _ 22 rfl B 53 i0 (.agg #[.int .i64 0, .string ⟨#[]⟩, .bool false]) 3 32 Tryz.underlying22 hi hz0 hz1 hz2 rfl (by decide) _ _ _ rfl (hown.alloc _) ⟨wr.heap.size, 0, none⟩ 1 1 [ei kd, es [], .bool false] rfl rfl (fun j u hj => by rw [addr_add]; exact cell_new wr #[ei kd, es [], .bool false] _ _ rfl _ _ (by simpa using hj)) (by intro u hu; simp at hu; rcases hu with rfl | rfl | rfl <;> rfl) (by unfold maxLen; omega) (by omega) (by simp; omega) ?_)
          | fail)
        intro v2 w2 hown2 hg2 ht2
        have hB2 : Below B wr w2 := ((Below.refl B wr).alloc hbsz _).grown hg2 (by simp; omega) (fun k hk => (hown.lt k hk).1)
        have hbw2 := hb.trans hB2
        have hown3 : w2.ownsRow B 53 3 v2 (out ++ [op]).length ((out ++ [op]).flatMap encR) := by simpa [HENC.out] using hown2
        obtain ⟨a2, c2, rfl⟩ := ownsRow_form hown3
        have hcell2 := (hB2.cell (p := ⟨b, off + k, none⟩) HBB2.out).trans HCL.out
        have HF := Lib.hid (Flat.ofG1 (R_G1k.frame HR.out hB2.size (fun b hm => hB2.block b (HFB.out b hm))))
        have hsz2 := hB2.size
        have hol2 : (out ++ [op]).length ≤ 1000000 := by simp; omega
        have hpk : (out ++ [op]).length + P[k].length ≤ 1000000 := by simp; omega
        clear hown hown2 hg2 ht2 hB2 hb HR HCL
        generalize hO : out ++ [op] = o2 at *
        generalize hPk : P[k] = pk at *
        obtain ⟨ap, cp, rfl⟩ : ∃ ap cp, u = .slice ap pk.length cp := by obtain ⟨ap, cp, rfl, -⟩ := HF.out; exact ⟨_, _, rfl⟩
        go_wp2_with (first
          | (at_builtin; refine wpList_append_flat rfl _ _ 22 rfl B 53 i0 (.agg #[.int .i64 0, .string ⟨#[]⟩, .bool false]) 3 32 Tryz.underlying22 hi hz0 hz1 hz2 rfl (by decide) _ _ _ rfl hown3 _ pk.length _ rfl _ HF.out (one_G1 pk) (by unfold maxLen; omega) (by omega) (by omega) ?_)
          | fail)
        intro v3 w3 hown4 hg3 ht3
        have hB3 : Below B w w3 := hbw2.grown hg3 (by omega) (fun k hk => (hown3.lt k hk).1)
        have hown5 : w3.ownsRow B 53 3 v3 (o2 ++ pk).length ((o2 ++ pk).flatMap encR) := by simpa using hown4
        clear hown3 hown4 hg3 ht3 HF
        go_wp2_with fail
        go_roundw
        case rel => exact ⟨k + 1, o2 ++ pk, _, rfl, by omega, by go_num, hB3, hown5, HJ2⟩
        case measure => simp [intOf]; omega
      · rw [if_neg hk1] at hcd hlen
        simp only [List.length_nil] at hlen
        have hki : ¬ ((k : Int) + 1 < (P.length : Int)) := by omega
        have HJ2 := Lib.hid (show (out ++ P[k]) ++ chainF op (P.drop (k + 1)) = chainF op P by rw [← HJ.out, hcd]; simp)
        have HF := Lib.hid (Flat.ofG1 hr')
        clear hcd hr hr' HJ hfB hcell
        generalize hPk : P[k] = pk at *
        obtain ⟨ap, cp, rfl⟩ : ∃ ap cp, u = .slice ap pk.length cp := by obtain ⟨ap, cp, rfl, -⟩ := HF.out; exact ⟨_, _, rfl⟩
        go_wp2_with (first
          | (at_builtin; refine wpList_append_flat rfl _ _ 22 rfl B 53 i0 (.agg #[.int .i64 0, .string ⟨#[]⟩, .bool false]) 3 32 Tryz.underlying22 hi hz0 hz1 hz2 rfl (by decide) _ _ _ rfl hown _ pk.length _ rfl _ HF.out (one_G1 pk) (by unfold maxLen; omega) (by omega) (by omega) ?_)
          | fail)
        intro v3 w3 hown4 hg3 ht3
        have hB3 : Below B w w3 := hb.grown hg3 (by omega) (fun k hk => (hown.lt k hk).1)
        have hown5 : w3.ownsRow B 53 3 v3 (out ++ pk).length ((out ++ pk).flatMap encR) := by simpa using hown4
        clear hown hown4 hg3 ht3 HF
        go_wp2_with fail
        go_roundw
        case rel => exact ⟨k + 1, out ++ pk, _, rfl, by omega, by go_num, hB3, hown5, HJ2⟩
        case measure => simp [intOf]; omega
    · obtain rfl : k = P.length := by omega
      have HX := Lib.hid (show out = chainF op P by have := HJ.out; rw [List.drop_of_length_le (Nat.le_refl _)] at this; simpa [chainF] using this)
      clear HJ HC
      go_wp2_with fail
      go_ret
      obtain ⟨fp', q1, q2, q3, -⟩ := Flat.ofOwns hown
      rw [← HX.out]
      exact ⟨⟨_, rfl, fp', ⟨_, rfl, q1⟩, q2, fun b hb => by rw [HBB.out]; exact q3 b hb⟩, by rw [← HBB.out] at hb; exact Upd.ofBelow hb⟩

end Go.Proofs.YtaahjpmndkcijaaGreatDoor

/-
  Regular expressions parsed: the reference reads factors, sequences, alternatives.
-/
namespace Go.Proofs.YtaahjpmndkcijaaGreatDoor
open Go.RowKit

/-- what the reference's reader returns: elements and where it stands, or the first error. -/
def FaS (s : List UInt8) (r : Except Nat (Tr Rg × Nat)) (w : World) (e : Ending) (w' : World) : Prop :=
  (match r with
  | .ok (x, p) => ∃ (v : Value) (q : Nat), e = .returned (.tuple #[v, .int .i64 q, .bool true]) ∧ New R_G1 w w' v (flatT x) ∧ q ≤ s.length ∧ skR s q = p
  | .error a => e = .returned (.tuple #[.slice none 0 0, .int .i64 a, .bool false])) ∧ Upd [] w w'

/-- the same where it stands behind all blanks. -/
def PaS (s : List UInt8) (r : Except Nat (Tr Rg × Nat)) (w : World) (e : Ending) (w' : World) : Prop :=
  (match r with
  | .ok (x, p) => (∃ v : Value, e = .returned (.tuple #[v, .int .i64 p, .bool true]) ∧ New R_G1 w w' v (flatT x)) ∧ p ≤ s.length ∧ skR s p = p
  | .error a => e = .returned (.tuple #[.slice none 0 0, .int .i64 a, .bool false])) ∧ Upd [] w w'
theorem PaS.fa {s : List UInt8} {r : Except Nat (Tr Rg × Nat)} {w : World} {e : Ending} {w' : World} (h : PaS s r w e w') : FaS s r w e w' := by
  cases r with
  | error a => exact h
  | ok r =>
    obtain ⟨x, p⟩ := r
    obtain ⟨⟨⟨v, h1, h2⟩, h3, h4⟩, h5⟩ := h
    exact ⟨⟨v, p, h1, h2, h3, h4⟩, h5⟩
def FlS (s : List UInt8) (A : Except Nat (List Rg × Nat)) (w : World) (e : Ending) (w' : World) : Prop :=
  (match A with
  | .ok (l, p) => (∃ v : Value, e = .returned (.tuple #[v, .int .i64 p, .bool true]) ∧ New R_G1 w w' v l) ∧ p ≤ s.length ∧ skR s p = p
  | .error a => e = .returned (.tuple #[.slice none 0 0, .int .i64 a, .bool false])) ∧ Upd [] w w'
theorem PaS.of {s : List UInt8} {r : Except Nat (Tr Rg × Nat)} {A : Except Nat (List Rg × Nat)} (hA : flR r = A) {w : World} {e : Ending} {w' : World} (h : FlS s A w e w') : PaS s r w e w' := by
  subst hA
  cases r with
  | error a => exact h
  | ok r => exact h

theorem testP_tok (s : List UInt8) (m : Nat) : testP s m = (match tokF s (if isB s m 33 then skR s (m + 1) else m) with
    | none => .error (if isB s m 33 then skR s (m + 1) else m)
    | some (l, e) => .ok (leafR l (isB s m 33), e)) := by
  unfold testP tokF
  generalize (if isB s m 33 then skR s (m + 1) else m) = m2
  by_cases h : isB s m2 95 = true
  · rw [if_pos h, if_pos h]
  · rw [if_neg h, if_neg h]
    all_goals (cases labF s m2 <;> rfl)
theorem tokF_pos {s : List UInt8} {n : Nat} {t : List UInt8} {e : Nat} (hn : n ≤ s.length) (h : tokF s n = some (t, e)) : n < e ∧ e ≤ s.length := by
  unfold tokF at h
  split at h
  · rename_i hb; cases h; have := isB_lt hb; omega
  · exact labF_pos hn h

set_option maxRecDepth 20000 in
set_option maxHeartbeats 8000000 in
theorem factorS (k : Nat) (w : World) (s : List UInt8) (n : Nat) (hs : s.length ≤ 1000000) (hn : n ≤ s.length)
    (hI : ∀ W n', n < n' → n' ≤ s.length → Calls Tryz.prog 15 #[es s, .int .i64 n'] W (FaS s (eitherF s k n') W)) :
    Calls Tryz.prog 39 #[es s, .int .i64 n] w (FaS s (atomF s (k + 1) n) w) := by
  obtain ⟨i0, hi, hz0, hz1, hz2⟩ := info_parts Tryz.infoRg
  have hpos := skR_le hn
  have K0 := l04SkipS s n w (by omega) hn
  rw [show skF s n = skR s n from rfl] at K0
  have hmm : skR s (skR s n) = skR s n := skR_idem hn
  have HA := Lib.hid (show atomF s (k + 1) n = _ from by rw [atomF])
  generalize atomF s (k + 1) n = A at *
  generalize skR s n = m at *
  obtain ⟨q, hq⟩ : ∃ q, isB s m 40 = q := ⟨_, rfl⟩
  have I1 := Lib.hid (fun W => isBS s m 40 40 rfl W (by omega) hpos.2)
  have HSK := Lib.hid (fun (x : Nat) (W : World) (h : x ≤ s.length) => l04SkipS s x W (by omega) h)
  rw [hq] at I1 HA
  have HK0 := Lib.hid K0
  have HI := Lib.hid hI
  clear hI K0
  go_enter Tryz.func39, Tryz.ntmps39
  go_wp2_with fail
  refine HK0.out.mono ?_
  rintro e w1 ⟨rfl, hww⟩
  subst hww
  clear HK0
  go_wp2_with fail
  refine (I1.out _).mono ?_
  rintro e w1 ⟨rfl, hww⟩
  obtain ⟨B, hB⟩ : ∃ B, w.heap.size = B := ⟨_, rfl⟩
  have hown1 : w1.ownsRow B 53 3 (.slice (some ⟨B, 0, none⟩) 0 0) 0 [] := by
    rw [← hww, ← hB]
    simpa using World.ownsRow_lit (base := w.heap.size) (e := 53) (size := 3) w #[] 0 (Nat.le_refl _) (by simp [maxLen]) (by simp)
  have hu1 : Upd [] w w1 := by rw [← hww]; exact (Upd.refl _ _).alloc _
  have HU1 := Lib.hid hu1
  have HO1 := Lib.hid hown1
  rw [hB]
  clear hww I1 hu1 hown1
  go_upto_if 22 with (fail)
  go_cut [1, 7] (fun s1 s7 wx => ∃ (x0 : Tr Rg) (n0 : Nat) (v0 : Value), v0 = s7 ∧ s1 = .int .i64 n0 ∧ New R_G1 w wx v0 (flatT x0) ∧ Upd [] w wx ∧ n0 ≤ s.length ∧ (flatT x0).length ≤ n0 ∧ A = .ok (starsF s s.length x0 n0))
  case first =>
    cases q with
    | true =>
      have hlt := isB_lt hq
      have E1 := HI.out w1 (m + 1) (by omega) (by omega)
      have HA2 := HA.out
      rw [if_pos rfl] at HA2
      cases he : eitherF s k (m + 1) with
      | error a =>
        rw [he] at E1 HA2
        have HX := Lib.hid HA2
        have HE1 := Lib.hid E1
        clear E1 HA2 HA HI he HSK HO1
        go_wp2_with fail
        refine HE1.out.mono ?_
        rintro e w2 ⟨rfl, hu2⟩
        have HU2 := Lib.hid (HU1.out.trans hu2)
        clear HE1 hu2
        go_wp2_with fail
        go_ret3
        rw [HX.out]
        exact ⟨rfl, HU2.out⟩
      | ok r =>
        obtain ⟨x, p⟩ := r
        rw [he] at E1 HA2
        have hp := eitherF_pos k _ x p (by omega) he
        have hpl := eitherF_len k _ x p (by omega) he
        simp only at HA2
        have HX := Lib.hid HA2
        have HE1 := Lib.hid E1
        have hp2 := hp.2.1
        have I2 := Lib.hid (fun W => isBS s p 41 41 rfl W (by omega) hp2)
        clear E1 HA2 HA HI he hp HO1
        go_wp2_with fail
        refine HE1.out.mono ?_
        rintro e w2 ⟨⟨v, q', rfl, hn2, hq', hsk⟩, hu2⟩
        have HU2 := Lib.hid (HU1.out.trans hu2)
        have HN2 := Lib.hid (hn2.mono HU1.out.size)
        have K2 := HSK.out q' w2 hq'
        rw [show skF s q' = p from hsk] at K2
        have HK2 := Lib.hid K2
        clear HE1 hu2 hn2 K2 HSK
        go_wp2_with fail
        refine HK2.out.mono ?_
        rintro e w3 ⟨rfl, hww⟩
        subst hww
        clear HK2
        go_wp2_with fail
        refine (I2.out _).mono ?_
        rintro e w3 ⟨rfl, hww⟩
        subst hww
        clear I2
        cases h41 : isB s p 41 with
        | true =>
          have hpl2 := isB_lt h41
          rw [h41, if_pos rfl] at HX
          clear h41
          go_wp2_with fail
          go_meet
          exact ⟨x, p + 1, _, rfl, by go_num, HN2.out, HU2.out, by omega, by omega, HX.out⟩
        | false =>
          rw [h41, if_neg (by decide)] at HX
          clear h41
          go_wp2_with fail
          go_ret3
          rw [HX.out]
          exact ⟨rfl, HU2.out⟩
    | false =>
      have HA2 := HA.out
      rw [if_neg (by decide)] at HA2
      obtain ⟨nt, hnt⟩ : ∃ nt, isB s m 33 = nt := ⟨_, rfl⟩
      have I2 := Lib.hid (fun W => isBS s m 33 33 rfl W (by omega) hpos.2)
      have HTP := Lib.hid (testP_tok s m)
      rw [hnt] at I2 HTP
      generalize testP s m = TP at *
      have HX := Lib.hid HA2
      clear HA HA2 HI
      go_wp2_with fail
      refine (I2.out _).mono ?_
      rintro e w2 ⟨rfl, hww⟩
      subst hww
      clear I2
      obtain ⟨m2, hm2⟩ : ∃ m2, (if nt = true then skR s (m + 1) else m) = m2 := ⟨_, rfl⟩
      have hm2l : m2 ≤ s.length := by
        rw [← hm2]
        cases nt with
        | false => exact hpos.2
        | true => exact (skR_le (by have := isB_lt hnt; omega)).2
      rw [hm2] at HTP
      go_upto_if 48 with (fail)
      go_cut [1] (fun s1 wx => s1 = .int .i64 m2 ∧ wx = w1)
      case first =>
        cases nt with
        | false =>
          have hm3 : m = m2 := hm2
          subst hm3
          clear HX HTP HO1
          go_wp2_with fail
          go_meet
          exact ⟨rfl, rfl⟩
        | true =>
          have hlt := isB_lt hnt
          have K2 := HSK.out (m + 1) w1 (by omega)
          rw [show skF s (m + 1) = m2 from hm2] at K2
          have HK2 := Lib.hid K2
          clear K2 HX HTP HSK HO1
          go_wp2_with fail
          refine HK2.out.mono ?_
          rintro e w3 ⟨rfl, hww⟩
          subst hww
          go_wp2_with fail
          go_meet
          exact ⟨rfl, rfl⟩
      case rest =>
        obtain ⟨rfl, hww⟩ := hcut
        replace hww := hww.symm
        subst hww
        have T1 := Lib.hid (tokenS s m2 w1 hs hm2l)
        have HPS := Lib.hid (fun t e (h : tokF s m2 = some (t, e)) => tokF_pos hm2l h)
        generalize tokF s m2 = TK at *
        clear hm2 HSK
        go_wp2_with fail
        refine T1.out.mono ?_
        rintro e w2 ⟨⟨t, e2, ok, rfl, htk⟩, hu2⟩
        have HTK := Lib.hid htk.out
        have HU2 := Lib.hid (HU1.out.trans hu2)
        have hown2 := ownsRow_upd HO1.out hu2
        clear T1 hu2 htk
        cases ok with
        | false =>
          have HY := Lib.hid (show A = .error m2 by rw [HX.out, HTP.out, HTK.out]; rfl)
          clear HX HTP HTK hown2 HO1
          go_wp2_with fail
          go_ret3
          rw [HY.out]
          exact ⟨rfl, HU2.out⟩
        | true =>
          have HY := Lib.hid (show A = .ok (starsF s s.length (leafR t nt) e2) by rw [HX.out, HTP.out, HTK.out]; rfl)
          have hpe := HPS.out t e2 (by rw [HTK.out]; rfl)
          have hBs : B ≤ w2.heap.size := by rw [← hB]; exact HU2.out.size
          clear HX HTP HTK HO1 HPS
          go_wp2_with (first
            | (at_builtin; refine wpList_append_tight _ rfl _ _ 22 rfl B 53 i0 (.agg #[.int .i64 0, .string ⟨#[]⟩, .bool false]) 3 32 Tryz.underlying22 hi hz0 hz1 hz2 rfl (by decide) _ _ _ rfl (hown2.alloc _) ⟨w2.heap.size, 0, none⟩ 1 1 [ei 0, es t, .bool nt] rfl rfl (fun j u hj => by rw [addr_add]; exact cell_new w2 #[ei 0, es t, .bool nt] _ _ rfl _ _ (by simpa using hj)) (by intro u hu; simp at hu; rcases hu with rfl | rfl | rfl <;> rfl) (by unfold maxLen; omega) (by omega) (by simp; omega) ?_)
            | fail)
          intro v3 w3 hown3 hg3 ht3
          have hB3 : Below B w2 w3 := ((Below.refl B w2).alloc hBs _).grown hg3 (by simp; omega) (fun k hk => (hown2.lt k hk).1)
          have hb3 : Below w.heap.size w w3 := by rw [hB]; exact (by rw [← hB]; exact HU2.out.below : Below B w w2).trans hB3
          have HU3 := Lib.hid (Upd.ofBelow hb3)
          obtain ⟨fp', q1, q2, q3, -⟩ := Flat.ofOwns hown3
          have HN3 := Lib.hid (show New R_G1 w w3 v3 (flatT (leafR t nt)) from ⟨fp', ⟨_, rfl, by simpa [leafR, flatT, flatTs] using q1⟩, q2, fun b hb => by rw [hB]; exact q3 b hb⟩)
          clear hown2 hown3 hg3 ht3 hB3 hb3 q1 q2 q3
          go_wp2_with fail
          go_meet
          exact ⟨leafR t nt, e2, _, rfl, rfl, HN3.out, HU3.out, hpe.2, by simp [leafR, flatT, flatTs]; omega, HY.out⟩
  case rest =>
    obtain ⟨x0, n0, v0, rfl, rfl, hn0, hu0, hn0l, hxl, hA⟩ := hcut
    have HAE := Lib.hid hA
    have HN0 := Lib.hid hn0
    have HU0 := Lib.hid hu0
    clear hn0 hu0 hA HA HI HU1 HO1
    generalize hS : starsF s s.length x0 n0 = S at *
    go_wp2_with fail
    go_loopw [1, 7] (fun s1 sv wr => ∃ (x' : Tr Rg) (n' j : Nat) (v : Value), v = sv ∧ s1 = .int .i64 n' ∧ n' ≤ s.length ∧ s.length ≤ j + n' ∧ (flatT x').length ≤ n' ∧ Hid (starsF s j x' n' = S) ∧ Hid (New R_G1 w wr v (flatT x')) ∧ Hid (Upd [] w wr)) (fun s1 _ _ => s.length - (intOf s1).toNat)
    case atStart => exact ⟨x0, n0, s.length, _, rfl, rfl, hn0l, by omega, hxl, Lib.hid hS, HN0, HU0⟩
    case round =>
      clear hS HN0 HU0 hn0l hxl
      obtain ⟨x', n', j, v, rfl, rfl, hn', hj, hxl, HS, HN', HU'⟩ := hrel
      have hsk9 := skR_le (s := s) (n := n') hn'
      have K9 := HSK.out n' wr hn'
      rw [show skF s n' = skR s n' from rfl] at K9
      obtain ⟨q9, hq9⟩ : ∃ q, isB s (skR s n') 42 = q := ⟨_, rfl⟩
      have HQ0 := Lib.hid (show q9 = false → S = (x', skR s n') from fun h => by
        rw [← HS.out]
        cases j with
        | zero => rfl
        | succ j => rw [starsF, if_neg (by rw [hq9, h]; decide)])
      have HQ1 := Lib.hid (show q9 = true → ∃ j', s.length ≤ j' + (skR s n' + 1) ∧ skR s n' + 1 ≤ s.length ∧ starsF s j' (starR x') (skR s n' + 1) = S from fun h => by
        rw [h] at hq9
        have hlt := isB_lt hq9
        cases j with
        | zero => omega
        | succ j =>
          refine ⟨j, by omega, by omega, ?_⟩
          rw [← HS.out, starsF, if_pos hq9])
      have HM := Lib.hid (show skR s n' = skR s n' from rfl)
      have I9 := Lib.hid (fun W => isBS s (skR s n') 42 42 rfl W (by omega) hsk9.2)
      rw [hq9] at I9
      have HK9 := Lib.hid K9
      have HSKn := Lib.hid (show ∀ m', skR s n' = m' → skR s n' = m' from fun _ h => h)
      clear HS K9 hq9 HSK HM
      obtain ⟨m', hm'⟩ : ∃ m', skR s n' = m' := ⟨_, rfl⟩
      have HMM := Lib.hid hm'
      rw [hm'] at HQ0 HQ1 I9 HK9 hsk9
      clear hm' HSKn
      go_wp2_with fail
      refine HK9.out.mono ?_
      rintro e w2 ⟨rfl, hww⟩
      subst hww
      clear HK9
      go_wp2_with fail
      refine (I9.out _).mono ?_
      rintro e w2 ⟨rfl, hww⟩
      subst hww
      clear I9
      cases q9 with
      | true =>
        obtain ⟨j', j1, j2, j3⟩ := HQ1.out rfl
        have HJ3 := Lib.hid j3
        obtain ⟨fv, r1, o1, g1⟩ := HN'.out
        have hsz : w.heap.size ≤ wr.heap.size := HU'.out.size
        have hlit : (wr.alloc (.cells #[.int .i64 3, .string ⟨#[]⟩, .bool false] 53)).ownsRow wr.heap.size 53 3 (.slice (some ⟨wr.heap.size, 0, none⟩) 1 1) 1 [.int .i64 3, .string ⟨#[]⟩, .bool false] :=
          World.ownsRow_lit (base := wr.heap.size) (e := 53) (size := 3) wr #[.int .i64 3, .string ⟨#[]⟩, .bool false] 1 (Nat.le_refl _) (by simp [maxLen]) (by simp)
        have HF := Lib.hid (Flat.ofG1 (R_G1k.upd r1 ((Upd.refl [] wr).alloc (.cells #[.int .i64 3, .string ⟨#[]⟩, .bool false] 53)) (by simp)))
        obtain ⟨av, cv, rfl⟩ := HN'.out.form
        have HFL := Lib.hid (show flatT (starR x') = ⟨3, [], false⟩ :: flatT x' by simp [starR, flatT, flatTs])
        generalize hfx : flatT x' = fx at *
        clear HQ0 HQ1 j3 r1 o1 g1 HN'
        go_wp2_with (first
          | (at_builtin; refine wpList_append_flat rfl _ _ 22 rfl wr.heap.size 53 i0 (.agg #[.int .i64 0, .string ⟨#[]⟩, .bool false]) 3 32 Tryz.underlying22 hi hz0 hz1 hz2 rfl (by decide) _ _ _ rfl hlit _ fx.length _ rfl _ HF.out (one_G1 fx) (by unfold maxLen; omega) (by omega) (by simp) ?_)
          | fail)
        intro v3 w3 hown3 hg3 ht3
        have hB3 : Below wr.heap.size wr w3 := ((Below.refl wr.heap.size wr).alloc (Nat.le_refl _) _).grown hg3 (by simp) (fun k hk => (hlit.lt k hk).1)
        have HU3 := Lib.hid (HU'.out.trans (Upd.ofBelow hB3))
        obtain ⟨fp', q1, q2, q3, -⟩ := Flat.ofOwns hown3
        have HN3 := Lib.hid (show New R_G1 w w3 v3 (flatT (starR x')) from ⟨fp', ⟨_, rfl, by rw [HFL.out]; simpa [Nat.add_comm] using q1⟩, q2, fun b hb => by have := q3 b hb; omega⟩)
        have hlx : (flatT (starR x')).length ≤ m' + 1 := by rw [HFL.out]; simp; omega
        clear hlit hown3 hg3 ht3 hB3 q1 q2 q3 HF
        go_wp2_with fail
        go_roundw
        case rel => exact ⟨starR x', m' + 1, j', _, rfl, by go_num, j2, j1, hlx, HJ3, HN3, HU3⟩
        case measure => simp [intOf]; omega
      | false =>
        have HX := Lib.hid (show A = .ok (x', m') by rw [HAE.out, HQ0.out rfl])
        clear HQ0 HQ1 HAE
        go_wp2_with fail
        go_ret3
        rw [HX.out]
        exact ⟨⟨_, n', rfl, HN'.out, hn', HMM.out⟩, HU'.out⟩

set_option maxRecDepth 20000 in
set_option maxHeartbeats 8000000 in
theorem thenW (K : Nat) (w : World) (s : List UInt8) (n : Nat) (hs : s.length ≤ 1000000) (hn : n ≤ s.length) (hk : 3 * (s.length - n) + 2 ≤ K)
    (hI : ∀ W k' n', k' < K → n' ≤ s.length → 3 * (s.length - n') + 1 ≤ k' → Calls Tryz.prog 39 #[es s, .int .i64 n'] W (FaS s (atomF s k' n') W)) :
    Calls Tryz.prog 26 #[es s, .int .i64 n] w (PaS s (thenF s K n) w) := by
  obtain ⟨i1, li, lz0, lz1, lz2⟩ := info_parts Tryz.infoRgL
  obtain ⟨op, hop⟩ : ∃ op : Rg, op = ⟨1, [], false⟩ := ⟨_, rfl⟩
  have HOP := Lib.hid hop
  have HSK := Lib.hid (fun (x : Nat) (W : World) (h : x ≤ s.length) => l04SkipS s x W (by omega) h)
  have HIS := Lib.hid (fun (x : Nat) (W : World) (h : x ≤ s.length) => isBS s x 46 46 rfl W (by omega) h)
  have HI := Lib.hid hI
  obtain ⟨A, hA⟩ : ∃ A, flP op [] (thenF s K n) = A := ⟨_, rfl⟩
  have HA := Lib.hid (show flR (thenF s K n) = A by rw [← flP_nil op]; exact hA)
  have HA0 := Lib.hid hA
  obtain ⟨B, hB⟩ : ∃ B, w.heap.size = B := ⟨_, rfl⟩
  have HBB := Lib.hid hB
  have hacc0 : Acc R_G1 w 22 (w.alloc (.cells #[] 22)) (.slice (some ⟨w.heap.size, 0, none⟩) 0 0) [] := Acc.lit0 R_G1 w 22 w (Nat.le_refl _)
  have HAC := Lib.hid hacc0
  have HFIN := Lib.hid (show ∀ (e : Ending) (w' : World), FlS s A w e w' → PaS s (thenF s K n) w e w' from fun e w' h => PaS.of HA.out h)
  clear hop hI hA hB hacc0 HA
  go_enter Tryz.func26, Tryz.ntmps26
  go_wp2_with fail
  go_loopw [1, 7] (fun s1 pv wr => ∃ (P : List (List Rg)) (n' k' : Nat) (v : Value), v = pv ∧ s1 = .int .i64 n' ∧ n' ≤ s.length ∧ k' ≤ K ∧ 3 * (s.length - n') + 2 ≤ k' ∧ (chP' op P []).length ≤ n' ∧ P.length ≤ n' ∧ Hid (flP op P (thenF s k' n') = A) ∧ Hid (Acc R_G1 w 22 wr v P) ∧ Hid (Upd [] w wr)) (fun s1 _ _ => s.length - (intOf s1).toNat)
  case atStart => exact ⟨[], n, K, _, rfl, rfl, hn, Nat.le_refl _, hk, by simp [chP'], by simp, HA0, HAC, Lib.hid ((Upd.refl _ _).alloc _)⟩
  case round =>
    clear HA0 HAC
    obtain ⟨wo, rfl⟩ : ∃ wo : World, wo = wr := ⟨_, rfl⟩
    obtain ⟨P, n', k', v, rfl, rfl, hn', hkk, hk', hPl, hPn, HE, HAC, HU⟩ := hrel
    obtain ⟨k2, rfl⟩ : ∃ k2, k' = k2 + 1 := ⟨k' - 1, by omega⟩
    have S1 := HI.out wo k2 n' (by omega) hn' (by omega)
    have hE := HE.out
    rw [thenF] at hE
    cases hf : atomF s k2 n' with
    | error a =>
      rw [hf] at S1 hE
      have HX := Lib.hid (show A = .error a from hE.symm)
      have HS := Lib.hid S1
      clear hf S1 hE HE HI HSK HIS HAC
      go_wp2_with fail
      refine HS.out.mono ?_
      rintro e w2 ⟨rfl, hu2⟩
      have HU2 := Lib.hid (HU.out.trans hu2)
      clear HS hu2
      go_wp2_with fail
      go_ret3
      refine HFIN.out _ _ ?_
      rw [HX.out]
      exact ⟨rfl, HU2.out⟩
    | ok r =>
      obtain ⟨x, p⟩ := r
      rw [hf] at S1 hE
      have hp := atomF_pos k2 _ x p hn' hf
      have hpl := atomF_len k2 _ x p hn' hf
      have hp2 := hp.2.1
      have hp1 := hp.1
      have hp3 := hp.2.2
      have HE2 := Lib.hid (show flP op P (if isB s p 46 then (match thenF s k2 (p + 1) with | .error e => .error e | .ok (y, q) => .ok (twoR 1 x y, q)) else .ok (x, p)) = A from hE)
      have HS := Lib.hid S1
      obtain ⟨q5, hq5⟩ : ∃ q, isB s p 46 = q := ⟨_, rfl⟩
      have I5 := Lib.hid (fun W => HIS.out p W hp2)
      rw [hq5] at I5 HE2
      obtain ⟨us, hown, hrows⟩ := HAC.out
      have HRW := Lib.hid hrows
      have HOU := Lib.hid hown
      have hsz : B ≤ wo.heap.size := by rw [← HBB.out]; exact HU.out.size
      obtain ⟨av, cv, rfl⟩ := ownsRow_form hown
      clear hf S1 hE HE HIS HAC hp hown hrows
      go_wp2_with fail
      refine HS.out.mono ?_
      rintro e w2 ⟨⟨vx, q, rfl, hnx, hql, hqp⟩, hu2⟩
      have K2 := HSK.out q
      have HNX := Lib.hid hnx
      have HUP := Lib.hid hu2
      have HU2 := Lib.hid (HU.out.trans hu2)
      have hsz2 := hu2.size
      obtain ⟨ax, cx, rfl⟩ := hnx.form
      have hown2 := (ownsRow_upd HOU.out hu2).alloc (.cells #[.slice ax (flatT x).length cx] 22)
      have HQP := Lib.hid hqp
      clear HS hnx hu2 hqp HU
      generalize hfx : flatT x = fx at *
      go_wp2_with (first
        | (at_builtin; refine wpList_append_tight _ rfl _ _ 59 rfl w.heap.size 22 i1 (.slice none 0 0) 1 24 Tryz.underlying59 li lz0 lz1 lz2 rfl (by decide) _ _ _ rfl hown2 ⟨w2.heap.size, 0, none⟩ 1 1 [.slice ax fx.length cx] rfl rfl (fun j u hj => by rw [addr_add]; exact cell_new w2 #[.slice ax fx.length cx] _ _ rfl _ _ (by simpa using hj)) (by intro u hu; simp at hu; subst hu; rfl) (by unfold maxLen; omega) (by omega) (by have := HU2.out.size; simp; omega) ?_)
        | fail)
      intro v3 w3 hown3 hg3 ht3
      have hacc3 := Acc.push R_G1k HOU.out HRW.out (by have := HBB.out; omega) HUP.out HNX.out _ (by simpa using hown3) hg3 (by simpa using ht3)
      have hb3 : Below w.heap.size w w3 := (HU2.out.below).trans (((Below.refl w.heap.size w2).alloc HU2.out.size _).grown hg3 (by have := HU2.out.size; simp; omega) (fun k hk => (hown2.lt k hk).1))
      have HU3 := Lib.hid (Upd.ofBelow hb3)
      have HAC3 := Lib.hid hacc3
      have HK := Lib.hid (K2 w3 hql)
      have hqq : skF s q = p := HQP.out
      rw [hqq] at HK
      clear hown3 hg3 ht3 hacc3 hb3 hown2 HOU HRW HUP HNX K2 HQP hqq
      go_wp2_with fail
      refine HK.out.mono ?_
      rintro e w4 ⟨rfl, hww⟩
      subst hww
      clear HK
      go_wp2_with fail
      refine (I5.out _).mono ?_
      rintro e w4 ⟨rfl, hww⟩
      subst hww
      clear I5
      have hcl := chP_len op P fx
      cases q5 with
      | true =>
        have hlt := isB_lt hq5
        have HJ := Lib.hid (show flP op (P ++ [fx]) (thenF s k2 (p + 1)) = A by
          rw [← HE2.out, if_pos rfl]
          cases thenF s k2 (p + 1) with
          | error e => rfl
          | ok r =>
            obtain ⟨y, q⟩ := r
            unfold flP
            simp only
            rw [chP_push, show flatT (twoR 1 x y) = op :: (fx ++ flatT y) by rw [HOP.out, ← hfx]; simp [twoR, flatT, flatTs]])
        have hc2 : (chP' op (P ++ [fx]) []).length ≤ p + 1 := by
          rw [chP_push, chP_len]; simp; omega
        clear HE2 hq5
        go_wp2_with fail
        go_roundw
        case rel => exact ⟨P ++ [fx], p + 1, k2, _, rfl, by go_num, by omega, by omega, by omega, hc2, by simp; omega, HJ, HAC3, HU3⟩
        case measure => simp [intOf]; omega
      | false =>
        have HX := Lib.hid (show A = .ok (chainF op (P ++ [fx]), p) by rw [← HE2.out, if_neg (by decide), chain_push]; unfold flP; simp only [hfx])
        obtain ⟨fpa, r3, o3, g3⟩ := (HAC3.out).new
        have C1 := chainS _ (P ++ [fx]) 1 w3 fpa r3 (by rw [← HOP.out, chain_push, hcl]; omega) (by simp; omega)
        rw [← HOP.out] at C1
        have HC := Lib.hid C1
        clear HE2 hq5 r3 o3 g3 C1
        go_wp2_with fail
        refine HC.out.mono ?_
        rintro e w4 ⟨⟨v4, rfl, hn4⟩, hu4⟩
        have HN4 := Lib.hid (hn4.mono HU3.out.size)
        have HU4 := Lib.hid (HU3.out.trans hu4)
        clear HC hn4 hu4
        go_wp2_with fail
        go_ret3
        refine HFIN.out _ _ ?_
        rw [HX.out]
        exact ⟨⟨⟨_, rfl, HN4.out⟩, hp2, hp3⟩, HU4.out⟩

set_option maxRecDepth 20000 in
set_option maxHeartbeats 8000000 in
theorem eitherW (K : Nat) (w : World) (s : List UInt8) (n : Nat) (hs : s.length ≤ 1000000) (hn : n ≤ s.length) (hk : 3 * (s.length - n) + 3 ≤ K)
    (hI : ∀ W k' n', k' < K → n' ≤ s.length → 3 * (s.length - n') + 2 ≤ k' → Calls Tryz.prog 26 #[es s, .int .i64 n'] W (FaS s (thenF s k' n') W)) :
    Calls Tryz.prog 15 #[es s, .int .i64 n] w (PaS s (eitherF s K n) w) := by
  obtain ⟨i1, li, lz0, lz1, lz2⟩ := info_parts Tryz.infoRgL
  obtain ⟨op, hop⟩ : ∃ op : Rg, op = ⟨2, [], false⟩ := ⟨_, rfl⟩
  have HOP := Lib.hid hop
  have HSK := Lib.hid (fun (x : Nat) (W : World) (h : x ≤ s.length) => l04SkipS s x W (by omega) h)
  have HIS := Lib.hid (fun (x : Nat) (W : World) (h : x ≤ s.length) => isBS s x 43 43 rfl W (by omega) h)
  have HI := Lib.hid hI
  obtain ⟨A, hA⟩ : ∃ A, flP op [] (eitherF s K n) = A := ⟨_, rfl⟩
  have HA := Lib.hid (show flR (eitherF s K n) = A by rw [← flP_nil op]; exact hA)
  have HA0 := Lib.hid hA
  obtain ⟨B, hB⟩ : ∃ B, w.heap.size = B := ⟨_, rfl⟩
  have HBB := Lib.hid hB
  have hacc0 : Acc R_G1 w 22 (w.alloc (.cells #[] 22)) (.slice (some ⟨w.heap.size, 0, none⟩) 0 0) [] := Acc.lit0 R_G1 w 22 w (Nat.le_refl _)
  have HAC := Lib.hid hacc0
  have HFIN := Lib.hid (show ∀ (e : Ending) (w' : World), FlS s A w e w' → PaS s (eitherF s K n) w e w' from fun e w' h => PaS.of HA.out h)
  clear hop hI hA hB hacc0 HA
  go_enter Tryz.func15, Tryz.ntmps15
  go_wp2_with fail
  go_loopw [1, 7] (fun s1 pv wr => ∃ (P : List (List Rg)) (n' k' : Nat) (v : Value), v = pv ∧ s1 = .int .i64 n' ∧ n' ≤ s.length ∧ k' ≤ K ∧ 3 * (s.length - n') + 3 ≤ k' ∧ (chP' op P []).length ≤ n' ∧ P.length ≤ n' ∧ Hid (flP op P (eitherF s k' n') = A) ∧ Hid (Acc R_G1 w 22 wr v P) ∧ Hid (Upd [] w wr)) (fun s1 _ _ => s.length - (intOf s1).toNat)
  case atStart => exact ⟨[], n, K, _, rfl, rfl, hn, Nat.le_refl _, hk, by simp [chP'], by simp, HA0, HAC, Lib.hid ((Upd.refl _ _).alloc _)⟩
  case round =>
    clear HA0 HAC
    obtain ⟨wo, rfl⟩ : ∃ wo : World, wo = wr := ⟨_, rfl⟩
    obtain ⟨P, n', k', v, rfl, rfl, hn', hkk, hk', hPl, hPn, HE, HAC, HU⟩ := hrel
    obtain ⟨k2, rfl⟩ : ∃ k2, k' = k2 + 1 := ⟨k' - 1, by omega⟩
    have S1 := HI.out wo k2 n' (by omega) hn' (by omega)
    have hE := HE.out
    rw [eitherF] at hE
    cases hf : thenF s k2 n' with
    | error a =>
      rw [hf] at S1 hE
      have HX := Lib.hid (show A = .error a from hE.symm)
      have HS := Lib.hid S1
      clear hf S1 hE HE HI HSK HIS HAC
      go_wp2_with fail
      refine HS.out.mono ?_
      rintro e w2 ⟨rfl, hu2⟩
      have HU2 := Lib.hid (HU.out.trans hu2)
      clear HS hu2
      go_wp2_with fail
      go_ret3
      refine HFIN.out _ _ ?_
      rw [HX.out]
      exact ⟨rfl, HU2.out⟩
    | ok r =>
      obtain ⟨x, p⟩ := r
      rw [hf] at S1 hE
      have hp := thenF_pos k2 _ x p hn' hf
      have hpl := thenF_len k2 _ x p hn' hf
      have hp2 := hp.2.1
      have hp1 := hp.1
      have hp3 := hp.2.2
      have HE2 := Lib.hid (show flP op P (if isB s p 43 then (match eitherF s k2 (p + 1) with | .error e => .error e | .ok (y, q) => .ok (twoR 2 x y, q)) else .ok (x, p)) = A from hE)
      have HS := Lib.hid S1
      obtain ⟨q5, hq5⟩ : ∃ q, isB s p 43 = q := ⟨_, rfl⟩
      have I5 := Lib.hid (fun W => HIS.out p W hp2)
      rw [hq5] at I5 HE2
      obtain ⟨us, hown, hrows⟩ := HAC.out
      have HRW := Lib.hid hrows
      have HOU := Lib.hid hown
      have hsz : B ≤ wo.heap.size := by rw [← HBB.out]; exact HU.out.size
      obtain ⟨av, cv, rfl⟩ := ownsRow_form hown
      clear hf S1 hE HE HIS HAC hp hown hrows
      go_wp2_with fail
      refine HS.out.mono ?_
      rintro e w2 ⟨⟨vx, q, rfl, hnx, hql, hqp⟩, hu2⟩
      have K2 := HSK.out q
      have HNX := Lib.hid hnx
      have HUP := Lib.hid hu2
      have HU2 := Lib.hid (HU.out.trans hu2)
      have hsz2 := hu2.size
      obtain ⟨ax, cx, rfl⟩ := hnx.form
      have hown2 := (ownsRow_upd HOU.out hu2).alloc (.cells #[.slice ax (flatT x).length cx] 22)
      have HQP := Lib.hid hqp
      clear HS hnx hu2 hqp HU
      generalize hfx : flatT x = fx at *
      go_wp2_with (first
        | (at_builtin; refine wpList_append_tight _ rfl _ _ 59 rfl w.heap.size 22 i1 (.slice none 0 0) 1 24 Tryz.underlying59 li lz0 lz1 lz2 rfl (by decide) _ _ _ rfl hown2 ⟨w2.heap.size, 0, none⟩ 1 1 [.slice ax fx.length cx] rfl rfl (fun j u hj => by rw [addr_add]; exact cell_new w2 #[.slice ax fx.length cx] _ _ rfl _ _ (by simpa using hj)) (by intro u hu; simp at hu; subst hu; rfl) (by unfold maxLen; omega) (by omega) (by have := HU2.out.size; simp; omega) ?_)
        | fail)
      intro v3 w3 hown3 hg3 ht3
      have hacc3 := Acc.push R_G1k HOU.out HRW.out (by have := HBB.out; omega) HUP.out HNX.out _ (by simpa using hown3) hg3 (by simpa using ht3)
      have hb3 : Below w.heap.size w w3 := (HU2.out.below).trans (((Below.refl w.heap.size w2).alloc HU2.out.size _).grown hg3 (by have := HU2.out.size; simp; omega) (fun k hk => (hown2.lt k hk).1))
      have HU3 := Lib.hid (Upd.ofBelow hb3)
      have HAC3 := Lib.hid hacc3
      have HK := Lib.hid (K2 w3 hql)
      have hqq : skF s q = p := HQP.out
      rw [hqq] at HK
      clear hown3 hg3 ht3 hacc3 hb3 hown2 HOU HRW HUP HNX K2 HQP hqq
      go_wp2_with fail
      refine HK.out.mono ?_
      rintro e w4 ⟨rfl, hww⟩
      subst hww
      clear HK
      go_wp2_with fail
      refine (I5.out _).mono ?_
      rintro e w4 ⟨rfl, hww⟩
      subst hww
      clear I5
      have hcl := chP_len op P fx
      cases q5 with
      | true =>
        have hlt := isB_lt hq5
        have HJ := Lib.hid (show flP op (P ++ [fx]) (eitherF s k2 (p + 1)) = A by
          rw [← HE2.out, if_pos rfl]
          cases eitherF s k2 (p + 1) with
          | error e => rfl
          | ok r =>
            obtain ⟨y, q⟩ := r
            unfold flP
            simp only
            rw [chP_push, show flatT (twoR 2 x y) = op :: (fx ++ flatT y) by rw [HOP.out, ← hfx]; simp [twoR, flatT, flatTs]])
        have hc2 : (chP' op (P ++ [fx]) []).length ≤ p + 1 := by
          rw [chP_push, chP_len]; simp; omega
        clear HE2 hq5
        go_wp2_with fail
        go_roundw
        case rel => exact ⟨P ++ [fx], p + 1, k2, _, rfl, by go_num, by omega, by omega, by omega, hc2, by simp; omega, HJ, HAC3, HU3⟩
        case measure => simp [intOf]; omega
      | false =>
        have HX := Lib.hid (show A = .ok (chainF op (P ++ [fx]), p) by rw [← HE2.out, if_neg (by decide), chain_push]; unfold flP; simp only [hfx])
        obtain ⟨fpa, r3, o3, g3⟩ := (HAC3.out).new
        have C1 := chainS _ (P ++ [fx]) 2 w3 fpa r3 (by rw [← HOP.out, chain_push, hcl]; omega) (by simp; omega)
        rw [← HOP.out] at C1
        have HC := Lib.hid C1
        clear HE2 hq5 r3 o3 g3 C1
        go_wp2_with fail
        refine HC.out.mono ?_
        rintro e w4 ⟨⟨v4, rfl, hn4⟩, hu4⟩
        have HN4 := Lib.hid (hn4.mono HU3.out.size)
        have HU4 := Lib.hid (HU3.out.trans hu4)
        clear HC hn4 hu4
        go_wp2_with fail
        go_ret3
        refine HFIN.out _ _ ?_
        rw [HX.out]
        exact ⟨⟨⟨_, rfl, HN4.out⟩, hp2, hp3⟩, HU4.out⟩

/-- the reference's three readers together, by the measure of what is left. -/
theorem specR (s : List UInt8) (hs : s.length ≤ 1000000) : ∀ (k n : Nat) (w : World), n ≤ s.length →
    (3 * (s.length - n) + 1 ≤ k → Calls Tryz.prog 39 #[es s, .int .i64 n] w (FaS s (atomF s k n) w)) ∧
    (3 * (s.length - n) + 2 ≤ k → Calls Tryz.prog 26 #[es s, .int .i64 n] w (PaS s (thenF s k n) w)) ∧
    (3 * (s.length - n) + 3 ≤ k → Calls Tryz.prog 15 #[es s, .int .i64 n] w (PaS s (eitherF s k n) w)) := by
  intro k
  induction k using Nat.strongRecOn with
  | ind k ih =>
    intro n w hn
    refine ⟨fun h => ?_, fun h => ?_, fun h => ?_⟩
    · obtain ⟨k2, rfl⟩ : ∃ k2, k = k2 + 1 := ⟨k - 1, by omega⟩
      exact factorS k2 w s n hs hn (fun W n' h1 h2 => ((ih k2 (by omega) n' W h2).2.2 (by omega)).mono fun _ _ h => h.fa)
    · exact thenW k w s n hs hn h (fun W k' n' h1 h2 h3 => (ih k' h1 n' W h2).1 h3)
    · exact eitherW k w s n hs hn h (fun W k' n' h1 h2 h3 => ((ih k' h1 n' W h2).2.1 h3).mono fun _ _ h => h.fa)

end Go.Proofs.YtaahjpmndkcijaaGreatDoor

/-
  Regular expressions parsed: the reference's ParseRegular.
-/
namespace Go.Proofs.YtaahjpmndkcijaaGreatDoor
open Go.RowKit

end Go.Proofs.YtaahjpmndkcijaaGreatDoor

/-
  Formulas parsed: the reference's items: cells of a row, with regular expressions of their own.
-/
namespace Go.Proofs.YtaahjpmndkcijaaGreatDoor
open Go.RowKit

theorem Tryz.infoIt : (Tryz.prog.info? 82).map (fun i => (i.zero, i.size, i.bytes)) = some (some (.agg #[.int .i64 0, .int .i64 0, .string ⟨#[]⟩, .bool false, .slice none 0 0, .int .i64 0]), 6, 72) := by kernel_rfl

/-- an item: a node, a regular expression (modalities alone), an offset. -/
structure Itm where
  nd : Nd
  rg : List Rg
  at' : Nat
/-- the cells of items, whose regular expressions can be read. -/
def ItC (Z : Nat → Prop) (w : World) : List Itm → List Value → Prop
  | [], us => us = []
  | x :: xs, us => ∃ (rv : Value) (us' : List Value), us = encN x.nd ++ [rv, ei x.at'] ++ us' ∧ (∃ fp, R_G1 fp w [rv] x.rg ∧ ∀ b ∈ fp, Z b) ∧ ItC Z w xs us'
theorem ItC.updS {Z : Nat → Prop} {S : List Nat} {w w' : World} (hu : Upd S w w') (hS : ∀ b, Z b → b ∉ S) : ∀ (xs : List Itm) (us : List Value), ItC Z w xs us → ItC Z w' xs us
  | [], us, h => h
  | x :: xs, us, ⟨rv, us', h1, ⟨fp, h2, h4⟩, h3⟩ => ⟨rv, us', h1, ⟨fp, R_G1k.upd h2 hu (fun b hb => hS b (h4 b hb)), h4⟩, ItC.updS hu hS xs us' h3⟩
theorem ItC.upd {Z : Nat → Prop} {w w' : World} (hu : Upd [] w w') (xs : List Itm) (us : List Value) (h : ItC Z w xs us) : ItC Z w' xs us := ItC.updS hu (by simp) xs us h
theorem ItC.mono {Z Z' : Nat → Prop} {w : World} (hZ : ∀ b, b < w.heap.size → Z b → Z' b) : ∀ (xs : List Itm) (us : List Value), ItC Z w xs us → ItC Z' w xs us
  | [], us, h => h
  | x :: xs, us, ⟨rv, us', h1, ⟨fp, h2, h4⟩, h3⟩ => ⟨rv, us', h1, ⟨fp, h2, fun b hb => hZ b (R_G1k.lt h2 b hb) (h4 b hb)⟩, ItC.mono hZ xs us' h3⟩
theorem nilG (Z : Nat → Prop) (w : World) : ∃ fp, R_G1 fp w [.slice none 0 0] [] ∧ ∀ b ∈ fp, Z b :=
  ⟨[], ⟨_, rfl, none, 0, rfl, Nat.le_refl _, by simp [maxLen], rfl, Or.inl ⟨rfl, rfl⟩⟩, by simp⟩
theorem ItC.append {Z : Nat → Prop} {w : World} {ys : List Itm} {vs : List Value} (hy : ItC Z w ys vs) : ∀ (xs : List Itm) (us : List Value), ItC Z w xs us → ItC Z w (xs ++ ys) (us ++ vs)
  | [], us, h => by cases h; exact hy
  | x :: xs, us, ⟨rv, us', h1, h2, h3⟩ => ⟨rv, us' ++ vs, by rw [h1]; simp, h2, ItC.append hy xs us' h3⟩
theorem ItC.len {Z : Nat → Prop} {w : World} : ∀ (xs : List Itm) (us : List Value), ItC Z w xs us → us.length = 6 * xs.length
  | [], us, h => by cases h; rfl
  | x :: xs, us, ⟨rv, us', h1, h2, h3⟩ => by
    have := ItC.len xs us' h3
    rw [h1]; simp; omega
theorem ItC.one {Z : Nat → Prop} {w : World} : ∀ (xs : List Itm) (us : List Value), ItC Z w xs us → ∀ u ∈ us, u.oneCell' = true
  | [], us, h, u, hu => by cases h; simp at hu
  | x :: xs, us, ⟨rv, us', h1, ⟨fp, h2, h4⟩, h3⟩, u, hu => by
    obtain ⟨v', hv, a, cap, rfl, -⟩ := h2
    cases hv
    rw [h1] at hu
    simp at hu
    rcases hu with rfl | rfl | rfl | rfl | rfl | rfl | hu
    · rfl
    · rfl
    · rfl
    · rfl
    · rfl
    · rfl
    · exact ItC.one xs us' h3 u hu
/-- the six cells of an item. -/
theorem ItC.get {Z : Nat → Prop} {w : World} : ∀ (xs : List Itm) (us : List Value), ItC Z w xs us → ∀ (i : Nat) (h : i < xs.length), ∃ (rv : Value) (fp : List Nat),
    us[i * 6]? = some (ei xs[i].nd.kd) ∧ us[i * 6 + 1]? = some (ei xs[i].nd.vr) ∧ us[i * 6 + 2]? = some (es xs[i].nd.lb) ∧ us[i * 6 + 3]? = some (.bool xs[i].nd.nt) ∧ us[i * 6 + 4]? = some rv ∧ us[i * 6 + 5]? = some (ei xs[i].at') ∧ R_G1 fp w [rv] xs[i].rg ∧ ∀ b ∈ fp, Z b
  | x :: xs, us, ⟨rv, us', h1, ⟨fp, h2, h4⟩, h3⟩, 0, h => by
    refine ⟨rv, fp, ?_⟩
    rw [h1]
    exact ⟨rfl, rfl, rfl, rfl, rfl, rfl, h2, h4⟩
  | x :: xs, us, ⟨rv, us', h1, h2, h3⟩, i + 1, h => by
    obtain ⟨rv', fp, g⟩ := ItC.get xs us' h3 i (by simpa using h)
    refine ⟨rv', fp, ?_⟩
    have e : ∀ j, us[(i + 1) * 6 + j]? = us'[i * 6 + j]? := fun j => by
      rw [h1, List.getElem?_append_right (by simp; omega)]
      congr 1
      simp; omega
    have e0 := e 0
    simp only [Nat.add_zero] at e0
    rw [e0, e 1, e 2, e 3, e 4, e 5]
    exact g
/-- items of a formula. -/
def ItF : Fm → List Itm → Prop
  | .leaf k, L => ∃ a, L = [⟨ndK k, [], a⟩]
  | .var v p, L => L = [⟨ndV 6 v, [], p⟩]
  | .two k f g, L => ∃ A B, L = ⟨ndK k, [], 0⟩ :: (A ++ B) ∧ ItF f A ∧ ItF g B
  | .fix k v f, L => ∃ A a, L = ⟨ndV k v, [], a⟩ :: A ∧ ItF f A
  | .modal box r p f, L => ∃ A, L = ⟨ndK (if box then 5 else 4), flatT r, p⟩ :: A ∧ ItF f A
/-- a row of items that is new. -/
def NwI (w0 w : World) (v : Value) (xs : List Itm) : Prop := ∃ us, w.ownsRow w0.heap.size 82 6 v xs.length us ∧ ItC (fun b => w0.heap.size ≤ b) w xs us
theorem NwI.upd {w0 w w' : World} {v : Value} {xs : List Itm} (h : NwI w0 w v xs) (hu : Upd [] w w') : NwI w0 w' v xs := by
  obtain ⟨us, h1, h2⟩ := h
  exact ⟨us, ownsRow_upd h1 hu, ItC.upd hu _ _ h2⟩
theorem NwI.base {w0 w1 w : World} {v : Value} {xs : List Itm} (h : NwI w1 w v xs) (hb : w0.heap.size ≤ w1.heap.size) : NwI w0 w v xs := by
  obtain ⟨us, h1, h2⟩ := h
  exact ⟨us, row_base h1 hb, ItC.mono (fun b _ h => Nat.le_trans hb h) _ _ h2⟩
theorem NwI.form {w0 w : World} {v : Value} {xs : List Itm} (h : NwI w0 w v xs) : ∃ a c, v = .slice a xs.length c := by
  obtain ⟨us, h1, h2⟩ := h
  exact ownsRow_form h1
theorem NwI.nil (w0 w : World) : NwI w0 w (.slice none 0 0) [] := ⟨[], World.ownsRow_nil _ _ _ _, rfl⟩

end Go.Proofs.YtaahjpmndkcijaaGreatDoor

/-
  Formulas parsed: the reference reads a variable.
-/
namespace Go.Proofs.YtaahjpmndkcijaaGreatDoor
open Go.RowKit

def vrV (o : Option (Int × Nat)) : Int := match o with | some (v, _) => v | none => -1
def vrE (m : Nat) (o : Option (Int × Nat)) : Nat := match o with | some (_, e) => e | none => m

set_option maxRecDepth 20000 in
set_option maxHeartbeats 2000000 in
theorem varS (s : List UInt8) (m : Nat) (w : World) (hs : s.length ≤ 1000000) (hm : m ≤ s.length) :
    Calls Tryz.prog 66 #[es s, .int .i64 m] w fun e w' => e = .returned (.tuple #[.int .i64 (vrV (vrF s m)), .int .i64 (vrE m (vrF s m))]) ∧ w = w' := by
  have S1 := Lib.hid (isBS s m 88 88 rfl w (by omega) hm)
  cases hb : isB s m 88 with
  | false =>
    rw [hb] at S1
    have HV := Lib.hid (show vrF s m = none by unfold vrF; rw [hb]; rfl)
    go_enter Tryz.func66, Tryz.ntmps66
    go_wp2_with fail
    refine S1.out.mono ?_
    rintro e w1 ⟨rfl, rfl⟩
    clear S1
    go_wp2_with fail
    go_ret2
    rw [HV.out]
    exact ⟨rfl, rfl⟩
  | true =>
    rw [hb] at S1
    have hlt := isB_lt hb
    have S2 := l04DigitsS s (m + 1) w (by omega) (by omega)
    have hr := runE_le (p := isDig) (s := s) (n := m + 1) (by omega)
    rw [show m + 1 + ((s.drop (m + 1)).takeWhile isDig).length = runE isDig s (m + 1) from rfl] at S2
    have HV := Lib.hid (show vrF s m = (match smallF 3 (cutS s (m + 1) (runE isDig s (m + 1))) with | some v => some (v, runE isDig s (m + 1)) | none => none) by unfold vrF; rw [hb]; rfl)
    generalize runE isDig s (m + 1) = E at *
    have hr1 := hr.1
    have hr2 := hr.2
    have S3 := l04SmallS 3 (cutS s (m + 1) E) w (by simp [cutS]; omega)
    have hext : (⟨s.toArray⟩ : ByteArray).extract (m + 1) E = ⟨(cutS s (m + 1) E).toArray⟩ := extract_list s (m + 1) E
    have hwr : IntKind.i64.wrap ((m : Int) + 1) = (m : Int) + 1 := by rw [IntKind.wrap_i64]; omega
    generalize cutS s (m + 1) E = t at *
    rw [show (((m + 1 : Nat) : Nat) : Int) = (m : Int) + 1 by omega] at S2
    have HS2 := Lib.hid S2
    have hsm : ∀ v, smallF 3 t = some v → 0 ≤ v := fun v h => by
      unfold smallF at h
      cases hn : numF t with
      | none => rw [hn] at h; cases h
      | some x =>
        rw [hn] at h
        simp only at h
        split at h
        · cases h; omega
        · cases h
    clear hb hr S2
    cases hq : smallF 3 t with
    | none =>
      rw [hq] at S3 HV
      have HV2 := Lib.hid (show vrF s m = none from HV.out)
      have HS3 := Lib.hid S3
      clear HV S3 hsm hq
      go_enter Tryz.func66, Tryz.ntmps66
      go_wp2_with fail
      refine S1.out.mono ?_
      rintro e w1 ⟨rfl, rfl⟩
      clear S1
      go_wp2_with fail
      refine HS2.out.mono ?_
      rintro e w1 ⟨rfl, rfl⟩
      clear HS2
      go_wp2_with fail
      refine HS3.out.mono ?_
      rintro e w1 ⟨rfl, rfl⟩
      clear HS3
      go_wp2_with fail
      go_ret2
      rw [HV2.out]
      exact ⟨rfl, rfl⟩
    | some v =>
      have hv := hsm v hq
      rw [hq] at S3 HV
      have HV2 := Lib.hid (show vrF s m = some (v, E) from HV.out)
      have HS3 := Lib.hid (show Calls Tryz.prog 77 #[es t, .int .i64 3] w fun e w' => e = .returned (.int .i64 v) ∧ w = w' from S3)
      clear HV S3 hsm hq
      go_enter Tryz.func66, Tryz.ntmps66
      go_wp2_with fail
      refine S1.out.mono ?_
      rintro e w1 ⟨rfl, rfl⟩
      clear S1
      go_wp2_with fail
      refine HS2.out.mono ?_
      rintro e w1 ⟨rfl, rfl⟩
      clear HS2
      go_wp2_with fail
      refine HS3.out.mono ?_
      rintro e w1 ⟨rfl, rfl⟩
      clear HS3
      go_wp2_with fail
      go_ret2
      rw [HV2.out]
      exact ⟨rfl, rfl⟩

end Go.Proofs.YtaahjpmndkcijaaGreatDoor
