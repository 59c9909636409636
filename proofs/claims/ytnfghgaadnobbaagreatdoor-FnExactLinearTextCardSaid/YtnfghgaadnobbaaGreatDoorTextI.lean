/-
  The text of an expression: what the program's calls return.
-/
import Derived.Test.YtnfghgaadnobbaaGreatDoorTextP
import Derived.Test.YtnfghgaadnobbaaGreatDoorShelf
import Derived.Deep.QuietTactic
import Derived.BigQuiet
namespace Go.Proofs.YtnfghgaadnobbaaGreatDoor
open Go.RowKit

/-- the tables of the operators. -/
structure Glob (w : World) : Prop where
  ops : ∀ i : Nat, i < 9 → w.cell? ⟨0, i, none⟩ = some (es (opT i))
  lvs : ∀ i : Nat, i < 9 → w.cell? ⟨1, i, none⟩ = some (ei (lvl i))
theorem Glob.upd {w w1 : World} (h : Glob w) (hu : Upd [] w w1) : Glob w1 := ⟨fun i hi => hu.keep (h.ops i hi), fun i hi => hu.keep (h.lvs i hi)⟩
theorem Glob.drewN {w : World} (h : Glob w) (n : Nat) : Glob (w.drewN n) := ⟨h.ops, h.lvs⟩

set_option maxRecDepth 20000 in
set_option maxHeartbeats 1000000 in
theorem levelE (x : Ex) (w : World) (v : Value) (fp : List Nat) (hG : Glob w) (hg : goodE 29 x = true) (hR : R_E fp w [v] x) :
    Calls Tryz.prog 44 #[v] w fun e w' => e = .returned (ei (lvE x)) ∧ w = w' := by
  obtain ⟨⟨t1, t2⟩, args⟩ := x
  obtain ⟨b0, s, fa, rfl, rfl, c0, c1, c2, -⟩ := R_E_open hR
  rw [goodE_mk] at hg
  simp only [Bool.and_eq_true, decide_eq_true_eq] at hg
  have hok := hg.1.2
  clear hR hg
  by_cases h2 : t1 = 2
  · subst h2
    simp [tOk] at hok
    have hb := inB_true hok
    obtain ⟨q, rfl⟩ : ∃ q : Nat, t2 = q := ⟨t2.toNat, by omega⟩
    have hl := hG.lvs q (by omega)
    have HL := Lib.hid (show lvE (.mk (2, (q : Int)) args) = lvl q by simp [lvE])
    have hq : q < 9 := by omega
    generalize lvl q = L at *
    clear hok hG
    go_enter Tryz.func44, Tryz.ntmps44
    go_wp2_with fail
    go_ret
    exact ⟨by rw [HL.out]; rfl, rfl⟩
  · have HL := Lib.hid (show lvE (.mk (t1, t2) args) = 9 by simp [lvE, h2])
    have h2' : (t1 == 2) = false := by simpa using h2
    clear hok hG
    go_enter Tryz.func44, Tryz.ntmps44
    go_wp2_with fail
    go_ret
    exact ⟨by rw [HL.out]; rfl, rfl⟩

theorem decimalS (q : Nat) (hq : q < 100) (w : World) : Calls Tryz.prog 16 #[.int .i64 q] w fun e w' => e = .returned (es (Lib.itoa q)) ∧ w = w' := by
  have S1 := Lib.hid (Tryz.strconv_FormatInt_10_small q hq w)
  have HI := Lib.hid (show Lib.itoa (q : Int) = Lib.decDigits q by simp [Lib.itoa])
  go_enter Tryz.func16, Tryz.ntmps16
  go_wp2_with fail
  refine S1.out.mono ?_
  rintro e w1 ⟨rfl, rfl⟩
  go_wp2_with fail
  go_ret
  exact ⟨by rw [HI.out]; rfl, rfl⟩

theorem es_cat (a b : List UInt8) : (ByteArray.mk a.toArray ++ ByteArray.mk b.toArray) = ByteArray.mk (a ++ b).toArray := ByteArray.mk_append_mk a b
theorem es_par (T : List UInt8) : ((⟨#[40]⟩ : ByteArray) ++ ⟨T.toArray⟩ ++ ⟨#[41]⟩) = ⟨(([40] ++ T) ++ [41]).toArray⟩ := by rw [← es_cat, ← es_cat]

/-- a text in parentheses, or bare. -/
theorem inner (b : Bool) (v : Value) (T : List UInt8) (w w0 : World) (n : Nat) (hl : (T.length : Int) ≤ 100000) (h : ∀ n, Calls Tryz.prog 19 #[v] (w0.drewN n) fun e w' => e = .returned (es T) ∧ ∃ m, w' = w0.drewN m) (hw : w = w0.drewN n) :
    Calls Tryz.prog 43 #[v, .bool b] w fun e w' => e = .returned (es (par b T)) ∧ ∃ m, w' = w0.drewN m := by
  subst hw
  have S1 := Lib.hid (h n)
  clear h
  cases b
  · go_enter Tryz.func43, Tryz.ntmps43
    go_wp2_with fail
    refine S1.out.mono ?_
    rintro e w1 ⟨rfl, m, rfl⟩
    go_wp2_with fail
    go_ret
    exact ⟨rfl, _, rfl⟩
  · go_enter Tryz.func43, Tryz.ntmps43
    go_wp2_with fail
    refine S1.out.mono ?_
    rintro e w1 ⟨rfl, m, rfl⟩
    go_wp2_with fail
    go_ret
    exact ⟨by simp only [par, if_true, es_par]; rfl, _, rfl⟩

set_option maxRecDepth 20000 in
set_option maxHeartbeats 4000000 in
theorem textI (n : Nat) : ∀ (x : Ex) (w : World) (v : Value) (fp : List Nat), (flatE x).length ≤ n → (flatE x).length ≤ 1000 → goodE 29 x = true → Glob w → R_E fp w [v] x →
    Calls Tryz.prog 19 #[v] w fun e w' => e = .returned (es (textE x)) ∧ ∃ m, w' = w.drewN m := by
  induction n with
  | zero => intro x w v fp hn; have := flatE_pos x; omega
  | succ n ih =>
    intro x w v fp hn h1000 hg hG hR
    have hgx := hg
    have hRx := hR
    obtain ⟨⟨t1, t2⟩, args⟩ := x
    obtain ⟨b0, s, fa, rfl, rfl, c0, c1, c2, hargs⟩ := R_E_open hR
    rw [goodE_mk] at hg
    simp only [Bool.and_eq_true, decide_eq_true_eq] at hg
    obtain ⟨⟨hlen, hok⟩, hgs⟩ := hg
    simp only [flatE, List.length_cons] at hn h1000
    rcases tOk_kind hok with h | h | h | h
    · subst h
      simp [tOk] at hok
      have hb := inB_true hok
      obtain ⟨q, rfl⟩ : ∃ q : Nat, t2 = q := ⟨t2.toNat, by omega⟩
      have HRES := Lib.hid (show textE (.mk (0, (q : Int)) args) = Lib.itoa q by simp [textE])
      have S1 := Lib.hid (decimalS q (by omega) w)
      generalize Lib.itoa (q : Int) = T at *
      clear ih hok hgs hgx hRx hargs hG hR hlen
      go_enter Tryz.func19, Tryz.ntmps19
      go_wp2_with fail
      refine S1.out.mono ?_
      rintro e w1 ⟨rfl, rfl⟩
      go_wp2_with fail
      go_ret
      exact ⟨by rw [HRES.out]; rfl, 0, rfl⟩
    · subst h
      simp [tOk] at hok
      have hb := inB_true hok
      obtain ⟨q, rfl⟩ : ∃ q : Nat, t2 = q := ⟨t2.toNat, by omega⟩
      have HRES := Lib.hid (show textE (.mk (1, (q : Int)) args) = [118] ++ Lib.itoa q by simp [textE])
      have S1 := Lib.hid (decimalS q (by omega) w)
      have hil := itoa_small (n := q) (by omega) (by omega)
      generalize Lib.itoa (q : Int) = T at *
      clear ih hok hgs hgx hRx hargs hG hR hlen
      go_enter Tryz.func19, Tryz.ntmps19
      go_wp2_with fail
      refine S1.out.mono ?_
      rintro e w1 ⟨rfl, rfl⟩
      go_wp2_with fail
      go_ret
      exact ⟨by rw [HRES.out, es_cat]; rfl, 0, rfl⟩
    · subst h
      simp [tOk] at hok
      have hb := inB_true hok
      obtain ⟨q, rfl⟩ : ∃ q : Nat, t2 = q := ⟨t2.toNat, by omega⟩
      simp [arity] at hlen
      match args, hlen with
      | [x, y], _ =>
        obtain ⟨a, cap, rfl, g1, g2, hc⟩ := slP_open hargs
        obtain ⟨ba, oa, u0, f0, rfl, -, -, p0, -, r0⟩ := hc 0 (by simp)
        obtain ⟨ba', oa', u1, f1, hb', -, -, p1, -, r1⟩ := hc 1 (by simp)
        simp only [Option.some.injEq, Addr.mk.injEq, and_true] at hb'
        obtain ⟨rfl, rfl⟩ := hb'
        have p0 : w.cell? ⟨ba, oa, none⟩ = some u0 := p0
        unfold maxLen at g2
        rw [goodEs_cons, goodEs_cons, Bool.and_eq_true, Bool.and_eq_true] at hgs
        simp only [flatEs, List.append_nil, List.length_append] at hn h1000
        have hpx := flatE_pos x
        have hpy := flatE_pos y
        have hr0 : R_E f0 w [u0] x := r0
        have hr1 : R_E f1 w [u1] y := r1
        have hlx := textE_len x hgs.1
        have hly := textE_len y hgs.2.1
        have hop := opT_len q
        have hq : q < 9 := by omega
        have hgo := hG.ops q hq
        have L1 := fun n' => Calls.quiet_of_same (n := n') ((levelE _ (w.drewN n') _ _ (hG.drewN n') hgx (R_Ek.drewN hRx n')).mono (fun e w' h => ⟨h.1, h.2.symm⟩))
        have L2 := fun q n' => Calls.quiet_of_same (n := n') ((levelE x ((w.drewN q).drewN n') u0 f0 ((hG.drewN q).drewN n') hgs.1 (R_Ek.drewN (R_Ek.drewN hr0 q) n')).mono (fun e w' h => ⟨h.1, h.2.symm⟩))
        have L3 := fun q n' => Calls.quiet_of_same (n := n') ((levelE y ((w.drewN q).drewN n') u1 f1 ((hG.drewN q).drewN n') hgs.2.1 (R_Ek.drewN (R_Ek.drewN hr1 q) n')).mono (fun e w' h => ⟨h.1, h.2.symm⟩))
        have T1 := fun (b : Bool) (q : Nat) n' => inner b u0 (textE x) ((w.drewN q).drewN n') (w.drewN q) n' (by omega) (fun m => Calls.quiet_of (ih x ((w.drewN q).drewN m) u0 f0 (by omega) (by omega) hgs.1 ((hG.drewN q).drewN m) (R_Ek.drewN (R_Ek.drewN hr0 q) m))) rfl
        have T2 := fun (b : Bool) (q : Nat) n' => inner b u1 (textE y) ((w.drewN q).drewN n') (w.drewN q) n' (by omega) (fun m => Calls.quiet_of (ih y ((w.drewN q).drewN m) u1 f1 (by omega) (by omega) hgs.2.1 ((hG.drewN q).drewN m) (R_Ek.drewN (R_Ek.drewN hr1 q) m))) rfl
        have HRES := Lib.hid (show textE (.mk (2, (q : Int)) [x, y]) = (par (decide (lvE x < lvl q)) (textE x) ++ opT q) ++ par (decide (lvE y ≤ lvl q)) (textE y) by simp [textE, textEs])
        rw [show lvE (.mk (2, (q : Int)) [x, y]) = lvl q by simp [lvE]] at L1
        have ha := par_len (decide (lvE x < lvl q)) (textE x)
        have hb2 := par_len (decide (lvE y ≤ lvl q)) (textE y)
        obtain ⟨bx, rfl⟩ := R_E_form hr0
        obtain ⟨by', rfl⟩ := R_E_form hr1
        generalize lvE x = lx at *
        generalize lvE y = ly at *
        generalize lvl q = own at *
        have T1 := T1 (decide (lx < own))
        have T2 := T2 (decide (ly ≤ own))
        generalize par (decide (lx < own)) (textE x) = A at *
        generalize par (decide (ly ≤ own)) (textE y) = B at *
        generalize opT q = O at *
        have HL1 := Lib.hid L1
        have HL2 := Lib.hid L2
        have HL3 := Lib.hid L3
        have HT1 := Lib.hid T1
        have HT2 := Lib.hid T2
        have hA : (A.length : Int) ≤ 10000 := by omega
        have hB : (B.length : Int) ≤ 10000 := by omega
        have hO : (O.length : Int) ≤ 2 := by omega
        clear ih hok hgs hgx hRx hargs hG hR hc r0 r1 hr0 hr1 hlx hly ha hb2 L1 L2 L3 T1 T2 hb hop hn h1000 hpx hpy
        go_enter Tryz.func19, Tryz.ntmps19
        go_wp2_with fail
        go_quiet ((go_at_call 44; with_reducible exact HL1.out _))
        obtain ⟨wq, hwq⟩ : ∃ wq, w.drewN nq = wq := ⟨_, rfl⟩
        have q0 : wq.cell? ⟨b0, 0, none⟩ = some (ei 2) := by rw [← hwq]; exact c0
        have q1 : wq.cell? ⟨b0, 1, none⟩ = some (ei q) := by rw [← hwq]; exact c1
        have qo : wq.cell? ⟨0, q, none⟩ = some (es O) := by rw [← hwq]; exact hgo
        have M2 := HL2.out nq
        have M3 := HL3.out nq
        have N1 := HT1.out nq
        have N2 := HT2.out nq
        rw [hwq] at M2 M3 N1 N2
        have HM2 := Lib.hid M2
        have HM3 := Lib.hid M3
        have HN1 := Lib.hid N1
        have HN2 := Lib.hid N2
        rw [hwq]
        have HWQ := Lib.hid hwq
        clear hwq HL1 HL2 HL3 HT1 HT2 M2 M3 N1 N2 c0 c1 c2 p0 p1 hgo
        go_wp2_with fail
        go_quiet (first | (go_at_call 44; first | (with_reducible exact HM2.out _) | (with_reducible exact HM3.out _)) | (go_at_call 43; first | (with_reducible exact HN1.out _) | (with_reducible exact HN2.out _)))
        go_wp2_with fail
        go_ret
        exact ⟨by rw [HRES.out, es_cat, es_cat]; rfl, _, by rw [← HWQ.out, drewN_add]⟩
    · subst h
      simp [arity] at hlen
      match args, hlen with
      | [x], _ =>
        obtain ⟨a, cap, rfl, g1, g2, hc⟩ := slP_open hargs
        obtain ⟨ba, oa, u0, f0, rfl, -, -, p0, -, r0⟩ := hc 0 (by simp)
        have p0 : w.cell? ⟨ba, oa, none⟩ = some u0 := p0
        unfold maxLen at g2
        rw [goodEs_cons, Bool.and_eq_true] at hgs
        simp only [flatEs, List.append_nil] at hn h1000
        have hr0 : R_E f0 w [u0] x := r0
        have hlx := textE_len x hgs.1
        have hpar := par_len (isOp x) (textE x)
        have T1 := fun n' => inner (isOp x) u0 (textE x) (w.drewN n') w n' (by omega) (fun m => Calls.quiet_of (ih x (w.drewN m) u0 f0 (by omega) (by omega) hgs.1 (hG.drewN m) (R_Ek.drewN hr0 m))) rfl
        have HRES := Lib.hid (show textE (.mk (3, t2) [x]) = [33] ++ par (isOp x) (textE x) by simp [textE, textEs])
        obtain ⟨⟨k1, k2⟩, xargs⟩ := x
        obtain ⟨bx, sx, fx, rfl, -, d0, -, -, -⟩ := R_E_open hr0
        rw [show isOp (.mk (k1, k2) xargs) = (k1 == 2) from rfl] at *
        generalize par (k1 == 2) (textE (.mk (k1, k2) xargs)) = A at *
        have HT1 := Lib.hid T1
        have hA : (A.length : Int) ≤ 10000 := by omega
        have d0 : w.cell? ⟨bx, 0, none⟩ = some (ei k1) := d0
        clear ih hok hgs hgx hRx hargs hG hR hc r0 hr0 hlx hpar T1 hn h1000
        go_enter Tryz.func19, Tryz.ntmps19
        go_wp2_with fail
        go_quiet ((go_at_call 43; with_reducible exact HT1.out _))
        go_wp2_with fail
        go_ret
        exact ⟨by rw [HRES.out, es_cat]; rfl, _, rfl⟩

end Go.Proofs.YtnfghgaadnobbaaGreatDoor
