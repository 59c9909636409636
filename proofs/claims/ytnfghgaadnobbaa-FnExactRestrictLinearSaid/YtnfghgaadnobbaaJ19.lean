/-
  Proved: the law FnExactRestrictLinear, for every input, with no condition: the call returns true and each argument reads afterwards as it read before.
-/
import Derived.Test.YtnfghgaadnobbaaLinR
import Derived.Test.YtnfghgaadnobbaaLib7
import Derived.Test.YtnfghgaadnobbaaLinH
import Derived.Test.YtnfghgaadnobbaaLib8
import Derived.Test.YtnfghgaadnobbaaOpenLn
import Derived.Test.YtnfghgaadnobbaaOpenC
namespace Go.Proofs.Ytnfghgaadnobbaa
open Go.RowKit

def firstP {α : Type} (p : α → Bool) : List α → Int
  | [] => -1
  | s :: r => if p s then 0 else if firstP p r < 0 then -1 else firstP p r + 1
theorem firstP_at {α : Type} {p : α → Bool} : ∀ {l : List α} (k : Nat) (hk : k < l.length), (∀ j (_ : j < k) (hj : j < l.length), p l[j] = false) → p l[k] = true → firstP p l = k
  | [], k, hk, _, _ => by simp at hk
  | s :: r, 0, _, _, h => by simp at h; simp [firstP, h]
  | s :: r, k + 1, hk, hn, h => by
    have h0 : p s = false := hn 0 (by omega) (by simp)
    have ih := firstP_at (p := p) (l := r) k (by simpa using hk) (fun j hj hj2 => by have := hn (j + 1) (by omega) (by simpa using hj2); rwa [List.getElem_cons_succ] at this) (by rwa [List.getElem_cons_succ] at h)
    rw [firstP, h0, if_neg (by simp), ih, if_neg (by omega)]; omega
theorem firstP_none {α : Type} {p : α → Bool} : ∀ {l : List α}, (∀ j (hj : j < l.length), p l[j] = false) → firstP p l = -1
  | [], _ => rfl
  | s :: r, hn => by
    have h0 : p s = false := hn 0 (by simp)
    have ih := firstP_none (p := p) (l := r) (fun j hj => by have := hn (j + 1) (by simpa using hj); rwa [List.getElem_cons_succ] at this)
    rw [firstP, h0, if_neg (by simp), ih, if_pos (by omega)]
theorem firstP_nonneg {α : Type} (p : α → Bool) : ∀ l : List α, decide (0 ≤ firstP p l) = l.any p
  | [] => rfl
  | s :: r => by
    have ih := firstP_nonneg p r
    rw [List.any_cons, firstP]
    by_cases h : p s = true
    · simp [h]
    · rw [if_neg h, ← ih, show p s = false by simpa using h, Bool.false_or]
      by_cases h2 : firstP p r < 0
      · rw [if_pos h2]; rw [decide_eq_false (by omega), decide_eq_false (by omega)]
      · rw [if_neg h2]; rw [decide_eq_true (by omega), decide_eq_true (by omega)]
theorem firstP_cases {α : Type} (p : α → Bool) (l : List α) : (firstP p l = -1 ∧ ∀ j (hj : j < l.length), p l[j] = false) ∨ ∃ k, ∃ hk : k < l.length, firstP p l = k ∧ p l[k] = true ∧ ∀ j (_ : j < k) (hj : j < l.length), p l[j] = false := by
  cases h : l.findIdx? p with
  | none =>
    have hn : ∀ j (hj : j < l.length), p l[j] = false := fun j hj => by
      rw [List.findIdx?_eq_none_iff] at h
      exact h _ (List.getElem_mem hj)
    exact Or.inl ⟨firstP_none hn, hn⟩
  | some k =>
    rw [List.findIdx?_eq_some_iff_getElem] at h
    obtain ⟨hk, h1, h2⟩ := h
    have hn : ∀ j (_ : j < k) (hj : j < l.length), p l[j] = false := fun j hj hj2 => by simpa using h2 j hj
    exact Or.inr ⟨k, hk, firstP_at k hk hn h1, h1, hn⟩

/-- a function's value that asks something of a summand, while the blocks of f are written. -/
structure PredOk (W0 : World) (f : List Nat) (fn : FuncId) (caps : Array Value) (p : Sm → Bool) (G : Sm → Prop) : Prop where
  ent : ∀ args w, Sem.run Try.prog (callFunc fn args) w = .ok (.enter fn args) w
  call : ∀ wr us s g, Upd f W0 wr → R_Sm g wr us s → G s → Calls Try.prog fn (#[.agg us.toArray] ++ caps) wr fun e w' => e = .returned (.bool (p s)) ∧ Upd [] wr w'

set_option maxRecDepth 20000 in
set_option maxHeartbeats 2000000 in
theorem idxFuncSm (v : Value) (xs : List Sm) (W0 : World) (f : List Nat) (w : World) (fp : List Nat) (fn : FuncId) (caps : Array Value) (p : Sm → Bool) (G : Sm → Prop) (hP : PredOk W0 f fn caps p G) (hU : Upd f W0 w) (hR : R_Sm1 fp w [v] xs) (hG : ∀ s ∈ xs, G s) :
    Calls Try.prog 89 #[v, .func (.func fn) #[] caps] w fun e w' => e = .returned (.int .i64 (firstP p xs)) ∧ Upd [] w w' := by
  obtain ⟨a1, c1, rfl, hl1, hm1, hc1⟩ := slQ_open hR
  unfold maxLen at hm1
  have hent := hP.ent
  have HBY := Lib.hid hP.call
  have HU0 := Lib.hid hU
  have HC := Lib.hid hc1
  have HGG := Lib.hid hG
  have HF := Lib.hid (fun k (hk : k < xs.length) (h1 : ∀ j (_ : j < k) (hj : j < xs.length), p xs[j] = false) (h2 : p xs[k] = true) => firstP_at k hk h1 h2)
  have HN := Lib.hid (fun (h : ∀ j (hj : j < xs.length), p xs[j] = false) => firstP_none h)
  clear hR hP hc1 hG hU
  generalize firstP p xs = Z at *
  go_enter Try.func89, Try.ntmps89
  go_wp2_with fail
  go_loopw [8] (fun i wr => ∃ k : Nat, k ≤ xs.length ∧ i = .int .i64 k ∧ Hid (Upd [] w wr) ∧ Hid (∀ j (_ : j < k) (hj : j < xs.length), p xs[j] = false)) (fun i _ => xs.length - (intOf i).toNat)
  case atStart => exact ⟨0, Nat.zero_le _, rfl, Lib.hid (Upd.refl _ _), Lib.hid (fun j hj => absurd hj (Nat.not_lt_zero _))⟩
  case round =>
    obtain ⟨wo, rfl⟩ : ∃ wo : World, wo = wr := ⟨_, rfl⟩
    obtain ⟨k, hk, rfl, HU, HI⟩ := hrel
    by_cases hlt : k < xs.length
    · obtain ⟨bb, off, u, f', rfl, -, -, -, hcell, -, hr⟩ := HC.out k hlt
      have HFK := Lib.hid (HF.out k hlt HI.out)
      have HIK := Lib.hid (fun (h : p xs[k] = false) j (hjk : j < k + 1) (hj : j < xs.length) => (show p xs[j] = false by
        by_cases e : j = k
        · subst e; exact h
        · exact HI.out j (by omega) hj))
      have hr' := R_Smk.upd hr HU.out (by simp)
      have S1 := HBY.out wo u xs[k] f' (HU0.out.trans (HU.out.mono (by simp))) hr' (HGG.out _ (List.getElem_mem hlt))
      have hcell' : ∀ (j : Nat) c, u[j]? = some c → wo.cell? ⟨bb, off + k * 5 + j, none⟩ = some c := fun j c hj => HU.out.keep (hcell j c hj)
      obtain ⟨e0, e1, e3, e4, f0, f1', f3, f4, rfl, r0, r1, r3, r4, rfl⟩ := hr
      have s0 := hcell' 0 _ rfl
      have s1 := hcell' 1 _ rfl
      have s2 := hcell' 2 _ rfl
      have s3 := hcell' 3 _ rfl
      have s4 := hcell' 4 _ rfl
      simp only [Nat.add_zero] at s0
      have hkl : (k : Int) < (xs.length : Int) := by omega
      have HS1 := Lib.hid S1
      clear r0 r1 r3 r4 hcell hcell' hr' HF HN S1
      generalize xs[k] = s at *
      generalize p s = q at *
      generalize s.name = N at *
      go_wp2_with fail
      refine HS1.out.mono ?_
      rintro e w1 ⟨rfl, hu1⟩
      have HU1 := Lib.hid (HU.out.trans hu1)
      clear HS1 hu1 s0 s1 s2 s3 s4
      cases q with
      | false =>
        replace HIK := Lib.hid (HIK.out rfl)
        clear HFK
        go_wp2_with fail
        go_roundw
        case rel => exact ⟨k + 1, by omega, by go_num, HU1, HIK⟩
        case measure => simp [intOf]; omega
      | true =>
        have HZ := Lib.hid (HFK.out rfl)
        clear HIK HFK
        go_wp2_with fail
        go_ret
        exact ⟨by rw [HZ.out]; rfl, HU1.out⟩
    · have HZ := Lib.hid (HN.out (fun j hj => HI.out j (by omega) hj))
      clear HF HN
      go_wp2_with fail
      go_ret
      exact ⟨by rw [HZ.out]; rfl, HU.out⟩

set_option maxRecDepth 20000 in
theorem conFuncSm (v : Value) (xs : List Sm) (W0 : World) (f : List Nat) (w : World) (fp : List Nat) (fn : FuncId) (caps : Array Value) (p : Sm → Bool) (G : Sm → Prop) (hP : PredOk W0 f fn caps p G) (hU : Upd f W0 w) (hR : R_Sm1 fp w [v] xs) (hG : ∀ s ∈ xs, G s) :
    Calls Try.prog 69 #[v, .func (.func fn) #[] caps] w fun e w' => e = .returned (.bool (xs.any p)) ∧ Upd [] w w' := by
  have S1 := Lib.hid (idxFuncSm v xs W0 f w fp fn caps p G hP hU hR hG)
  have HB := Lib.hid (firstP_nonneg p xs)
  clear hP hU hR hG
  generalize firstP p xs = Z at *
  generalize xs.any p = q at *
  go_enter Try.func69, Try.ntmps69
  go_wp2_with fail
  refine S1.out.mono ?_
  rintro e w1 ⟨rfl, hu⟩
  have HU := Lib.hid hu
  clear hu
  go_wp2_with fail
  go_ret
  exact ⟨by show Ending.returned (.bool (decide (0 ≤ Z))) = _; rw [HB.out], HU.out⟩

end Go.Proofs.Ytnfghgaadnobbaa

namespace Go.Proofs.Ytnfghgaadnobbaa
open Go.RowKit

/-- what is left of a list of summands in its place. -/
def LeftSm (fp : List Nat) (w : World) (ys : List Sm) (e : Ending) (w' : World) : Prop :=
  (∃ fp' a c, e = .returned (.slice a ys.length c) ∧ R_Sm1 fp' w' [.slice a ys.length c] ys ∧ Own fp' w' ∧ ∀ b ∈ fp', b ∈ fp) ∧ Upd fp w w'

set_option maxRecDepth 20000 in
set_option maxHeartbeats 4000000 in
theorem delFuncSm (v : Value) (xs : List Sm) (W0 : World) (f : List Nat) (w : World) (fp : List Nat) (fn : FuncId) (caps : Array Value) (p : Sm → Bool) (G : Sm → Prop) (hP : PredOk W0 f fn caps p G) (hU : Upd f W0 w) (hf : ∀ b ∈ fp, b ∈ f) (hR : R_Sm1 fp w [v] xs) (hO : Own fp w) (hG : ∀ s ∈ xs, G s) :
    Calls Try.prog 46 #[v, .func (.func fn) #[] caps] w (LeftSm fp w (xs.filter fun s => !p s)) := by
  have S1 := Lib.hid (idxFuncSm v xs W0 f w fp fn caps p G hP hU hR hG)
  rcases firstP_cases p xs with ⟨e1, hn⟩ | ⟨k0, hk0, e1, hp0, hn⟩
  · rw [e1] at S1
    have hx : (xs.filter fun s => !p s) = xs := List.filter_eq_self.2 (fun s hs => by obtain ⟨j, hj, rfl⟩ := List.mem_iff_getElem.1 hs; rw [hn j hj]; rfl)
    rw [hx]
    obtain ⟨a1, c1, rfl, -, -, -⟩ := slQ_open hR
    have HH := Lib.hid (And.intro hR hO)
    clear hR hO hx hn hP hU hG
    go_enter Try.func46, Try.ntmps46
    go_wp2_with fail
    refine S1.out.mono ?_
    rintro e w1 ⟨rfl, hu⟩
    have HU := Lib.hid hu
    clear hu
    go_wp2_with fail
    go_ret
    exact ⟨⟨fp, _, _, rfl, R_Sm1k.upd HH.out.1 HU.out (by simp), HH.out.2.upd HU.out (by simp), fun b hb => hb⟩, HU.out.mono (by simp)⟩
  · rw [e1] at S1
    obtain ⟨b, off, cap, T, rfl, h1, h2, rfl, rfl, hr⟩ := slQ_raw hR (by omega)
    have hl : (T.map (·.2.2)).length = T.length := by simp
    rw [hl] at S1 h1 hk0
    rw [hl]
    unfold maxLen at h2
    have hent := hP.ent
    have HBY := Lib.hid hP.call
    have HU0 := Lib.hid hU
    have HG := Lib.hid (show ∀ j (hj : j < T.length), G T[j].2.2 from fun j hj => hG _ (List.mem_map.2 ⟨T[j], List.getElem_mem hj, rfl⟩))
    have HR := Lib.hid hr
    have HO := Lib.hid hO
    have HT := Lib.hid (show ∀ t ∈ T, t.1.length = 5 from fun t ht => (hr.each t ht).1)
    have HND := Lib.hid (show ∀ t ∈ T, b ∉ t.2.1 from fun t ht hm => (List.nodup_cons.1 hO.1).1 (List.mem_flatten.2 ⟨_, List.mem_map.2 ⟨t, ht, rfl⟩, hm⟩))
    have HF := Lib.hid (show ∀ c ∈ b :: (T.map (·.2.1)).flatten, c ∈ f from hf)
    have HI0 := Lib.hid (show DelInv p 5 T k0 (k0 + 1) (T.map (·.1)) from DelInv.start HT.out k0 hk0 (by rw [List.getElem_map] at hp0; exact hp0) (fun i hi hik => by have := hn i hik (by simpa using hi); rw [List.getElem_map] at this; exact this))
    have hbl := hr.bl
    have HBF := Lib.hid (show b ∈ f from hf b (by simp))
    have hne : ((k0 : Int) == -1) = false := beq_eq_false_iff_ne.2 (by omega)
    clear hP hU hG hr hO hf hR hn e1 hp0 hl
    generalize hFP : b :: (T.map (·.2.1)).flatten = FP at *
    have HBM := Lib.hid (show b ∈ FP by rw [← hFP]; simp)
    have HFP := Lib.hid hFP
    clear hFP
    go_enter Try.func46, Try.ntmps46
    go_wp2_with fail
    refine S1.out.mono ?_
    rintro e w1 ⟨rfl, hu⟩
    have HU1 := Lib.hid hu
    clear hu S1
    go_wp2_with fail
    go_loopw [5, 6] (fun iv jv wr => ∃ (i j : Nat) (rs : List (List Value)), j ≤ T.length ∧ iv = .int .i64 i ∧ jv = .int .i64 j ∧ Hid (Upd [b] w wr) ∧ Hid (rowsAt wr b off 5 rs) ∧ Hid (DelInv p 5 T i j rs) ∧ Hid (Own FP wr)) (fun _ jv _ => T.length - (intOf jv).toNat)
    case atStart => exact ⟨k0, k0 + 1, T.map (·.1), by omega, rfl, by go_num, Lib.hid (HU1.out.mono (by simp)), Lib.hid (HR.out.rows.upd hbl HU1.out (by simp)), HI0, Lib.hid (HO.out.upd HU1.out (by simp))⟩
    case round =>
      clear HO HI0 HU1
      obtain ⟨wo, rfl⟩ : ∃ wo : World, wo = wr := ⟨_, rfl⟩
      obtain ⟨i, j, rs, hj, rfl, rfl, HU, HW, HI, HO⟩ := hrel
      have hij := HI.out.lt
      have hrl := HI.out.len
      by_cases hlt : j < T.length
      · have hr : R_Sm T[j].2.1 wo T[j].1 T[j].2.2 := R_Smk.upd (HR.out.each _ (List.getElem_mem hlt)).2 HU.out (fun c hc hm => by simp at hm; subst hm; exact HND.out _ (List.getElem_mem hlt) hc)
        have hrow : ∀ (q : Nat) c, T[j].1[q]? = some c → wo.cell? ⟨b, off + j * 5 + q, none⟩ = some c := fun q c hq => HW.out j _ (HI.out.row hlt) q c hq
        have HKEEP := Lib.hid (fun (hp : p T[j].2.2 = false) => HI.out.keep HT.out hlt hp)
        have HSKIP := Lib.hid (fun (hp : p T[j].2.2 = true) => HI.out.skip hlt hp)
        have HWP := Lib.hid (fun W (h : rowsAt W b off 5 rs) => h.put HI.out.each i (by omega) T[j].1 (HT.out _ (List.getElem_mem hlt)))
        have hgs := HG.out j hlt
        have hil : rs[i].length = 5 := HI.out.each _ (List.getElem_mem (by omega))
        have HOLD := Lib.hid (show ∀ q, q < 5 → (wo.cell? ⟨b, off + i * 5 + q, none⟩).isSome = true from fun q hq => by
          rw [HW.out i rs[i] (by simp) q (rs[i][q]'(by omega)) (by simp)]; rfl)
        generalize T[j].2.2 = s at *
        generalize T[j].2.1 = g at *
        generalize T[j].1 = u at *
        have hr' := hr
        obtain ⟨e0, e1, e3, e4, f0, f1', f3, f4, rfl, r0, r1, r3, r4, -⟩ := hr
        obtain ⟨d0, o0, rfl, -⟩ := slF1_open r0
        obtain ⟨d1, o1, rfl, -⟩ := slF2_open r1
        obtain ⟨d3, o3, rfl, -⟩ := slP_open r3
        obtain ⟨d4, o4, rfl, -⟩ := slP_open r4
        have s0 := hrow 0 _ rfl
        have s1 := hrow 1 _ rfl
        have s2 := hrow 2 _ rfl
        have s3 := hrow 3 _ rfl
        have s4 := hrow 4 _ rfl
        simp only [Nat.add_zero] at s0
        have hjl : (j : Int) < (T.length : Int) := by omega
        obtain ⟨wq, hwq⟩ : ∃ wq, wq = wo.alloc (.cells #[.slice d0 s.sums.length o0, .slice d1 s.guard.length o1, es s.name, .slice d3 s.args.length o3, .slice d4 s.next.length o4] 56) := ⟨_, rfl⟩
        have uq : Upd [] wo wq := by rw [hwq]; exact (Upd.refl _ _).alloc _
        obtain ⟨B7, hB7⟩ : ∃ B7, B7 = wo.heap.size := ⟨_, rfl⟩
        have hrT : RowAt wq B7 56 [.slice d0 s.sums.length o0, .slice d1 s.guard.length o1, es s.name, .slice d3 s.args.length o3, .slice d4 s.next.length o4] := by rw [hwq, hB7]; exact RowAt.new _ _ _
        have S1 := Lib.hid (HBY.out wq _ s g (HU0.out.trans ((HU.out.mono (by intro c hc; simp at hc; subst hc; exact HBF.out)).trans (uq.mono (by simp)))) (R_Smk.upd hr' uq (by simp)) hgs)
        have HUQ := Lib.hid uq
        have HRT := Lib.hid hrT
        have t0 := hrT.cell 0 _ rfl
        have t1 := hrT.cell 1 _ rfl
        have t2 := hrT.cell 2 _ rfl
        have t3 := hrT.cell 3 _ rfl
        have t4 := hrT.cell 4 _ rfl
        have hb7 : b < B7 := by have := HO.out.lt b HBM.out; omega
        clear hr' r0 r1 r3 r4 hrow uq hrT hgs
        generalize hN : s.name = N at *
        generalize p s = q at *
        clear hN
        go_upto_region 8 with (fail)
        rw [← hwq, ← hB7]
        clear hwq hB7 s0 s1 s2 s3 s4
        go_wp2_with fail
        refine S1.out.mono ?_
        rintro e w2 ⟨rfl, hu2⟩
        have HU2 := Lib.hid (HUQ.out.trans hu2)
        have HRT2 := Lib.hid (HRT.out.upd hu2 (by simp))
        clear hu2 S1 t0 t1 t2 t3 t4
        cases q with
        | true =>
          replace HSKIP := Lib.hid (HSKIP.out (by first | trivial | rfl))
          clear HKEEP HWP
          go_wp2_with fail
          go_roundw
          case rel => exact ⟨i, j + 1, rs, by omega, rfl, by go_num, Lib.hid (HU.out.trans (HU2.out.mono (by simp))), Lib.hid (HW.out.upd (by have := HO.out.lt b HBM.out; exact this) HU2.out (by simp)), HSKIP, Lib.hid (HO.out.upd HU2.out (by simp))⟩
          case measure => simp [intOf]; omega
        | false =>
          replace HKEEP := Lib.hid (HKEEP.out (by first | trivial | rfl))
          clear HSKIP
          have t0 := HRT2.out.cell 0 _ rfl
          have t1 := HRT2.out.cell 1 _ rfl
          have t2 := HRT2.out.cell 2 _ rfl
          have t3 := HRT2.out.cell 3 _ rfl
          have t4 := HRT2.out.cell 4 _ rfl
          have hth : w2.there b (off + i * 5) (#[.slice d0 s.sums.length o0, .slice d1 s.guard.length o1, es N, .slice d3 s.args.length o3, .slice d4 s.next.length o4] : Array Value).size := fun q hq => by
            have hk := HOLD.out q (by simpa using hq)
            obtain ⟨c, hc⟩ := Option.isSome_iff_exists.1 hk
            exact ⟨by rw [HU2.out.keep hc]; rfl, Own.frozen (HO.out.upd HU2.out (by simp)) HBM.out _⟩
          have HTH := Lib.hid hth
          have hil2 : (i : Int) < (T.length : Int) := by omega
          clear hth
          go_wp2_with (first
            | (refine wpList_store_mid rfl 56 _ _ rfl b (off + i * 5) #[.slice d0 s.sums.length o0, .slice d1 s.guard.length o1, es N, .slice d3 s.args.length o3, .slice d4 s.next.length o4] rfl rfl (by with_reducible exact HTH.out) Sm_size (by simp [Value.oneCell']) ?_)
            | fail)
          go_roundw
          case rel => exact ⟨i + 1, j + 1, rs.set i [.slice d0 s.sums.length o0, .slice d1 s.guard.length o1, es N, .slice d3 s.args.length o3, .slice d4 s.next.length o4], by omega, by go_num, by go_num, Lib.hid (upd_setCells _ (Or.inr (by simp)) _ _ (HU.out.trans (HU2.out.mono (by simp)))), Lib.hid (HWP.out _ (HW.out.upd (HO.out.lt b HBM.out) HU2.out (by simp))), HKEEP, Lib.hid (Own.setCells _ _ (HO.out.upd HU2.out (by simp)))⟩
          case measure => simp [intOf]; omega
      · obtain rfl : j = T.length := by omega
        have hiT : (i : Int) < (T.length : Int) := by omega
        have hiT2 : (i : Int) ≤ (T.length : Int) := by omega
        have hiC : (T.length : Int) ≤ (cap : Int) := by omega
        have hiC2 : (i : Int) ≤ (cap : Int) := by omega
        have hclr := run_clear_rows (P := Try.prog) wo 27 56 0 [.slice none 0 0, .slice none 0 0, .string ⟨#[]⟩, .slice none 0 0, .slice none 0 0] 5 rfl (by decide) Try.underlying27 (by intro W; go_simp) (by simp [Value.oneCell']) b (off + i * 5) (T.length - i) (cap - i) (by omega) (fun q hq => by
          have hlt2 : i + q / 5 < rs.length := by omega
          have hle := HI.out.each _ (List.getElem_mem hlt2)
          have := HW.out (i + q / 5) rs[i + q / 5] (by simp [hlt2]) (q % 5) (rs[i + q / 5][q % 5]'(by omega)) (by rw [List.getElem?_eq_getElem])
          rw [show off + i * 5 + q = off + (i + q / 5) * 5 + q % 5 by omega, this]; rfl) (fun q => HO.out.frozen HBM.out _)
        obtain ⟨wz, hwz⟩ : ∃ wz, wz = wo.setCells b (off + i * 5) (List.replicate (T.length - i) [.slice none 0 0, .slice none 0 0, .string ⟨#[]⟩, .slice none 0 0, .slice none 0 0]).flatten := ⟨_, rfl⟩
        rw [← hwz] at hclr
        have hUz : Upd [b] w wz := by rw [hwz]; exact upd_setCells _ (Or.inr (by simp)) _ _ HU.out
        have hrow : rowsAt wz b off 5 (rs.take i) := by
          rw [hwz]
          refine (HW.out.take i).ahead (fun r hr => HI.out.each r (List.mem_of_mem_take hr)) _ ?_ _
          rw [List.length_take]
          have : min i rs.length * 5 ≤ i * 5 := Nat.mul_le_mul_right _ (Nat.min_le_left _ _)
          omega
        have hOz : Own FP wz := by rw [hwz]; exact Own.setCells _ _ HO.out
        rw [HI.out.low] at hrow
        rw [← HFP.out] at hOz
        obtain ⟨hO2, hsub⟩ := own_sub hOz (leftOf_sub p T T.length)
        have hraw : RawQ 5 R_Sm wz b off (leftOf p T T.length) := ⟨Nat.lt_of_lt_of_le hbl hUz.size, hrow, fun t ht => by
          have htT := (leftOf_sub p T T.length).subset ht
          exact ⟨HT.out t htT, R_Smk.upd (HR.out.each t htT).2 hUz (fun c hc hm => by simp at hm; subst hm; exact HND.out t htT hc)⟩⟩
        have hat := HI.out.at_
        have hsl := raw_slQ (cap := cap) hraw (by omega) (by unfold maxLen; omega)
        rw [leftOf_end] at hsl
        have hlen : ((T.map (·.2.2)).filter fun x => !p x).length = i := by rw [← leftOf_end, List.length_map, ← hat]
        have HZ := Lib.hid (And.intro hsl (And.intro hO2 (And.intro hsub (And.intro hlen hUz))))
        clear hsl hO2 hsub hlen hUz hraw hrow hOz hat hwz
        go_wp2_with fail
        go_ret
        obtain ⟨hsl, hO2, hsub, hlen, hUz⟩ := HZ.out
        rw [← HFP.out]
        exact ⟨⟨_, some ⟨b, off, none⟩, cap, by rw [hlen]; rfl, hsl, hO2, hsub⟩, hUz.mono (by simp)⟩

end Go.Proofs.Ytnfghgaadnobbaa

namespace Go.Proofs.Ytnfghgaadnobbaa
open Go.RowKit

/-- a summand that is struck. -/
def strike (ns : List (List UInt8)) (s : Sm) : Bool := s.name != tauL && !ns.contains s.name
def resP (ns : List (List UInt8)) (x : Ln) : Ln := ⟨x.pars, x.start, x.sms.filter fun s => !strike ns s⟩
theorem sm1_filter (p : Sm → Bool) : ∀ xs : List Sm, mkF_Sm1 (xs.filter p) ≤ mkF_Sm1 xs := by
  intro xs
  induction xs with
  | nil => exact Int.le_refl _
  | cons s xs ih =>
    have e2 : mkF_Sm1 (s :: xs) = mkF_Sm s + mkF_Sm1 xs := by simp [mkF_Sm1]
    have := mkF_Sm_nonneg s
    rw [List.filter_cons]
    split
    · have e1 : mkF_Sm1 (s :: xs.filter p) = mkF_Sm s + mkF_Sm1 (xs.filter p) := by simp [mkF_Sm1]
      omega
    · omega
theorem res_p (ns : List (List UInt8)) (x : Ln) : mkF_Ln (resP ns x) ≤ mkF_Ln x := by
  have h1 := sm1_filter (fun s => !strike ns s) x.sms
  show mkF_I1 x.start + mkF_Sm1 (x.sms.filter fun s => !strike ns s) ≤ mkF_I1 x.start + mkF_Sm1 x.sms
  omega

theorem enter_restrict1 (args : Array Value) (w : World) : Sem.run Try.prog (callFunc 104 args) w = .ok (.enter 104 args) w := by go_simp
set_option maxRecDepth 20000 in
set_option maxHeartbeats 2000000 in
theorem restrict1Ok (W0 : World) (f : List Nat) (BX : Nat) (v : Value) (ns : List (List UInt8)) (fs : List Nat) (hB : W0.cell? ⟨BX, 0, none⟩ = some v) (hBf : BX ∉ f) (hS : R_S1 fs W0 [v] ns) (hd : ∀ c ∈ fs, c ∉ f) :
    PredOk W0 f 104 #[.pointer (some ⟨BX, 0, none⟩)] (strike ns) (fun _ => True) := by
  refine ⟨enter_restrict1, fun wr us s g hu hR _ => ?_⟩
  have hc : wr.cell? ⟨BX, 0, none⟩ = some v := by rw [← hB]; exact World.cell?_of_block (hu.block BX (World.block_lt_of_cell? _ _ hB) hBf)
  have hS2 := R_S1k.upd hS hu hd
  obtain ⟨v0, v1, v3, v4, f0, f1, f3, f4, rfl, -, -, -, -, -⟩ := hR
  obtain ⟨wA, hwA⟩ : ∃ wA, wA = wr.alloc (.cells #[v0, v1, es s.name, v3, v4] 56) := ⟨_, rfl⟩
  obtain ⟨B, hBB⟩ : ∃ B, B = wr.heap.size := ⟨_, rfl⟩
  have uA : Upd [] wr wA := by rw [hwA]; exact (Upd.refl _ _).alloc _
  have hrB : RowAt wA B 56 [v0, v1, es s.name, v3, v4] := by rw [hwA, hBB]; exact RowAt.new _ _ _
  have b2 := hrB.cell 2 _ rfl
  have hcA := uA.keep hc
  have S1 := Lib.hid (containsSS v ns s.name wA fs (R_S1k.upd hS2 uA (by simp)))
  have UA := Lib.hid uA
  have HM : strike ns s = (s.name != tauL && !ns.contains s.name) := rfl
  obtain ⟨a, c, rfl, -, -, -⟩ := slF1_open hS
  clear hB hS hS2 hc uA hrB hd hu
  generalize strike ns s = Z at *
  generalize s.name = N at *
  generalize ns.contains N = q at *
  show Calls Try.prog 104 #[.agg #[v0, v1, es N, v3, v4], .pointer (some ⟨BX, 0, none⟩)] wr _
  go_enter Try.func104, Try.ntmps104
  go_upto_region 1 with (fail)
  rw [← hwA, ← hBB]
  clear hwA hBB
  by_cases htau : N = tauL
  · have hz : Z = false := by rw [HM, htau]; simp
    have htb : (N == [116, 97, 117]) = true := by simpa [tauL] using htau
    have HZ := Lib.hid hz
    clear htau HM hz S1
    go_wp2_with fail
    go_ret
    exact ⟨by rw [HZ.out]; rfl, UA.out⟩
  · have hz : Z = !q := by rw [HM, show (N != tauL) = true by simpa using htau]; rfl
    have htb : (N == [116, 97, 117]) = false := by simpa [tauL] using htau
    have HZ := Lib.hid hz
    clear htau HM hz
    go_wp2_with fail
    refine S1.out.mono ?_
    rintro e w1 ⟨rfl, hu1⟩
    have HU := Lib.hid (UA.out.trans hu1)
    clear hu1 S1
    go_wp2_with fail
    go_ret
    exact ⟨by rw [HZ.out]; rfl, HU.out⟩

set_option maxRecDepth 20000 in
set_option maxHeartbeats 4000000 in
theorem restrictI (cs : List Value) (x : Ln) (v : Value) (ns : List (List UInt8)) (w : World) (fp fs : List Nat) (hR : R_Ln fp w cs x) (hS : R_S1 fs w [v] ns) (hF : LnFits x) :
    Calls Try.prog 64 #[.agg cs.toArray, v] w (MadeLn w (resP ns x)) := by
  obtain ⟨va, vc, rfl, -, -, -⟩ := slF1_open hS
  have hR' := hR
  obtain ⟨v1, v2, f1, f2, rfl, r1, r2, rfl⟩ := hR
  obtain ⟨B, hB⟩ : ∃ B, B = w.heap.size := ⟨_, rfl⟩
  obtain ⟨wA, hwA⟩ : ∃ wA, wA = ((w.alloc (.cells #[ei x.pars, v1, v2] 29)).alloc (.cells #[.slice va ns.length vc] 43)).alloc (.cells #[.int .i64 0, .slice none 0 0, .slice none 0 0] 29) := ⟨_, rfl⟩
  have s1 : (w.alloc (.cells #[ei x.pars, v1, v2] 29)).heap.size = B + 1 := by rw [hB]; simp
  have s2 : ((w.alloc (.cells #[ei x.pars, v1, v2] 29)).alloc (.cells #[.slice va ns.length vc] 43)).heap.size = B + 1 + 1 := by rw [hB]; simp
  have uA : Upd [] w wA := by rw [hwA]; exact (((Upd.refl _ _).alloc _).alloc _).alloc _
  have hA1 : RowAt wA (B + 1 + 1) 29 zerosLn := by rw [hwA, ← s2]; exact RowAt.new _ _ _
  have hX1 : RowAt wA (B + 1) 43 [.slice va ns.length vc] := by rw [hwA, ← s1]; exact (RowAt.new _ _ _).upd ((Upd.refl [] _).alloc _) (by simp)
  have hL : RowAt wA B 29 [ei x.pars, v1, v2] := by rw [hwA, hB]; exact (RowAt.new _ _ _).upd (((Upd.refl [] _).alloc _).alloc _) (by simp)
  have HA := Lib.hid hA1
  have HX := Lib.hid hX1
  have HS := Lib.hid (fun W (hu : Upd [] w W) => R_S1k.upd hS hu (by simp))
  have HSL := Lib.hid (R_S1k.lt hS)
  have S3 := Lib.hid (cloneLnI _ x wA _ (R_Lnk.upd hR' uA (by simp)) hF)
  have UA := Lib.hid uA
  have hL1 := hL
  unfold RowAt at hL1
  clear r1 r2 hR' uA s1 s2 hF hL hA1 hS hX1
  go_enter Try.func64, Try.ntmps64
  go_upto_region 1 with (fail)
  rw [← hwA, ← hB]
  have HBB := Lib.hid hB
  clear hwA hB
  go_wp2_with (first
    | (refine wpList_load_row rfl 29 _ rfl B rfl 29 #[ei x.pars, v1, v2] (0, 0) _ hL1 Try.underlying29 rfl Ln_size ?_)
    | fail)
  refine S3.out.mono ?_
  rintro e w3 ⟨⟨us, rfl, hl, hc, hn⟩, hu3⟩
  obtain ⟨p1, q1, p2, q2, rfl⟩ := ln_form hn
  obtain ⟨fx, ⟨vv1, vv2, g1, g2, hvv, rr1, rr2, rfl⟩, oo, ge⟩ := hn
  simp only [List.cons.injEq, and_true] at hvv
  obtain ⟨-, rfl, rfl⟩ := hvv
  obtain ⟨oo1, oo2, dd⟩ := own_split oo
  have lt1 := R_I1k.lt rr1
  have lt2 := R_Sm1k.lt rr2
  obtain ⟨wB, hwB⟩ : ∃ wB, wB = w3.alloc (.cells #[ei x.pars, .slice p1 x.start.length q1, .slice p2 x.sms.length q2] 29) := ⟨_, rfl⟩
  have uB : Upd [] w3 wB := by rw [hwB]; exact (Upd.refl _ _).alloc _
  obtain ⟨C, hC⟩ : ∃ C, C = w3.heap.size := ⟨_, rfl⟩
  have hrC : RowAt wB C 29 [ei x.pars, .slice p1 x.start.length q1, .slice p2 x.sms.length q2] := by rw [hwB, hC]; exact RowAt.new _ _ _
  have HUB := Lib.hid ((UA.out.trans hu3).trans uB)
  have HRC := Lib.hid hrC
  have HAB := Lib.hid ((HA.out.upd hu3 (by simp)).upd uB (by simp))
  have hXB := (HX.out.upd hu3 (by simp)).upd uB (by simp)
  have HG1 := Lib.hid (show R_I1 g1 wB [.slice p1 x.start.length q1] x.start ∧ Own g1 wB from ⟨R_I1k.upd rr1 uB (by simp), oo1.upd uB (by simp)⟩)
  have HD := Lib.hid (show (∀ c ∈ g1, wA.heap.size ≤ c ∧ c ∉ g2 ∧ c < C) ∧ (∀ c ∈ g2, wA.heap.size ≤ c ∧ c < C) from ⟨fun c hc => ⟨ge c (by simp [hc]), dd c hc, by have := lt1 c hc; omega⟩, fun c hc => ⟨ge c (by simp [hc]), by have := lt2 c hc; omega⟩⟩)
  have HBW := Lib.hid (show (B + 1 + 1) < wA.heap.size from HA.out.lt)
  have hCB : wA.heap.size ≤ C := by have := hu3.size; omega
  have HBN := Lib.hid (show w.heap.size ≤ (B + 1 + 1) by have := HBB.out; omega)
  have hC2 := hrC.cell 2 _ rfl
  have P1 := restrict1Ok wB g2 (B + 1) (.slice va ns.length vc) ns fs (hXB.cell 0 _ rfl) (fun h => by have := ge _ (List.mem_append_right g1 h); have := HBW.out; omega) (HS.out wB HUB.out) (fun c hc h => by have := HSL.out c hc; have := ge _ (List.mem_append_right g1 h); have := UA.out.size; omega)
  have SD := Lib.hid (delFuncSm _ x.sms wB g2 wB g2 _ _ (strike ns) _ P1 (Upd.refl _ _) (fun b hb => hb) (R_Sm1k.upd rr2 uB (by simp)) (oo2.upd uB (by simp)) (fun _ _ => trivial))
  clear S3 hu3 uB HA HX HS HSL hXB hc rr1 rr2 oo ge oo1 oo2 dd lt1 lt2 hrC hL1 P1
  go_upto_region 2 with (fail)
  rw [← hwB, ← hC]
  clear hwB hC
  generalize hY : (x.sms.filter fun s => !strike ns s) = Y at *
  have HY := Lib.hid hY
  clear hY
  go_wp2_with fail
  refine SD.out.mono ?_
  rintro e w4 ⟨⟨g3, a, c, rfl, hr3, ho3, hsub⟩, hu4⟩
  have HR3 := Lib.hid (And.intro hr3 (And.intro ho3 hsub))
  have HU4 := Lib.hid (HUB.out.fresh hu4 (fun c hc => Or.inl (by have := HD.out.2 c hc; have := UA.out.size; omega)))
  have hCg : C ∉ g2 := fun h => by have := HD.out.2 C h; omega
  have hBg : B + 1 + 1 ∉ g2 := fun h => by have := HD.out.2 _ h; have := HBW.out; omega
  have hr4 := HRC.out.upd hu4 hCg
  have HR4 := Lib.hid hr4
  have HA4 := Lib.hid (HAB.out.upd hu4 hBg)
  have HG4 := Lib.hid (show R_I1 g1 w4 [.slice p1 x.start.length q1] x.start ∧ Own g1 w4 from ⟨R_I1k.upd HG1.out.1 hu4 (fun c hc => (HD.out.1 c hc).2.1), HG1.out.2.upd hu4 (fun c hc => (HD.out.1 c hc).2.1)⟩)
  have z2 := hr4.cell 2 _ rfl
  have zf := hr4.fz 2
  clear SD hr3 ho3 hsub hu4 hCg hBg HRC HAB HUB HG1 hC2 hr4
  go_upto_region 3 with (fail)
  obtain ⟨w5, hw5⟩ : ∃ w5, w5 = w4.setCell ⟨C, 2, none⟩ (.slice a Y.length c) := ⟨_, rfl⟩
  rw [← hw5]
  have hU5 : Upd [C] w4 w5 := by rw [hw5]; exact (Upd.refl _ _).setCell (Or.inr (by simp)) _
  have hr5 : RowAt w5 C 29 [ei x.pars, .slice p1 x.start.length q1, .slice a Y.length c] := by rw [hw5]; exact HR4.out.store 2 _
  have ha5 := HA4.out.upd hU5 (by have := HBW.out; simp; omega)
  have HA5 := Lib.hid ha5
  have HU5 := Lib.hid (HU4.out.fresh hU5 (fun b hb => Or.inl (by simp at hb; have := UA.out.size; omega)))
  have HG5 := Lib.hid (show R_I1 g1 w5 [.slice p1 x.start.length q1] x.start ∧ Own g1 w5 from ⟨R_I1k.upd HG4.out.1 hU5 (fun c hc hm => by simp at hm; have := HD.out.1 c hc; omega), HG4.out.2.upd hU5 (fun c hc hm => by simp at hm; have := HD.out.1 c hc; omega)⟩)
  have HR5 := Lib.hid (show R_Sm1 g3 w5 [.slice a Y.length c] Y ∧ Own g3 w5 from ⟨R_Sm1k.upd HR3.out.1 hU5 (fun c hc hm => by simp at hm; have := HD.out.2 c (HR3.out.2.2 c hc); omega), HR3.out.2.1.upd hU5 (fun c hc hm => by simp at hm; have := HD.out.2 c (HR3.out.2.2 c hc); omega)⟩)
  unfold RowAt at hr5 ha5
  clear hw5 hU5 z2 zf HR4 HA4 HU4 HG4
  go_wp2_with (first
    | (refine wpList_load_row rfl 29 _ rfl C rfl 29 #[ei x.pars, .slice p1 x.start.length q1, .slice a Y.length c] (0, 0) _ hr5 Try.underlying29 rfl Ln_size ?_)
    | (refine wpList_store_row rfl 29 _ _ rfl (B + 1 + 1) #[ei x.pars, .slice p1 x.start.length q1, .slice a Y.length c] rfl rfl 29 _ ha5 Ln_size rfl (by simp [Value.oneCell']) ?_)
    | fail)
  have hr : RowAt (w5.setRow (B + 1 + 1) #[ei x.pars, .slice p1 x.start.length q1, .slice a Y.length c]) (B + 1 + 1) 29 [ei x.pars, .slice p1 x.start.length q1, .slice a Y.length c] := HA5.out.row [ei x.pars, .slice p1 x.start.length q1, .slice a Y.length c]
  have n0 := hr.cell 0 _ rfl
  have n1 := hr.cell 1 _ rfl
  have n2 := hr.cell 2 _ rfl
  refine bodyPost_ret (v := .agg #[ei x.pars, .slice p1 x.start.length q1, .slice a Y.length c]) (by simp [results, Try.results64, go_sem, n0, n1, n2]) rfl ?_
  refine madeLn_of ?_
  unfold resP
  rw [HY.out]
  refine gaveLn (us := [ei x.pars, .slice p1 x.start.length q1, .slice a Y.length c]) (W := wA) (x := ⟨x.pars, x.start, Y⟩) ⟨g1 ++ g3, ⟨_, _, g1, g3, rfl, HG5.out.1, HR5.out.1, rfl⟩, own_join HG5.out.2 HR5.out.2 (fun c h1 h2 => (HD.out.1 c h1).2.1 (HR3.out.2.2 c h2)), fun c hc => ?_⟩ rfl (by simp [Value.oneCell']) HU5.out HBN.out HBW.out UA.out.size
  rcases List.mem_append.1 hc with h | h
  · exact (HD.out.1 c h).1
  · exact (HD.out.2 c (HR3.out.2.2 c h)).1

end Go.Proofs.Ytnfghgaadnobbaa

namespace Go.Proofs.Ytnfghgaadnobbaa
open Go.RowKit

set_option maxRecDepth 20000 in
set_option maxHeartbeats 4000000 in
theorem restrictS (P : Nat) (v1 v2 : Value) (x : Ln) (v : Value) (ns : List (List UInt8)) (w : World) (f1 f2 fs : List Nat) (hAt : LnAt w P v1 v2 f1 f2 x) (hS : R_S1 fs w [v] ns) (hF : LnFits x) :
    Calls Try.prog 62 #[.pointer (some ⟨P, 0, none⟩), v] w (MadeLn w (resP ns x)) := by
  obtain ⟨i0, hi, hz0, hz1, hz2⟩ := info_parts Try.infoSm
  obtain ⟨va, vc, rfl, -, -, -⟩ := slF1_open hS
  have hst := hF.st
  have hsm := hF.sm
  obtain ⟨B, hB⟩ : ∃ B, B = w.heap.size := ⟨_, rfl⟩
  obtain ⟨wS, hwS⟩ : ∃ wS, wS = w.alloc (.cells #[.int .i64 0, .slice none 0 0, .slice none 0 0] 29) := ⟨_, rfl⟩
  have uS : Upd [] w wS := by rw [hwS]; exact (Upd.refl _ _).alloc _
  have HB := Lib.hid (show RowAt wS B 29 zerosLn by rw [hwS, hB]; exact RowAt.new _ _ _)
  have SC := Lib.hid (fun W (hu : Upd [] w W) y => findS (.slice va ns.length vc) ns y W fs (R_S1k.upd hS hu (by simp)))
  have S3 := Lib.hid (ownLnS P v1 v2 x wS f1 f2 (hAt.upd uS) hF.sf hF.st hF.sm)
  have US := Lib.hid uS
  obtain ⟨p0, p1, p2, r1, r2⟩ := hAt
  have S0 := Lib.hid (fun W (hu : Upd [] w W) => ownIS v1 x.start W f1 hst (R_I1k.upd r1 hu (by simp)))
  have HP0 := Lib.hid (And.intro p0 p1)
  clear uS hF hS r1 r2 p0 p1 p2
  go_enter Try.func62, Try.ntmps62
  go_upto_region 1 with (fail)
  rw [← hwS, ← hB]
  have HBB := Lib.hid hB
  clear hwS hB
  go_wp2_with fail
  refine S3.out.mono ?_
  rintro e w3 ⟨⟨us, rfl, hl, hc, hn⟩, hu3⟩
  obtain ⟨pz1, qz1, pz2, qz2, rfl⟩ := ln_form hn
  obtain ⟨fx, ⟨vv1, vv2, g1, g2, hvv, rr1, rr2, rfl⟩, oo, ge⟩ := hn
  simp only [List.cons.injEq, and_true] at hvv
  obtain ⟨-, rfl, rfl⟩ := hvv
  obtain ⟨oo1, oo2, dd⟩ := own_split oo
  have lt2 := R_Sm1k.lt rr2
  obtain ⟨wA, hwA⟩ : ∃ wA, wA = w3.alloc (.cells #[ei x.pars, .slice pz1 x.start.length qz1, .slice pz2 x.sms.length qz2] 29) := ⟨_, rfl⟩
  have uA : Upd [] w3 wA := by rw [hwA]; exact (Upd.refl _ _).alloc _
  obtain ⟨C, hC⟩ : ∃ C, C = w3.heap.size := ⟨_, rfl⟩
  have hrC : RowAt wA C 29 [ei x.pars, .slice pz1 x.start.length qz1, .slice pz2 x.sms.length qz2] := by rw [hwA, hC]; exact RowAt.new _ _ _
  have UA := Lib.hid ((US.out.trans hu3).trans uA)
  have HRC := Lib.hid hrC
  have HA := Lib.hid ((HB.out.upd hu3 (by simp)).upd uA (by simp))
  have a0 := UA.out.keep HP0.out.1
  have a1 := UA.out.keep HP0.out.2
  have hblA := World.block_lt_of_cell? _ _ a0
  obtain ⟨b, off, aa, cap, T, hv, l2, m2, hxs, hraw, hOT, hTg, haa⟩ := slQ_rows (R_Sm1k.upd rr2 uA (by simp)) (oo2.upd uA (by simp)) C hrC.own
  simp only [Value.slice.injEq] at hv
  obtain ⟨rfl, -, rfl⟩ := hv
  unfold maxLen at m2
  have HRAW := Lib.hid hraw
  have HOT := Lib.hid hOT
  have HXS := Lib.hid hxs
  have HTL := Lib.hid (show T.length = x.sms.length by rw [hxs]; simp)
  have HAA := Lib.hid haa
  have HTG := Lib.hid (show ∀ c ∈ (T.map (·.2.1)).flatten, wS.heap.size ≤ c ∧ c < C from fun c hc => ⟨ge c (by simp [hTg c hc]), by have := lt2 c (hTg c hc); omega⟩)
  have HCA := Lib.hid hrC.lt
  have HBW := Lib.hid (show B < wS.heap.size from HB.out.lt)
  have HBN := Lib.hid (show w.heap.size ≤ B by have := HBB.out; omega)
  have hCS : wS.heap.size ≤ C := by have := hu3.size; omega
  have HCS := Lib.hid hCS
  clear S3 hu3 uA HB rr1 rr2 oo ge oo1 oo2 dd lt2 hrC hraw hOT hxs hTg haa hCS hc HP0
  go_upto_region 2 with (fail)
  rw [← hwA, ← hC]
  clear hwA hC
  go_cut [6] (fun p wx => MidL wA wx p x)
  case first =>
    go_region_held3 (fun w' => w'.cell? ⟨P, 0, none⟩ = some (ei x.pars) ∧ w'.cell? ⟨P, 1, none⟩ = some v1) (first | go_keep | (go_split_ands; refine ⟨?_, ?_⟩ <;> (rw [World.cell?_setCell_other _ _ _ _ (by intro h; simp only [Addr.mk.injEq] at h; omega), World.cell?_setCell_other _ _ _ _ (by intro h; simp only [Addr.mk.injEq] at h; omega), World.cell?_setCell_other _ _ _ _ (by intro h; simp only [Addr.mk.injEq] at h; omega)]; first | assumption | (exact ((Upd.refl [] _).alloc _).keep (by assumption)) | (exact (((Upd.refl [] _).alloc _).alloc _).keep (by assumption)) | simp [*])))
      (first
        | (go_at_call 36; (with_reducible refine (S0.out ((wA.alloc (.cells #[.int .i64 0, .slice none 0 0, .slice none 0 0] 29)).alloc (.cells #[] 56)).drew (((UA.out.alloc _).alloc _).drew)).mono ?_); rintro e w1 ⟨⟨n0, rfl, hn0⟩, hu1⟩; obtain ⟨x0, y0, rfl⟩ := hn0.form; have hw1 : Upd [] wA w1 := ((((Upd.refl [] wA).alloc _).alloc _).drew).trans hu1; have b0 := hw1.keep a0; have hbl1 := World.block_lt_of_cell? _ _ b0; have b1 := hw1.keep a1; have rz : RowAt w1 wA.heap.size 29 zerosLn := (RowAt.new wA _ zerosLn).upd ((((Upd.refl [] _).alloc _).drew).trans hu1) (by simp); have cz0 := rz.cell 0 _ rfl; have fz0 := rz.fz 0; have cz1 := rz.cell 1 _ rfl; have fz1 := rz.fz 1; have cz2 := rz.cell 2 _ rfl; have fz2 := rz.fz 2; have re : RowAt w1 (wA.heap.size + 1) 56 [] := (show RowAt (((wA.alloc (.cells #[.int .i64 0, .slice none 0 0, .slice none 0 0] 29)).alloc (.cells #[] 56))) (wA.heap.size + 1) 56 [] from by have := RowAt.new (wA.alloc (.cells #[.int .i64 0, .slice none 0 0, .slice none 0 0] 29)) 56 []; simpa using this).upd (((Upd.refl [] _).drew).trans hu1) (by simp); skip)
        | (go_at_call 36; (with_reducible refine (S0.out ((wA.alloc (.cells #[] 56)).alloc (.cells #[.int .i64 0, .slice none 0 0, .slice none 0 0] 29)).drew (((UA.out.alloc _).alloc _).drew)).mono ?_); rintro e w1 ⟨⟨n0, rfl, hn0⟩, hu1⟩; obtain ⟨x0, y0, rfl⟩ := hn0.form; have hw1 : Upd [] wA w1 := ((((Upd.refl [] wA).alloc _).alloc _).drew).trans hu1; have b0 := hw1.keep a0; have hbl1 := World.block_lt_of_cell? _ _ b0; have b1 := hw1.keep a1; have rz : RowAt w1 (wA.heap.size + 1) 29 zerosLn := (show RowAt (((wA.alloc (.cells #[] 56)).alloc (.cells #[.int .i64 0, .slice none 0 0, .slice none 0 0] 29))) (wA.heap.size + 1) 29 zerosLn from by have := RowAt.new (wA.alloc (.cells #[] 56)) 29 zerosLn; simpa using this).upd (((Upd.refl [] _).drew).trans hu1) (by simp); have cz0 := rz.cell 0 _ rfl; have fz0 := rz.fz 0; have cz1 := rz.cell 1 _ rfl; have fz1 := rz.fz 1; have cz2 := rz.cell 2 _ rfl; have fz2 := rz.fz 2; have re : RowAt w1 wA.heap.size 56 [] := (RowAt.new wA _ []).upd ((((Upd.refl [] _).alloc _).drew).trans hu1) (by simp); skip)
        | (go_at_call 36; (with_reducible refine (S0.out (wA.alloc (.cells #[.int .i64 0, .slice none 0 0, .slice none 0 0] 29)).drew ((UA.out.alloc _).drew)).mono ?_); rintro e w1 ⟨⟨n0, rfl, hn0⟩, hu1⟩; obtain ⟨x0, y0, rfl⟩ := hn0.form; have hw1 : Upd [] wA w1 := (((Upd.refl [] wA).alloc _).drew).trans hu1; have b0 := hw1.keep a0; have hbl1 := World.block_lt_of_cell? _ _ b0; have b1 := hw1.keep a1; have rz : RowAt w1 wA.heap.size 29 zerosLn := (RowAt.new wA _ zerosLn).upd (((Upd.refl [] _).drew).trans hu1) (by simp); have cz0 := rz.cell 0 _ rfl; have fz0 := rz.fz 0; have cz1 := rz.cell 1 _ rfl; have fz1 := rz.fz 1; have cz2 := rz.cell 2 _ rfl; have fz2 := rz.fz 2; have ry : RowAt (w1.alloc (.cells #[] 56)) wA.heap.size 29 zerosLn := rz.upd ((Upd.refl [] w1).alloc _) (by simp); have yc0 := ry.cell 0 _ rfl; have yf0 := ry.fz 0; have yc1 := ry.cell 1 _ rfl; have yf1 := ry.fz 1; have yc2 := ry.cell 2 _ rfl; have yf2 := ry.fz 2; skip)
        | (go_at_call 36; (with_reducible refine (S0.out (wA.alloc (.cells #[] 56)).drew ((UA.out.alloc _).drew)).mono ?_); rintro e w1 ⟨⟨n0, rfl, hn0⟩, hu1⟩; obtain ⟨x0, y0, rfl⟩ := hn0.form; have hw1 : Upd [] wA w1 := (((Upd.refl [] wA).alloc _).drew).trans hu1; have b0 := hw1.keep a0; have hbl1 := World.block_lt_of_cell? _ _ b0; have b1 := hw1.keep a1; have re : RowAt w1 wA.heap.size 56 [] := (RowAt.new wA _ []).upd (((Upd.refl [] _).drew).trans hu1) (by simp); skip)
        | (go_at_call 36; (with_reducible refine (S0.out wA.drew (UA.out.drew)).mono ?_); rintro e w1 ⟨⟨n0, rfl, hn0⟩, hu1⟩; obtain ⟨x0, y0, rfl⟩ := hn0.form; have hw1 : Upd [] wA w1 := ((Upd.refl [] wA).drew).trans hu1; have b0 := hw1.keep a0; have hbl1 := World.block_lt_of_cell? _ _ b0; have b1 := hw1.keep a1; have ry : RowAt ((w1.alloc (.cells #[.int .i64 0, .slice none 0 0, .slice none 0 0] 29)).alloc (.cells #[] 56)) w1.heap.size 29 zerosLn := (RowAt.new w1 _ zerosLn).upd ((Upd.refl [] _).alloc _) (by simp); have yc0 := ry.cell 0 _ rfl; have yf0 := ry.fz 0; have yc1 := ry.cell 1 _ rfl; have yf1 := ry.fz 1; have yc2 := ry.cell 2 _ rfl; have yf2 := ry.fz 2; have rx : RowAt ((w1.alloc (.cells #[] 56)).alloc (.cells #[.int .i64 0, .slice none 0 0, .slice none 0 0] 29)) (w1.heap.size + 1) 29 zerosLn := (by have := RowAt.new (w1.alloc (.cells #[] 56)) 29 zerosLn; simpa using this); have xc0 := rx.cell 0 _ rfl; have xf0 := rx.fz 0; have xc1 := rx.cell 1 _ rfl; have xf1 := rx.fz 1; have xc2 := rx.cell 2 _ rfl; have xf2 := rx.fz 2; skip))
    · have hszA := hw1.size
      have hszU := hu1.size
      simp at hszU
      go_wp2_with fail
      go_meet
      exact midL_mk (Z := w1.heap.size + 1) (q := w1.heap.size) hn0 (by simp; try omega) (((Upd.refl [w1.heap.size + 1] w1).alloc _).alloc _) (by have := hw1.size; omega) (by have := hw1.size; omega) (by have := hw1.size; omega) (by first | (left; simp; done) | (left; simp; omega) | (right; omega)) (by first | (left; simp; done) | (left; simp; omega) | (right; omega)) (by have := RowAt.new (w1.alloc (.cells #[] 56)) 29 [ei x.pars, .slice x0 x.start.length y0, .slice (some ⟨w1.heap.size, 0, none⟩) 0 0]; simpa using this) ((RowAt.new w1 56 []).upd ((Upd.refl [] _).alloc _) (by simp)) ((hw1.alloc _).alloc _)
    · have hszA := hw1.size
      have hszU := hu1.size
      simp at hszU
      go_wp2_with fail
      go_meet
      exact midL_mk (Z := w1.heap.size) (q := w1.heap.size + 1) hn0 (by simp; try omega) (((Upd.refl [w1.heap.size] w1).alloc _).alloc _) (by have := hw1.size; omega) (by have := hw1.size; omega) (by have := hw1.size; omega) (by first | (left; simp; done) | (left; simp; omega) | (right; omega)) (by first | (left; simp; done) | (left; simp; omega) | (right; omega)) ((RowAt.new w1 29 [ei x.pars, .slice x0 x.start.length y0, .slice (some ⟨w1.heap.size + 1, 0, none⟩) 0 0]).upd ((Upd.refl [] _).alloc _) (by simp)) (by have := RowAt.new (w1.alloc (.cells #[ei x.pars, .slice x0 x.start.length y0, .slice (some ⟨w1.heap.size + 1, 0, none⟩) 0 0] 29)) 56 []; simpa using this) ((hw1.alloc _).alloc _)
    · have hszA := hw1.size
      have hszU := hu1.size
      simp at hszU
      go_wp2_with fail
      go_meet
      exact midL_mk (Z := w1.heap.size) (q := wA.heap.size) hn0 (by simp; try omega) ((Upd.refl [w1.heap.size] w1).alloc _) (by have := hw1.size; omega) (by have := hw1.size; omega) (by have := hw1.size; omega) (by first | (left; simp; done) | (left; simp; omega) | (right; omega)) (by first | (left; simp; done) | (left; simp; omega) | (right; omega)) (RowAt.new w1 29 [ei x.pars, .slice x0 x.start.length y0, .slice (some ⟨wA.heap.size, 0, none⟩) 0 0]) (re.upd ((Upd.refl [] w1).alloc _) (by simp)) (hw1.alloc _)
    · have hszA := hw1.size
      have hszU := hu1.size
      simp at hszU
      go_wp2_with fail
      go_meet
      exact midL_mk (Z := wA.heap.size + 1) (q := wA.heap.size) hn0 (by simp; try omega) ((((Upd.refl [wA.heap.size + 1] w1).setCell (p := ⟨wA.heap.size + 1, 0, none⟩) (Or.inr (by simp)) (ei x.pars)).setCell (p := ⟨wA.heap.size + 1, 1, none⟩) (Or.inr (by simp)) (.slice x0 x.start.length y0)).setCell (p := ⟨wA.heap.size + 1, 2, none⟩) (Or.inr (by simp)) (.slice (some ⟨wA.heap.size, 0, none⟩) 0 0)) (by have := hw1.size; omega) (by have := hw1.size; omega) (by have := hw1.size; omega) (by first | (left; simp; done) | (left; simp; omega) | (right; omega)) (by first | (left; simp; done) | (left; simp; omega) | (right; omega)) (((rz.store 0 (ei x.pars)).store 1 (.slice x0 x.start.length y0)).store 2 (.slice (some ⟨wA.heap.size, 0, none⟩) 0 0)) (((re.other (wA.heap.size + 1) 0 (ei x.pars) (by omega)).other (wA.heap.size + 1) 1 (.slice x0 x.start.length y0) (by omega)).other (wA.heap.size + 1) 2 (.slice (some ⟨wA.heap.size, 0, none⟩) 0 0) (by omega)) (hw1.fresh ((((Upd.refl [wA.heap.size + 1] w1).setCell (p := ⟨wA.heap.size + 1, 0, none⟩) (Or.inr (by simp)) (ei x.pars)).setCell (p := ⟨wA.heap.size + 1, 1, none⟩) (Or.inr (by simp)) (.slice x0 x.start.length y0)).setCell (p := ⟨wA.heap.size + 1, 2, none⟩) (Or.inr (by simp)) (.slice (some ⟨wA.heap.size, 0, none⟩) 0 0)) (by intro c hc; simp at hc; subst hc; left; omega))
    · have hszA := hw1.size
      have hszU := hu1.size
      simp at hszU
      go_wp2_with fail
      go_meet
      exact midL_mk (Z := wA.heap.size) (q := w1.heap.size) hn0 (by simp; try omega) (((((Upd.refl [wA.heap.size] w1).alloc _).setCell (p := ⟨wA.heap.size, 0, none⟩) (Or.inr (by simp)) (ei x.pars)).setCell (p := ⟨wA.heap.size, 1, none⟩) (Or.inr (by simp)) (.slice x0 x.start.length y0)).setCell (p := ⟨wA.heap.size, 2, none⟩) (Or.inr (by simp)) (.slice (some ⟨w1.heap.size, 0, none⟩) 0 0)) (by have := hw1.size; omega) (by have := hw1.size; omega) (by have := hw1.size; omega) (by first | (left; simp; done) | (left; simp; omega) | (right; omega)) (by first | (left; simp; done) | (left; simp; omega) | (right; omega)) (((ry.store 0 (ei x.pars)).store 1 (.slice x0 x.start.length y0)).store 2 (.slice (some ⟨w1.heap.size, 0, none⟩) 0 0)) ((((RowAt.new w1 56 []).other wA.heap.size 0 (ei x.pars) (by omega)).other wA.heap.size 1 (.slice x0 x.start.length y0) (by omega)).other wA.heap.size 2 (.slice (some ⟨w1.heap.size, 0, none⟩) 0 0) (by omega)) (hw1.fresh (((((Upd.refl [wA.heap.size] w1).alloc _).setCell (p := ⟨wA.heap.size, 0, none⟩) (Or.inr (by simp)) (ei x.pars)).setCell (p := ⟨wA.heap.size, 1, none⟩) (Or.inr (by simp)) (.slice x0 x.start.length y0)).setCell (p := ⟨wA.heap.size, 2, none⟩) (Or.inr (by simp)) (.slice (some ⟨w1.heap.size, 0, none⟩) 0 0)) (by intro c hc; simp at hc; subst hc; left; omega))
    · have hszA := hw1.size
      have hszU := hu1.size
      simp at hszU
      go_wp2_with fail
      go_meet
      exact midL_mk (Z := wA.heap.size) (q := wA.heap.size + 1) hn0 (by simp; try omega) ((((Upd.refl [wA.heap.size] w1).setCell (p := ⟨wA.heap.size, 0, none⟩) (Or.inr (by simp)) (ei x.pars)).setCell (p := ⟨wA.heap.size, 1, none⟩) (Or.inr (by simp)) (.slice x0 x.start.length y0)).setCell (p := ⟨wA.heap.size, 2, none⟩) (Or.inr (by simp)) (.slice (some ⟨wA.heap.size + 1, 0, none⟩) 0 0)) (by have := hw1.size; omega) (by have := hw1.size; omega) (by have := hw1.size; omega) (by first | (left; simp; done) | (left; simp; omega) | (right; omega)) (by first | (left; simp; done) | (left; simp; omega) | (right; omega)) (((rz.store 0 (ei x.pars)).store 1 (.slice x0 x.start.length y0)).store 2 (.slice (some ⟨wA.heap.size + 1, 0, none⟩) 0 0)) (((re.other wA.heap.size 0 (ei x.pars) (by omega)).other wA.heap.size 1 (.slice x0 x.start.length y0) (by omega)).other wA.heap.size 2 (.slice (some ⟨wA.heap.size + 1, 0, none⟩) 0 0) (by omega)) (hw1.fresh ((((Upd.refl [wA.heap.size] w1).setCell (p := ⟨wA.heap.size, 0, none⟩) (Or.inr (by simp)) (ei x.pars)).setCell (p := ⟨wA.heap.size, 1, none⟩) (Or.inr (by simp)) (.slice x0 x.start.length y0)).setCell (p := ⟨wA.heap.size, 2, none⟩) (Or.inr (by simp)) (.slice (some ⟨wA.heap.size + 1, 0, none⟩) 0 0)) (by intro c hc; simp at hc; subst hc; left; omega))
  case rest =>
    obtain ⟨Z, q, x0, y0, g0, rfl, hZA, hrow, hU, hown, hqZ, r0, o0, bd⟩ := hcut
    obtain ⟨wq, rfl⟩ : ∃ wq : World, wq = wc := ⟨_, rfl⟩
    have hex : ∀ c ∈ Z :: g0, c < wq.heap.size := fun c hc => by
      rcases List.mem_cons.1 hc with rfl | hc
      · exact hrow.lt
      · exact (bd c hc).2.2.2
    have hacc : PickQ 5 wA.heap.size 56 (Z :: g0) wq (.slice (some ⟨q, 0, none⟩) 0 0) (leftOf (strike ns) T 0) := PickQ.start hown (fun h => by
      rcases List.mem_cons.1 h with h | h
      · exact hqZ h
      · exact (bd q h).2.2.1 rfl) hex
    have HR0 := Lib.hid hrow
    have HU0 := Lib.hid hU
    have HAC := Lib.hid hacc
    have HG := Lib.hid (And.intro r0 o0)
    have HBD := Lib.hid (show ∀ c ∈ g0, wA.heap.size ≤ c ∧ c ≠ Z from fun c hc => ⟨(bd c hc).1, (bd c hc).2.1⟩)
    have hCz := HRC.out.upd hU (by simp)
    have hbA := HA.out.lt
    have hzC := hCz.cell 2 _ rfl
    clear hrow hU hown r0 o0 bd hacc hex S0 a0 a1 hCz
    go_wp2_with fail
    go_loopw [7] (fun iv wr => ∃ (k : Nat) (sv : Value), k ≤ x.sms.length ∧ iv = .int .i64 k ∧ Hid (Upd [] wA wr) ∧ Hid (RowAt wr Z 29 [ei x.pars, .slice x0 x.start.length y0, sv]) ∧ Hid (PickQ 5 wA.heap.size 56 (Z :: g0) wr sv (leftOf (strike ns) T k)) ∧ Hid (R_I1 g0 wr [.slice x0 x.start.length y0] x.start ∧ Own g0 wr)) (fun iv _ => x.sms.length - (intOf iv).toNat)
    case atStart => exact ⟨0, _, Nat.zero_le _, rfl, HU0, HR0, HAC, HG⟩
    case round =>
      clear HR0 HU0 HAC HG hzC
      obtain ⟨wo, rfl⟩ : ∃ wo : World, wo = wr := ⟨_, rfl⟩
      obtain ⟨k, sv, hk, rfl, HU, HR, HAC, HG⟩ := hrel
      have zc2 := (HRC.out.upd HU.out (by simp)).cell 2 _ rfl
      by_cases hlt : k < x.sms.length
      · obtain rfl := HAA.out (by omega)
        have hkT : k < T.length := by rw [HTL.out]; exact hlt
        have hraw := HRAW.out.upd R_Smk HU.out (by simp) (by simp)
        have hr := (hraw.each _ (List.getElem_mem hkT)).2
        have hrow5 : ∀ (j : Nat) c, T[k].1[j]? = some c → wo.cell? ⟨b, off + k * 5 + j, none⟩ = some c := fun j c hj => hraw.rows k _ (by simp [hkT]) j c hj
        have HYES := Lib.hid (fun (h : strike ns T[k].2.2 = false) => leftOf_yes (strike ns) T k hkT h)
        have HNO := Lib.hid (fun (h : strike ns T[k].2.2 = true) => leftOf_no (strike ns) T k hkT h)
        have hml : (leftOf (strike ns) T k).length ≤ k := leftOf_le _ _ _
        have HPUSH := Lib.hid (fun W (h : PickQ 5 wA.heap.size 56 (Z :: g0) W sv (leftOf (strike ns) T k)) (o : Obj) (W2 : World) (v2 : Value) => PickQ.push (w2 := W2) (v2 := v2) h T[k] o)
        obtain ⟨S5, hS5⟩ : ∃ S5, leftOf (strike ns) T k = S5 := ⟨_, rfl⟩
        rw [hS5] at HYES HNO hml HPUSH HAC
        clear hS5
        generalize T[k] = tr at *
        obtain ⟨u, f, s⟩ := tr
        simp only at hr hrow5 HYES HNO HPUSH
        obtain ⟨e0, e1, e3, e4, q0, q1', q3, q4, rfl, r0, r1, r3, r4, rfl⟩ := hr
        obtain ⟨d0, o0, rfl, -⟩ := slF1_open r0
        obtain ⟨d1, o1, rfl, -⟩ := slF2_open r1
        obtain ⟨d3, o3, rfl, -⟩ := slP_open r3
        obtain ⟨d4, o4, rfl, -⟩ := slP_open r4
        have s0 := hrow5 0 _ rfl
        have s1 := hrow5 1 _ rfl
        have s2 := hrow5 2 _ rfl
        have s3 := hrow5 3 _ rfl
        have s4 := hrow5 4 _ rfl
        simp only [Nat.add_zero] at s0
        have hkl : (k : Int) < (x.sms.length : Int) := by omega
        have HM : strike ns s = (s.name != tauL && !ns.contains s.name) := rfl
        obtain ⟨wm, hwm⟩ : ∃ wm, wm = wo.alloc (.cells #[.slice d0 s.sums.length o0, .slice d1 s.guard.length o1, es s.name, .slice d3 s.args.length o3, .slice d4 s.next.length o4] 56) := ⟨_, rfl⟩
        have um : Upd [] wo wm := by rw [hwm]; exact (Upd.refl _ _).alloc _
        obtain ⟨M, hM⟩ : ∃ M, M = wo.heap.size := ⟨_, rfl⟩
        have hrM : RowAt wm M 56 [.slice d0 s.sums.length o0, .slice d1 s.guard.length o1, es s.name, .slice d3 s.args.length o3, .slice d4 s.next.length o4] := by rw [hwm, hM]; exact RowAt.new _ _ _
        have SQ := Lib.hid (SC.out wm ((UA.out.trans HU.out).trans um) s.name)
        have HUM := Lib.hid um
        have t0 := hrM.cell 0 _ rfl
        have t1 := hrM.cell 1 _ rfl
        have t2 := hrM.cell 2 _ rfl
        have t3 := hrM.cell 3 _ rfl
        have t4 := hrM.cell 4 _ rfl
        have HPN := Lib.hid (placeS_nonneg s.name ns)
        obtain ⟨pl, hpl⟩ : ∃ pl, placeS s.name ns = pl := ⟨_, rfl⟩
        rw [hpl] at SQ HPN
        clear hraw r0 r1 r3 r4 hrow5 um hrM hpl
        generalize strike ns s = Zs at *
        generalize s.name = N at *
        generalize ns.contains N = qc at *
        go_upto_region 7 with (fail)
        rw [← hwm, ← hM]
        clear hwm hM s0 s1 s2 s3 s4 zc2
        go_cut [43] (fun cv wx => cv = .bool (!Zs) ∧ wx = wm)
        case first =>
          by_cases htau : N = tauL
          · have hz : Zs = false := by rw [HM, htau]; simp
            have htb : (N == [116, 97, 117]) = true := by simpa [tauL] using htau
            have HZ := Lib.hid hz
            clear htau HM hz SQ HYES HNO HPUSH
            go_wp2_with fail
            go_meet
            exact ⟨by rw [HZ.out]; rfl, by first | rfl | trivial⟩
          · have hz : Zs = !qc := by rw [HM, show (N != tauL) = true by simpa using htau]; rfl
            have htb : (N == [116, 97, 117]) = false := by simpa [tauL] using htau
            have HZ := Lib.hid hz
            clear htau HM hz HYES HNO HPUSH
            go_wp2_with fail
            refine SQ.out.mono ?_
            rintro e w1 ⟨rfl, rfl⟩
            go_wp2_with fail
            go_meet
            exact ⟨by rw [HZ.out, Bool.not_not, ← HPN.out], by first | rfl | trivial⟩
        case rest =>
          obtain ⟨rfl, rfl⟩ := hcut
          obtain ⟨wn, rfl⟩ : ∃ wn : World, wn = wc := ⟨_, rfl⟩
          have HU2 := Lib.hid (HU.out.trans HUM.out)
          clear HM SQ HPN
          cases Zs with
          | true =>
            replace HNO := Lib.hid (HNO.out (by first | trivial | rfl))
            clear HYES HPUSH
            go_wp2_with fail
            go_roundw
            case rel => exact ⟨k + 1, sv, by omega, by go_num, HU2, Lib.hid (HR.out.upd HUM.out (by simp)), Lib.hid (by rw [HNO.out]; exact HAC.out.upd HUM.out), Lib.hid ⟨R_I1k.upd HG.out.1 HUM.out (by simp), HG.out.2.upd HUM.out (by simp)⟩⟩
            case measure => simp [intOf]; omega
          | false =>
            replace HYES := Lib.hid (HYES.out (by first | trivial | rfl))
            clear HNO
            have hac := HAC.out.upd HUM.out
            have hown1 := hac.own
            have HACM := Lib.hid hac
            have hrz := HR.out.upd HUM.out (by simp)
            have HRZ := Lib.hid hrz
            have z2 := hrz.cell 2 _ rfl
            have HFAR := Lib.hid (show Z ∉ sv.ownBlock.toList from fun h => hac.far Z (by simpa using h) (by simp))
            have HFAG := Lib.hid (show ∀ c ∈ g0, c ∉ sv.ownBlock.toList from fun c hc h => hac.far c (by simpa using h) (by simp [hc]))
            have HLO := Lib.hid (fun c hc => (hown1.lt c hc).1)
            obtain ⟨ca, cc, rfl⟩ := hac.form
            generalize S5.length = m at *
            have HPU := Lib.hid (HPUSH.out _ HACM.out (.cells #[.slice d0 s.sums.length o0, .slice d1 s.guard.length o1, es N, .slice d3 s.args.length o3, .slice d4 s.next.length o4] 56))
            have hszn : wA.heap.size ≤ wn.heap.size := HU2.out.size
            clear hac hrz HAC HPUSH HR
            go_wp2_with (first
              | (at_builtin; refine wpList_append_tight _ rfl _ _ 27 rfl wA.heap.size 56 i0 (.agg #[.slice none 0 0, .slice none 0 0, .string ⟨#[]⟩, .slice none 0 0, .slice none 0 0]) 5 112 Try.underlying27 hi hz0 hz1 hz2 rfl (by decide) _ _ _ rfl (hown1.alloc _) ⟨wn.heap.size, 0, none⟩ 1 1 [.slice d0 s.sums.length o0, .slice d1 s.guard.length o1, es N, .slice d3 s.args.length o3, .slice d4 s.next.length o4] rfl rfl (fun j u hj => by rw [addr_add, Nat.zero_add]; exact cell_new wn #[.slice d0 s.sums.length o0, .slice d1 s.guard.length o1, es N, .slice d3 s.args.length o3, .slice d4 s.next.length o4] _ _ rfl j u (by simpa using hj)) (by simp [Value.oneCell']) (by unfold maxLen; omega) (by omega) (by simp; omega) ?_)
              | fail)
            intro v2 w2 hown2 hg2 ht2
            have hpick := HPU.out w2 v2 (by simpa using hown2) hg2 (by simpa using ht2)
            have hvU : Upd (Value.slice ca m cc).ownBlock.toList wn w2 := ((Upd.refl _ wn).alloc (.cells #[.slice d0 s.sums.length o0, .slice d1 s.guard.length o1, es N, .slice d3 s.args.length o3, .slice d4 s.next.length o4] 56)).grown hg2 (fun k hk => Or.inr (by simp [hk]))
            have hrz2 := HRZ.out.upd hvU HFAR.out
            have hU2 : Upd [] wA w2 := HU2.out.fresh hvU (fun c hc => Or.inl (HLO.out c (by simpa using hc)))
            obtain ⟨xa, xc, rfl⟩ := ownsRow_form hown2
            have HP := Lib.hid (And.intro hpick (And.intro hvU hU2))
            have HRZ2 := Lib.hid hrz2
            have y2 := hrz2.cell 2 _ rfl
            have yf := hrz2.fz 2
            clear hpick hvU hrz2 hU2 hown2 hg2 ht2 hown1 HPU
            go_wp2_with fail
            go_roundw
            case rel =>
              have uZ : ∀ nv, Upd [Z] w2 (w2.setCell ⟨Z, 2, none⟩ nv) := fun nv => (Upd.refl _ _).setCell (Or.inr (by simp)) nv
              have hgz : ∀ c ∈ g0, c ∉ [Z] := fun c hc hm => (HBD.out c hc).2 (by simpa using hm)
              refine ⟨k + 1, _, by omega, by go_num, Lib.hid (HP.out.2.2.setCell (Or.inl hZA) _), Lib.hid (HRZ2.out.store 2 _), Lib.hid ?_, Lib.hid ⟨R_I1k.upd (R_I1k.upd (R_I1k.upd HG.out.1 HUM.out (by simp)) HP.out.2.1 HFAG.out) (uZ _) hgz, ((HG.out.2.upd HUM.out (by simp)).upd HP.out.2.1 HFAG.out).upd (uZ _) hgz⟩⟩
              rw [HYES.out]
              exact HP.out.1.put (uZ _) (by simp)
            case measure => simp [intOf]; omega
      · obtain rfl : k = x.sms.length := by omega
        obtain ⟨ca, cc, rfl⟩ := HAC.out.form
        have hfin := HAC.out.fin (HRAW.out.upd R_Smk HU.out (by simp) (by simp)) (HOT.out.upd HU.out (by simp)) (fun c hc => by have := HTG.out c hc; have := HCA.out; omega) (leftOf_sub _ _ _)
        have hll : (leftOf (strike ns) T x.sms.length).map (·.2.2) = x.sms.filter fun s => !strike ns s := by rw [← HTL.out, leftOf_end, ← HXS.out]
        rw [hll] at hfin
        have hlen : (leftOf (strike ns) T x.sms.length).length = (x.sms.filter fun s => !strike ns s).length := by rw [← hll, List.length_map]
        obtain ⟨fq, hsl, hso, hsb⟩ := hfin
        have hr5 := HR.out
        have hres := HA.out.upd HU.out (by simp)
        have HRES := Lib.hid hres
        unfold RowAt at hr5 hres
        have HS := Lib.hid (And.intro hsl (And.intro hso hsb))
        have HLEN := Lib.hid hlen
        clear hsl hso hsb HAC hll hlen
        generalize hY : (x.sms.filter fun s => !strike ns s) = Y at *
        have HY := Lib.hid hY
        generalize (leftOf (strike ns) T x.sms.length).length = ml at *
        clear hY
        obtain rfl := HLEN.out
        go_wp2_with (first
          | (refine wpList_load_row rfl 29 _ rfl Z rfl 29 #[ei x.pars, .slice x0 x.start.length y0, .slice ca Y.length cc] (0, 0) _ hr5 Try.underlying29 rfl Ln_size ?_)
          | (refine wpList_store_row rfl 29 _ _ rfl B #[ei x.pars, .slice x0 x.start.length y0, .slice ca Y.length cc] rfl rfl 29 _ hres Ln_size rfl (by simp [Value.oneCell']) ?_)
          | fail)
        have hr : RowAt (wo.setRow B #[ei x.pars, .slice x0 x.start.length y0, .slice ca Y.length cc]) B 29 [ei x.pars, .slice x0 x.start.length y0, .slice ca Y.length cc] := HRES.out.row [ei x.pars, .slice x0 x.start.length y0, .slice ca Y.length cc]
        have n0 := hr.cell 0 _ rfl
        have n1 := hr.cell 1 _ rfl
        have n2 := hr.cell 2 _ rfl
        refine bodyPost_ret (v := .agg #[ei x.pars, .slice x0 x.start.length y0, .slice ca Y.length cc]) (by simp [results, Try.results62, go_sem, n0, n1, n2]) rfl ?_
        refine madeLn_of ?_
        unfold resP
        rw [HY.out]
        obtain ⟨hsl, hso, hsb⟩ := HS.out
        refine gaveLn (us := [ei x.pars, .slice x0 x.start.length y0, .slice ca Y.length cc]) (W := wS) (x := ⟨x.pars, x.start, Y⟩) ⟨g0 ++ fq, ⟨_, _, g0, fq, rfl, HG.out.1, hsl, rfl⟩, own_join HG.out.2 hso (fun c h1 h2 => ?_), fun c hc => ?_⟩ rfl (by simp [Value.oneCell']) (UA.out.trans HU.out) HBN.out HBW.out US.out.size
        · rcases hsb c h2 with h | h
          · exact h.2 (by simp [h1])
          · have := HTG.out c h; have := (HBD.out c h1).1; have := HCA.out; omega
        · have := HCS.out
          have := HCA.out
          rcases List.mem_append.1 hc with h | h
          · have := (HBD.out c h).1; omega
          · rcases hsb c h with h | h
            · omega
            · have := HTG.out c h; omega

end Go.Proofs.Ytnfghgaadnobbaa

namespace Go.Proofs.Ytnfghgaadnobbaa
open Go.RowKit

def resF (x : Ln) (ns : List (List UInt8)) : Ln × Int := if lnOk x then (if namesF ns then (resP ns x, 0) else (zeroLn, 2)) else (zeroLn, 1)
theorem resF_b (x : Ln) (ns : List (List UInt8)) (h : 1 + mkF_Ln x ≤ 100000000) : 1 + mkF_Ln (resF x ns).1 ≤ 4611686018427387904 := by
  have h1 := res_p ns x
  unfold resF
  split
  · split
    · show 1 + mkF_Ln (resP ns x) ≤ _; omega
    · show (1 : Int) + 0 ≤ _; omega
  · show (1 : Int) + 0 ≤ _; omega

set_option maxRecDepth 20000 in
set_option maxHeartbeats 4000000 in
theorem resFI (cs : List Value) (x : Ln) (v : Value) (ns : List (List UInt8)) (w : World) (fp fs : List Nat) (hR : R_Ln fp w cs x) (hS : R_S1 fs w [v] ns) (hF : LnFit x) (hl : ns.length ≤ 2000000) (ht : ∀ s ∈ ns, s.length ≤ 2000000) :
    Calls Try.prog 26 #[.agg cs.toArray, v] w (GaveLn w (resF x ns)) := by
  have hR' := hR
  obtain ⟨v1, v2, f1, f2, rfl, r1, r2, rfl⟩ := hR
  obtain ⟨B, hB⟩ : ∃ B, B = w.heap.size := ⟨_, rfl⟩
  obtain ⟨wA, hwA⟩ : ∃ wA, wA = (w.alloc (.cells #[ei x.pars, v1, v2] 29)).alloc (.cells #[.int .i64 0, .slice none 0 0, .slice none 0 0] 29) := ⟨_, rfl⟩
  have s1 : (w.alloc (.cells #[ei x.pars, v1, v2] 29)).heap.size = B + 1 := by rw [hB]; simp
  have uA : Upd [] w wA := by rw [hwA]; exact ((Upd.refl _ _).alloc _).alloc _
  have hA1 : RowAt wA (B + 1) 29 zerosLn := by rw [hwA, ← s1]; exact RowAt.new _ _ _
  have hL : RowAt wA B 29 [ei x.pars, v1, v2] := by rw [hwA, hB]; exact (RowAt.new _ _ _).upd ((Upd.refl [] _).alloc _) (by simp)
  have HL := Lib.hid hL
  have HA := Lib.hid hA1
  have S1 := Lib.hid (validLnI _ x wA _ (R_Lnk.upd hR' uA (by simp)) hF)
  have QA := Lib.hid (fun W (hu : Upd [] wA W) => namesOkI v ns W fs (R_S1k.upd hS (uA.trans hu) (by simp)) hl ht)
  have S3 := Lib.hid (fun W (hu : Upd [] wA W) (hk : lnOk x = true) => restrictI _ x v ns W _ fs (R_Lnk.upd hR' (uA.trans hu) (by simp)) (R_S1k.upd hS (uA.trans hu) (by simp)) (ln_fits hk hF))
  have UA := Lib.hid uA
  have HMS := Lib.hid (show resF x ns = if lnOk x then (if namesF ns then (resP ns x, 0) else (zeroLn, 2)) else (zeroLn, 1) from rfl)
  have hL1 := hL
  unfold RowAt at hL1
  clear r1 r2 hR' uA s1 hF hL hA1 hS ht
  generalize resF x ns = Z at *
  generalize hok : lnOk x = ok at *
  generalize namesF ns = qa at *
  generalize resP ns x = Y at *
  go_enter Try.func26, Try.ntmps26
  go_upto_region 1 with (fail)
  rw [← hwA, ← hB]
  have HBB := Lib.hid hB
  clear hwA hB
  go_wp2_with (first
    | (refine wpList_load_row rfl 29 _ rfl B rfl 29 #[ei x.pars, v1, v2] (0, 0) _ hL1 Try.underlying29 rfl Ln_size ?_)
    | fail)
  refine S1.out.mono ?_
  rintro e w1 ⟨rfl, hu1⟩
  have HU1 := Lib.hid (UA.out.trans hu1)
  have HV1 := Lib.hid hu1
  have ha1 := HA.out.upd hu1 (by simp)
  have HL1 := Lib.hid (HL.out.upd hu1 (by simp))
  have HA1 := Lib.hid ha1
  unfold RowAt at ha1
  clear S1 hu1 HL HA hL1
  cases ok with
  | false =>
    have HZ := Lib.hid (show Z = (zeroLn, 1) by rw [HMS.out]; rfl)
    clear QA S3 HMS
    go_wp2_with (first
      | (refine wpList_store_row rfl 29 _ _ rfl (B + 1) #[.int .i64 0, .slice none 0 0, .slice none 0 0] rfl rfl 29 _ ha1 Ln_size rfl (by simp [Value.oneCell']) ?_)
      | fail)
    have hr : RowAt (w1.setRow (B + 1) #[.int .i64 0, .slice none 0 0, .slice none 0 0]) (B + 1) 29 [.int .i64 0, .slice none 0 0, .slice none 0 0] := HA1.out.row [.int .i64 0, .slice none 0 0, .slice none 0 0]
    have n0 := hr.cell 0 _ rfl
    have n1 := hr.cell 1 _ rfl
    have n2 := hr.cell 2 _ rfl
    refine bodyPost_ret (v := .tuple #[.agg #[.int .i64 0, .slice none 0 0, .slice none 0 0], .int .i64 1]) (by simp [results, Try.results26, go_sem, n0, n1, n2]) rfl ?_
    rw [HZ.out]
    exact gaveLn_zero _ _ _ (HU1.out.row (Or.inl (by have := HBB.out; omega)) _)
  | true =>
    have Q1 := Lib.hid (QA.out w1 HV1.out)
    clear QA ha1
    go_wp2_with fail
    refine Q1.out.mono ?_
    rintro e w2 ⟨rfl, hu2⟩
    have HU2 := Lib.hid (HU1.out.trans hu2)
    have HV2 := Lib.hid (HV1.out.trans hu2)
    have ha2 := HA1.out.upd hu2 (by simp)
    have hL2 := HL1.out.upd hu2 (by simp)
    have HA2 := Lib.hid ha2
    unfold RowAt at ha2 hL2
    clear Q1 hu2 HL1 HA1 HU1 HV1
    cases qa with
    | false =>
      have HZ := Lib.hid (show Z = (zeroLn, 2) by rw [HMS.out]; rfl)
      clear S3 HMS hL2
      go_wp2_with (first
        | (refine wpList_store_row rfl 29 _ _ rfl (B + 1) #[.int .i64 0, .slice none 0 0, .slice none 0 0] rfl rfl 29 _ ha2 Ln_size rfl (by simp [Value.oneCell']) ?_)
        | fail)
      have hr : RowAt (w2.setRow (B + 1) #[.int .i64 0, .slice none 0 0, .slice none 0 0]) (B + 1) 29 [.int .i64 0, .slice none 0 0, .slice none 0 0] := HA2.out.row [.int .i64 0, .slice none 0 0, .slice none 0 0]
      have n0 := hr.cell 0 _ rfl
      have n1 := hr.cell 1 _ rfl
      have n2 := hr.cell 2 _ rfl
      refine bodyPost_ret (v := .tuple #[.agg #[.int .i64 0, .slice none 0 0, .slice none 0 0], .int .i64 2]) (by simp [results, Try.results26, go_sem, n0, n1, n2]) rfl ?_
      rw [HZ.out]
      exact gaveLn_zero _ _ _ (HU2.out.row (Or.inl (by have := HBB.out; omega)) _)
    | true =>
      have HZ := Lib.hid (show Z = (Y, 0) by rw [HMS.out]; rfl)
      have T3 := Lib.hid (S3.out w2 HV2.out (by first | trivial | rfl))
      clear S3 HMS ha2
      go_wp2_with (first
        | (refine wpList_load_row rfl 29 _ rfl B rfl 29 #[ei x.pars, v1, v2] (0, 0) _ hL2 Try.underlying29 rfl Ln_size ?_)
        | fail)
      refine T3.out.mono ?_
      rintro e w3 ⟨⟨us, rfl, hl3, hc3, hn⟩, hu3⟩
      obtain ⟨p1, q1, p2, q2, rfl⟩ := ln_form hn
      have HN := Lib.hid hn
      have HU3 := Lib.hid (HU2.out.trans hu3)
      have ha3 := HA2.out.upd hu3 (by simp)
      have HA3 := Lib.hid ha3
      have HBW := Lib.hid HA2.out.lt
      unfold RowAt at ha3
      clear T3 hu3 hn hc3
      go_wp2_with (first
        | (refine wpList_store_row rfl 29 _ _ rfl (B + 1) #[ei Y.pars, .slice p1 Y.start.length q1, .slice p2 Y.sms.length q2] rfl rfl 29 _ ha3 Ln_size rfl (by simp [Value.oneCell']) ?_)
        | fail)
      have hr : RowAt (w3.setRow (B + 1) #[ei Y.pars, .slice p1 Y.start.length q1, .slice p2 Y.sms.length q2]) (B + 1) 29 [ei Y.pars, .slice p1 Y.start.length q1, .slice p2 Y.sms.length q2] := HA3.out.row [ei Y.pars, .slice p1 Y.start.length q1, .slice p2 Y.sms.length q2]
      have n0 := hr.cell 0 _ rfl
      have n1 := hr.cell 1 _ rfl
      have n2 := hr.cell 2 _ rfl
      refine bodyPost_ret (v := .tuple #[.agg #[ei Y.pars, .slice p1 Y.start.length q1, .slice p2 Y.sms.length q2], .int .i64 0]) (by simp [results, Try.results26, go_sem, n0, n1, n2]) rfl ?_
      rw [HZ.out]
      exact gaveLn (us := [ei Y.pars, .slice p1 Y.start.length q1, .slice p2 Y.sms.length q2]) (W := w2) HN.out rfl (by simp [Value.oneCell']) HU3.out (by have := HBB.out; omega) HBW.out HU2.out.size

set_option maxRecDepth 20000 in
set_option maxHeartbeats 4000000 in
theorem resFS (cs : List Value) (x : Ln) (v : Value) (ns : List (List UInt8)) (w : World) (fp fs : List Nat) (hR : R_Ln fp w cs x) (hS : R_S1 fs w [v] ns) (hF : LnFit x) (hl : ns.length ≤ 2000000) (ht : ∀ s ∈ ns, s.length ≤ 2000000) :
    Calls Try.prog 24 #[.agg cs.toArray, v] w (GaveLn w (resF x ns)) := by
  obtain ⟨v1, v2, f1, f2, rfl, r1, r2, rfl⟩ := hR
  obtain ⟨B, hB⟩ : ∃ B, B = w.heap.size := ⟨_, rfl⟩
  obtain ⟨wA, hwA⟩ : ∃ wA, wA = (w.alloc (.cells #[ei x.pars, v1, v2] 29)).alloc (.cells #[.int .i64 0, .slice none 0 0, .slice none 0 0] 29) := ⟨_, rfl⟩
  have s1 : (w.alloc (.cells #[ei x.pars, v1, v2] 29)).heap.size = B + 1 := by rw [hB]; simp
  have uA : Upd [] w wA := by rw [hwA]; exact ((Upd.refl _ _).alloc _).alloc _
  have hA1 : RowAt wA (B + 1) 29 zerosLn := by rw [hwA, ← s1]; exact RowAt.new _ _ _
  have HA := Lib.hid hA1
  have hAt : LnAt wA B v1 v2 f1 f2 x := by rw [hwA, hB]; exact (LnAt.new w _ v1 v2 f1 f2 x r1 r2).upd ((Upd.refl [] _).alloc _)
  have S1 := Lib.hid (isLnS B v1 v2 x wA f1 f2 hAt (fun s hs => (hF s hs).1))
  have QA := Lib.hid (fun W (hu : Upd [] wA W) => nameListS v ns W fs (R_S1k.upd hS (uA.trans hu) (by simp)) hl ht)
  have S3 := Lib.hid (fun W (hu : Upd [] wA W) (hk : lnOk x = true) => restrictS B v1 v2 x v ns W f1 f2 fs (hAt.upd hu) (R_S1k.upd hS (uA.trans hu) (by simp)) (ln_fits hk hF))
  have UA := Lib.hid uA
  have HMS := Lib.hid (show resF x ns = if lnOk x then (if namesF ns then (resP ns x, 0) else (zeroLn, 2)) else (zeroLn, 1) from rfl)
  clear r1 r2 uA s1 hF hA1 hS ht hAt
  generalize resF x ns = Z at *
  generalize hok : lnOk x = ok at *
  generalize namesF ns = qa at *
  generalize resP ns x = Y at *
  go_enter Try.func24, Try.ntmps24
  go_upto_region 1 with (fail)
  rw [← hwA, ← hB]
  have HBB := Lib.hid hB
  clear hwA hB
  go_wp2_with fail
  refine S1.out.mono ?_
  rintro e w1 ⟨rfl, nq, hw1⟩
  have hu1 : Upd [] wA w1 := by rw [hw1]; exact (Upd.refl _ _).drewN nq
  clear hw1
  have HU1 := Lib.hid (UA.out.trans hu1)
  have HV1 := Lib.hid hu1
  have ha1 := HA.out.upd hu1 (by simp)
  have HA1 := Lib.hid ha1
  unfold RowAt at ha1
  clear S1 hu1 HA
  cases ok with
  | false =>
    have HZ := Lib.hid (show Z = (zeroLn, 1) by rw [HMS.out]; rfl)
    clear QA S3 HMS
    go_wp2_with (first
      | (refine wpList_store_row rfl 29 _ _ rfl (B + 1) #[.int .i64 0, .slice none 0 0, .slice none 0 0] rfl rfl 29 _ ha1 Ln_size rfl (by simp [Value.oneCell']) ?_)
      | fail)
    have hr : RowAt (w1.setRow (B + 1) #[.int .i64 0, .slice none 0 0, .slice none 0 0]) (B + 1) 29 [.int .i64 0, .slice none 0 0, .slice none 0 0] := HA1.out.row [.int .i64 0, .slice none 0 0, .slice none 0 0]
    have n0 := hr.cell 0 _ rfl
    have n1 := hr.cell 1 _ rfl
    have n2 := hr.cell 2 _ rfl
    refine bodyPost_ret (v := .tuple #[.agg #[.int .i64 0, .slice none 0 0, .slice none 0 0], .int .i64 1]) (by simp [results, Try.results24, go_sem, n0, n1, n2]) rfl ?_
    rw [HZ.out]
    exact gaveLn_zero _ _ _ (HU1.out.row (Or.inl (by have := HBB.out; omega)) _)
  | true =>
    have Q1 := Lib.hid (QA.out w1 HV1.out)
    clear QA ha1
    go_wp2_with fail
    refine Q1.out.mono ?_
    rintro e w2 ⟨rfl, hu2⟩
    have HU2 := Lib.hid (HU1.out.trans hu2)
    have HV2 := Lib.hid (HV1.out.trans hu2)
    have ha2 := HA1.out.upd hu2 (by simp)
    have HA2 := Lib.hid ha2
    unfold RowAt at ha2
    clear Q1 hu2 HA1 HU1 HV1
    cases qa with
    | false =>
      have HZ := Lib.hid (show Z = (zeroLn, 2) by rw [HMS.out]; rfl)
      clear S3 HMS
      go_wp2_with (first
        | (refine wpList_store_row rfl 29 _ _ rfl (B + 1) #[.int .i64 0, .slice none 0 0, .slice none 0 0] rfl rfl 29 _ ha2 Ln_size rfl (by simp [Value.oneCell']) ?_)
        | fail)
      have hr : RowAt (w2.setRow (B + 1) #[.int .i64 0, .slice none 0 0, .slice none 0 0]) (B + 1) 29 [.int .i64 0, .slice none 0 0, .slice none 0 0] := HA2.out.row [.int .i64 0, .slice none 0 0, .slice none 0 0]
      have n0 := hr.cell 0 _ rfl
      have n1 := hr.cell 1 _ rfl
      have n2 := hr.cell 2 _ rfl
      refine bodyPost_ret (v := .tuple #[.agg #[.int .i64 0, .slice none 0 0, .slice none 0 0], .int .i64 2]) (by simp [results, Try.results24, go_sem, n0, n1, n2]) rfl ?_
      rw [HZ.out]
      exact gaveLn_zero _ _ _ (HU2.out.row (Or.inl (by have := HBB.out; omega)) _)
    | true =>
      have HZ := Lib.hid (show Z = (Y, 0) by rw [HMS.out]; rfl)
      have T3 := Lib.hid (S3.out w2 HV2.out (by first | trivial | rfl))
      clear S3 HMS ha2
      go_wp2_with fail
      refine T3.out.mono ?_
      rintro e w3 ⟨⟨us, rfl, hl3, hc3, hn⟩, hu3⟩
      obtain ⟨p1, q1, p2, q2, rfl⟩ := ln_form hn
      have HN := Lib.hid hn
      have HU3 := Lib.hid (HU2.out.trans hu3)
      have ha3 := HA2.out.upd hu3 (by simp)
      have HA3 := Lib.hid ha3
      have HBW := Lib.hid HA2.out.lt
      unfold RowAt at ha3
      clear T3 hu3 hn hc3
      go_wp2_with (first
        | (refine wpList_store_row rfl 29 _ _ rfl (B + 1) #[ei Y.pars, .slice p1 Y.start.length q1, .slice p2 Y.sms.length q2] rfl rfl 29 _ ha3 Ln_size rfl (by simp [Value.oneCell']) ?_)
        | fail)
      have hr : RowAt (w3.setRow (B + 1) #[ei Y.pars, .slice p1 Y.start.length q1, .slice p2 Y.sms.length q2]) (B + 1) 29 [ei Y.pars, .slice p1 Y.start.length q1, .slice p2 Y.sms.length q2] := HA3.out.row [ei Y.pars, .slice p1 Y.start.length q1, .slice p2 Y.sms.length q2]
      have n0 := hr.cell 0 _ rfl
      have n1 := hr.cell 1 _ rfl
      have n2 := hr.cell 2 _ rfl
      refine bodyPost_ret (v := .tuple #[.agg #[ei Y.pars, .slice p1 Y.start.length q1, .slice p2 Y.sms.length q2], .int .i64 0]) (by simp [results, Try.results24, go_sem, n0, n1, n2]) rfl ?_
      rw [HZ.out]
      exact gaveLn (us := [ei Y.pars, .slice p1 Y.start.length q1, .slice p2 Y.sms.length q2]) (W := w2) HN.out rfl (by simp [Value.oneCell']) HU3.out (by have := HBB.out; omega) HBW.out HU2.out.size

end Go.Proofs.Ytnfghgaadnobbaa

namespace Go.Proofs.Ytnfghgaadnobbaa
open Go.RowKit

set_option maxRecDepth 20000 in
set_option maxHeartbeats 4000000 in
theorem lawRestrict (cs : List Value) (x : Ln) (v_a : Value) (a : List (List UInt8)) (f_a : List Nat) (w : World) (fp : List Nat) (hR : R_Ln fp w cs x) (hS : LnOk x) (hR_a : R_S1 f_a w [v_a] a) (ok_a : strsOk a) :
    Calls Try.prog 6 #[.agg cs.toArray, v_a] w fun e w' => e = .returned (.bool true) ∧ Upd [] w w' := by
  have hR' := hR
  obtain ⟨v1, v2, f1, f2, rfl, -, -, rfl⟩ := hR
  have HRX := Lib.hid (fun W (hu : Upd [] w W) => R_Lnk.upd hR' hu (by simp))
  have HR_a := Lib.hid (fun W (hu : Upd [] w W) => R_S1k.upd hR_a hu (by simp))
  obtain ⟨BA, hBA⟩ : ∃ B, B = w.heap.size := ⟨_, rfl⟩
  obtain ⟨wA, hwA⟩ : ∃ wA, wA = w.alloc (.cells #[ei x.pars, v1, v2] 25) := ⟨_, rfl⟩
  have uA : Upd [] w wA := by rw [hwA]; exact (Upd.refl _ _).alloc _
  have UA := Lib.hid uA
  have qA : RowAt wA BA 25 [ei x.pars, v1, v2] := by rw [hwA, hBA]; exact RowAt.new _ _ _
  have HQA := Lib.hid (fun W (hu : Upd [] wA W) => qA.upd hu (by simp))
  have S1 := Lib.hid (sz_Ln _ x 1048576 wA _ (by omega) (by omega) (HRX.out wA uA) hS)
  obtain ⟨a_a, c_a, rfl, hx1_a, hx2_a, -⟩ := slF1_open hR_a
  unfold maxLen at hx2_a
  clear hR' hS uA qA hR_a
  go_enter Try.func6, Try.ntmps6
  go_upto_region 1 with (fail)
  rw [← hwA, ← hBA]
  have HBA := Lib.hid hBA
  clear hwA hBA
  have u0 : Upd [] wA wA := Upd.refl _ _
  have z_A_0 := (HQA.out _ u0).cell 0 _ rfl
  have z_A_1 := (HQA.out _ u0).cell 1 _ rfl
  have z_A_2 := (HQA.out _ u0).cell 2 _ rfl
  go_wp2_with fail
  refine S1.out.mono ?_
  rintro e w1 ⟨⟨r, rfl, hr⟩, uu⟩
  clear S1 z_A_0 z_A_1 z_A_2
  have u1 := u0.trans uu
  clear u0 uu
  rcases hr with rfl | ⟨hr0_x, hr1_x⟩
  · have HU := Lib.hid (UA.out.trans u1)
    go_wp2_with fail
    go_ret
    exact ⟨rfl, HU.out⟩
  · have hsz : szF_Ln x ≤ 1048576 := by omega
    have hnn := szF_Ln_nonneg x
    have S2 := sz_S1 (.slice a_a a.length c_a) a r w1 f_a (by omega) (by omega) (HR_a.out w1 (UA.out.trans u1)) ok_a
    go_wp2_with fail
    refine S2.mono ?_
    clear S2
    rintro e w' ⟨⟨r_a, rfl, hr_a⟩, rfl⟩
    rcases hr_a with rfl | ⟨hr0_a, hr1_a⟩
    · have HU := Lib.hid (UA.out.trans u1)
      go_wp2_with fail
      go_ret
      exact ⟨rfl, HU.out⟩
    · have hz_a : szF_S1 a ≤ 1048576 := by have := szF_S1_nonneg a; omega
      have hz9_a : 0 ≤ r_a := by omega
      have HSZ := Lib.hid hsz
      have hF := ln_fit hsz
      have tn_x := mkF_Ln_nonneg x
      have hm_x := mkF_Ln_le x
      have tn_a := mkF_S1_nonneg a
      have hm_a := mkF_S1_le a
      have hM0 : 1 + mkF_Ln x ≤ 100000000 := by omega
      obtain ⟨hla, hsa⟩ := strs_fit hz_a
      have hMy : 1 + mkF_Ln (resF x a).1 ≤ 4611686018427387904 := by have := resF_b x a hM0; omega
      have tn_y := mkF_Ln_nonneg (resF x a).1
      obtain ⟨⟨y, cc⟩, hG⟩ : ∃ G, resF x a = G := ⟨_, rfl⟩
      rw [hG] at hMy tn_y
      simp only at hMy tn_y
      have hMk := hMy
      have HG := Lib.hid hG
      clear hG
      have hcc : ((cc : Int) != (cc : Int)) = false := by simp
      clear hsz hm_x hr1_x hnn
      have z_A_0 := (HQA.out _ u1).cell 0 _ rfl
      have z_A_1 := (HQA.out _ u1).cell 1 _ rfl
      have z_A_2 := (HQA.out _ u1).cell 2 _ rfl
      have S2 := to_Ln _ x w1 _ HSZ.out (HRX.out _ (UA.out.trans u1))
      go_wp2_with fail
      refine S2.mono ?_
      clear S2 z_A_0 z_A_1 z_A_2
      rintro e w2 ⟨⟨us, rfl, -, -, hn⟩, uu⟩
      obtain ⟨p1_a_x, q1_a_x, p2_a_x, q2_a_x, rfl⟩ := ln_form hn
      obtain ⟨fp_a_x, rr, oo, ge_a_x⟩ := hn
      have u2 : Upd [] wA w2 := u1.trans (uu)
      have HL_a_x := Lib.hid (show ∀ b ∈ fp_a_x, wA.heap.size ≤ b from fun b hb => by have := ge_a_x b hb; have := u1.size; omega)
      have r2_a_x := rr
      have o2_a_x := oo
      clear u1 uu ge_a_x rr oo
      have S2 := to_S1 (.slice a_a a.length c_a) a w2 _ hz_a (HR_a.out _ (UA.out.trans u2))
      go_wp2_with fail
      refine S2.mono ?_
      clear S2
      rintro e w3 ⟨⟨vv, rfl, hn⟩, uu⟩
      obtain ⟨p1_a_a, q1_a_a, rfl⟩ := hn.form
      obtain ⟨fp_a_a, rr, oo, ge_a_a⟩ := hn
      have lt_a_x := R_Lnk.lt r2_a_x
      have u3 : Upd [] wA w3 := u2.trans (uu)
      have r3_a_x := R_Lnk.upd r2_a_x (uu) (by simp)
      have o3_a_x := o2_a_x.upd (uu) (by simp)
      have HL_a_a := Lib.hid (show ∀ b ∈ fp_a_a, wA.heap.size ≤ b from fun b hb => by have := ge_a_a b hb; have := u2.size; omega)
      have HD_a_x_a_a := Lib.hid (show ∀ b ∈ fp_a_x, b ∉ fp_a_a from fun b hb hm => by have := lt_a_x b hb; have := ge_a_a b hm; omega)
      have r3_a_a := rr
      have o3_a_a := oo
      clear u2 r2_a_x o2_a_x uu ge_a_a rr oo lt_a_x
      have S2 := resFS [ei (x).pars, .slice p1_a_x (x).start.length q1_a_x, .slice p2_a_x (x).sms.length q2_a_x] x (.slice p1_a_a a.length q1_a_a) a w3 fp_a_x fp_a_a r3_a_x r3_a_a hF hla hsa
      rw [HG.out] at S2
      go_wp2_with fail
      refine S2.mono ?_
      clear S2
      rintro e w4 ⟨⟨us, rfl, -, -, hn⟩, uu⟩
      obtain ⟨p1_w0, q1_w0, p2_w0, q2_w0, rfl⟩ := ln_form hn
      obtain ⟨fp_w0, rr, oo, ge_w0⟩ := hn
      have lt_a_x := R_Lnk.lt r3_a_x
      have lt_a_a := R_S1k.lt r3_a_a
      have u4 : Upd [] wA w4 := u3.trans (uu)
      have HL_w0 := Lib.hid (show ∀ b ∈ fp_w0, wA.heap.size ≤ b from fun b hb => by have := ge_w0 b hb; have := u3.size; omega)
      have r4_w0 := rr
      have o4_w0 := oo
      clear u3 r3_a_x o3_a_x r3_a_a o3_a_a uu ge_w0 rr oo lt_a_x lt_a_a
      obtain ⟨w5, hwB⟩ : ∃ wB, wB = w4.alloc (.cells #[ei (y).pars, .slice p1_w0 (y).start.length q1_w0, .slice p2_w0 (y).sms.length q2_w0] 29) := ⟨_, rfl⟩
      have uB : Upd [] w4 w5 := by rw [hwB]; exact (Upd.refl _ _).alloc _
      obtain ⟨B_w0, hB⟩ : ∃ B, B = w4.heap.size := ⟨_, rfl⟩
      have qq : RowAt w5 B_w0 29 [ei (y).pars, .slice p1_w0 (y).start.length q1_w0, .slice p2_w0 (y).sms.length q2_w0] := by rw [hwB, hB]; exact RowAt.new _ _ _
      have lt_w0 := R_Lnk.lt r4_w0
      have HN_w0_w0 := Lib.hid (show B_w0 ∉ fp_w0 from fun hm => by have := lt_w0 _ hm; omega)
      have u5 : Upd [] wA w5 := u4.trans (uB)
      have r5_w0 := R_Lnk.upd r4_w0 (uB) (by simp)
      have o5_w0 := o4_w0.upd (uB) (by simp)
      have q5_w0 := qq
      clear u4 r4_w0 o4_w0 lt_w0 uB qq
      go_upto_region 9 with (fail)
      rw [← hwB, ← hB]
      clear hwB hB
      have z_A_0 := (HQA.out _ u5).cell 0 _ rfl
      have z_A_1 := (HQA.out _ u5).cell 1 _ rfl
      have z_A_2 := (HQA.out _ u5).cell 2 _ rfl
      have S2 := to_Ln _ x w5 _ HSZ.out (HRX.out _ (UA.out.trans u5))
      go_wp2_with fail
      refine S2.mono ?_
      clear S2 z_A_0 z_A_1 z_A_2
      rintro e w6 ⟨⟨us, rfl, -, -, hn⟩, uu⟩
      obtain ⟨p1_x_x, q1_x_x, p2_x_x, q2_x_x, rfl⟩ := ln_form hn
      obtain ⟨fp_x_x, rr, oo, ge_x_x⟩ := hn
      have lt_w0 := R_Lnk.lt r5_w0
      have bl_w0 := q5_w0.lt
      have u6 : Upd [] wA w6 := u5.trans (uu)
      have r6_w0 := R_Lnk.upd r5_w0 (uu) (by simp)
      have o6_w0 := o5_w0.upd (uu) (by simp)
      have q6_w0 := q5_w0.upd (uu) (by simp)
      have HL_x_x := Lib.hid (show ∀ b ∈ fp_x_x, wA.heap.size ≤ b from fun b hb => by have := ge_x_x b hb; have := u5.size; omega)
      have HD_w0_x_x := Lib.hid (show ∀ b ∈ fp_w0, b ∉ fp_x_x from fun b hb hm => by have := lt_w0 b hb; have := ge_x_x b hm; omega)
      have HN_w0_x_x := Lib.hid (show B_w0 ∉ fp_x_x from fun hm => by have := ge_x_x _ hm; omega)
      have r6_x_x := rr
      have o6_x_x := oo
      clear u5 r5_w0 o5_w0 q5_w0 uu ge_x_x rr oo lt_w0 bl_w0
      obtain ⟨w7, hwB⟩ : ∃ wB, wB = w6.alloc (.cells #[ei (x).pars, .slice p1_x_x (x).start.length q1_x_x, .slice p2_x_x (x).sms.length q2_x_x] 29) := ⟨_, rfl⟩
      have uB : Upd [] w6 w7 := by rw [hwB]; exact (Upd.refl _ _).alloc _
      obtain ⟨B_x_x, hB⟩ : ∃ B, B = w6.heap.size := ⟨_, rfl⟩
      have qq : RowAt w7 B_x_x 29 [ei (x).pars, .slice p1_x_x (x).start.length q1_x_x, .slice p2_x_x (x).sms.length q2_x_x] := by rw [hwB, hB]; exact RowAt.new _ _ _
      have lt_w0 := R_Lnk.lt r6_w0
      have lt_x_x := R_Lnk.lt r6_x_x
      have bl_w0 := q6_w0.lt
      have HN_x_x_w0 := Lib.hid (show B_x_x ∉ fp_w0 from fun hm => by have := lt_w0 _ hm; omega)
      have HN_x_x_x_x := Lib.hid (show B_x_x ∉ fp_x_x from fun hm => by have := lt_x_x _ hm; omega)
      have u7 : Upd [] wA w7 := u6.trans (uB)
      have r7_w0 := R_Lnk.upd r6_w0 (uB) (by simp)
      have o7_w0 := o6_w0.upd (uB) (by simp)
      have r7_x_x := R_Lnk.upd r6_x_x (uB) (by simp)
      have o7_x_x := o6_x_x.upd (uB) (by simp)
      have q7_w0 := q6_w0.upd (uB) (by simp)
      have q7_x_x := qq
      clear u6 r6_w0 o6_w0 r6_x_x o6_x_x q6_w0 lt_w0 lt_x_x bl_w0 uB qq
      go_upto_region 10 with (fail)
      rw [← hwB, ← hB]
      clear hwB hB
      have S2 := to_S1 (.slice a_a a.length c_a) a w7 _ hz_a (HR_a.out _ (UA.out.trans u7))
      go_wp2_with fail
      refine S2.mono ?_
      clear S2
      rintro e w8 ⟨⟨vv, rfl, hn⟩, uu⟩
      obtain ⟨p1_x_a, q1_x_a, rfl⟩ := hn.form
      obtain ⟨fp_x_a, rr, oo, ge_x_a⟩ := hn
      have lt_w0 := R_Lnk.lt r7_w0
      have lt_x_x := R_Lnk.lt r7_x_x
      have bl_w0 := q7_w0.lt
      have bl_x_x := q7_x_x.lt
      have u8 : Upd [] wA w8 := u7.trans (uu)
      have r8_w0 := R_Lnk.upd r7_w0 (uu) (by simp)
      have o8_w0 := o7_w0.upd (uu) (by simp)
      have r8_x_x := R_Lnk.upd r7_x_x (uu) (by simp)
      have o8_x_x := o7_x_x.upd (uu) (by simp)
      have q8_w0 := q7_w0.upd (uu) (by simp)
      have q8_x_x := q7_x_x.upd (uu) (by simp)
      have HL_x_a := Lib.hid (show ∀ b ∈ fp_x_a, wA.heap.size ≤ b from fun b hb => by have := ge_x_a b hb; have := u7.size; omega)
      have HD_w0_x_a := Lib.hid (show ∀ b ∈ fp_w0, b ∉ fp_x_a from fun b hb hm => by have := lt_w0 b hb; have := ge_x_a b hm; omega)
      have HD_x_x_x_a := Lib.hid (show ∀ b ∈ fp_x_x, b ∉ fp_x_a from fun b hb hm => by have := lt_x_x b hb; have := ge_x_a b hm; omega)
      have HN_w0_x_a := Lib.hid (show B_w0 ∉ fp_x_a from fun hm => by have := ge_x_a _ hm; omega)
      have HN_x_x_x_a := Lib.hid (show B_x_x ∉ fp_x_a from fun hm => by have := ge_x_a _ hm; omega)
      have r8_x_a := rr
      have o8_x_a := oo
      clear u7 r7_w0 o7_w0 r7_x_x o7_x_x q7_w0 q7_x_x uu ge_x_a rr oo lt_w0 lt_x_x bl_w0 bl_x_x
      have z_x_x_0 := q8_x_x.cell 0 _ rfl
      have z_x_x_1 := q8_x_x.cell 1 _ rfl
      have z_x_x_2 := q8_x_x.cell 2 _ rfl
      have S2 := resFI [ei (x).pars, .slice p1_x_x (x).start.length q1_x_x, .slice p2_x_x (x).sms.length q2_x_x] x (.slice p1_x_a a.length q1_x_a) a w8 fp_x_x fp_x_a r8_x_x r8_x_a hF hla hsa
      rw [HG.out] at S2
      go_wp2_with fail
      refine S2.mono ?_
      clear S2 z_x_x_0 z_x_x_1 z_x_x_2
      rintro e w9 ⟨⟨us, rfl, -, -, hn⟩, uu⟩
      obtain ⟨p1_g0, q1_g0, p2_g0, q2_g0, rfl⟩ := ln_form hn
      obtain ⟨fp_g0, rr, oo, ge_g0⟩ := hn
      have lt_w0 := R_Lnk.lt r8_w0
      have lt_x_x := R_Lnk.lt r8_x_x
      have lt_x_a := R_S1k.lt r8_x_a
      have bl_w0 := q8_w0.lt
      have bl_x_x := q8_x_x.lt
      have u9 : Upd [] wA w9 := u8.trans (uu)
      have r9_w0 := R_Lnk.upd r8_w0 (uu) (by simp)
      have o9_w0 := o8_w0.upd (uu) (by simp)
      have r9_x_x := R_Lnk.upd r8_x_x (uu) (by simp)
      have o9_x_x := o8_x_x.upd (uu) (by simp)
      have r9_x_a := R_S1k.upd r8_x_a (uu) (by simp)
      have o9_x_a := o8_x_a.upd (uu) (by simp)
      have q9_w0 := q8_w0.upd (uu) (by simp)
      have q9_x_x := q8_x_x.upd (uu) (by simp)
      have HL_g0 := Lib.hid (show ∀ b ∈ fp_g0, wA.heap.size ≤ b from fun b hb => by have := ge_g0 b hb; have := u8.size; omega)
      have HD_w0_g0 := Lib.hid (show ∀ b ∈ fp_w0, b ∉ fp_g0 from fun b hb hm => by have := lt_w0 b hb; have := ge_g0 b hm; omega)
      have HD_x_x_g0 := Lib.hid (show ∀ b ∈ fp_x_x, b ∉ fp_g0 from fun b hb hm => by have := lt_x_x b hb; have := ge_g0 b hm; omega)
      have HD_x_a_g0 := Lib.hid (show ∀ b ∈ fp_x_a, b ∉ fp_g0 from fun b hb hm => by have := lt_x_a b hb; have := ge_g0 b hm; omega)
      have HN_w0_g0 := Lib.hid (show B_w0 ∉ fp_g0 from fun hm => by have := ge_g0 _ hm; omega)
      have HN_x_x_g0 := Lib.hid (show B_x_x ∉ fp_g0 from fun hm => by have := ge_g0 _ hm; omega)
      have r9_g0 := rr
      have o9_g0 := oo
      clear u8 r8_w0 o8_w0 r8_x_x o8_x_x r8_x_a o8_x_a q8_w0 q8_x_x uu ge_g0 rr oo lt_w0 lt_x_x lt_x_a bl_w0 bl_x_x
      obtain ⟨w10, hwB⟩ : ∃ wB, wB = w9.alloc (.cells #[ei (y).pars, .slice p1_g0 (y).start.length q1_g0, .slice p2_g0 (y).sms.length q2_g0] 29) := ⟨_, rfl⟩
      have uB : Upd [] w9 w10 := by rw [hwB]; exact (Upd.refl _ _).alloc _
      obtain ⟨B_g0, hB⟩ : ∃ B, B = w9.heap.size := ⟨_, rfl⟩
      have qq : RowAt w10 B_g0 29 [ei (y).pars, .slice p1_g0 (y).start.length q1_g0, .slice p2_g0 (y).sms.length q2_g0] := by rw [hwB, hB]; exact RowAt.new _ _ _
      have lt_w0 := R_Lnk.lt r9_w0
      have lt_x_x := R_Lnk.lt r9_x_x
      have lt_x_a := R_S1k.lt r9_x_a
      have lt_g0 := R_Lnk.lt r9_g0
      have bl_w0 := q9_w0.lt
      have bl_x_x := q9_x_x.lt
      have HN_g0_w0 := Lib.hid (show B_g0 ∉ fp_w0 from fun hm => by have := lt_w0 _ hm; omega)
      have HN_g0_x_x := Lib.hid (show B_g0 ∉ fp_x_x from fun hm => by have := lt_x_x _ hm; omega)
      have HN_g0_x_a := Lib.hid (show B_g0 ∉ fp_x_a from fun hm => by have := lt_x_a _ hm; omega)
      have HN_g0_g0 := Lib.hid (show B_g0 ∉ fp_g0 from fun hm => by have := lt_g0 _ hm; omega)
      have u10 : Upd [] wA w10 := u9.trans (uB)
      have r10_w0 := R_Lnk.upd r9_w0 (uB) (by simp)
      have o10_w0 := o9_w0.upd (uB) (by simp)
      have r10_x_x := R_Lnk.upd r9_x_x (uB) (by simp)
      have o10_x_x := o9_x_x.upd (uB) (by simp)
      have r10_x_a := R_S1k.upd r9_x_a (uB) (by simp)
      have o10_x_a := o9_x_a.upd (uB) (by simp)
      have r10_g0 := R_Lnk.upd r9_g0 (uB) (by simp)
      have o10_g0 := o9_g0.upd (uB) (by simp)
      have q10_w0 := q9_w0.upd (uB) (by simp)
      have q10_x_x := q9_x_x.upd (uB) (by simp)
      have q10_g0 := qq
      clear u9 r9_w0 o9_w0 r9_x_x o9_x_x r9_x_a o9_x_a r9_g0 o9_g0 q9_w0 q9_x_x lt_w0 lt_x_x lt_x_a lt_g0 bl_w0 bl_x_x uB qq
      go_upto_region 12 with (fail)
      rw [← hwB, ← hB]
      clear hwB hB
      have z_g0_0 := q10_g0.cell 0 _ rfl
      have z_g0_1 := q10_g0.cell 1 _ rfl
      have z_g0_2 := q10_g0.cell 2 _ rfl
      have z_w0_0 := q10_w0.cell 0 _ rfl
      have z_w0_1 := q10_w0.cell 1 _ rfl
      have z_w0_2 := q10_w0.cell 2 _ rfl
      have S2 := eq_Ln [ei (y).pars, .slice p1_g0 (y).start.length q1_g0, .slice p2_g0 (y).sms.length q2_g0] [ei (y).pars, .slice p1_w0 (y).start.length q1_w0, .slice p2_w0 (y).sms.length q2_w0] _ w10 _ _ r10_g0 r10_w0
      go_wp2_with fail
      refine S2.mono ?_
      clear S2 z_g0_0 z_g0_1 z_g0_2 z_w0_0 z_w0_1 z_w0_2
      rintro e w11 ⟨rfl, uu⟩
      have u11 : Upd [] wA w11 := u10.trans (uu)
      have r11_w0 := R_Lnk.upd r10_w0 (uu) (by simp)
      have o11_w0 := o10_w0.upd (uu) (by simp)
      have r11_x_x := R_Lnk.upd r10_x_x (uu) (by simp)
      have o11_x_x := o10_x_x.upd (uu) (by simp)
      have r11_x_a := R_S1k.upd r10_x_a (uu) (by simp)
      have o11_x_a := o10_x_a.upd (uu) (by simp)
      have r11_g0 := R_Lnk.upd r10_g0 (uu) (by simp)
      have o11_g0 := o10_g0.upd (uu) (by simp)
      have q11_w0 := q10_w0.upd (uu) (by simp)
      have q11_x_x := q10_x_x.upd (uu) (by simp)
      have q11_g0 := q10_g0.upd (uu) (by simp)
      clear u10 r10_w0 o10_w0 r10_x_x o10_x_x r10_x_a o10_x_a r10_g0 o10_g0 q10_w0 q10_x_x q10_g0 uu
      have z_x_x_0 := q11_x_x.cell 0 _ rfl
      have z_x_x_1 := q11_x_x.cell 1 _ rfl
      have z_x_x_2 := q11_x_x.cell 2 _ rfl
      have z_A_0 := (HQA.out _ u11).cell 0 _ rfl
      have z_A_1 := (HQA.out _ u11).cell 1 _ rfl
      have z_A_2 := (HQA.out _ u11).cell 2 _ rfl
      have S6 := to_Ln _ x w11.drew _ HSZ.out (HRX.out _ (UA.out.trans u11).drew)
      have S7 := Lib.hid (fun W us f (hu : Upd [] w11.drew W) (h : R_Ln f W us x) => eq_Ln [ei (x).pars, .slice p1_x_x (x).start.length q1_x_x, .slice p2_x_x (x).sms.length q2_x_x] us x W _ f (R_Lnk.upd r11_x_x ((Upd.refl [] _).drew.trans hu) (by simp)) h)
      go_wp2_with fail
      go_region_held3 (fun w' => w'.cell? ⟨B_x_x, 0, none⟩ = some (ei (x).pars) ∧ w'.cell? ⟨B_x_x, 1, none⟩ = some (.slice p1_x_x (x).start.length q1_x_x) ∧ w'.cell? ⟨B_x_x, 2, none⟩ = some (.slice p2_x_x (x).sms.length q2_x_x) ∧ w'.cell? ⟨BA, 0, none⟩ = some (ei x.pars) ∧ w'.cell? ⟨BA, 1, none⟩ = some (v1) ∧ w'.cell? ⟨BA, 2, none⟩ = some (v2)) (go_keep)
        (first
          | ((go_at_call 11); (refine S6.mono ?_); rintro e w6' ⟨⟨us, rfl, -, -, hn⟩, hu6⟩; obtain ⟨p1_t, q1_t, p2_t, q2_t, rfl⟩ := ln_form hn; obtain ⟨fp_t, rr6, -, -⟩ := hn; have y_0 := hu6.keep z_x_x_0; have y_1 := hu6.keep z_x_x_1; have y_2 := hu6.keep z_x_x_2; have y_3 := hu6.keep z_A_0; have y_4 := hu6.keep z_A_1; have y_5 := hu6.keep z_A_2)
          | ((go_at_call 13); (refine (S7.out w6' _ fp_t hu6 rr6).mono ?_); rintro e w12 ⟨rfl, hu7⟩; have t_0 := hu7.keep y_0; have t_1 := hu7.keep y_1; have t_2 := hu7.keep y_2; have t_3 := hu7.keep y_3; have t_4 := hu7.keep y_4; have t_5 := hu7.keep y_5))
      have uu : Upd [] w11 w12 := ((Upd.refl [] w11).drew.trans hu6).trans hu7
      have u12 : Upd [] wA w12 := u11.trans (uu)
      have r12_w0 := R_Lnk.upd r11_w0 (uu) (by simp)
      have o12_w0 := o11_w0.upd (uu) (by simp)
      have r12_x_x := R_Lnk.upd r11_x_x (uu) (by simp)
      have o12_x_x := o11_x_x.upd (uu) (by simp)
      have r12_x_a := R_S1k.upd r11_x_a (uu) (by simp)
      have o12_x_a := o11_x_a.upd (uu) (by simp)
      have r12_g0 := R_Lnk.upd r11_g0 (uu) (by simp)
      have o12_g0 := o11_g0.upd (uu) (by simp)
      have q12_w0 := q11_w0.upd (uu) (by simp)
      have q12_x_x := q11_x_x.upd (uu) (by simp)
      have q12_g0 := q11_g0.upd (uu) (by simp)
      clear u11 r11_w0 o11_w0 r11_x_x o11_x_x r11_x_a o11_x_a r11_g0 o11_g0 q11_w0 q11_x_x q11_g0 uu S6 S7 hu6 hu7 rr6 z_x_x_0 z_x_x_1 z_x_x_2 z_A_0 z_A_1 z_A_2 y_0 y_1 y_2 y_3 y_4 y_5 t_0 t_1 t_2 t_3 t_4 t_5
      have S2 := to_S1 (.slice a_a a.length c_a) a w12 _ hz_a (HR_a.out _ (UA.out.trans u12))
      go_wp2_with fail
      refine S2.mono ?_
      clear S2
      rintro e w13 ⟨⟨vv, rfl, hn⟩, uu⟩
      obtain ⟨p1_b_a, q1_b_a, rfl⟩ := hn.form
      obtain ⟨fp_b_a, rr, oo, ge_b_a⟩ := hn
      have lt_w0 := R_Lnk.lt r12_w0
      have lt_x_x := R_Lnk.lt r12_x_x
      have lt_x_a := R_S1k.lt r12_x_a
      have lt_g0 := R_Lnk.lt r12_g0
      have bl_w0 := q12_w0.lt
      have bl_x_x := q12_x_x.lt
      have bl_g0 := q12_g0.lt
      have u13 : Upd [] wA w13 := u12.trans (uu)
      have r13_w0 := R_Lnk.upd r12_w0 (uu) (by simp)
      have o13_w0 := o12_w0.upd (uu) (by simp)
      have r13_x_x := R_Lnk.upd r12_x_x (uu) (by simp)
      have o13_x_x := o12_x_x.upd (uu) (by simp)
      have r13_x_a := R_S1k.upd r12_x_a (uu) (by simp)
      have o13_x_a := o12_x_a.upd (uu) (by simp)
      have r13_g0 := R_Lnk.upd r12_g0 (uu) (by simp)
      have o13_g0 := o12_g0.upd (uu) (by simp)
      have q13_w0 := q12_w0.upd (uu) (by simp)
      have q13_x_x := q12_x_x.upd (uu) (by simp)
      have q13_g0 := q12_g0.upd (uu) (by simp)
      have HL_b_a := Lib.hid (show ∀ b ∈ fp_b_a, wA.heap.size ≤ b from fun b hb => by have := ge_b_a b hb; have := u12.size; omega)
      have HD_w0_b_a := Lib.hid (show ∀ b ∈ fp_w0, b ∉ fp_b_a from fun b hb hm => by have := lt_w0 b hb; have := ge_b_a b hm; omega)
      have HD_x_x_b_a := Lib.hid (show ∀ b ∈ fp_x_x, b ∉ fp_b_a from fun b hb hm => by have := lt_x_x b hb; have := ge_b_a b hm; omega)
      have HD_x_a_b_a := Lib.hid (show ∀ b ∈ fp_x_a, b ∉ fp_b_a from fun b hb hm => by have := lt_x_a b hb; have := ge_b_a b hm; omega)
      have HD_g0_b_a := Lib.hid (show ∀ b ∈ fp_g0, b ∉ fp_b_a from fun b hb hm => by have := lt_g0 b hb; have := ge_b_a b hm; omega)
      have HN_w0_b_a := Lib.hid (show B_w0 ∉ fp_b_a from fun hm => by have := ge_b_a _ hm; omega)
      have HN_x_x_b_a := Lib.hid (show B_x_x ∉ fp_b_a from fun hm => by have := ge_b_a _ hm; omega)
      have HN_g0_b_a := Lib.hid (show B_g0 ∉ fp_b_a from fun hm => by have := ge_b_a _ hm; omega)
      have r13_b_a := rr
      have o13_b_a := oo
      clear u12 r12_w0 o12_w0 r12_x_x o12_x_x r12_x_a o12_x_a r12_g0 o12_g0 q12_w0 q12_x_x q12_g0 uu ge_b_a rr oo lt_w0 lt_x_x lt_x_a lt_g0 bl_w0 bl_x_x bl_g0
      have S2 := eq_S1 (.slice p1_x_a a.length q1_x_a) (.slice p1_b_a a.length q1_b_a) _ _ w13 _ _ r13_x_a r13_b_a
      go_wp2_with fail
      refine S2.mono ?_
      clear S2
      rintro e w14 ⟨rfl, uu⟩
      rw [beq_refl_true]
      have u14 : Upd [] wA w14 := u13.trans (uu)
      have r14_w0 := R_Lnk.upd r13_w0 (uu) (by simp)
      have o14_w0 := o13_w0.upd (uu) (by simp)
      have r14_x_x := R_Lnk.upd r13_x_x (uu) (by simp)
      have o14_x_x := o13_x_x.upd (uu) (by simp)
      have r14_x_a := R_S1k.upd r13_x_a (uu) (by simp)
      have o14_x_a := o13_x_a.upd (uu) (by simp)
      have r14_g0 := R_Lnk.upd r13_g0 (uu) (by simp)
      have o14_g0 := o13_g0.upd (uu) (by simp)
      have q14_w0 := q13_w0.upd (uu) (by simp)
      have q14_x_x := q13_x_x.upd (uu) (by simp)
      have q14_g0 := q13_g0.upd (uu) (by simp)
      clear u13 r13_w0 o13_w0 r13_x_x o13_x_x r13_x_a o13_x_a r13_g0 o13_g0 r13_b_a o13_b_a q13_w0 q13_x_x q13_g0 uu
      have z_x_x_0 := q14_x_x.cell 0 _ rfl
      have z_x_x_1 := q14_x_x.cell 1 _ rfl
      have z_x_x_2 := q14_x_x.cell 2 _ rfl
      go_wp2_with fail
      refine (mark_Ln [ei (x).pars, .slice p1_x_x (x).start.length q1_x_x, .slice p2_x_x (x).sms.length q2_x_x] x _ _ fp_x_x (by omega) (by omega) r14_x_x o14_x_x).mono ?_
      clear z_x_x_0 z_x_x_1 z_x_x_2
      rintro e w15 ⟨rfl, r15_x_x, o15_x_x, uu⟩
      have u15 : Upd [] wA w15 := u14.fresh (uu) (fun b hb => Or.inl (HL_x_x.out b hb))
      have r15_w0 := R_Lnk.upd r14_w0 (uu) HD_w0_x_x.out
      have o15_w0 := o14_w0.upd (uu) HD_w0_x_x.out
      have r15_x_a := R_S1k.upd r14_x_a (uu) (fun b hb hm => HD_x_x_x_a.out b hm hb)
      have o15_x_a := o14_x_a.upd (uu) (fun b hb hm => HD_x_x_x_a.out b hm hb)
      have r15_g0 := R_Lnk.upd r14_g0 (uu) (fun b hb hm => HD_x_x_g0.out b hm hb)
      have o15_g0 := o14_g0.upd (uu) (fun b hb hm => HD_x_x_g0.out b hm hb)
      have q15_w0 := q14_w0.upd (uu) HN_w0_x_x.out
      have q15_x_x := q14_x_x.upd (uu) HN_x_x_x_x.out
      have q15_g0 := q14_g0.upd (uu) HN_g0_x_x.out
      clear u14 r14_w0 o14_w0 r14_x_x o14_x_x r14_x_a o14_x_a r14_g0 o14_g0 q14_w0 q14_x_x q14_g0 r15_x_x o15_x_x q15_x_x uu
      go_wp2_with fail
      refine (mark_S1 (.slice p1_x_a a.length q1_x_a) a _ _ fp_x_a (by omega) (by omega) r15_x_a o15_x_a).mono ?_
      rintro e w16 ⟨rfl, r16_x_a, o16_x_a, uu⟩
      have u16 : Upd [] wA w16 := u15.fresh (uu) (fun b hb => Or.inl (HL_x_a.out b hb))
      have r16_w0 := R_Lnk.upd r15_w0 (uu) HD_w0_x_a.out
      have o16_w0 := o15_w0.upd (uu) HD_w0_x_a.out
      have r16_g0 := R_Lnk.upd r15_g0 (uu) (fun b hb hm => HD_x_a_g0.out b hm hb)
      have o16_g0 := o15_g0.upd (uu) (fun b hb hm => HD_x_a_g0.out b hm hb)
      have q16_w0 := q15_w0.upd (uu) HN_w0_x_a.out
      have q16_g0 := q15_g0.upd (uu) HN_g0_x_a.out
      clear u15 r15_w0 o15_w0 r15_x_a o15_x_a r15_g0 o15_g0 q15_w0 q15_g0 r16_x_a o16_x_a uu
      have hk : 0 ≤ 1 + mkF_Ln x + mkF_S1 a := by omega
      have z_g0_0 := q16_g0.cell 0 _ rfl
      have z_g0_1 := q16_g0.cell 1 _ rfl
      have z_g0_2 := q16_g0.cell 2 _ rfl
      have z_w0_0 := q16_w0.cell 0 _ rfl
      have z_w0_1 := q16_w0.cell 1 _ rfl
      have z_w0_2 := q16_w0.cell 2 _ rfl
      have S2 := eq_Ln [ei (y).pars, .slice p1_g0 (y).start.length q1_g0, .slice p2_g0 (y).sms.length q2_g0] [ei (y).pars, .slice p1_w0 (y).start.length q1_w0, .slice p2_w0 (y).sms.length q2_w0] _ w16 _ _ r16_g0 r16_w0
      go_wp2_with fail
      refine S2.mono ?_
      clear S2 z_g0_0 z_g0_1 z_g0_2 z_w0_0 z_w0_1 z_w0_2
      rintro e w17 ⟨rfl, uu⟩
      have u17 : Upd [] wA w17 := u16.trans (uu)
      have r17_w0 := R_Lnk.upd r16_w0 (uu) (by simp)
      have o17_w0 := o16_w0.upd (uu) (by simp)
      have r17_g0 := R_Lnk.upd r16_g0 (uu) (by simp)
      have o17_g0 := o16_g0.upd (uu) (by simp)
      have q17_w0 := q16_w0.upd (uu) (by simp)
      have q17_g0 := q16_g0.upd (uu) (by simp)
      clear u16 r16_w0 o16_w0 r16_g0 o16_g0 q16_w0 q16_g0 uu
      have z_g0_0 := q17_g0.cell 0 _ rfl
      have z_g0_1 := q17_g0.cell 1 _ rfl
      have z_g0_2 := q17_g0.cell 2 _ rfl
      go_wp2_with fail
      refine (mark_Ln [ei (y).pars, .slice p1_g0 (y).start.length q1_g0, .slice p2_g0 (y).sms.length q2_g0] y _ _ fp_g0 (by omega) (by omega) r17_g0 o17_g0).mono ?_
      clear z_g0_0 z_g0_1 z_g0_2
      rintro e w18 ⟨rfl, r18_g0, o18_g0, uu⟩
      have u18 : Upd [] wA w18 := u17.fresh (uu) (fun b hb => Or.inl (HL_g0.out b hb))
      have r18_w0 := R_Lnk.upd r17_w0 (uu) HD_w0_g0.out
      have o18_w0 := o17_w0.upd (uu) HD_w0_g0.out
      have q18_w0 := q17_w0.upd (uu) HN_w0_g0.out
      have q18_g0 := q17_g0.upd (uu) HN_g0_g0.out
      clear u17 r17_w0 o17_w0 r17_g0 o17_g0 q17_w0 q17_g0 uu
      have hk0 : 0 ≤ 1 + mkF_Ln y := by omega
      have hne : ((1 + mkF_Ln y) != (1 + mkF_Ln y)) = false := by simp
      have z_g0_0 := q18_g0.cell 0 _ rfl
      have z_g0_1 := q18_g0.cell 1 _ rfl
      have z_g0_2 := q18_g0.cell 2 _ rfl
      have S2 := held_Ln [ei (y).pars, .slice p1_g0 (y).start.length q1_g0, .slice p2_g0 (y).sms.length q2_g0] y 1 w18 fp_g0 (by omega) hMk r18_g0
      go_wp2_with fail
      refine S2.mono ?_
      clear S2 z_g0_0 z_g0_1 z_g0_2
      rintro e w19 ⟨rfl, uu⟩
      have u19 : Upd [] wA w19 := u18.trans (uu)
      have r19_w0 := R_Lnk.upd r18_w0 (uu) (by simp)
      have o19_w0 := o18_w0.upd (uu) (by simp)
      have r19_g0 := R_Lnk.upd r18_g0 (uu) (by simp)
      have o19_g0 := o18_g0.upd (uu) (by simp)
      have q19_w0 := q18_w0.upd (uu) (by simp)
      have q19_g0 := q18_g0.upd (uu) (by simp)
      clear u18 r18_w0 o18_w0 r18_g0 o18_g0 q18_w0 q18_g0 uu
      have z_A_0 := (HQA.out _ u19).cell 0 _ rfl
      have z_A_1 := (HQA.out _ u19).cell 1 _ rfl
      have z_A_2 := (HQA.out _ u19).cell 2 _ rfl
      have S2 := to_Ln _ x w19 _ HSZ.out (HRX.out _ (UA.out.trans u19))
      go_wp2_with fail
      refine S2.mono ?_
      clear S2 z_A_0 z_A_1 z_A_2
      rintro e w20 ⟨⟨us, rfl, -, -, hn⟩, uu⟩
      obtain ⟨p1_c_x, q1_c_x, p2_c_x, q2_c_x, rfl⟩ := ln_form hn
      obtain ⟨fp_c_x, rr, oo, ge_c_x⟩ := hn
      have lt_w0 := R_Lnk.lt r19_w0
      have lt_g0 := R_Lnk.lt r19_g0
      have bl_w0 := q19_w0.lt
      have bl_g0 := q19_g0.lt
      have u20 : Upd [] wA w20 := u19.trans (uu)
      have r20_w0 := R_Lnk.upd r19_w0 (uu) (by simp)
      have o20_w0 := o19_w0.upd (uu) (by simp)
      have r20_g0 := R_Lnk.upd r19_g0 (uu) (by simp)
      have o20_g0 := o19_g0.upd (uu) (by simp)
      have q20_w0 := q19_w0.upd (uu) (by simp)
      have q20_g0 := q19_g0.upd (uu) (by simp)
      have HL_c_x := Lib.hid (show ∀ b ∈ fp_c_x, wA.heap.size ≤ b from fun b hb => by have := ge_c_x b hb; have := u19.size; omega)
      have HD_w0_c_x := Lib.hid (show ∀ b ∈ fp_w0, b ∉ fp_c_x from fun b hb hm => by have := lt_w0 b hb; have := ge_c_x b hm; omega)
      have HD_g0_c_x := Lib.hid (show ∀ b ∈ fp_g0, b ∉ fp_c_x from fun b hb hm => by have := lt_g0 b hb; have := ge_c_x b hm; omega)
      have HN_w0_c_x := Lib.hid (show B_w0 ∉ fp_c_x from fun hm => by have := ge_c_x _ hm; omega)
      have HN_g0_c_x := Lib.hid (show B_g0 ∉ fp_c_x from fun hm => by have := ge_c_x _ hm; omega)
      have r20_c_x := rr
      have o20_c_x := oo
      clear u19 r19_w0 o19_w0 r19_g0 o19_g0 q19_w0 q19_g0 uu ge_c_x rr oo lt_w0 lt_g0 bl_w0 bl_g0
      have S2 := to_S1 (.slice a_a a.length c_a) a w20 _ hz_a (HR_a.out _ (UA.out.trans u20))
      go_wp2_with fail
      refine S2.mono ?_
      clear S2
      rintro e w21 ⟨⟨vv, rfl, hn⟩, uu⟩
      obtain ⟨p1_c_a, q1_c_a, rfl⟩ := hn.form
      obtain ⟨fp_c_a, rr, oo, ge_c_a⟩ := hn
      have lt_w0 := R_Lnk.lt r20_w0
      have lt_g0 := R_Lnk.lt r20_g0
      have lt_c_x := R_Lnk.lt r20_c_x
      have bl_w0 := q20_w0.lt
      have bl_g0 := q20_g0.lt
      have u21 : Upd [] wA w21 := u20.trans (uu)
      have r21_w0 := R_Lnk.upd r20_w0 (uu) (by simp)
      have o21_w0 := o20_w0.upd (uu) (by simp)
      have r21_g0 := R_Lnk.upd r20_g0 (uu) (by simp)
      have o21_g0 := o20_g0.upd (uu) (by simp)
      have r21_c_x := R_Lnk.upd r20_c_x (uu) (by simp)
      have o21_c_x := o20_c_x.upd (uu) (by simp)
      have q21_w0 := q20_w0.upd (uu) (by simp)
      have q21_g0 := q20_g0.upd (uu) (by simp)
      have HL_c_a := Lib.hid (show ∀ b ∈ fp_c_a, wA.heap.size ≤ b from fun b hb => by have := ge_c_a b hb; have := u20.size; omega)
      have HD_w0_c_a := Lib.hid (show ∀ b ∈ fp_w0, b ∉ fp_c_a from fun b hb hm => by have := lt_w0 b hb; have := ge_c_a b hm; omega)
      have HD_g0_c_a := Lib.hid (show ∀ b ∈ fp_g0, b ∉ fp_c_a from fun b hb hm => by have := lt_g0 b hb; have := ge_c_a b hm; omega)
      have HD_c_x_c_a := Lib.hid (show ∀ b ∈ fp_c_x, b ∉ fp_c_a from fun b hb hm => by have := lt_c_x b hb; have := ge_c_a b hm; omega)
      have HN_w0_c_a := Lib.hid (show B_w0 ∉ fp_c_a from fun hm => by have := ge_c_a _ hm; omega)
      have HN_g0_c_a := Lib.hid (show B_g0 ∉ fp_c_a from fun hm => by have := ge_c_a _ hm; omega)
      have r21_c_a := rr
      have o21_c_a := oo
      clear u20 r20_w0 o20_w0 r20_g0 o20_g0 r20_c_x o20_c_x q20_w0 q20_g0 uu ge_c_a rr oo lt_w0 lt_g0 lt_c_x bl_w0 bl_g0
      have S2 := resFI [ei (x).pars, .slice p1_c_x (x).start.length q1_c_x, .slice p2_c_x (x).sms.length q2_c_x] x (.slice p1_c_a a.length q1_c_a) a w21 fp_c_x fp_c_a r21_c_x r21_c_a hF hla hsa
      rw [HG.out] at S2
      go_wp2_with fail
      refine S2.mono ?_
      clear S2
      rintro e w22 ⟨⟨us, rfl, -, -, hn⟩, uu⟩
      obtain ⟨p1_h0, q1_h0, p2_h0, q2_h0, rfl⟩ := ln_form hn
      obtain ⟨fp_h0, rr, oo, ge_h0⟩ := hn
      have lt_w0 := R_Lnk.lt r21_w0
      have lt_g0 := R_Lnk.lt r21_g0
      have lt_c_x := R_Lnk.lt r21_c_x
      have lt_c_a := R_S1k.lt r21_c_a
      have bl_w0 := q21_w0.lt
      have bl_g0 := q21_g0.lt
      have u22 : Upd [] wA w22 := u21.trans (uu)
      have r22_w0 := R_Lnk.upd r21_w0 (uu) (by simp)
      have o22_w0 := o21_w0.upd (uu) (by simp)
      have r22_g0 := R_Lnk.upd r21_g0 (uu) (by simp)
      have o22_g0 := o21_g0.upd (uu) (by simp)
      have q22_w0 := q21_w0.upd (uu) (by simp)
      have q22_g0 := q21_g0.upd (uu) (by simp)
      have HL_h0 := Lib.hid (show ∀ b ∈ fp_h0, wA.heap.size ≤ b from fun b hb => by have := ge_h0 b hb; have := u21.size; omega)
      have HD_w0_h0 := Lib.hid (show ∀ b ∈ fp_w0, b ∉ fp_h0 from fun b hb hm => by have := lt_w0 b hb; have := ge_h0 b hm; omega)
      have HD_g0_h0 := Lib.hid (show ∀ b ∈ fp_g0, b ∉ fp_h0 from fun b hb hm => by have := lt_g0 b hb; have := ge_h0 b hm; omega)
      have HN_w0_h0 := Lib.hid (show B_w0 ∉ fp_h0 from fun hm => by have := ge_h0 _ hm; omega)
      have HN_g0_h0 := Lib.hid (show B_g0 ∉ fp_h0 from fun hm => by have := ge_h0 _ hm; omega)
      have r22_h0 := rr
      have o22_h0 := oo
      clear u21 r21_w0 o21_w0 r21_g0 o21_g0 r21_c_x o21_c_x r21_c_a o21_c_a q21_w0 q21_g0 uu ge_h0 rr oo lt_w0 lt_g0 lt_c_x lt_c_a bl_w0 bl_g0
      obtain ⟨w23, hwB⟩ : ∃ wB, wB = w22.alloc (.cells #[ei (y).pars, .slice p1_h0 (y).start.length q1_h0, .slice p2_h0 (y).sms.length q2_h0] 29) := ⟨_, rfl⟩
      have uB : Upd [] w22 w23 := by rw [hwB]; exact (Upd.refl _ _).alloc _
      obtain ⟨B_h0, hB⟩ : ∃ B, B = w22.heap.size := ⟨_, rfl⟩
      have qq : RowAt w23 B_h0 29 [ei (y).pars, .slice p1_h0 (y).start.length q1_h0, .slice p2_h0 (y).sms.length q2_h0] := by rw [hwB, hB]; exact RowAt.new _ _ _
      have lt_w0 := R_Lnk.lt r22_w0
      have lt_g0 := R_Lnk.lt r22_g0
      have lt_h0 := R_Lnk.lt r22_h0
      have bl_w0 := q22_w0.lt
      have bl_g0 := q22_g0.lt
      have HN_h0_w0 := Lib.hid (show B_h0 ∉ fp_w0 from fun hm => by have := lt_w0 _ hm; omega)
      have HN_h0_g0 := Lib.hid (show B_h0 ∉ fp_g0 from fun hm => by have := lt_g0 _ hm; omega)
      have HN_h0_h0 := Lib.hid (show B_h0 ∉ fp_h0 from fun hm => by have := lt_h0 _ hm; omega)
      have u23 : Upd [] wA w23 := u22.trans (uB)
      have r23_w0 := R_Lnk.upd r22_w0 (uB) (by simp)
      have o23_w0 := o22_w0.upd (uB) (by simp)
      have r23_g0 := R_Lnk.upd r22_g0 (uB) (by simp)
      have o23_g0 := o22_g0.upd (uB) (by simp)
      have r23_h0 := R_Lnk.upd r22_h0 (uB) (by simp)
      have o23_h0 := o22_h0.upd (uB) (by simp)
      have q23_w0 := q22_w0.upd (uB) (by simp)
      have q23_g0 := q22_g0.upd (uB) (by simp)
      have q23_h0 := qq
      clear u22 r22_w0 o22_w0 r22_g0 o22_g0 r22_h0 o22_h0 q22_w0 q22_g0 lt_w0 lt_g0 lt_h0 bl_w0 bl_g0 uB qq
      go_upto_region 32 with (fail)
      rw [← hwB, ← hB]
      clear hwB hB
      have z_h0_0 := q23_h0.cell 0 _ rfl
      have z_h0_1 := q23_h0.cell 1 _ rfl
      have z_h0_2 := q23_h0.cell 2 _ rfl
      have z_w0_0 := q23_w0.cell 0 _ rfl
      have z_w0_1 := q23_w0.cell 1 _ rfl
      have z_w0_2 := q23_w0.cell 2 _ rfl
      have S2 := eq_Ln [ei (y).pars, .slice p1_h0 (y).start.length q1_h0, .slice p2_h0 (y).sms.length q2_h0] [ei (y).pars, .slice p1_w0 (y).start.length q1_w0, .slice p2_w0 (y).sms.length q2_w0] _ w23 _ _ r23_h0 r23_w0
      go_wp2_with fail
      refine S2.mono ?_
      clear S2 z_h0_0 z_h0_1 z_h0_2 z_w0_0 z_w0_1 z_w0_2
      rintro e w24 ⟨rfl, uu⟩
      have u24 : Upd [] wA w24 := u23.trans (uu)
      have r24_w0 := R_Lnk.upd r23_w0 (uu) (by simp)
      have o24_w0 := o23_w0.upd (uu) (by simp)
      have r24_g0 := R_Lnk.upd r23_g0 (uu) (by simp)
      have o24_g0 := o23_g0.upd (uu) (by simp)
      have r24_h0 := R_Lnk.upd r23_h0 (uu) (by simp)
      have o24_h0 := o23_h0.upd (uu) (by simp)
      have q24_w0 := q23_w0.upd (uu) (by simp)
      have q24_g0 := q23_g0.upd (uu) (by simp)
      have q24_h0 := q23_h0.upd (uu) (by simp)
      clear u23 r23_w0 o23_w0 r23_g0 o23_g0 r23_h0 o23_h0 q23_w0 q23_g0 q23_h0 uu
      have z_g0_0 := q24_g0.cell 0 _ rfl
      have z_g0_1 := q24_g0.cell 1 _ rfl
      have z_g0_2 := q24_g0.cell 2 _ rfl
      have S2 := held_Ln [ei (y).pars, .slice p1_g0 (y).start.length q1_g0, .slice p2_g0 (y).sms.length q2_g0] y 1 w24 fp_g0 (by omega) hMk r24_g0
      go_wp2_with fail
      refine S2.mono ?_
      clear S2 z_g0_0 z_g0_1 z_g0_2
      rintro e w25 ⟨rfl, uu⟩
      have u25 : Upd [] wA w25 := u24.trans (uu)
      have r25_w0 := R_Lnk.upd r24_w0 (uu) (by simp)
      have o25_w0 := o24_w0.upd (uu) (by simp)
      have r25_g0 := R_Lnk.upd r24_g0 (uu) (by simp)
      have o25_g0 := o24_g0.upd (uu) (by simp)
      have r25_h0 := R_Lnk.upd r24_h0 (uu) (by simp)
      have o25_h0 := o24_h0.upd (uu) (by simp)
      have q25_w0 := q24_w0.upd (uu) (by simp)
      have q25_g0 := q24_g0.upd (uu) (by simp)
      have q25_h0 := q24_h0.upd (uu) (by simp)
      clear u24 r24_w0 o24_w0 r24_g0 o24_g0 r24_h0 o24_h0 q24_w0 q24_g0 q24_h0 uu
      have HU := Lib.hid (UA.out.trans u25)
      go_wp2_with fail
      go_ret
      exact ⟨rfl, HU.out⟩

end Go.Proofs.Ytnfghgaadnobbaa

namespace Go.Proofs.Ytnfghgaadnobbaa.lawRestrictC
open Go.ChangeShapes Go.WideShapes Go.ChangeAt Go.RowKit

theorem own : ownKnob Try.prog.godebug = none := by kernel_rfl
theorem laidOut : laidOutB Try.prog = true := by kernel_rfl

set_option maxRecDepth 100000 in
theorem lifted (os : Os) (started : os.Started) (H : Type) (enc : TypeId × Value → H) :
    ReturnsInHanded {} Try.checked os 6 .any (Rows.fnExactRestrictLinearSpec.pre6 enc Try.prog Try.f6 Rows.fnExactRestrictLinearRow.domain false) (Rows.fnExactRestrictLinearSpec.post enc Try.prog Try.f6 false true false false) := by
  refine returnsInHanded_of_change (C := Try.checked) own started (by kernel_rfl) Try.func6
    (ChangeSpec.witness6 (enc := enc) (C := Try.checked) false ⟨#[], #[.agg #[.int .i64 0, .slice none 0 0, .slice none 0 0], .slice none 0 0], []⟩ 8 (by kernel_rfl) (by kernel_rfl) (by kernel_rfl) (by kernel_rfl)) ?_
  intro W base args ds gs before hval0 hW hcnd _
  have hval : ∀ (j : Nat) t v, Try.f6.params[j]? = some t → args[j]? = some v → Value.okWide Try.prog W .any base t v := hval0
  have hW' := hW
  obtain ⟨p, q, hA0, hV, rfl, hfz, hnd⟩ := hW
  have hA : DataW.TrodAll enc Try.prog W 0 (fun _ => true) true Try.f6.params.toList args.toList ds p := hA0
  rw [Try.params6] at hA hval
  obtain ⟨v0, vs0, d0, ds0, p0, q0, hargs, rfl, rfl, h0, r0⟩ := trodAll_cons hA
  obtain ⟨v1, vs1, d1, ds1, p1, q1, rfl, rfl, rfl, h1, r1⟩ := trodAll_cons r0
  obtain ⟨rfl, rfl, rfl⟩ := trodAll_nil r1
  obtain rfl : args = #[v0, v1] := by cases args; simp_all
  obtain ⟨rfl, rfl⟩ := trodVars_none hV
  have sv0 := okWide_struct Try.underlying25 (hval 0 25 v0 rfl rfl)
  have k0 := h0
  have lt0 : ∀ x ∈ p0, x.block < W.heap.size := by obtain ⟨m, hm⟩ := k0; exact DataW.trod_lt m _ _ _ hm
  obtain ⟨x0, fp0, cs0, rfl, hR0, hφ0⟩ := open_Ln sv0 h0
  obtain ⟨a1, len1, cap1, rfl⟩ := okWide_slice Try.underlying43 (hval 1 43 v1 rfl rfl)
  have k1 := h1
  have lt1 : ∀ x ∈ p1, x.block < W.heap.size := by obtain ⟨m, hm⟩ := k1; exact DataW.trod_lt m _ _ _ hm
  obtain ⟨x1, fp1, hR1, hφ1⟩ := opens_S1.of rfl h1
  clear hA0 hval0
  refine (lawRestrict _ x0 _ x1 fp1 W fp0 hR0 hφ0 hR1 (strs_of hφ1)).mono fun e W' ⟨he, hu⟩ => ?_
  subst he
  have bel := hu.below
  exact ⟨_, rfl, _, _, _, [], _, [], hW', trodAll_mk1 (shut_bool Try.underlying4 _), (trodAll_cons_mk (Below.trod laidOut (by kernel_rfl) (of_decide_eq_true (by kernel_rfl)) k0 bel lt0) (trodAll_cons_mk (Below.trod laidOut (by kernel_rfl) (of_decide_eq_true (by kernel_rfl)) k1 bel lt1) trodAll_mk0)), rfl, bel.frame _, fun h => by cases h⟩

theorem over : Rows.fnExactRestrictLinearRow.holds Try.pinned (OpenSpec.ofChange Rows.fnExactRestrictLinearSpec) :=
  OpenClaim.holds_of_wide 6 Try.f6 rfl rfl rfl rfl rfl rfl rfl ⟨rfl, rfl, rfl, rfl, rfl⟩ rfl rfl rfl rfl rfl (by kernel_rfl) Try.func6 (by kernel_rfl)
    (of_decide_eq_true (by kernel_rfl)) (by unfold Func.isWrapper; first | (rw [if_pos (by decide +kernel)]; kernel_rfl) | (rw [if_neg (by decide +kernel)]; exact ⟨rfl, rfl⟩))
    (fun os started H enc _ => lifted os started H enc)

theorem proved : Rows.FnExactRestrictLinearSaid := over
#print axioms proved
end Go.Proofs.Ytnfghgaadnobbaa.lawRestrictC
