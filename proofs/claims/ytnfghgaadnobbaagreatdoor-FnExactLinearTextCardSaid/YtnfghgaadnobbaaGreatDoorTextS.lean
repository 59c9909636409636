/-
  The text of an expression: what the reference's calls return.
-/
import Derived.Test.YtnfghgaadnobbaaGreatDoorTextI
import Derived.Test.YtnfghgaadnobbaaGreatDoorCanon
import Derived.Test.YtnfghgaadnobbaaGreatDoorOps
import Derived.Deep.AppendLies
namespace Go.Proofs.YtnfghgaadnobbaaGreatDoor
open Go.RowKit

def lv7 : Ex → Int | .mk t _ => if t.1 = 2 then lvl t.2 else if t.1 = 3 then 6 else 7
theorem lvl_le (op : Int) : 0 ≤ lvl op ∧ lvl op ≤ 5 := by
  unfold lvl
  rw [List.getD_eq_getElem?_getD]
  generalize op.toNat = n
  match n with
  | 0 | 1 | 2 | 3 | 4 | 5 | 6 | 7 | 8 => simp
  | n + 9 => simp
theorem lv7_lt (x : Ex) (op : Int) : decide (lv7 x < lvl op) = decide (lvE x < lvl op) := by
  obtain ⟨t, args⟩ := x
  have := lvl_le op
  simp only [lv7, lvE]
  by_cases h2 : t.1 = 2
  · simp only [if_pos h2]
  · simp only [if_neg h2]
    by_cases h3 : t.1 = 3
    · simp only [if_pos h3]; rw [decide_eq_false (by omega), decide_eq_false (by omega)]
    · simp only [if_neg h3]; rw [decide_eq_false (by omega), decide_eq_false (by omega)]
theorem lv7_le (x : Ex) (op : Int) : decide (lv7 x ≤ lvl op) = decide (lvE x ≤ lvl op) := by
  obtain ⟨t, args⟩ := x
  have := lvl_le op
  simp only [lv7, lvE]
  by_cases h2 : t.1 = 2
  · simp only [if_pos h2]
  · simp only [if_neg h2]
    by_cases h3 : t.1 = 3
    · simp only [if_pos h3]; rw [decide_eq_false (by omega), decide_eq_false (by omega)]
    · simp only [if_neg h3]; rw [decide_eq_false (by omega), decide_eq_false (by omega)]
theorem lv7_op (x : Ex) : decide (lv7 x < 6) = isOp x := by
  obtain ⟨t, args⟩ := x
  have := lvl_le t.2
  simp only [lv7, isOp]
  by_cases h2 : t.1 = 2
  · simp only [if_pos h2]; rw [decide_eq_true (by omega), h2]; rfl
  · have h2' : (t.1 == 2) = false := by simpa using h2
    simp only [if_neg h2, h2']
    by_cases h3 : t.1 = 3
    · simp only [if_pos h3]; rfl
    · simp only [if_neg h3]; rfl
theorem lv7_bd (x : Ex) : 0 ≤ lv7 x ∧ lv7 x ≤ 7 := by
  obtain ⟨t, args⟩ := x
  have := lvl_le t.2
  simp only [lv7]
  by_cases h2 : t.1 = 2
  · simp only [if_pos h2]; omega
  · simp only [if_neg h2]; split <;> omega

set_option maxRecDepth 20000 in
theorem l04LevelS (q : Nat) (hq : q < 9) (w : World) : Calls Tryz.prog 56 #[.int .i64 q] w fun e w' => e = .returned (ei (lvl q)) ∧ w = w' := by
  rcases (by omega : q = 0 ∨ q = 1 ∨ q = 2 ∨ q = 3 ∨ q = 4 ∨ q = 5 ∨ q = 6 ∨ q = 7 ∨ q = 8) with rfl | rfl | rfl | rfl | rfl | rfl | rfl | rfl | rfl
  all_goals
    go_enter Tryz.func56, Tryz.ntmps56
    go_wp2_with fail
    go_ret
    exact ⟨by simp [lvl], rfl⟩

set_option maxRecDepth 20000 in
theorem l04OpsS (w : World) : Calls Tryz.prog 57 #[] w fun e w' => e = .returned (.slice (some ⟨w.heap.size, 0, none⟩) 9 9) ∧ Upd [] w w' ∧ w.heap.size < w'.heap.size ∧ ∀ q : Nat, q < 9 → w'.cell? ⟨w.heap.size, q, none⟩ = some (es (opT q)) := by
  have hc := fun (q : Nat) (hq : q < 9) => cell_new w #[es [43], es [45], es [42], es [61], es [35], es [60], es [60, 61], es [38], es [124]] 9 _ rfl q (es (opT q)) (by
    rcases (by omega : q = 0 ∨ q = 1 ∨ q = 2 ∨ q = 3 ∨ q = 4 ∨ q = 5 ∨ q = 6 ∨ q = 7 ∨ q = 8) with rfl | rfl | rfl | rfl | rfl | rfl | rfl | rfl | rfl <;> simp [opT])
  have HC := Lib.hid hc
  clear hc
  go_enter Tryz.func57, Tryz.ntmps57
  go_wp2_with fail
  go_ret
  exact ⟨rfl, (Upd.refl _ _).alloc _, by simp, HC.out⟩

theorem l04OpsAt (q : Nat) (hq : q < 9) (w : World) : Calls Tryz.prog 57 #[] w fun e w' => e = .returned (.slice (some ⟨w.heap.size, 0, none⟩) 9 9) ∧ Upd [] w w' ∧ w.heap.size < w'.heap.size ∧ w'.cell? ⟨w.heap.size, q, none⟩ = some (es (opT q)) :=
  (l04OpsS w).mono fun _ _ ⟨h1, h2, h3, h4⟩ => ⟨h1, h2, h3, h4 q hq⟩

theorem ownsRow_grown {w w1 : World} {base : Nat} {e : TypeId} {size : Nat} {v : Value} {n : Nat} {xs : List Value} (h : w.ownsRow base e size v n xs) {row : Option Nat} (hg : w.grownBy w1 row) (hd : ∀ b, v.ownBlock = some b → row ≠ some b) : w1.ownsRow base e size v n xs := by
  refine h.kept (row := row) hg ?_
  cases hv : v.ownBlock with
  | none => exact Or.inl rfl
  | some b => exact Or.inr (fun e => hd b hv e.symm)

theorem own_cells {w : World} {base : Nat} {e : TypeId} {v : Value} {n : Nat} {xs : List Value} (h : w.ownsRow base e 1 v n xs) (h0 : 0 < n) :
    ∃ g cap, v = .slice (some ⟨g, 0, none⟩) n cap ∧ n ≤ cap ∧ cap ≤ maxLen ∧ base ≤ g ∧ g < w.heap.size ∧ ∀ j, j < n → w.cell? ⟨g, j, none⟩ = xs[j]? := by
  have h' := h
  rcases h.2 with ⟨-, h1⟩ | ⟨g, cap, cur, rfl, hb, hh, q1, q2, q3, q4⟩
  · omega
  · exact ⟨g, cap, rfl, q1, q2, hb, (Array.getElem?_eq_some_iff.1 hh).1, fun j hj => h'.cellAt j (by omega)⟩

theorem forest_le : ∀ xs : List Ex, xs.length ≤ (flatEs xs).length
  | [] => by simp
  | x :: xs => by simp only [flatEs, List.length_append, List.length_cons]; have := flatE_pos x; have := forest_le xs; omega

/-- what stands on the reference's stacks: the forest of the terms from k on. -/
def QT (e : List Tm) (k : Nat) (xs : List Ex) : Prop := okEs xs = true ∧ flatEs xs = e.drop k ∧ run 29 (e.take k) 1 = some (xs.length : Int)
def txs (xs : List Ex) : List Value := xs.reverse.map fun x => es (textE x)
def lvs (xs : List Ex) : List Value := xs.reverse.map fun x => ei (lv7 x)
theorem txs_cons (x : Ex) (xs : List Ex) : txs (x :: xs) = txs xs ++ [es (textE x)] := by simp [txs]
theorem lvs_cons (x : Ex) (xs : List Ex) : lvs (x :: xs) = lvs xs ++ [ei (lv7 x)] := by simp [lvs]
theorem txs_len (xs : List Ex) : (txs xs).length = xs.length := by simp [txs]
theorem lvs_len (xs : List Ex) : (lvs xs).length = xs.length := by simp [lvs]

/-- the two stacks, apart. -/
structure Stk (w0 w : World) (tv lv : Value) (xs : List Ex) : Prop where
  t : w.ownsRow w0.heap.size 9 1 tv xs.length (txs xs)
  l : w.ownsRow w0.heap.size 2 1 lv xs.length (lvs xs)
  apart : ∀ b, tv.ownBlock = some b → lv.ownBlock ≠ some b

theorem Stk.done {w0 wA w3 w4 : World} {tvc lvc tv' lv' : Value} {ys : List Ex} {x : Ex} {o : Obj} (hl : wA.ownsRow w0.heap.size 2 1 lvc ys.length (lvs ys))
    (hap : ∀ b, tvc.ownBlock = some b → lvc.ownBlock ≠ some b) (h3 : w3.ownsRow w0.heap.size 9 1 tv' (ys.length + 1) (txs ys ++ [es (textE x)])) (ht3 : ∀ b, tv'.ownBlock = some b → tvc.ownBlock = some b ∨ wA.heap.size ≤ b)
    (h4 : w4.ownsRow w0.heap.size 2 1 lv' (ys.length + 1) (lvs ys ++ [ei (lv7 x)])) (hg4 : (w3.alloc o).grownBy w4 lvc.ownBlock) (ht4 : ∀ b, lv'.ownBlock = some b → lvc.ownBlock = some b ∨ (w3.alloc o).heap.size ≤ b) : Stk w0 w4 tv' lv' (x :: ys) := by
  have hd : ∀ b, tv'.ownBlock = some b → lvc.ownBlock ≠ some b := by
    intro b hb hlb
    rcases ht3 b hb with h | h
    · exact hap b h hlb
    · have := (hl.lt b hlb).2; omega
  refine ⟨?_, by rw [lvs_cons]; simpa using h4, ?_⟩
  · rw [txs_cons]
    exact ownsRow_grown (ownsRow_upd (by simpa using h3) ((Upd.refl [] _).alloc o)) hg4 hd
  · intro b hb hlb
    rcases ht4 b hlb with h | h
    · exact hd b hb h
    · have := (h3.lt b hb).2; simp at h; omega

theorem Stk.levels {w0 wA w3 : World} {tvc lvc : Value} {ys : List Ex} {o : Obj} (hl : wA.ownsRow w0.heap.size 2 1 lvc ys.length (lvs ys))
    (hap : ∀ b, tvc.ownBlock = some b → lvc.ownBlock ≠ some b) (hg3 : wA.grownBy w3 tvc.ownBlock) : (w3.alloc o).ownsRow w0.heap.size 2 1 lvc ys.length (lvs ys) :=
  ownsRow_upd (ownsRow_grown hl hg3 (fun b hb h => hap b h hb)) ((Upd.refl [] _).alloc o)

theorem Tryz.infoStr : (Tryz.prog.info? 9).map (fun i => (i.zero, i.size, i.bytes)) = some (some (.string ⟨#[]⟩), 1, 16) := by kernel_rfl

set_option maxRecDepth 20000 in
set_option maxHeartbeats 8000000 in
theorem l04TextS (x : Ex) (v : Value) (w : World) (fp : List Nat) (hok : okE x = true) (he : eOk (flatE x) = true) (hg : goodE 29 x = true) (hlen : (flatE x).length ≤ 60) (hR : R_T1 fp w [v] (flatE x)) :
    Calls Tryz.prog 31 #[v] w fun r w' => r = .returned (es (textE x)) ∧ Upd [] w w' := by
  obtain ⟨i1, ki, kz0, kz1, kz2⟩ := info_parts Tryz.info2
  obtain ⟨i2, ji, jz0, jz1, jz2⟩ := info_parts Tryz.infoStr
  obtain ⟨a1, c1, rfl, hl1, hm1, hc1⟩ := slF2_open hR
  unfold maxLen at hm1
  have HOK := Lib.hid hok
  have HE := Lib.hid he
  have HALL := Lib.hid (show ∀ t ∈ flatE x, tOk t 29 = true by unfold goodE at hg; rw [Bool.and_eq_true, List.all_eq_true] at hg; exact hg.2)
  have HX := Lib.hid (show ∀ y, okE y = true → flatE y = flatE x → y = x from fun y h1 h2 => tree_inj h1 hok h2)
  generalize flatE x = e at *
  have hQ0 : Hid (QT e e.length []) := Lib.hid ⟨rfl, by simp [flatEs], forest_start he⟩
  have HL0 := Lib.hid (fun (w : World) (T : TypeId) => World.ownsRow_lit (base := w.heap.size) (e := T) (size := 1) w #[] 0 (Nat.le_refl _) (by simp [maxLen]) (by simp))
  clear hok he hg hR
  go_enter Tryz.func31, Tryz.ntmps31
  go_wp2_with fail
  go_loopw [3, 4, 5] (fun tv lv iv wr => ∃ (k : Nat) (xs : List Ex), k ≤ e.length ∧ iv = .int .i64 ((k : Int) - 1) ∧ Upd [] w wr ∧ Hid (Stk w wr tv lv xs) ∧ Hid (QT e k xs)) (fun _ _ iv _ => (intOf iv + 1).toNat)
  case atStart =>
    refine ⟨e.length, [], Nat.le_refl _, rfl, ((Upd.refl _ _).alloc _).alloc _, Lib.hid ⟨?_, ?_, ?_⟩, hQ0⟩
    · simpa [txs] using ownsRow_upd (HL0.out w 9) ((Upd.refl [] _).alloc _)
    · have := World.ownsRow_lit (base := w.heap.size) (e := 2) (size := 1) (w.alloc (.cells #[] 9)) #[] 0 (by simp) (by simp [maxLen]) (by simp)
      simpa [lvs] using this
    · intro b hb hb2
      simp [Value.ownBlock] at hb hb2
      omega
  case round =>
    clear HL0 hQ0
    obtain ⟨k, xs, hk, rfl, hU, hS, hQ⟩ := hrel
    obtain ⟨at', ct, hvt⟩ := ownsRow_form hS.out.t
    obtain ⟨al', cl, hvl⟩ := ownsRow_form hS.out.l
    subst hvt hvl
    match k, hk, hQ with
    | 0, hk, hQ =>
      obtain ⟨y, rfl⟩ := forest_end hQ.out.2.2
      have hy : y = x := by
        have h1 := hQ.out.1
        have h2 := hQ.out.2.1
        simp [okEs] at h1
        simp [flatEs] at h2
        exact HX.out y h1 h2
      subst hy
      obtain ⟨g, cap, hv, m1, m2, -, -, hcell⟩ := own_cells hS.out.t (by simp)
      simp only [Value.slice.injEq] at hv
      obtain ⟨rfl, -, rfl⟩ := hv
      have hc0 : wr.cell? ⟨g, 0, none⟩ = some (es (textE y)) := by have := hcell 0 (by simp); simpa [txs] using this
      have HU := Lib.hid hU
      simp only [List.length_cons, List.length_nil, Nat.zero_add] at m1 m2 ⊢
      unfold maxLen at m2
      clear hS hQ hU hcell hc1
      go_wp2_with fail
      go_ret
      exact ⟨rfl, HU.out⟩
    | k + 1, hk, hQ =>
      obtain ⟨b1, o1, rfl, -, -, p1, p2⟩ := hc1 k (by omega)
      have p1 := hU.keep p1
      have p2 := hU.keep p2
      obtain ⟨htok, hA, hlen', hok', hfl'⟩ := forest_step HE.out k (by omega) xs hQ.out.1 hQ.out.2.1 hQ.out.2.2
      have htx := txs_len xs
      have hxl := forest_le xs
      have hfl : (flatEs xs).length ≤ 60 := by rw [hQ.out.2.1, List.length_drop]; omega
      have hgs : goodEs 29 xs = true := by
        unfold goodEs
        rw [Bool.and_eq_true, List.all_eq_true]
        refine ⟨hQ.out.1, fun t ht => HALL.out t ?_⟩
        rw [hQ.out.2.1] at ht
        exact List.mem_of_mem_drop ht
      have HGS := Lib.hid hgs
      generalize hek : e[k] = t at *
      obtain ⟨t1, t2⟩ := t
      have HTOK := Lib.hid htok
      have HLE := Lib.hid hlen'
      have HOK' := Lib.hid hok'
      have HFL := Lib.hid hfl'
      have HU := Lib.hid hU
      have hsz := hU.size
      have HST := Lib.hid hS.out
      have hxs : xs.length ≤ 60 := by omega
      clear hc1 hQ hlen' hok' hfl' hek hU hS htok htx hgs hfl
      rcases tOk_kind HTOK.out with h | h | h | h
      · subst h
        have htok := HTOK.out
        simp [tOk] at htok
        have hb := inB_true htok
        obtain ⟨q, rfl⟩ : ∃ q : Nat, t2 = q := ⟨t2.toNat, by omega⟩
        have hA0 : (arity (0, (q : Int))).toNat = 0 := by simp [arity]
        rw [hA0] at HLE HOK' HFL
        simp only [List.take_zero, List.drop_zero, Nat.sub_zero] at HLE HOK' HFL
        have hT : textE (.mk (0, (q : Int)) []) = Lib.itoa q := by simp [textE]
        have hL : lv7 (.mk (0, (q : Int)) []) = 7 := by simp [lv7]
        have S1 := Lib.hid (l01DecP q (wr.alloc (.cells #[ei 0, ei q] 78)) (by omega))
        have hil := itoa_small (n := q) (by omega) (by omega)
        generalize Lib.itoa (q : Int) = T at *
        have HTL := Lib.hid (And.intro hT hL)
        have HAP := Lib.hid HST.out.apart
        clear htok hA0 hT hL
        go_wp2_with fail
        refine S1.out.mono ?_
        rintro r w2 ⟨rfl, hu2⟩
        have hu2' := (HU.out.alloc (.cells #[ei 0, ei q] 78)).trans hu2
        have ht2 := (ownsRow_upd (ownsRow_upd HST.out.t ((Upd.refl [] _).alloc (.cells #[ei 0, ei q] 78))) hu2)
        have hl2 := (ownsRow_upd (ownsRow_upd HST.out.l ((Upd.refl [] _).alloc (.cells #[ei 0, ei q] 78))) hu2)
        have HU2 := Lib.hid hu2'
        have hsz2 := hu2'.size
        have HL2 := Lib.hid hl2
        clear S1 hu2 hu2' hl2
        go_wp2_with (first
          | (at_builtin; refine wpList_append_tight _ rfl _ _ 44 rfl w.heap.size 9 i2 (.string ⟨#[]⟩) 1 16 Tryz.underlying44 ji jz0 jz1 jz2 rfl (by decide) _ _ _ rfl (ht2.alloc _) ⟨w2.heap.size, 0, none⟩ 1 1 [es T] rfl rfl (fun j u hj => by rw [addr_add]; exact cell_new w2 #[es T] _ _ rfl _ _ (by simpa using hj)) (by simp [Value.oneCell']) (by unfold maxLen; omega) (by omega) (by simp; omega) ?_)
          | fail)
        intro v3 w3 hown3 hg3 ht3
        have hla := ownsRow_upd HL2.out ((Upd.refl [] w2).alloc (.cells #[es T] 9))
        have hl3 := Stk.levels (o := .cells #[ei 7] 2) (tvc := Value.slice at' xs.length ct) hla HAP.out hg3
        have hU3 := (HU2.out.alloc (.cells #[es T] 9)).grown hg3 (fun b hb => Or.inl ((ht2.lt b hb).1))
        have hsz3 := hU3.size
        have HU3 := Lib.hid hU3
        have HLA := Lib.hid hla
        have HT3 := Lib.hid (show ∀ b, v3.ownBlock = some b → (Value.slice at' xs.length ct).ownBlock = some b ∨ (w2.alloc (.cells #[es T] 9)).heap.size ≤ b from fun b hb => by have := ht3 b hb; simpa using this)
        have HO3 := Lib.hid hown3
        clear hg3 ht3 ht2 hown3 hla hU3
        go_wp2_with (first
          | (at_builtin; refine wpList_append_tight _ rfl _ _ 22 rfl w.heap.size 2 i1 (.int .i64 0) 1 8 Tryz.underlying22 ki kz0 kz1 kz2 rfl (by decide) _ _ _ rfl hl3 ⟨w3.heap.size, 0, none⟩ 1 1 [ei 7] rfl rfl (fun j u hj => by rw [addr_add]; exact cell_new w3 #[ei 7] _ _ rfl _ _ (by simpa using hj)) (by simp [Value.oneCell']) (by unfold maxLen; omega) (by omega) (by simp; omega) ?_)
          | fail)
        intro v4 w4 hown4 hg4 ht4
        have hS4 : Stk w w4 v3 v4 (.mk (0, (q : Int)) [] :: xs) := Stk.done HLA.out HAP.out (by rw [HTL.out.1]; exact HO3.out) HT3.out (by rw [HTL.out.2]; exact hown4) hg4 (fun b hb => by have := ht4 b hb; simpa using this)
        have hU4 := (HU3.out.alloc (.cells #[ei 7] 2)).grown hg4 (fun b hb => Or.inl ((hl3.lt b hb).1))
        have HP := Lib.hid (And.intro hS4 hU4)
        clear hown4 hg4 ht4 hS4 hU4 hl3
        go_wp2_with fail
        go_roundw
        case rel => exact ⟨k, _, by omega, by go_num, HP.out.2, Lib.hid HP.out.1, Lib.hid ⟨HOK'.out, HFL.out, by have := HLE.out; simpa using this⟩⟩
        case measure => simp [intOf]
      · subst h
        have htok := HTOK.out
        simp [tOk] at htok
        have hb := inB_true htok
        obtain ⟨q, rfl⟩ : ∃ q : Nat, t2 = q := ⟨t2.toNat, by omega⟩
        have hA0 : (arity (1, (q : Int))).toNat = 0 := by simp [arity]
        rw [hA0] at HLE HOK' HFL
        simp only [List.take_zero, List.drop_zero, Nat.sub_zero] at HLE HOK' HFL
        have hT : textE (.mk (1, (q : Int)) []) = [118] ++ Lib.itoa q := by simp [textE]
        have hL : lv7 (.mk (1, (q : Int)) []) = 7 := by simp [lv7]
        have S1 := Lib.hid (l01DecP q (wr.alloc (.cells #[ei 1, ei q] 78)) (by omega))
        have hil := itoa_small (n := q) (by omega) (by omega)
        generalize Lib.itoa (q : Int) = T at *
        obtain ⟨S, hS⟩ : ∃ S, S = [118] ++ T := ⟨_, rfl⟩
        have hcat : (ByteArray.mk #[118] ++ ByteArray.mk T.toArray) = ByteArray.mk S.toArray := by rw [hS, ← es_cat]
        rw [← hS] at hT
        clear hS
        have HTL := Lib.hid (And.intro hT hL)
        have HAP := Lib.hid HST.out.apart
        clear htok hA0 hT hL
        go_wp2_with fail
        refine S1.out.mono ?_
        rintro r w2 ⟨rfl, hu2⟩
        have hu2' := (HU.out.alloc (.cells #[ei 1, ei q] 78)).trans hu2
        have ht2 := (ownsRow_upd (ownsRow_upd HST.out.t ((Upd.refl [] _).alloc (.cells #[ei 1, ei q] 78))) hu2)
        have hl2 := (ownsRow_upd (ownsRow_upd HST.out.l ((Upd.refl [] _).alloc (.cells #[ei 1, ei q] 78))) hu2)
        have HU2 := Lib.hid hu2'
        have hsz2 := hu2'.size
        have HL2 := Lib.hid hl2
        clear S1 hu2 hu2' hl2
        go_wp2_with (first
          | (at_builtin; refine wpList_append_tight _ rfl _ _ 44 rfl w.heap.size 9 i2 (.string ⟨#[]⟩) 1 16 Tryz.underlying44 ji jz0 jz1 jz2 rfl (by decide) _ _ _ rfl (ht2.alloc _) ⟨w2.heap.size, 0, none⟩ 1 1 [es S] rfl rfl (fun j u hj => by rw [addr_add]; exact cell_new w2 #[es S] _ _ rfl _ _ (by simpa using hj)) (by simp [Value.oneCell']) (by unfold maxLen; omega) (by omega) (by simp; omega) ?_)
          | fail)
        intro v3 w3 hown3 hg3 ht3
        have hla := ownsRow_upd HL2.out ((Upd.refl [] w2).alloc (.cells #[es S] 9))
        have hl3 := Stk.levels (o := .cells #[ei 7] 2) (tvc := Value.slice at' xs.length ct) hla HAP.out hg3
        have hU3 := (HU2.out.alloc (.cells #[es S] 9)).grown hg3 (fun b hb => Or.inl ((ht2.lt b hb).1))
        have hsz3 := hU3.size
        have HU3 := Lib.hid hU3
        have HLA := Lib.hid hla
        have HT3 := Lib.hid (show ∀ b, v3.ownBlock = some b → (Value.slice at' xs.length ct).ownBlock = some b ∨ (w2.alloc (.cells #[es S] 9)).heap.size ≤ b from fun b hb => by have := ht3 b hb; simpa using this)
        have HO3 := Lib.hid hown3
        clear hg3 ht3 ht2 hown3 hla hU3
        go_wp2_with (first
          | (at_builtin; refine wpList_append_tight _ rfl _ _ 22 rfl w.heap.size 2 i1 (.int .i64 0) 1 8 Tryz.underlying22 ki kz0 kz1 kz2 rfl (by decide) _ _ _ rfl hl3 ⟨w3.heap.size, 0, none⟩ 1 1 [ei 7] rfl rfl (fun j u hj => by rw [addr_add]; exact cell_new w3 #[ei 7] _ _ rfl _ _ (by simpa using hj)) (by simp [Value.oneCell']) (by unfold maxLen; omega) (by omega) (by simp; omega) ?_)
          | fail)
        intro v4 w4 hown4 hg4 ht4
        have hS4 : Stk w w4 v3 v4 (.mk (1, (q : Int)) [] :: xs) := Stk.done HLA.out HAP.out (by rw [HTL.out.1]; exact HO3.out) HT3.out (by rw [HTL.out.2]; exact hown4) hg4 (fun b hb => by have := ht4 b hb; simpa using this)
        have hU4 := (HU3.out.alloc (.cells #[ei 7] 2)).grown hg4 (fun b hb => Or.inl ((hl3.lt b hb).1))
        have HP := Lib.hid (And.intro hS4 hU4)
        clear hown4 hg4 ht4 hS4 hU4 hl3
        go_wp2_with fail
        go_roundw
        case rel => exact ⟨k, _, by omega, by go_num, HP.out.2, Lib.hid HP.out.1, Lib.hid ⟨HOK'.out, HFL.out, by have := HLE.out; simpa using this⟩⟩
        case measure => simp [intOf]
      · subst h
        have htok := HTOK.out
        simp [tOk] at htok
        have hbq := inB_true htok
        obtain ⟨q, rfl⟩ : ∃ q : Nat, t2 = q := ⟨t2.toNat, by omega⟩
        have hq : q < 9 := by omega
        have hA1 : (arity (2, (q : Int))).toNat = 2 := by simp [arity]
        rw [hA1] at HLE HOK' HFL hA
        match xs, hA with
        | a :: b :: ys, _ =>
        obtain ⟨g, ct', hv, m1, m2, -, mg, hcell⟩ := own_cells HST.out.t (by simp)
        simp only [Value.slice.injEq] at hv
        obtain ⟨rfl, -, rfl⟩ := hv
        obtain ⟨gl, cl', hv, ml1, ml2, -, mgl, hcl⟩ := own_cells HST.out.l (by simp)
        simp only [Value.slice.injEq] at hv
        obtain ⟨rfl, -, rfl⟩ := hv
        unfold maxLen at m2 ml2
        have htk := ownsRow_take HST.out.t ys.length (by simp only [List.length_cons]; omega)
        have hlk := ownsRow_take HST.out.l ys.length (by simp only [List.length_cons]; omega)
        have htxs : (txs (a :: b :: ys)).take (ys.length * 1) = txs ys := by rw [txs_cons, txs_cons, List.append_assoc, Nat.mul_one]; exact List.take_left' (txs_len ys)
        have hlvs : (lvs (a :: b :: ys)).take (ys.length * 1) = lvs ys := by rw [lvs_cons, lvs_cons, List.append_assoc, Nat.mul_one]; exact List.take_left' (lvs_len ys)
        rw [htxs] at htk
        rw [hlvs] at hlk
        have hgy := HGS.out
        rw [goodEs_cons, goodEs_cons, Bool.and_eq_true, Bool.and_eq_true] at hgy
        have hta := textE_len a hgy.1
        have htb := textE_len b hgy.2.1
        have hfab : (flatE a).length ≤ 60 ∧ (flatE b).length ≤ 60 := by
          have h9 := congrArg List.length HFL.out
          simp only [flatEs, flatE, List.length_append, List.length_cons, List.length_drop, List.take_succ_cons, List.take_zero, List.append_nil] at h9; omega
        have d0 : wr.cell? ⟨g, ys.length + 1, none⟩ = some (es (textE a)) := by
          rw [hcell (ys.length + 1) (by simp), txs_cons, List.getElem?_append_right (by rw [txs_len]; simp), txs_len]; simp
        have d1 : wr.cell? ⟨gl, ys.length + 1, none⟩ = some (ei (lv7 a)) := by
          rw [hcl (ys.length + 1) (by simp), lvs_cons, List.getElem?_append_right (by rw [lvs_len]; simp), lvs_len]; simp
        have d2 : wr.cell? ⟨g, ys.length, none⟩ = some (es (textE b)) := by
          rw [hcell ys.length (by simp; omega), txs_cons, txs_cons, List.append_assoc, List.getElem?_append_right (by rw [txs_len]; omega), txs_len]; simp
        have d3 : wr.cell? ⟨gl, ys.length, none⟩ = some (ei (lv7 b)) := by
          rw [hcl ys.length (by simp; omega), lvs_cons, lvs_cons, List.append_assoc, List.getElem?_append_right (by rw [lvs_len]; omega), lvs_len]; simp
        have hT : textE (.mk (2, (q : Int)) [a, b]) = (par (decide (lvE a < lvl q)) (textE a) ++ opT q) ++ par (decide (lvE b ≤ lvl q)) (textE b) := by simp [textE, textEs]
        have hL : lv7 (.mk (2, (q : Int)) [a, b]) = lvl q := by simp [lv7]
        have HOK2 := Lib.hid (show okEs (.mk (2, (q : Int)) [a, b] :: ys) = true by simpa using HOK'.out)
        have HFL2 := Lib.hid (show flatEs (.mk (2, (q : Int)) [a, b] :: ys) = List.drop k e by simpa using HFL.out)
        have HLE2 := Lib.hid (show run 29 (List.take k e) 1 = some (((.mk (2, (q : Int)) [a, b] :: ys : List Ex).length : Nat) : Int) by simpa using HLE.out)
        have HAP := Lib.hid (show ∀ b, (Value.slice (some ⟨g, 0, none⟩) ys.length ct).ownBlock = some b → (Value.slice (some ⟨gl, 0, none⟩) ys.length cl).ownBlock ≠ some b from HST.out.apart)
        have HTK := Lib.hid htk
        have HLK := Lib.hid hlk
        rw [← lv7_lt a, ← lv7_le b] at hT
        have hOl := opT_len q
        have S1 := Lib.hid (l04LevelS q hq (wr.alloc (.cells #[ei 2, ei q] 78)))
        simp only [List.length_cons] at m1 ml1 hxs
        clear HOK' HFL HLE HST hcell hcl htk hlk hgy hA1 hxl htxs hlvs htok
        have HOK' := HOK2
        have HFL := HFL2
        have HLE := HLE2
        clear HOK2 HFL2 HLE2
        have hal := hfab.1
        have hbl := hfab.2
        have hta2 : (textE a).length ≤ 420 := by omega
        have htb2 : (textE b).length ≤ 420 := by omega
        clear hta htb hfab hal hbl
        have HOPS := Lib.hid (fun (w : World) => l04OpsAt q hq w)
        generalize lvl q = own at *
        generalize lv7 a = la at *
        generalize lv7 b = lb at *
        generalize textE a = Ta at *
        generalize textE b = Tb at *
        generalize opT q = O at *
        by_cases hba : la < own
        · rw [decide_eq_true hba] at hT
          by_cases hbb : lb ≤ own
          · rw [decide_eq_true hbb] at hT
            obtain ⟨A, hQ⟩ : ∃ A, A = par true Ta := ⟨_, rfl⟩
            have hqa : (ByteArray.mk #[40] ++ ByteArray.mk Ta.toArray ++ ByteArray.mk #[41]) = ByteArray.mk A.toArray := by rw [hQ]; simp only [par, if_true, es_par]
            have hqal := par_len true Ta
            rw [← hQ] at hT hqal
            clear hQ
            obtain ⟨B, hQ⟩ : ∃ B, B = par true Tb := ⟨_, rfl⟩
            have hqb : (ByteArray.mk #[40] ++ ByteArray.mk Tb.toArray ++ ByteArray.mk #[41]) = ByteArray.mk B.toArray := by rw [hQ]; simp only [par, if_true, es_par]
            have hqbl := par_len true Tb
            rw [← hQ] at hT hqbl
            clear hQ
            obtain ⟨AO, hAO⟩ : ∃ AO, AO = A ++ O := ⟨_, rfl⟩
            have hcat1 : (ByteArray.mk A.toArray ++ ByteArray.mk O.toArray) = ByteArray.mk AO.toArray := by rw [hAO, ← es_cat]
            have haol : AO.length ≤ 500 := by rw [hAO, List.length_append]; omega
            rw [← hAO] at hT
            obtain ⟨S, hS⟩ : ∃ S, S = AO ++ B := ⟨_, rfl⟩
            have hcat2 : (ByteArray.mk AO.toArray ++ ByteArray.mk B.toArray) = ByteArray.mk S.toArray := by rw [hS, ← es_cat]
            rw [← hS] at hT
            have HTL := Lib.hid (And.intro hT hL)
            have hAl : A.length ≤ 500 := by omega
            have hBl : B.length ≤ 500 := by omega
            clear hT hS hAO
            have htr := Lib.hid (ownsRow_upd HTK.out ((Upd.refl [] wr).alloc (.cells #[ei 2, ei q] 78)))
            have hlr := Lib.hid (ownsRow_upd HLK.out ((Upd.refl [] wr).alloc (.cells #[ei 2, ei q] 78)))
            have HUR := Lib.hid (HU.out.alloc (.cells #[ei 2, ei q] 78))
            have s1 : (0 : Int) ≤ (ys.length : Int) := by omega
            have s2 : (ys.length : Int) ≤ (ct : Int) := by omega
            have s3 : (0 : Int) ≤ (q : Int) := by omega
            have s4 : (q : Int) < 9 := by omega
            have hw1 : IntKind.i64.wrap ((ys.length : Int) + 1 - 1) = (ys.length : Int) := by rw [IntKind.wrap_i64]; omega
            have hw2 : IntKind.i64.wrap (ys.length : Int) = (ys.length : Int) := by rw [IntKind.wrap_i64]; omega
            have hz1 : ¬ (9223372036854775807 < A.length + O.length) := by omega
            have hz2 : ¬ (9223372036854775807 < AO.length + B.length) := by omega
            have hcw := cell_new wr #[ei 2, ei q] 78 _ rfl 1 (ei q) rfl
            go_wp2_with fail
            refine S1.out.mono ?_
            rintro r w1 ⟨rfl, rfl⟩
            clear S1
            go_wp2_with fail
            go_region_law ((first
              | (refine step_call (by rfl) 57 #[] (by go_simp) ?_; refine (HOPS.out _).mono ?_; rintro r w2 ⟨rfl, hu2, hlt2, hops⟩; have k1 : w2.cell? ⟨wr.heap.size + 1, q, none⟩ = some (es O) := (by simpa using hops); have k2 := hu2.keep hcw; have k3 : wr.heap.size + 1 < w2.heap.size := (by simpa using hlt2); have hu3 := ((Upd.refl [] (wr.alloc (.cells #[ei 2, ei q] 78))).drew).trans hu2; refine ⟨_, rfl, ?_⟩)
              | (refine step_append_lies _ (by rfl) _ _ 44 (by rfl) w.heap.size 9 i2 (.string ⟨#[]⟩) 1 16 Tryz.underlying44 ji jz0 jz1 jz2 rfl (by decide) (.slice (some ⟨g, 0, none⟩) ys.length ct) ys.length (txs ys) (by rfl) ((ownsRow_upd htr.out hu3).alloc _) ⟨w2.heap.size, 0, none⟩ 1 1 [es S] (by rfl) (by rfl) (by intro j u hj; rw [addr_add]; exact cell_new w2 #[es S] _ _ rfl _ _ (by simpa using hj)) (by simp [Value.oneCell']) (by decide) (by unfold maxLen; omega) (by omega) (by have h9 := hu3.size; have h8 := HUR.out.size; simp at h9 h8 ⊢; omega) (w2.heap.size + 1) (by simp) ?_; intro g3 cap3 w3 hown3 hg3 hat3 hlt3)))
            all_goals
              have ht2 := ownsRow_upd htr.out hu3
              have HL2 := Lib.hid (ownsRow_upd hlr.out hu3)
              have HU2 := Lib.hid (HUR.out.trans hu3)
              have hsz2 := HU2.out.size
              have ht3 : ∀ b, (Value.slice (some ⟨g3, 0, none⟩) (ys.length + 1) cap3).ownBlock = some b → (Value.slice (some ⟨g, 0, none⟩) ys.length ct).ownBlock = some b ∨ w2.heap.size + 1 ≤ b := (by
                intro b hb
                simp only [Value.ownBlock, Option.some.injEq] at hb
                subst hb
                rcases hat3 with h | h
                · exact Or.inl h
                · exact Or.inr (by omega))
              clear hat3 hlt3 hu3 hu2 hlt2 k1 k2 k3 hops d0 d1 d2 d3 hw1 hw2 hz1 hz2 hcat1 hcat2 s1 s2 s3 s4 hcw htr hlr HUR HOPS
              have hla := ownsRow_upd HL2.out ((Upd.refl [] w2).alloc (.cells #[es S] 9))
              have hl3 := Stk.levels (o := .cells #[ei own] 2) (tvc := Value.slice (some ⟨g, 0, none⟩) ys.length ct) hla HAP.out hg3
              have hU3 := (HU2.out.alloc (.cells #[es S] 9)).grown hg3 (fun b hb => Or.inl ((ht2.lt b hb).1))
              have hsz3 := hU3.size
              have HU3 := Lib.hid hU3
              have HLA := Lib.hid hla
              have HT3 := Lib.hid (show ∀ b, (Value.slice (some ⟨g3, 0, none⟩) (ys.length + 1) cap3).ownBlock = some b → (Value.slice (some ⟨g, 0, none⟩) ys.length ct).ownBlock = some b ∨ (w2.alloc (.cells #[es S] 9)).heap.size ≤ b from fun b hb => by have := ht3 b hb; simpa using this)
              have HO3 := Lib.hid hown3
              clear hg3 ht3 ht2 hown3 hla hU3
              go_wp2_with (first
                | (at_builtin; refine wpList_append_tight _ rfl _ _ 22 rfl w.heap.size 2 i1 (.int .i64 0) 1 8 Tryz.underlying22 ki kz0 kz1 kz2 rfl (by decide) _ _ _ rfl hl3 ⟨w3.heap.size, 0, none⟩ 1 1 [ei own] rfl rfl (fun j u hj => by rw [addr_add]; exact cell_new w3 #[ei own] _ _ rfl _ _ (by simpa using hj)) (by simp [Value.oneCell']) (by unfold maxLen; omega) (by omega) (by simp; omega) ?_)
                | fail)
              intro v4 w4 hown4 hg4 ht4
              have hS4 : Stk w w4 (Value.slice (some ⟨g3, 0, none⟩) (ys.length + 1) cap3) v4 (.mk (2, (q : Int)) [a, b] :: ys) := Stk.done HLA.out HAP.out (by rw [HTL.out.1]; exact HO3.out) HT3.out (by rw [HTL.out.2]; exact hown4) hg4 (fun b hb => by have := ht4 b hb; simpa using this)
              have hU4 := (HU3.out.alloc (.cells #[ei own] 2)).grown hg4 (fun b hb => Or.inl ((hl3.lt b hb).1))
              have HP := Lib.hid (And.intro hS4 hU4)
              clear hown4 hg4 ht4 hS4 hU4 hl3
              go_wp2_with fail
              go_roundw
              case rel => exact ⟨k, _, by omega, by go_num, HP.out.2, Lib.hid HP.out.1, Lib.hid ⟨HOK'.out, HFL.out, by have := HLE.out; simpa using this⟩⟩
              case measure => simp [intOf]
          · rw [decide_eq_false hbb] at hT
            obtain ⟨A, hQ⟩ : ∃ A, A = par true Ta := ⟨_, rfl⟩
            have hqa : (ByteArray.mk #[40] ++ ByteArray.mk Ta.toArray ++ ByteArray.mk #[41]) = ByteArray.mk A.toArray := by rw [hQ]; simp only [par, if_true, es_par]
            have hqal := par_len true Ta
            rw [← hQ] at hT hqal
            clear hQ
            obtain ⟨B, hQ⟩ : ∃ B, B = par false Tb := ⟨_, rfl⟩
            have hqb : Tb = B := by rw [hQ]; rfl
            rw [← hQ] at hT
            subst hqb
            clear hQ
            obtain ⟨AO, hAO⟩ : ∃ AO, AO = A ++ O := ⟨_, rfl⟩
            have hcat1 : (ByteArray.mk A.toArray ++ ByteArray.mk O.toArray) = ByteArray.mk AO.toArray := by rw [hAO, ← es_cat]
            have haol : AO.length ≤ 500 := by rw [hAO, List.length_append]; omega
            rw [← hAO] at hT
            obtain ⟨S, hS⟩ : ∃ S, S = AO ++ Tb := ⟨_, rfl⟩
            have hcat2 : (ByteArray.mk AO.toArray ++ ByteArray.mk Tb.toArray) = ByteArray.mk S.toArray := by rw [hS, ← es_cat]
            rw [← hS] at hT
            have HTL := Lib.hid (And.intro hT hL)
            have hAl : A.length ≤ 500 := by omega
            have hBl : Tb.length ≤ 500 := by omega
            clear hT hS hAO
            have htr := Lib.hid (ownsRow_upd HTK.out ((Upd.refl [] wr).alloc (.cells #[ei 2, ei q] 78)))
            have hlr := Lib.hid (ownsRow_upd HLK.out ((Upd.refl [] wr).alloc (.cells #[ei 2, ei q] 78)))
            have HUR := Lib.hid (HU.out.alloc (.cells #[ei 2, ei q] 78))
            have s1 : (0 : Int) ≤ (ys.length : Int) := by omega
            have s2 : (ys.length : Int) ≤ (ct : Int) := by omega
            have s3 : (0 : Int) ≤ (q : Int) := by omega
            have s4 : (q : Int) < 9 := by omega
            have hw1 : IntKind.i64.wrap ((ys.length : Int) + 1 - 1) = (ys.length : Int) := by rw [IntKind.wrap_i64]; omega
            have hw2 : IntKind.i64.wrap (ys.length : Int) = (ys.length : Int) := by rw [IntKind.wrap_i64]; omega
            have hz1 : ¬ (9223372036854775807 < A.length + O.length) := by omega
            have hz2 : ¬ (9223372036854775807 < AO.length + Tb.length) := by omega
            have hcw := cell_new wr #[ei 2, ei q] 78 _ rfl 1 (ei q) rfl
            go_wp2_with fail
            refine S1.out.mono ?_
            rintro r w1 ⟨rfl, rfl⟩
            clear S1
            go_wp2_with fail
            go_region_law ((first
              | (refine step_call (by rfl) 57 #[] (by go_simp) ?_; refine (HOPS.out _).mono ?_; rintro r w2 ⟨rfl, hu2, hlt2, hops⟩; have k1 : w2.cell? ⟨wr.heap.size + 1, q, none⟩ = some (es O) := (by simpa using hops); have k2 := hu2.keep hcw; have k3 : wr.heap.size + 1 < w2.heap.size := (by simpa using hlt2); have hu3 := ((Upd.refl [] (wr.alloc (.cells #[ei 2, ei q] 78))).drew).trans hu2; refine ⟨_, rfl, ?_⟩)
              | (refine step_append_lies _ (by rfl) _ _ 44 (by rfl) w.heap.size 9 i2 (.string ⟨#[]⟩) 1 16 Tryz.underlying44 ji jz0 jz1 jz2 rfl (by decide) (.slice (some ⟨g, 0, none⟩) ys.length ct) ys.length (txs ys) (by rfl) ((ownsRow_upd htr.out hu3).alloc _) ⟨w2.heap.size, 0, none⟩ 1 1 [es S] (by rfl) (by rfl) (by intro j u hj; rw [addr_add]; exact cell_new w2 #[es S] _ _ rfl _ _ (by simpa using hj)) (by simp [Value.oneCell']) (by decide) (by unfold maxLen; omega) (by omega) (by have h9 := hu3.size; have h8 := HUR.out.size; simp at h9 h8 ⊢; omega) (w2.heap.size + 1) (by simp) ?_; intro g3 cap3 w3 hown3 hg3 hat3 hlt3)))
            all_goals
              have ht2 := ownsRow_upd htr.out hu3
              have HL2 := Lib.hid (ownsRow_upd hlr.out hu3)
              have HU2 := Lib.hid (HUR.out.trans hu3)
              have hsz2 := HU2.out.size
              have ht3 : ∀ b, (Value.slice (some ⟨g3, 0, none⟩) (ys.length + 1) cap3).ownBlock = some b → (Value.slice (some ⟨g, 0, none⟩) ys.length ct).ownBlock = some b ∨ w2.heap.size + 1 ≤ b := (by
                intro b hb
                simp only [Value.ownBlock, Option.some.injEq] at hb
                subst hb
                rcases hat3 with h | h
                · exact Or.inl h
                · exact Or.inr (by omega))
              clear hat3 hlt3 hu3 hu2 hlt2 k1 k2 k3 hops d0 d1 d2 d3 hw1 hw2 hz1 hz2 hcat1 hcat2 s1 s2 s3 s4 hcw htr hlr HUR HOPS
              have hla := ownsRow_upd HL2.out ((Upd.refl [] w2).alloc (.cells #[es S] 9))
              have hl3 := Stk.levels (o := .cells #[ei own] 2) (tvc := Value.slice (some ⟨g, 0, none⟩) ys.length ct) hla HAP.out hg3
              have hU3 := (HU2.out.alloc (.cells #[es S] 9)).grown hg3 (fun b hb => Or.inl ((ht2.lt b hb).1))
              have hsz3 := hU3.size
              have HU3 := Lib.hid hU3
              have HLA := Lib.hid hla
              have HT3 := Lib.hid (show ∀ b, (Value.slice (some ⟨g3, 0, none⟩) (ys.length + 1) cap3).ownBlock = some b → (Value.slice (some ⟨g, 0, none⟩) ys.length ct).ownBlock = some b ∨ (w2.alloc (.cells #[es S] 9)).heap.size ≤ b from fun b hb => by have := ht3 b hb; simpa using this)
              have HO3 := Lib.hid hown3
              clear hg3 ht3 ht2 hown3 hla hU3
              go_wp2_with (first
                | (at_builtin; refine wpList_append_tight _ rfl _ _ 22 rfl w.heap.size 2 i1 (.int .i64 0) 1 8 Tryz.underlying22 ki kz0 kz1 kz2 rfl (by decide) _ _ _ rfl hl3 ⟨w3.heap.size, 0, none⟩ 1 1 [ei own] rfl rfl (fun j u hj => by rw [addr_add]; exact cell_new w3 #[ei own] _ _ rfl _ _ (by simpa using hj)) (by simp [Value.oneCell']) (by unfold maxLen; omega) (by omega) (by simp; omega) ?_)
                | fail)
              intro v4 w4 hown4 hg4 ht4
              have hS4 : Stk w w4 (Value.slice (some ⟨g3, 0, none⟩) (ys.length + 1) cap3) v4 (.mk (2, (q : Int)) [a, b] :: ys) := Stk.done HLA.out HAP.out (by rw [HTL.out.1]; exact HO3.out) HT3.out (by rw [HTL.out.2]; exact hown4) hg4 (fun b hb => by have := ht4 b hb; simpa using this)
              have hU4 := (HU3.out.alloc (.cells #[ei own] 2)).grown hg4 (fun b hb => Or.inl ((hl3.lt b hb).1))
              have HP := Lib.hid (And.intro hS4 hU4)
              clear hown4 hg4 ht4 hS4 hU4 hl3
              go_wp2_with fail
              go_roundw
              case rel => exact ⟨k, _, by omega, by go_num, HP.out.2, Lib.hid HP.out.1, Lib.hid ⟨HOK'.out, HFL.out, by have := HLE.out; simpa using this⟩⟩
              case measure => simp [intOf]
        · rw [decide_eq_false hba] at hT
          by_cases hbb : lb ≤ own
          · rw [decide_eq_true hbb] at hT
            obtain ⟨A, hQ⟩ : ∃ A, A = par false Ta := ⟨_, rfl⟩
            have hqa : Ta = A := by rw [hQ]; rfl
            rw [← hQ] at hT
            subst hqa
            clear hQ
            obtain ⟨B, hQ⟩ : ∃ B, B = par true Tb := ⟨_, rfl⟩
            have hqb : (ByteArray.mk #[40] ++ ByteArray.mk Tb.toArray ++ ByteArray.mk #[41]) = ByteArray.mk B.toArray := by rw [hQ]; simp only [par, if_true, es_par]
            have hqbl := par_len true Tb
            rw [← hQ] at hT hqbl
            clear hQ
            obtain ⟨AO, hAO⟩ : ∃ AO, AO = Ta ++ O := ⟨_, rfl⟩
            have hcat1 : (ByteArray.mk Ta.toArray ++ ByteArray.mk O.toArray) = ByteArray.mk AO.toArray := by rw [hAO, ← es_cat]
            have haol : AO.length ≤ 500 := by rw [hAO, List.length_append]; omega
            rw [← hAO] at hT
            obtain ⟨S, hS⟩ : ∃ S, S = AO ++ B := ⟨_, rfl⟩
            have hcat2 : (ByteArray.mk AO.toArray ++ ByteArray.mk B.toArray) = ByteArray.mk S.toArray := by rw [hS, ← es_cat]
            rw [← hS] at hT
            have HTL := Lib.hid (And.intro hT hL)
            have hAl : Ta.length ≤ 500 := by omega
            have hBl : B.length ≤ 500 := by omega
            clear hT hS hAO
            have htr := Lib.hid (ownsRow_upd HTK.out ((Upd.refl [] wr).alloc (.cells #[ei 2, ei q] 78)))
            have hlr := Lib.hid (ownsRow_upd HLK.out ((Upd.refl [] wr).alloc (.cells #[ei 2, ei q] 78)))
            have HUR := Lib.hid (HU.out.alloc (.cells #[ei 2, ei q] 78))
            have s1 : (0 : Int) ≤ (ys.length : Int) := by omega
            have s2 : (ys.length : Int) ≤ (ct : Int) := by omega
            have s3 : (0 : Int) ≤ (q : Int) := by omega
            have s4 : (q : Int) < 9 := by omega
            have hw1 : IntKind.i64.wrap ((ys.length : Int) + 1 - 1) = (ys.length : Int) := by rw [IntKind.wrap_i64]; omega
            have hw2 : IntKind.i64.wrap (ys.length : Int) = (ys.length : Int) := by rw [IntKind.wrap_i64]; omega
            have hz1 : ¬ (9223372036854775807 < Ta.length + O.length) := by omega
            have hz2 : ¬ (9223372036854775807 < AO.length + B.length) := by omega
            have hcw := cell_new wr #[ei 2, ei q] 78 _ rfl 1 (ei q) rfl
            go_wp2_with fail
            refine S1.out.mono ?_
            rintro r w1 ⟨rfl, rfl⟩
            clear S1
            go_wp2_with fail
            go_region_law ((first
              | (refine step_call (by rfl) 57 #[] (by go_simp) ?_; refine (HOPS.out _).mono ?_; rintro r w2 ⟨rfl, hu2, hlt2, hops⟩; have k1 : w2.cell? ⟨wr.heap.size + 1, q, none⟩ = some (es O) := (by simpa using hops); have k2 := hu2.keep hcw; have k3 : wr.heap.size + 1 < w2.heap.size := (by simpa using hlt2); have hu3 := ((Upd.refl [] (wr.alloc (.cells #[ei 2, ei q] 78))).drew).trans hu2; refine ⟨_, rfl, ?_⟩)
              | (refine step_append_lies _ (by rfl) _ _ 44 (by rfl) w.heap.size 9 i2 (.string ⟨#[]⟩) 1 16 Tryz.underlying44 ji jz0 jz1 jz2 rfl (by decide) (.slice (some ⟨g, 0, none⟩) ys.length ct) ys.length (txs ys) (by rfl) ((ownsRow_upd htr.out hu3).alloc _) ⟨w2.heap.size, 0, none⟩ 1 1 [es S] (by rfl) (by rfl) (by intro j u hj; rw [addr_add]; exact cell_new w2 #[es S] _ _ rfl _ _ (by simpa using hj)) (by simp [Value.oneCell']) (by decide) (by unfold maxLen; omega) (by omega) (by have h9 := hu3.size; have h8 := HUR.out.size; simp at h9 h8 ⊢; omega) (w2.heap.size + 1) (by simp) ?_; intro g3 cap3 w3 hown3 hg3 hat3 hlt3)))
            all_goals
              have ht2 := ownsRow_upd htr.out hu3
              have HL2 := Lib.hid (ownsRow_upd hlr.out hu3)
              have HU2 := Lib.hid (HUR.out.trans hu3)
              have hsz2 := HU2.out.size
              have ht3 : ∀ b, (Value.slice (some ⟨g3, 0, none⟩) (ys.length + 1) cap3).ownBlock = some b → (Value.slice (some ⟨g, 0, none⟩) ys.length ct).ownBlock = some b ∨ w2.heap.size + 1 ≤ b := (by
                intro b hb
                simp only [Value.ownBlock, Option.some.injEq] at hb
                subst hb
                rcases hat3 with h | h
                · exact Or.inl h
                · exact Or.inr (by omega))
              clear hat3 hlt3 hu3 hu2 hlt2 k1 k2 k3 hops d0 d1 d2 d3 hw1 hw2 hz1 hz2 hcat1 hcat2 s1 s2 s3 s4 hcw htr hlr HUR HOPS
              have hla := ownsRow_upd HL2.out ((Upd.refl [] w2).alloc (.cells #[es S] 9))
              have hl3 := Stk.levels (o := .cells #[ei own] 2) (tvc := Value.slice (some ⟨g, 0, none⟩) ys.length ct) hla HAP.out hg3
              have hU3 := (HU2.out.alloc (.cells #[es S] 9)).grown hg3 (fun b hb => Or.inl ((ht2.lt b hb).1))
              have hsz3 := hU3.size
              have HU3 := Lib.hid hU3
              have HLA := Lib.hid hla
              have HT3 := Lib.hid (show ∀ b, (Value.slice (some ⟨g3, 0, none⟩) (ys.length + 1) cap3).ownBlock = some b → (Value.slice (some ⟨g, 0, none⟩) ys.length ct).ownBlock = some b ∨ (w2.alloc (.cells #[es S] 9)).heap.size ≤ b from fun b hb => by have := ht3 b hb; simpa using this)
              have HO3 := Lib.hid hown3
              clear hg3 ht3 ht2 hown3 hla hU3
              go_wp2_with (first
                | (at_builtin; refine wpList_append_tight _ rfl _ _ 22 rfl w.heap.size 2 i1 (.int .i64 0) 1 8 Tryz.underlying22 ki kz0 kz1 kz2 rfl (by decide) _ _ _ rfl hl3 ⟨w3.heap.size, 0, none⟩ 1 1 [ei own] rfl rfl (fun j u hj => by rw [addr_add]; exact cell_new w3 #[ei own] _ _ rfl _ _ (by simpa using hj)) (by simp [Value.oneCell']) (by unfold maxLen; omega) (by omega) (by simp; omega) ?_)
                | fail)
              intro v4 w4 hown4 hg4 ht4
              have hS4 : Stk w w4 (Value.slice (some ⟨g3, 0, none⟩) (ys.length + 1) cap3) v4 (.mk (2, (q : Int)) [a, b] :: ys) := Stk.done HLA.out HAP.out (by rw [HTL.out.1]; exact HO3.out) HT3.out (by rw [HTL.out.2]; exact hown4) hg4 (fun b hb => by have := ht4 b hb; simpa using this)
              have hU4 := (HU3.out.alloc (.cells #[ei own] 2)).grown hg4 (fun b hb => Or.inl ((hl3.lt b hb).1))
              have HP := Lib.hid (And.intro hS4 hU4)
              clear hown4 hg4 ht4 hS4 hU4 hl3
              go_wp2_with fail
              go_roundw
              case rel => exact ⟨k, _, by omega, by go_num, HP.out.2, Lib.hid HP.out.1, Lib.hid ⟨HOK'.out, HFL.out, by have := HLE.out; simpa using this⟩⟩
              case measure => simp [intOf]
          · rw [decide_eq_false hbb] at hT
            obtain ⟨A, hQ⟩ : ∃ A, A = par false Ta := ⟨_, rfl⟩
            have hqa : Ta = A := by rw [hQ]; rfl
            rw [← hQ] at hT
            subst hqa
            clear hQ
            obtain ⟨B, hQ⟩ : ∃ B, B = par false Tb := ⟨_, rfl⟩
            have hqb : Tb = B := by rw [hQ]; rfl
            rw [← hQ] at hT
            subst hqb
            clear hQ
            obtain ⟨AO, hAO⟩ : ∃ AO, AO = Ta ++ O := ⟨_, rfl⟩
            have hcat1 : (ByteArray.mk Ta.toArray ++ ByteArray.mk O.toArray) = ByteArray.mk AO.toArray := by rw [hAO, ← es_cat]
            have haol : AO.length ≤ 500 := by rw [hAO, List.length_append]; omega
            rw [← hAO] at hT
            obtain ⟨S, hS⟩ : ∃ S, S = AO ++ Tb := ⟨_, rfl⟩
            have hcat2 : (ByteArray.mk AO.toArray ++ ByteArray.mk Tb.toArray) = ByteArray.mk S.toArray := by rw [hS, ← es_cat]
            rw [← hS] at hT
            have HTL := Lib.hid (And.intro hT hL)
            have hAl : Ta.length ≤ 500 := by omega
            have hBl : Tb.length ≤ 500 := by omega
            clear hT hS hAO
            have htr := Lib.hid (ownsRow_upd HTK.out ((Upd.refl [] wr).alloc (.cells #[ei 2, ei q] 78)))
            have hlr := Lib.hid (ownsRow_upd HLK.out ((Upd.refl [] wr).alloc (.cells #[ei 2, ei q] 78)))
            have HUR := Lib.hid (HU.out.alloc (.cells #[ei 2, ei q] 78))
            have s1 : (0 : Int) ≤ (ys.length : Int) := by omega
            have s2 : (ys.length : Int) ≤ (ct : Int) := by omega
            have s3 : (0 : Int) ≤ (q : Int) := by omega
            have s4 : (q : Int) < 9 := by omega
            have hw1 : IntKind.i64.wrap ((ys.length : Int) + 1 - 1) = (ys.length : Int) := by rw [IntKind.wrap_i64]; omega
            have hw2 : IntKind.i64.wrap (ys.length : Int) = (ys.length : Int) := by rw [IntKind.wrap_i64]; omega
            have hz1 : ¬ (9223372036854775807 < Ta.length + O.length) := by omega
            have hz2 : ¬ (9223372036854775807 < AO.length + Tb.length) := by omega
            have hcw := cell_new wr #[ei 2, ei q] 78 _ rfl 1 (ei q) rfl
            go_wp2_with fail
            refine S1.out.mono ?_
            rintro r w1 ⟨rfl, rfl⟩
            clear S1
            go_wp2_with fail
            go_region_law ((first
              | (refine step_call (by rfl) 57 #[] (by go_simp) ?_; refine (HOPS.out _).mono ?_; rintro r w2 ⟨rfl, hu2, hlt2, hops⟩; have k1 : w2.cell? ⟨wr.heap.size + 1, q, none⟩ = some (es O) := (by simpa using hops); have k2 := hu2.keep hcw; have k3 : wr.heap.size + 1 < w2.heap.size := (by simpa using hlt2); have hu3 := ((Upd.refl [] (wr.alloc (.cells #[ei 2, ei q] 78))).drew).trans hu2; refine ⟨_, rfl, ?_⟩)
              | (refine step_append_lies _ (by rfl) _ _ 44 (by rfl) w.heap.size 9 i2 (.string ⟨#[]⟩) 1 16 Tryz.underlying44 ji jz0 jz1 jz2 rfl (by decide) (.slice (some ⟨g, 0, none⟩) ys.length ct) ys.length (txs ys) (by rfl) ((ownsRow_upd htr.out hu3).alloc _) ⟨w2.heap.size, 0, none⟩ 1 1 [es S] (by rfl) (by rfl) (by intro j u hj; rw [addr_add]; exact cell_new w2 #[es S] _ _ rfl _ _ (by simpa using hj)) (by simp [Value.oneCell']) (by decide) (by unfold maxLen; omega) (by omega) (by have h9 := hu3.size; have h8 := HUR.out.size; simp at h9 h8 ⊢; omega) (w2.heap.size + 1) (by simp) ?_; intro g3 cap3 w3 hown3 hg3 hat3 hlt3)))
            all_goals
              have ht2 := ownsRow_upd htr.out hu3
              have HL2 := Lib.hid (ownsRow_upd hlr.out hu3)
              have HU2 := Lib.hid (HUR.out.trans hu3)
              have hsz2 := HU2.out.size
              have ht3 : ∀ b, (Value.slice (some ⟨g3, 0, none⟩) (ys.length + 1) cap3).ownBlock = some b → (Value.slice (some ⟨g, 0, none⟩) ys.length ct).ownBlock = some b ∨ w2.heap.size + 1 ≤ b := (by
                intro b hb
                simp only [Value.ownBlock, Option.some.injEq] at hb
                subst hb
                rcases hat3 with h | h
                · exact Or.inl h
                · exact Or.inr (by omega))
              clear hat3 hlt3 hu3 hu2 hlt2 k1 k2 k3 hops d0 d1 d2 d3 hw1 hw2 hz1 hz2 hcat1 hcat2 s1 s2 s3 s4 hcw htr hlr HUR HOPS
              have hla := ownsRow_upd HL2.out ((Upd.refl [] w2).alloc (.cells #[es S] 9))
              have hl3 := Stk.levels (o := .cells #[ei own] 2) (tvc := Value.slice (some ⟨g, 0, none⟩) ys.length ct) hla HAP.out hg3
              have hU3 := (HU2.out.alloc (.cells #[es S] 9)).grown hg3 (fun b hb => Or.inl ((ht2.lt b hb).1))
              have hsz3 := hU3.size
              have HU3 := Lib.hid hU3
              have HLA := Lib.hid hla
              have HT3 := Lib.hid (show ∀ b, (Value.slice (some ⟨g3, 0, none⟩) (ys.length + 1) cap3).ownBlock = some b → (Value.slice (some ⟨g, 0, none⟩) ys.length ct).ownBlock = some b ∨ (w2.alloc (.cells #[es S] 9)).heap.size ≤ b from fun b hb => by have := ht3 b hb; simpa using this)
              have HO3 := Lib.hid hown3
              clear hg3 ht3 ht2 hown3 hla hU3
              go_wp2_with (first
                | (at_builtin; refine wpList_append_tight _ rfl _ _ 22 rfl w.heap.size 2 i1 (.int .i64 0) 1 8 Tryz.underlying22 ki kz0 kz1 kz2 rfl (by decide) _ _ _ rfl hl3 ⟨w3.heap.size, 0, none⟩ 1 1 [ei own] rfl rfl (fun j u hj => by rw [addr_add]; exact cell_new w3 #[ei own] _ _ rfl _ _ (by simpa using hj)) (by simp [Value.oneCell']) (by unfold maxLen; omega) (by omega) (by simp; omega) ?_)
                | fail)
              intro v4 w4 hown4 hg4 ht4
              have hS4 : Stk w w4 (Value.slice (some ⟨g3, 0, none⟩) (ys.length + 1) cap3) v4 (.mk (2, (q : Int)) [a, b] :: ys) := Stk.done HLA.out HAP.out (by rw [HTL.out.1]; exact HO3.out) HT3.out (by rw [HTL.out.2]; exact hown4) hg4 (fun b hb => by have := ht4 b hb; simpa using this)
              have hU4 := (HU3.out.alloc (.cells #[ei own] 2)).grown hg4 (fun b hb => Or.inl ((hl3.lt b hb).1))
              have HP := Lib.hid (And.intro hS4 hU4)
              clear hown4 hg4 ht4 hS4 hU4 hl3
              go_wp2_with fail
              go_roundw
              case rel => exact ⟨k, _, by omega, by go_num, HP.out.2, Lib.hid HP.out.1, Lib.hid ⟨HOK'.out, HFL.out, by have := HLE.out; simpa using this⟩⟩
              case measure => simp [intOf]
      · subst h
        have hA1 : (arity (3, t2)).toNat = 1 := by simp [arity]
        rw [hA1] at HLE HOK' HFL hA
        match xs, hA with
        | y :: ys, _ =>
        obtain ⟨g, ct', hv, m1, m2, -, mg, hcell⟩ := own_cells HST.out.t (by simp)
        simp only [Value.slice.injEq] at hv
        obtain ⟨rfl, -, rfl⟩ := hv
        obtain ⟨gl, cl', hv, ml1, ml2, -, mgl, hcl⟩ := own_cells HST.out.l (by simp)
        simp only [Value.slice.injEq] at hv
        obtain ⟨rfl, -, rfl⟩ := hv
        unfold maxLen at m2 ml2
        have htk := ownsRow_take HST.out.t ys.length (by simp only [List.length_cons]; omega)
        have hlk := ownsRow_take HST.out.l ys.length (by simp only [List.length_cons]; omega)
        rw [txs_cons, Nat.mul_one, List.take_left' (txs_len ys)] at htk
        rw [lvs_cons, Nat.mul_one, List.take_left' (lvs_len ys)] at hlk
        have hgy := HGS.out
        rw [goodEs_cons, Bool.and_eq_true] at hgy
        have hty := textE_len y hgy.1
        have hfy : (flatE y).length ≤ 60 := by
          have h9 := congrArg List.length HFL.out
          simp only [flatEs, flatE, List.length_append, List.length_cons, List.length_drop, List.take_succ_cons, List.take_zero, List.append_nil] at h9; omega
        have d0 : wr.cell? ⟨g, ys.length, none⟩ = some (es (textE y)) := by
          rw [hcell ys.length (by simp), txs_cons, List.getElem?_append_right (by rw [txs_len]; omega), txs_len]; simp
        have d1 : wr.cell? ⟨gl, ys.length, none⟩ = some (ei (lv7 y)) := by
          rw [hcl ys.length (by simp), lvs_cons, List.getElem?_append_right (by rw [lvs_len]; omega), lvs_len]; simp
        have hT : textE (.mk (3, t2) [y]) = [33] ++ par (isOp y) (textE y) := by simp [textE, textEs]
        have hL : lv7 (.mk (3, t2) [y]) = 6 := by simp [lv7]
        have HOK2 := Lib.hid (show okEs (.mk (3, t2) [y] :: ys) = true by simpa using HOK'.out)
        have HFL2 := Lib.hid (show flatEs (.mk (3, t2) [y] :: ys) = List.drop k e by simpa using HFL.out)
        have HLE2 := Lib.hid (show run 29 (List.take k e) 1 = some (((.mk (3, t2) [y] :: ys : List Ex).length : Nat) : Int) by simpa using HLE.out)
        have HAP := Lib.hid (show ∀ b, (Value.slice (some ⟨g, 0, none⟩) ys.length ct).ownBlock = some b → (Value.slice (some ⟨gl, 0, none⟩) ys.length cl).ownBlock ≠ some b from HST.out.apart)
        have HTK := Lib.hid htk
        have HLK := Lib.hid hlk
        have hop := lv7_op y
        rw [← hop] at hT
        simp only [List.length_cons] at m1 ml1 hxs
        clear HOK' HFL HLE HST hcell hcl htk hlk hgy hA1 hop hxl
        have HOK' := HOK2
        have HFL := HFL2
        have HLE := HLE2
        clear HOK2 HFL2 HLE2
        generalize lv7 y = ly at *
        have hty2 : (textE y).length ≤ 420 := by omega
        generalize textE y = T at *
        clear hty hfy
        by_cases hb : ly < 6
        · rw [decide_eq_true hb] at hT
          obtain ⟨Q, hQ⟩ : ∃ Q, Q = par true T := ⟨_, rfl⟩
          have hq1 : (ByteArray.mk #[40] ++ ByteArray.mk T.toArray ++ ByteArray.mk #[41]) = ByteArray.mk Q.toArray := by rw [hQ]; simp only [par, if_true, es_par]
          have hql := par_len true T
          rw [← hQ] at hT hql
          clear hQ
          obtain ⟨S, hS⟩ : ∃ S, S = [33] ++ Q := ⟨_, rfl⟩
          have hcat : (ByteArray.mk #[33] ++ ByteArray.mk Q.toArray) = ByteArray.mk S.toArray := by rw [hS, ← es_cat]
          rw [← hS] at hT
          have HTL := Lib.hid (And.intro hT hL)
          clear hT hS
          obtain ⟨w2, hw2⟩ : ∃ w2, w2 = wr.alloc (.cells #[ei 3, ei t2] 78) := ⟨_, rfl⟩
          have hu2 : Upd [] wr w2 := by rw [hw2]; exact (Upd.refl [] wr).alloc _
          have ht2 := ownsRow_upd HTK.out hu2
          have HL2 := Lib.hid (ownsRow_upd HLK.out hu2)
          have HU2 := Lib.hid (HU.out.trans hu2)
          have hsz2 := HU2.out.size
          subst hw2
          go_wp2_with (first
            | (at_builtin; refine wpList_append_tight _ rfl _ _ 44 rfl w.heap.size 9 i2 (.string ⟨#[]⟩) 1 16 Tryz.underlying44 ji jz0 jz1 jz2 rfl (by decide) _ _ _ rfl (ht2.alloc _) ⟨wr.heap.size + 1, 0, none⟩ 1 1 [es S] rfl rfl (fun j u hj => by rw [addr_add]; exact cell_new _ #[es S] _ _ (by simp) _ _ (by simpa using hj)) (by simp [Value.oneCell']) (by unfold maxLen; omega) (by omega) (by simp; omega) ?_)
            | fail)
          intro v3 w3 hown3 hg3 ht3
          have hla := ownsRow_upd HL2.out ((Upd.refl [] (wr.alloc (.cells #[ei 3, ei t2] 78))).alloc (.cells #[es S] 9))
          have hl3 := Stk.levels (o := .cells #[ei 6] 2) (tvc := Value.slice (some ⟨g, 0, none⟩) ys.length ct) hla HAP.out hg3
          have hU3 := (HU2.out.alloc (.cells #[es S] 9)).grown hg3 (fun b hb => Or.inl ((ht2.lt b hb).1))
          have hsz3 := hU3.size
          have HU3 := Lib.hid hU3
          have HLA := Lib.hid hla
          have HT3 := Lib.hid (show ∀ b, v3.ownBlock = some b → (Value.slice (some ⟨g, 0, none⟩) ys.length ct).ownBlock = some b ∨ ((wr.alloc (.cells #[ei 3, ei t2] 78)).alloc (.cells #[es S] 9)).heap.size ≤ b from fun b hb => by have := ht3 b hb; simpa using this)
          have HO3 := Lib.hid hown3
          clear hg3 ht3 ht2 hown3 hla hU3
          go_wp2_with (first
            | (at_builtin; refine wpList_append_tight _ rfl _ _ 22 rfl w.heap.size 2 i1 (.int .i64 0) 1 8 Tryz.underlying22 ki kz0 kz1 kz2 rfl (by decide) _ _ _ rfl hl3 ⟨w3.heap.size, 0, none⟩ 1 1 [ei 6] rfl rfl (fun j u hj => by rw [addr_add]; exact cell_new w3 #[ei 6] _ _ rfl _ _ (by simpa using hj)) (by simp [Value.oneCell']) (by unfold maxLen; omega) (by omega) (by simp; omega) ?_)
            | fail)
          intro v4 w4 hown4 hg4 ht4
          have hS4 : Stk w w4 v3 v4 (.mk (3, t2) [y] :: ys) := Stk.done HLA.out HAP.out (by rw [HTL.out.1]; exact HO3.out) HT3.out (by rw [HTL.out.2]; exact hown4) hg4 (fun b hb => by have := ht4 b hb; simpa using this)
          have hU4 := (HU3.out.alloc (.cells #[ei 6] 2)).grown hg4 (fun b hb => Or.inl ((hl3.lt b hb).1))
          have HP := Lib.hid (And.intro hS4 hU4)
          clear hown4 hg4 ht4 hS4 hU4 hl3
          go_wp2_with fail
          go_roundw
          case rel => exact ⟨k, _, by omega, by go_num, HP.out.2, Lib.hid HP.out.1, Lib.hid ⟨HOK'.out, HFL.out, by have := HLE.out; simpa using this⟩⟩
          case measure => simp [intOf]
        · rw [decide_eq_false hb] at hT
          obtain ⟨Q, hQ⟩ : ∃ Q, Q = par false T := ⟨_, rfl⟩
          have hq1 : T = Q := by rw [hQ]; rfl
          rw [← hQ] at hT
          subst hq1
          clear hQ
          obtain ⟨S, hS⟩ : ∃ S, S = [33] ++ T := ⟨_, rfl⟩
          have hcat : (ByteArray.mk #[33] ++ ByteArray.mk T.toArray) = ByteArray.mk S.toArray := by rw [hS, ← es_cat]
          rw [← hS] at hT
          have HTL := Lib.hid (And.intro hT hL)
          clear hT hS
          obtain ⟨w2, hw2⟩ : ∃ w2, w2 = wr.alloc (.cells #[ei 3, ei t2] 78) := ⟨_, rfl⟩
          have hu2 : Upd [] wr w2 := by rw [hw2]; exact (Upd.refl [] wr).alloc _
          have ht2 := ownsRow_upd HTK.out hu2
          have HL2 := Lib.hid (ownsRow_upd HLK.out hu2)
          have HU2 := Lib.hid (HU.out.trans hu2)
          have hsz2 := HU2.out.size
          subst hw2
          go_wp2_with (first
            | (at_builtin; refine wpList_append_tight _ rfl _ _ 44 rfl w.heap.size 9 i2 (.string ⟨#[]⟩) 1 16 Tryz.underlying44 ji jz0 jz1 jz2 rfl (by decide) _ _ _ rfl (ht2.alloc _) ⟨wr.heap.size + 1, 0, none⟩ 1 1 [es S] rfl rfl (fun j u hj => by rw [addr_add]; exact cell_new _ #[es S] _ _ (by simp) _ _ (by simpa using hj)) (by simp [Value.oneCell']) (by unfold maxLen; omega) (by omega) (by simp; omega) ?_)
            | fail)
          intro v3 w3 hown3 hg3 ht3
          have hla := ownsRow_upd HL2.out ((Upd.refl [] (wr.alloc (.cells #[ei 3, ei t2] 78))).alloc (.cells #[es S] 9))
          have hl3 := Stk.levels (o := .cells #[ei 6] 2) (tvc := Value.slice (some ⟨g, 0, none⟩) ys.length ct) hla HAP.out hg3
          have hU3 := (HU2.out.alloc (.cells #[es S] 9)).grown hg3 (fun b hb => Or.inl ((ht2.lt b hb).1))
          have hsz3 := hU3.size
          have HU3 := Lib.hid hU3
          have HLA := Lib.hid hla
          have HT3 := Lib.hid (show ∀ b, v3.ownBlock = some b → (Value.slice (some ⟨g, 0, none⟩) ys.length ct).ownBlock = some b ∨ ((wr.alloc (.cells #[ei 3, ei t2] 78)).alloc (.cells #[es S] 9)).heap.size ≤ b from fun b hb => by have := ht3 b hb; simpa using this)
          have HO3 := Lib.hid hown3
          clear hg3 ht3 ht2 hown3 hla hU3
          go_wp2_with (first
            | (at_builtin; refine wpList_append_tight _ rfl _ _ 22 rfl w.heap.size 2 i1 (.int .i64 0) 1 8 Tryz.underlying22 ki kz0 kz1 kz2 rfl (by decide) _ _ _ rfl hl3 ⟨w3.heap.size, 0, none⟩ 1 1 [ei 6] rfl rfl (fun j u hj => by rw [addr_add]; exact cell_new w3 #[ei 6] _ _ rfl _ _ (by simpa using hj)) (by simp [Value.oneCell']) (by unfold maxLen; omega) (by omega) (by simp; omega) ?_)
            | fail)
          intro v4 w4 hown4 hg4 ht4
          have hS4 : Stk w w4 v3 v4 (.mk (3, t2) [y] :: ys) := Stk.done HLA.out HAP.out (by rw [HTL.out.1]; exact HO3.out) HT3.out (by rw [HTL.out.2]; exact hown4) hg4 (fun b hb => by have := ht4 b hb; simpa using this)
          have hU4 := (HU3.out.alloc (.cells #[ei 6] 2)).grown hg4 (fun b hb => Or.inl ((hl3.lt b hb).1))
          have HP := Lib.hid (And.intro hS4 hU4)
          clear hown4 hg4 ht4 hS4 hU4 hl3
          go_wp2_with fail
          go_roundw
          case rel => exact ⟨k, _, by omega, by go_num, HP.out.2, Lib.hid HP.out.1, Lib.hid ⟨HOK'.out, HFL.out, by have := HLE.out; simpa using this⟩⟩
          case measure => simp [intOf]

end Go.Proofs.YtnfghgaadnobbaaGreatDoor
