/-
  Texts joined in one file: TextS, LtS, Cells, StkG, StkB, DfA, HarnS, Lib3, LabSp, LabI, LabE, ConE, IdxI, FirstP, Lib4, FunN, LtI, ExpM, Laid, OpenQ, OpenW.
-/
import Derived.Test.YtjelcjiofcoifaaGreatDoorZT1
import Derived.Deep.AppendLies
import Derived.Deep.RegionHeld3
import Derived.Deep.MidRow
import Derived.Test.YtjelcjiofcoifaaGreatDoorShelf
import Derived.Lib.SliceRun
import Derived.Lib.LaidTab
import Derived.Lib.LaidU8
import Derived.OpenShut
/-
  The text of an expression: what the reference's calls return.
-/
namespace Go.Proofs.YtjelcjiofcoifaaGreatDoor
open Go.RowKit

def lv7 : Ex → Int | .mk t _ => if t.1 = 2 then lvl t.2 else if t.1 = 3 then 6 else 7
theorem lvl_le (op : Int) : 0 ≤ lvl op ∧ lvl op ≤ 5 := by
  unfold lvl
  rw [List.getD_eq_getElem?_getD]
  generalize op.toNat = n
  match n with
  | 0 | 1 | 2 | 3 | 4 | 5 | 6 | 7 | 8 => simp
  | n + 9 => simp
theorem lv7_lt (x : Ex) (op : Int) : decide (lv7 x < lvl op) = decide (lvE x < lvl op) := by
  obtain ⟨t, args⟩ := x
  have := lvl_le op
  simp only [lv7, lvE]
  by_cases h2 : t.1 = 2
  · simp only [if_pos h2]
  · simp only [if_neg h2]
    by_cases h3 : t.1 = 3
    · simp only [if_pos h3]; rw [decide_eq_false (by omega), decide_eq_false (by omega)]
    · simp only [if_neg h3]; rw [decide_eq_false (by omega), decide_eq_false (by omega)]
theorem lv7_le (x : Ex) (op : Int) : decide (lv7 x ≤ lvl op) = decide (lvE x ≤ lvl op) := by
  obtain ⟨t, args⟩ := x
  have := lvl_le op
  simp only [lv7, lvE]
  by_cases h2 : t.1 = 2
  · simp only [if_pos h2]
  · simp only [if_neg h2]
    by_cases h3 : t.1 = 3
    · simp only [if_pos h3]; rw [decide_eq_false (by omega), decide_eq_false (by omega)]
    · simp only [if_neg h3]; rw [decide_eq_false (by omega), decide_eq_false (by omega)]
theorem lv7_op (x : Ex) : decide (lv7 x < 6) = isOp x := by
  obtain ⟨t, args⟩ := x
  have := lvl_le t.2
  simp only [lv7, isOp]
  by_cases h2 : t.1 = 2
  · simp only [if_pos h2]; rw [decide_eq_true (by omega), h2]; rfl
  · have h2' : (t.1 == 2) = false := by simpa using h2
    simp only [if_neg h2, h2']
    by_cases h3 : t.1 = 3
    · simp only [if_pos h3]; rfl
    · simp only [if_neg h3]; rfl
set_option maxRecDepth 20000 in
theorem l04LevelS (q : Nat) (hq : q < 9) (w : World) : Calls Tryz.prog 122 #[.int .i64 q] w fun e w' => e = .returned (ei (lvl q)) ∧ w = w' := by
  rcases (by omega : q = 0 ∨ q = 1 ∨ q = 2 ∨ q = 3 ∨ q = 4 ∨ q = 5 ∨ q = 6 ∨ q = 7 ∨ q = 8) with rfl | rfl | rfl | rfl | rfl | rfl | rfl | rfl | rfl
  all_goals
    go_enter Tryz.func122, Tryz.ntmps122
    go_wp2_with fail
    go_ret
    exact ⟨by simp [lvl], rfl⟩

set_option maxRecDepth 20000 in
theorem l04OpsS (w : World) : Calls Tryz.prog 123 #[] w fun e w' => e = .returned (.slice (some ⟨w.heap.size, 0, none⟩) 9 9) ∧ Upd [] w w' ∧ w.heap.size < w'.heap.size ∧ ∀ q : Nat, q < 9 → w'.cell? ⟨w.heap.size, q, none⟩ = some (es (opT q)) := by
  have hc := fun (q : Nat) (hq : q < 9) => cell_new w #[es [43], es [45], es [42], es [61], es [35], es [60], es [60, 61], es [38], es [124]] 9 _ rfl q (es (opT q)) (by
    rcases (by omega : q = 0 ∨ q = 1 ∨ q = 2 ∨ q = 3 ∨ q = 4 ∨ q = 5 ∨ q = 6 ∨ q = 7 ∨ q = 8) with rfl | rfl | rfl | rfl | rfl | rfl | rfl | rfl | rfl <;> simp [opT])
  have HC := Lib.hid hc
  clear hc
  go_enter Tryz.func123, Tryz.ntmps123
  go_wp2_with fail
  go_ret
  exact ⟨rfl, (Upd.refl _ _).alloc _, by simp, HC.out⟩

theorem l04OpsAt (q : Nat) (hq : q < 9) (w : World) : Calls Tryz.prog 123 #[] w fun e w' => e = .returned (.slice (some ⟨w.heap.size, 0, none⟩) 9 9) ∧ Upd [] w w' ∧ w.heap.size < w'.heap.size ∧ w'.cell? ⟨w.heap.size, q, none⟩ = some (es (opT q)) :=
  (l04OpsS w).mono fun _ _ ⟨h1, h2, h3, h4⟩ => ⟨h1, h2, h3, h4 q hq⟩

theorem ownsRow_grown {w w1 : World} {base : Nat} {e : TypeId} {size : Nat} {v : Value} {n : Nat} {xs : List Value} (h : w.ownsRow base e size v n xs) {row : Option Nat} (hg : w.grownBy w1 row) (hd : ∀ b, v.ownBlock = some b → row ≠ some b) : w1.ownsRow base e size v n xs := by
  refine h.kept (row := row) hg ?_
  cases hv : v.ownBlock with
  | none => exact Or.inl rfl
  | some b => exact Or.inr (fun e => hd b hv e.symm)

theorem own_cells {w : World} {base : Nat} {e : TypeId} {v : Value} {n : Nat} {xs : List Value} (h : w.ownsRow base e 1 v n xs) (h0 : 0 < n) :
    ∃ g cap, v = .slice (some ⟨g, 0, none⟩) n cap ∧ n ≤ cap ∧ cap ≤ maxLen ∧ base ≤ g ∧ g < w.heap.size ∧ ∀ j, j < n → w.cell? ⟨g, j, none⟩ = xs[j]? := by
  have h' := h
  rcases h.2 with ⟨-, h1⟩ | ⟨g, cap, cur, rfl, hb, hh, q1, q2, q3, q4⟩
  · omega
  · exact ⟨g, cap, rfl, q1, q2, hb, (Array.getElem?_eq_some_iff.1 hh).1, fun j hj => h'.cellAt j (by omega)⟩

theorem forest_le : ∀ xs : List Ex, xs.length ≤ (flatEs xs).length
  | [] => by simp
  | x :: xs => by simp only [flatEs, List.length_append, List.length_cons]; have := flatE_pos x; have := forest_le xs; omega

/-- what stands on the reference's stacks: the forest of the terms from k on. -/
def QT (e : List Tm) (k : Nat) (xs : List Ex) : Prop := okEs xs = true ∧ flatEs xs = e.drop k ∧ run 29 (e.take k) 1 = some (xs.length : Int)
def txs (xs : List Ex) : List Value := xs.reverse.map fun x => es (textE x)
def lvs (xs : List Ex) : List Value := xs.reverse.map fun x => ei (lv7 x)
theorem txs_cons (x : Ex) (xs : List Ex) : txs (x :: xs) = txs xs ++ [es (textE x)] := by simp [txs]
theorem lvs_cons (x : Ex) (xs : List Ex) : lvs (x :: xs) = lvs xs ++ [ei (lv7 x)] := by simp [lvs]
theorem txs_len (xs : List Ex) : (txs xs).length = xs.length := by simp [txs]
theorem lvs_len (xs : List Ex) : (lvs xs).length = xs.length := by simp [lvs]

/-- the two stacks, apart. -/
structure Stk (w0 w : World) (tv lv : Value) (xs : List Ex) : Prop where
  t : w.ownsRow w0.heap.size 9 1 tv xs.length (txs xs)
  l : w.ownsRow w0.heap.size 2 1 lv xs.length (lvs xs)
  apart : ∀ b, tv.ownBlock = some b → lv.ownBlock ≠ some b

theorem Stk.done {w0 wA w3 w4 : World} {tvc lvc tv' lv' : Value} {ys : List Ex} {x : Ex} {o : Obj} (hl : wA.ownsRow w0.heap.size 2 1 lvc ys.length (lvs ys))
    (hap : ∀ b, tvc.ownBlock = some b → lvc.ownBlock ≠ some b) (h3 : w3.ownsRow w0.heap.size 9 1 tv' (ys.length + 1) (txs ys ++ [es (textE x)])) (ht3 : ∀ b, tv'.ownBlock = some b → tvc.ownBlock = some b ∨ wA.heap.size ≤ b)
    (h4 : w4.ownsRow w0.heap.size 2 1 lv' (ys.length + 1) (lvs ys ++ [ei (lv7 x)])) (hg4 : (w3.alloc o).grownBy w4 lvc.ownBlock) (ht4 : ∀ b, lv'.ownBlock = some b → lvc.ownBlock = some b ∨ (w3.alloc o).heap.size ≤ b) : Stk w0 w4 tv' lv' (x :: ys) := by
  have hd : ∀ b, tv'.ownBlock = some b → lvc.ownBlock ≠ some b := by
    intro b hb hlb
    rcases ht3 b hb with h | h
    · exact hap b h hlb
    · have := (hl.lt b hlb).2; omega
  refine ⟨?_, by rw [lvs_cons]; simpa using h4, ?_⟩
  · rw [txs_cons]
    exact ownsRow_grown (ownsRow_upd (by simpa using h3) ((Upd.refl [] _).alloc o)) hg4 hd
  · intro b hb hlb
    rcases ht4 b hlb with h | h
    · exact hd b hb h
    · have := (h3.lt b hb).2; simp at h; omega

theorem Stk.levels {w0 wA w3 : World} {tvc lvc : Value} {ys : List Ex} {o : Obj} (hl : wA.ownsRow w0.heap.size 2 1 lvc ys.length (lvs ys))
    (hap : ∀ b, tvc.ownBlock = some b → lvc.ownBlock ≠ some b) (hg3 : wA.grownBy w3 tvc.ownBlock) : (w3.alloc o).ownsRow w0.heap.size 2 1 lvc ys.length (lvs ys) :=
  ownsRow_upd (ownsRow_grown hl hg3 (fun b hb h => hap b h hb)) ((Upd.refl [] _).alloc o)

theorem Tryz.infoStr : (Tryz.prog.info? 9).map (fun i => (i.zero, i.size, i.bytes)) = some (some (.string ⟨#[]⟩), 1, 16) := by kernel_rfl

set_option maxRecDepth 20000 in
set_option maxHeartbeats 8000000 in
theorem l04TextS (x : Ex) (v : Value) (w : World) (fp : List Nat) (hok : okE x = true) (he : eOk (flatE x) = true) (hg : goodE 29 x = true) (hlen : (flatE x).length ≤ 60) (hR : R_T1 fp w [v] (flatE x)) :
    Calls Tryz.prog 86 #[v] w fun r w' => r = .returned (es (textE x)) ∧ Upd [] w w' := by
  obtain ⟨i1, ki, kz0, kz1, kz2⟩ := info_parts Tryz.info2
  obtain ⟨i2, ji, jz0, jz1, jz2⟩ := info_parts Tryz.infoStr
  obtain ⟨a1, c1, rfl, hl1, hm1, hc1⟩ := slF2_open hR
  unfold maxLen at hm1
  have HOK := Lib.hid hok
  have HE := Lib.hid he
  have HALL := Lib.hid (show ∀ t ∈ flatE x, tOk t 29 = true by unfold goodE at hg; rw [Bool.and_eq_true, List.all_eq_true] at hg; exact hg.2)
  have HX := Lib.hid (show ∀ y, okE y = true → flatE y = flatE x → y = x from fun y h1 h2 => tree_inj h1 hok h2)
  generalize flatE x = e at *
  have hQ0 : Hid (QT e e.length []) := Lib.hid ⟨rfl, by simp [flatEs], forest_start he⟩
  have HL0 := Lib.hid (fun (w : World) (T : TypeId) => World.ownsRow_lit (base := w.heap.size) (e := T) (size := 1) w #[] 0 (Nat.le_refl _) (by simp [maxLen]) (by simp))
  clear hok he hg hR
  go_enter Tryz.func86, Tryz.ntmps86
  go_wp2_with fail
  go_loopw [3, 4, 5] (fun tv lv iv wr => ∃ (k : Nat) (xs : List Ex), k ≤ e.length ∧ iv = .int .i64 ((k : Int) - 1) ∧ Upd [] w wr ∧ Hid (Stk w wr tv lv xs) ∧ Hid (QT e k xs)) (fun _ _ iv _ => (intOf iv + 1).toNat)
  case atStart =>
    refine ⟨e.length, [], Nat.le_refl _, rfl, ((Upd.refl _ _).alloc _).alloc _, Lib.hid ⟨?_, ?_, ?_⟩, hQ0⟩
    · simpa [txs] using ownsRow_upd (HL0.out w 9) ((Upd.refl [] _).alloc _)
    · have := World.ownsRow_lit (base := w.heap.size) (e := 2) (size := 1) (w.alloc (.cells #[] 9)) #[] 0 (by simp) (by simp [maxLen]) (by simp)
      simpa [lvs] using this
    · intro b hb hb2
      simp [Value.ownBlock] at hb hb2
      omega
  case round =>
    clear HL0 hQ0
    obtain ⟨k, xs, hk, rfl, hU, hS, hQ⟩ := hrel
    obtain ⟨at', ct, hvt⟩ := ownsRow_form hS.out.t
    obtain ⟨al', cl, hvl⟩ := ownsRow_form hS.out.l
    subst hvt hvl
    match k, hk, hQ with
    | 0, hk, hQ =>
      obtain ⟨y, rfl⟩ := forest_end hQ.out.2.2
      have hy : y = x := by
        have h1 := hQ.out.1
        have h2 := hQ.out.2.1
        simp [okEs] at h1
        simp [flatEs] at h2
        exact HX.out y h1 h2
      subst hy
      obtain ⟨g, cap, hv, m1, m2, -, -, hcell⟩ := own_cells hS.out.t (by simp)
      simp only [Value.slice.injEq] at hv
      obtain ⟨rfl, -, rfl⟩ := hv
      have hc0 : wr.cell? ⟨g, 0, none⟩ = some (es (textE y)) := by have := hcell 0 (by simp); simpa [txs] using this
      have HU := Lib.hid hU
      simp only [List.length_cons, List.length_nil, Nat.zero_add] at m1 m2 ⊢
      unfold maxLen at m2
      clear hS hQ hU hcell hc1
      go_wp2_with fail
      go_ret
      exact ⟨rfl, HU.out⟩
    | k + 1, hk, hQ =>
      obtain ⟨b1, o1, rfl, -, -, p1, p2⟩ := hc1 k (by omega)
      have p1 := hU.keep p1
      have p2 := hU.keep p2
      obtain ⟨htok, hA, hlen', hok', hfl'⟩ := forest_step HE.out k (by omega) xs hQ.out.1 hQ.out.2.1 hQ.out.2.2
      have htx := txs_len xs
      have hxl := forest_le xs
      have hfl : (flatEs xs).length ≤ 60 := by rw [hQ.out.2.1, List.length_drop]; omega
      have hgs : goodEs 29 xs = true := by
        unfold goodEs
        rw [Bool.and_eq_true, List.all_eq_true]
        refine ⟨hQ.out.1, fun t ht => HALL.out t ?_⟩
        rw [hQ.out.2.1] at ht
        exact List.mem_of_mem_drop ht
      have HGS := Lib.hid hgs
      generalize hek : e[k] = t at *
      obtain ⟨t1, t2⟩ := t
      have HTOK := Lib.hid htok
      have HLE := Lib.hid hlen'
      have HOK' := Lib.hid hok'
      have HFL := Lib.hid hfl'
      have HU := Lib.hid hU
      have hsz := hU.size
      have HST := Lib.hid hS.out
      have hxs : xs.length ≤ 60 := by omega
      clear hc1 hQ hlen' hok' hfl' hek hU hS htok htx hgs hfl
      rcases tOk_kind HTOK.out with h | h | h | h
      · subst h
        have htok := HTOK.out
        simp [tOk] at htok
        have hb := inB_true htok
        obtain ⟨q, rfl⟩ : ∃ q : Nat, t2 = q := ⟨t2.toNat, by omega⟩
        have hA0 : (arity (0, (q : Int))).toNat = 0 := by simp [arity]
        rw [hA0] at HLE HOK' HFL
        simp only [List.take_zero, List.drop_zero, Nat.sub_zero] at HLE HOK' HFL
        have hT : textE (.mk (0, (q : Int)) []) = Lib.itoa q := by simp [textE]
        have hL : lv7 (.mk (0, (q : Int)) []) = 7 := by simp [lv7]
        have S1 := Lib.hid (l01DecP q (wr.alloc (.cells #[ei 0, ei q] 170)) (by omega))
        have hil := itoa_small (n := q) (by omega) (by omega)
        generalize Lib.itoa (q : Int) = T at *
        have HTL := Lib.hid (And.intro hT hL)
        have HAP := Lib.hid HST.out.apart
        clear htok hA0 hT hL
        go_wp2_with fail
        refine S1.out.mono ?_
        rintro r w2 ⟨rfl, hu2⟩
        have hu2' := (HU.out.alloc (.cells #[ei 0, ei q] 170)).trans hu2
        have ht2 := (ownsRow_upd (ownsRow_upd HST.out.t ((Upd.refl [] _).alloc (.cells #[ei 0, ei q] 170))) hu2)
        have hl2 := (ownsRow_upd (ownsRow_upd HST.out.l ((Upd.refl [] _).alloc (.cells #[ei 0, ei q] 170))) hu2)
        have HU2 := Lib.hid hu2'
        have hsz2 := hu2'.size
        have HL2 := Lib.hid hl2
        clear S1 hu2 hu2' hl2
        go_wp2_with (first
          | (at_builtin; refine wpList_append_tight _ rfl _ _ 31 rfl w.heap.size 9 i2 (.string ⟨#[]⟩) 1 16 Tryz.underlying31 ji jz0 jz1 jz2 rfl (by decide) _ _ _ rfl (ht2.alloc _) ⟨w2.heap.size, 0, none⟩ 1 1 [es T] rfl rfl (fun j u hj => by rw [addr_add]; exact cell_new w2 #[es T] _ _ rfl _ _ (by simpa using hj)) (by simp [Value.oneCell']) (by unfold maxLen; omega) (by omega) (by simp; omega) ?_)
          | fail)
        intro v3 w3 hown3 hg3 ht3
        have hla := ownsRow_upd HL2.out ((Upd.refl [] w2).alloc (.cells #[es T] 9))
        have hl3 := Stk.levels (o := .cells #[ei 7] 2) (tvc := Value.slice at' xs.length ct) hla HAP.out hg3
        have hU3 := (HU2.out.alloc (.cells #[es T] 9)).grown hg3 (fun b hb => Or.inl ((ht2.lt b hb).1))
        have hsz3 := hU3.size
        have HU3 := Lib.hid hU3
        have HLA := Lib.hid hla
        have HT3 := Lib.hid (show ∀ b, v3.ownBlock = some b → (Value.slice at' xs.length ct).ownBlock = some b ∨ (w2.alloc (.cells #[es T] 9)).heap.size ≤ b from fun b hb => by have := ht3 b hb; simpa using this)
        have HO3 := Lib.hid hown3
        clear hg3 ht3 ht2 hown3 hla hU3
        go_wp2_with (first
          | (at_builtin; refine wpList_append_tight _ rfl _ _ 95 rfl w.heap.size 2 i1 (.int .i64 0) 1 8 Tryz.underlying95 ki kz0 kz1 kz2 rfl (by decide) _ _ _ rfl hl3 ⟨w3.heap.size, 0, none⟩ 1 1 [ei 7] rfl rfl (fun j u hj => by rw [addr_add]; exact cell_new w3 #[ei 7] _ _ rfl _ _ (by simpa using hj)) (by simp [Value.oneCell']) (by unfold maxLen; omega) (by omega) (by simp; omega) ?_)
          | fail)
        intro v4 w4 hown4 hg4 ht4
        have hS4 : Stk w w4 v3 v4 (.mk (0, (q : Int)) [] :: xs) := Stk.done HLA.out HAP.out (by rw [HTL.out.1]; exact HO3.out) HT3.out (by rw [HTL.out.2]; exact hown4) hg4 (fun b hb => by have := ht4 b hb; simpa using this)
        have hU4 := (HU3.out.alloc (.cells #[ei 7] 2)).grown hg4 (fun b hb => Or.inl ((hl3.lt b hb).1))
        have HP := Lib.hid (And.intro hS4 hU4)
        clear hown4 hg4 ht4 hS4 hU4 hl3
        go_wp2_with fail
        go_roundw
        case rel => exact ⟨k, _, by omega, by go_num, HP.out.2, Lib.hid HP.out.1, Lib.hid ⟨HOK'.out, HFL.out, by have := HLE.out; simpa using this⟩⟩
        case measure => simp [intOf]
      · subst h
        have htok := HTOK.out
        simp [tOk] at htok
        have hb := inB_true htok
        obtain ⟨q, rfl⟩ : ∃ q : Nat, t2 = q := ⟨t2.toNat, by omega⟩
        have hA0 : (arity (1, (q : Int))).toNat = 0 := by simp [arity]
        rw [hA0] at HLE HOK' HFL
        simp only [List.take_zero, List.drop_zero, Nat.sub_zero] at HLE HOK' HFL
        have hT : textE (.mk (1, (q : Int)) []) = [118] ++ Lib.itoa q := by simp [textE]
        have hL : lv7 (.mk (1, (q : Int)) []) = 7 := by simp [lv7]
        have S1 := Lib.hid (l01DecP q (wr.alloc (.cells #[ei 1, ei q] 170)) (by omega))
        have hil := itoa_small (n := q) (by omega) (by omega)
        generalize Lib.itoa (q : Int) = T at *
        obtain ⟨S, hS⟩ : ∃ S, S = [118] ++ T := ⟨_, rfl⟩
        have hcat : (ByteArray.mk #[118] ++ ByteArray.mk T.toArray) = ByteArray.mk S.toArray := by rw [hS, ← es_cat]
        rw [← hS] at hT
        clear hS
        have HTL := Lib.hid (And.intro hT hL)
        have HAP := Lib.hid HST.out.apart
        clear htok hA0 hT hL
        go_wp2_with fail
        refine S1.out.mono ?_
        rintro r w2 ⟨rfl, hu2⟩
        have hu2' := (HU.out.alloc (.cells #[ei 1, ei q] 170)).trans hu2
        have ht2 := (ownsRow_upd (ownsRow_upd HST.out.t ((Upd.refl [] _).alloc (.cells #[ei 1, ei q] 170))) hu2)
        have hl2 := (ownsRow_upd (ownsRow_upd HST.out.l ((Upd.refl [] _).alloc (.cells #[ei 1, ei q] 170))) hu2)
        have HU2 := Lib.hid hu2'
        have hsz2 := hu2'.size
        have HL2 := Lib.hid hl2
        clear S1 hu2 hu2' hl2
        go_wp2_with (first
          | (at_builtin; refine wpList_append_tight _ rfl _ _ 31 rfl w.heap.size 9 i2 (.string ⟨#[]⟩) 1 16 Tryz.underlying31 ji jz0 jz1 jz2 rfl (by decide) _ _ _ rfl (ht2.alloc _) ⟨w2.heap.size, 0, none⟩ 1 1 [es S] rfl rfl (fun j u hj => by rw [addr_add]; exact cell_new w2 #[es S] _ _ rfl _ _ (by simpa using hj)) (by simp [Value.oneCell']) (by unfold maxLen; omega) (by omega) (by simp; omega) ?_)
          | fail)
        intro v3 w3 hown3 hg3 ht3
        have hla := ownsRow_upd HL2.out ((Upd.refl [] w2).alloc (.cells #[es S] 9))
        have hl3 := Stk.levels (o := .cells #[ei 7] 2) (tvc := Value.slice at' xs.length ct) hla HAP.out hg3
        have hU3 := (HU2.out.alloc (.cells #[es S] 9)).grown hg3 (fun b hb => Or.inl ((ht2.lt b hb).1))
        have hsz3 := hU3.size
        have HU3 := Lib.hid hU3
        have HLA := Lib.hid hla
        have HT3 := Lib.hid (show ∀ b, v3.ownBlock = some b → (Value.slice at' xs.length ct).ownBlock = some b ∨ (w2.alloc (.cells #[es S] 9)).heap.size ≤ b from fun b hb => by have := ht3 b hb; simpa using this)
        have HO3 := Lib.hid hown3
        clear hg3 ht3 ht2 hown3 hla hU3
        go_wp2_with (first
          | (at_builtin; refine wpList_append_tight _ rfl _ _ 95 rfl w.heap.size 2 i1 (.int .i64 0) 1 8 Tryz.underlying95 ki kz0 kz1 kz2 rfl (by decide) _ _ _ rfl hl3 ⟨w3.heap.size, 0, none⟩ 1 1 [ei 7] rfl rfl (fun j u hj => by rw [addr_add]; exact cell_new w3 #[ei 7] _ _ rfl _ _ (by simpa using hj)) (by simp [Value.oneCell']) (by unfold maxLen; omega) (by omega) (by simp; omega) ?_)
          | fail)
        intro v4 w4 hown4 hg4 ht4
        have hS4 : Stk w w4 v3 v4 (.mk (1, (q : Int)) [] :: xs) := Stk.done HLA.out HAP.out (by rw [HTL.out.1]; exact HO3.out) HT3.out (by rw [HTL.out.2]; exact hown4) hg4 (fun b hb => by have := ht4 b hb; simpa using this)
        have hU4 := (HU3.out.alloc (.cells #[ei 7] 2)).grown hg4 (fun b hb => Or.inl ((hl3.lt b hb).1))
        have HP := Lib.hid (And.intro hS4 hU4)
        clear hown4 hg4 ht4 hS4 hU4 hl3
        go_wp2_with fail
        go_roundw
        case rel => exact ⟨k, _, by omega, by go_num, HP.out.2, Lib.hid HP.out.1, Lib.hid ⟨HOK'.out, HFL.out, by have := HLE.out; simpa using this⟩⟩
        case measure => simp [intOf]
      · subst h
        have htok := HTOK.out
        simp [tOk] at htok
        have hbq := inB_true htok
        obtain ⟨q, rfl⟩ : ∃ q : Nat, t2 = q := ⟨t2.toNat, by omega⟩
        have hq : q < 9 := by omega
        have hA1 : (arity (2, (q : Int))).toNat = 2 := by simp [arity]
        rw [hA1] at HLE HOK' HFL hA
        match xs, hA with
        | a :: b :: ys, _ =>
        obtain ⟨g, ct', hv, m1, m2, -, mg, hcell⟩ := own_cells HST.out.t (by simp)
        simp only [Value.slice.injEq] at hv
        obtain ⟨rfl, -, rfl⟩ := hv
        obtain ⟨gl, cl', hv, ml1, ml2, -, mgl, hcl⟩ := own_cells HST.out.l (by simp)
        simp only [Value.slice.injEq] at hv
        obtain ⟨rfl, -, rfl⟩ := hv
        unfold maxLen at m2 ml2
        have htk := ownsRow_take HST.out.t ys.length (by simp only [List.length_cons]; omega)
        have hlk := ownsRow_take HST.out.l ys.length (by simp only [List.length_cons]; omega)
        have htxs : (txs (a :: b :: ys)).take (ys.length * 1) = txs ys := by rw [txs_cons, txs_cons, List.append_assoc, Nat.mul_one]; exact List.take_left' (txs_len ys)
        have hlvs : (lvs (a :: b :: ys)).take (ys.length * 1) = lvs ys := by rw [lvs_cons, lvs_cons, List.append_assoc, Nat.mul_one]; exact List.take_left' (lvs_len ys)
        rw [htxs] at htk
        rw [hlvs] at hlk
        have hgy := HGS.out
        rw [goodEs_cons, goodEs_cons, Bool.and_eq_true, Bool.and_eq_true] at hgy
        have hta := textE_len a hgy.1
        have htb := textE_len b hgy.2.1
        have hfab : (flatE a).length ≤ 60 ∧ (flatE b).length ≤ 60 := by
          have h9 := congrArg List.length HFL.out
          simp only [flatEs, flatE, List.length_append, List.length_cons, List.length_drop, List.take_succ_cons, List.take_zero, List.append_nil] at h9; omega
        have d0 : wr.cell? ⟨g, ys.length + 1, none⟩ = some (es (textE a)) := by
          rw [hcell (ys.length + 1) (by simp), txs_cons, List.getElem?_append_right (by rw [txs_len]; simp), txs_len]; simp
        have d1 : wr.cell? ⟨gl, ys.length + 1, none⟩ = some (ei (lv7 a)) := by
          rw [hcl (ys.length + 1) (by simp), lvs_cons, List.getElem?_append_right (by rw [lvs_len]; simp), lvs_len]; simp
        have d2 : wr.cell? ⟨g, ys.length, none⟩ = some (es (textE b)) := by
          rw [hcell ys.length (by simp; omega), txs_cons, txs_cons, List.append_assoc, List.getElem?_append_right (by rw [txs_len]; omega), txs_len]; simp
        have d3 : wr.cell? ⟨gl, ys.length, none⟩ = some (ei (lv7 b)) := by
          rw [hcl ys.length (by simp; omega), lvs_cons, lvs_cons, List.append_assoc, List.getElem?_append_right (by rw [lvs_len]; omega), lvs_len]; simp
        have hT : textE (.mk (2, (q : Int)) [a, b]) = (par (decide (lvE a < lvl q)) (textE a) ++ opT q) ++ par (decide (lvE b ≤ lvl q)) (textE b) := by simp [textE, textEs]
        have hL : lv7 (.mk (2, (q : Int)) [a, b]) = lvl q := by simp [lv7]
        have HOK2 := Lib.hid (show okEs (.mk (2, (q : Int)) [a, b] :: ys) = true by simpa using HOK'.out)
        have HFL2 := Lib.hid (show flatEs (.mk (2, (q : Int)) [a, b] :: ys) = List.drop k e by simpa using HFL.out)
        have HLE2 := Lib.hid (show run 29 (List.take k e) 1 = some (((.mk (2, (q : Int)) [a, b] :: ys : List Ex).length : Nat) : Int) by simpa using HLE.out)
        have HAP := Lib.hid (show ∀ b, (Value.slice (some ⟨g, 0, none⟩) ys.length ct).ownBlock = some b → (Value.slice (some ⟨gl, 0, none⟩) ys.length cl).ownBlock ≠ some b from HST.out.apart)
        have HTK := Lib.hid htk
        have HLK := Lib.hid hlk
        rw [← lv7_lt a, ← lv7_le b] at hT
        have hOl := opT_len q
        have S1 := Lib.hid (l04LevelS q hq (wr.alloc (.cells #[ei 2, ei q] 170)))
        simp only [List.length_cons] at m1 ml1 hxs
        clear HOK' HFL HLE HST hcell hcl htk hlk hgy hA1 hxl htxs hlvs htok
        have HOK' := HOK2
        have HFL := HFL2
        have HLE := HLE2
        clear HOK2 HFL2 HLE2
        have hal := hfab.1
        have hbl := hfab.2
        have hta2 : (textE a).length ≤ 420 := by omega
        have htb2 : (textE b).length ≤ 420 := by omega
        clear hta htb hfab hal hbl
        have HOPS := Lib.hid (fun (w : World) => l04OpsAt q hq w)
        generalize lvl q = own at *
        generalize lv7 a = la at *
        generalize lv7 b = lb at *
        generalize textE a = Ta at *
        generalize textE b = Tb at *
        generalize opT q = O at *
        by_cases hba : la < own
        · rw [decide_eq_true hba] at hT
          by_cases hbb : lb ≤ own
          · rw [decide_eq_true hbb] at hT
            obtain ⟨A, hQ⟩ : ∃ A, A = par true Ta := ⟨_, rfl⟩
            have hqa : (ByteArray.mk #[40] ++ ByteArray.mk Ta.toArray ++ ByteArray.mk #[41]) = ByteArray.mk A.toArray := by rw [hQ]; simp only [par, if_true, es_par]
            have hqal := par_len true Ta
            rw [← hQ] at hT hqal
            clear hQ
            obtain ⟨B, hQ⟩ : ∃ B, B = par true Tb := ⟨_, rfl⟩
            have hqb : (ByteArray.mk #[40] ++ ByteArray.mk Tb.toArray ++ ByteArray.mk #[41]) = ByteArray.mk B.toArray := by rw [hQ]; simp only [par, if_true, es_par]
            have hqbl := par_len true Tb
            rw [← hQ] at hT hqbl
            clear hQ
            obtain ⟨AO, hAO⟩ : ∃ AO, AO = A ++ O := ⟨_, rfl⟩
            have hcat1 : (ByteArray.mk A.toArray ++ ByteArray.mk O.toArray) = ByteArray.mk AO.toArray := by rw [hAO, ← es_cat]
            have haol : AO.length ≤ 500 := by rw [hAO, List.length_append]; omega
            rw [← hAO] at hT
            obtain ⟨S, hS⟩ : ∃ S, S = AO ++ B := ⟨_, rfl⟩
            have hcat2 : (ByteArray.mk AO.toArray ++ ByteArray.mk B.toArray) = ByteArray.mk S.toArray := by rw [hS, ← es_cat]
            rw [← hS] at hT
            have HTL := Lib.hid (And.intro hT hL)
            have hAl : A.length ≤ 500 := by omega
            have hBl : B.length ≤ 500 := by omega
            clear hT hS hAO
            have htr := Lib.hid (ownsRow_upd HTK.out ((Upd.refl [] wr).alloc (.cells #[ei 2, ei q] 170)))
            have hlr := Lib.hid (ownsRow_upd HLK.out ((Upd.refl [] wr).alloc (.cells #[ei 2, ei q] 170)))
            have HUR := Lib.hid (HU.out.alloc (.cells #[ei 2, ei q] 170))
            have s1 : (0 : Int) ≤ (ys.length : Int) := by omega
            have s2 : (ys.length : Int) ≤ (ct : Int) := by omega
            have s3 : (0 : Int) ≤ (q : Int) := by omega
            have s4 : (q : Int) < 9 := by omega
            have hw1 : IntKind.i64.wrap ((ys.length : Int) + 1 - 1) = (ys.length : Int) := by rw [IntKind.wrap_i64]; omega
            have hw2 : IntKind.i64.wrap (ys.length : Int) = (ys.length : Int) := by rw [IntKind.wrap_i64]; omega
            have hz1 : ¬ (9223372036854775807 < A.length + O.length) := by omega
            have hz2 : ¬ (9223372036854775807 < AO.length + B.length) := by omega
            have hcw := cell_new wr #[ei 2, ei q] 170 _ rfl 1 (ei q) rfl
            go_wp2_with fail
            refine S1.out.mono ?_
            rintro r w1 ⟨rfl, rfl⟩
            clear S1
            go_wp2_with fail
            go_region_law ((first
              | (refine step_call (by rfl) 123 #[] (by go_simp) ?_; refine (HOPS.out _).mono ?_; rintro r w2 ⟨rfl, hu2, hlt2, hops⟩; have k1 : w2.cell? ⟨wr.heap.size + 1, q, none⟩ = some (es O) := (by simpa using hops); have k2 := hu2.keep hcw; have k3 : wr.heap.size + 1 < w2.heap.size := (by simpa using hlt2); have hu3 := ((Upd.refl [] (wr.alloc (.cells #[ei 2, ei q] 170))).drew).trans hu2; refine ⟨_, rfl, ?_⟩)
              | (refine step_append_lies _ (by rfl) _ _ 31 (by rfl) w.heap.size 9 i2 (.string ⟨#[]⟩) 1 16 Tryz.underlying31 ji jz0 jz1 jz2 rfl (by decide) (.slice (some ⟨g, 0, none⟩) ys.length ct) ys.length (txs ys) (by rfl) ((ownsRow_upd htr.out hu3).alloc _) ⟨w2.heap.size, 0, none⟩ 1 1 [es S] (by rfl) (by rfl) (by intro j u hj; rw [addr_add]; exact cell_new w2 #[es S] _ _ rfl _ _ (by simpa using hj)) (by simp [Value.oneCell']) (by decide) (by unfold maxLen; omega) (by omega) (by have h9 := hu3.size; have h8 := HUR.out.size; simp at h9 h8 ⊢; omega) (w2.heap.size + 1) (by simp) ?_; intro g3 cap3 w3 hown3 hg3 hat3 hlt3)))
            all_goals
              have ht2 := ownsRow_upd htr.out hu3
              have HL2 := Lib.hid (ownsRow_upd hlr.out hu3)
              have HU2 := Lib.hid (HUR.out.trans hu3)
              have hsz2 := HU2.out.size
              have ht3 : ∀ b, (Value.slice (some ⟨g3, 0, none⟩) (ys.length + 1) cap3).ownBlock = some b → (Value.slice (some ⟨g, 0, none⟩) ys.length ct).ownBlock = some b ∨ w2.heap.size + 1 ≤ b := (by
                intro b hb
                simp only [Value.ownBlock, Option.some.injEq] at hb
                subst hb
                rcases hat3 with h | h
                · exact Or.inl h
                · exact Or.inr (by omega))
              clear hat3 hlt3 hu3 hu2 hlt2 k1 k2 k3 hops d0 d1 d2 d3 hw1 hw2 hz1 hz2 hcat1 hcat2 s1 s2 s3 s4 hcw htr hlr HUR HOPS
              have hla := ownsRow_upd HL2.out ((Upd.refl [] w2).alloc (.cells #[es S] 9))
              have hl3 := Stk.levels (o := .cells #[ei own] 2) (tvc := Value.slice (some ⟨g, 0, none⟩) ys.length ct) hla HAP.out hg3
              have hU3 := (HU2.out.alloc (.cells #[es S] 9)).grown hg3 (fun b hb => Or.inl ((ht2.lt b hb).1))
              have hsz3 := hU3.size
              have HU3 := Lib.hid hU3
              have HLA := Lib.hid hla
              have HT3 := Lib.hid (show ∀ b, (Value.slice (some ⟨g3, 0, none⟩) (ys.length + 1) cap3).ownBlock = some b → (Value.slice (some ⟨g, 0, none⟩) ys.length ct).ownBlock = some b ∨ (w2.alloc (.cells #[es S] 9)).heap.size ≤ b from fun b hb => by have := ht3 b hb; simpa using this)
              have HO3 := Lib.hid hown3
              clear hg3 ht3 ht2 hown3 hla hU3
              go_wp2_with (first
                | (at_builtin; refine wpList_append_tight _ rfl _ _ 95 rfl w.heap.size 2 i1 (.int .i64 0) 1 8 Tryz.underlying95 ki kz0 kz1 kz2 rfl (by decide) _ _ _ rfl hl3 ⟨w3.heap.size, 0, none⟩ 1 1 [ei own] rfl rfl (fun j u hj => by rw [addr_add]; exact cell_new w3 #[ei own] _ _ rfl _ _ (by simpa using hj)) (by simp [Value.oneCell']) (by unfold maxLen; omega) (by omega) (by simp; omega) ?_)
                | fail)
              intro v4 w4 hown4 hg4 ht4
              have hS4 : Stk w w4 (Value.slice (some ⟨g3, 0, none⟩) (ys.length + 1) cap3) v4 (.mk (2, (q : Int)) [a, b] :: ys) := Stk.done HLA.out HAP.out (by rw [HTL.out.1]; exact HO3.out) HT3.out (by rw [HTL.out.2]; exact hown4) hg4 (fun b hb => by have := ht4 b hb; simpa using this)
              have hU4 := (HU3.out.alloc (.cells #[ei own] 2)).grown hg4 (fun b hb => Or.inl ((hl3.lt b hb).1))
              have HP := Lib.hid (And.intro hS4 hU4)
              clear hown4 hg4 ht4 hS4 hU4 hl3
              go_wp2_with fail
              go_roundw
              case rel => exact ⟨k, _, by omega, by go_num, HP.out.2, Lib.hid HP.out.1, Lib.hid ⟨HOK'.out, HFL.out, by have := HLE.out; simpa using this⟩⟩
              case measure => simp [intOf]
          · rw [decide_eq_false hbb] at hT
            obtain ⟨A, hQ⟩ : ∃ A, A = par true Ta := ⟨_, rfl⟩
            have hqa : (ByteArray.mk #[40] ++ ByteArray.mk Ta.toArray ++ ByteArray.mk #[41]) = ByteArray.mk A.toArray := by rw [hQ]; simp only [par, if_true, es_par]
            have hqal := par_len true Ta
            rw [← hQ] at hT hqal
            clear hQ
            obtain ⟨B, hQ⟩ : ∃ B, B = par false Tb := ⟨_, rfl⟩
            have hqb : Tb = B := by rw [hQ]; rfl
            rw [← hQ] at hT
            subst hqb
            clear hQ
            obtain ⟨AO, hAO⟩ : ∃ AO, AO = A ++ O := ⟨_, rfl⟩
            have hcat1 : (ByteArray.mk A.toArray ++ ByteArray.mk O.toArray) = ByteArray.mk AO.toArray := by rw [hAO, ← es_cat]
            have haol : AO.length ≤ 500 := by rw [hAO, List.length_append]; omega
            rw [← hAO] at hT
            obtain ⟨S, hS⟩ : ∃ S, S = AO ++ Tb := ⟨_, rfl⟩
            have hcat2 : (ByteArray.mk AO.toArray ++ ByteArray.mk Tb.toArray) = ByteArray.mk S.toArray := by rw [hS, ← es_cat]
            rw [← hS] at hT
            have HTL := Lib.hid (And.intro hT hL)
            have hAl : A.length ≤ 500 := by omega
            have hBl : Tb.length ≤ 500 := by omega
            clear hT hS hAO
            have htr := Lib.hid (ownsRow_upd HTK.out ((Upd.refl [] wr).alloc (.cells #[ei 2, ei q] 170)))
            have hlr := Lib.hid (ownsRow_upd HLK.out ((Upd.refl [] wr).alloc (.cells #[ei 2, ei q] 170)))
            have HUR := Lib.hid (HU.out.alloc (.cells #[ei 2, ei q] 170))
            have s1 : (0 : Int) ≤ (ys.length : Int) := by omega
            have s2 : (ys.length : Int) ≤ (ct : Int) := by omega
            have s3 : (0 : Int) ≤ (q : Int) := by omega
            have s4 : (q : Int) < 9 := by omega
            have hw1 : IntKind.i64.wrap ((ys.length : Int) + 1 - 1) = (ys.length : Int) := by rw [IntKind.wrap_i64]; omega
            have hw2 : IntKind.i64.wrap (ys.length : Int) = (ys.length : Int) := by rw [IntKind.wrap_i64]; omega
            have hz1 : ¬ (9223372036854775807 < A.length + O.length) := by omega
            have hz2 : ¬ (9223372036854775807 < AO.length + Tb.length) := by omega
            have hcw := cell_new wr #[ei 2, ei q] 170 _ rfl 1 (ei q) rfl
            go_wp2_with fail
            refine S1.out.mono ?_
            rintro r w1 ⟨rfl, rfl⟩
            clear S1
            go_wp2_with fail
            go_region_law ((first
              | (refine step_call (by rfl) 123 #[] (by go_simp) ?_; refine (HOPS.out _).mono ?_; rintro r w2 ⟨rfl, hu2, hlt2, hops⟩; have k1 : w2.cell? ⟨wr.heap.size + 1, q, none⟩ = some (es O) := (by simpa using hops); have k2 := hu2.keep hcw; have k3 : wr.heap.size + 1 < w2.heap.size := (by simpa using hlt2); have hu3 := ((Upd.refl [] (wr.alloc (.cells #[ei 2, ei q] 170))).drew).trans hu2; refine ⟨_, rfl, ?_⟩)
              | (refine step_append_lies _ (by rfl) _ _ 31 (by rfl) w.heap.size 9 i2 (.string ⟨#[]⟩) 1 16 Tryz.underlying31 ji jz0 jz1 jz2 rfl (by decide) (.slice (some ⟨g, 0, none⟩) ys.length ct) ys.length (txs ys) (by rfl) ((ownsRow_upd htr.out hu3).alloc _) ⟨w2.heap.size, 0, none⟩ 1 1 [es S] (by rfl) (by rfl) (by intro j u hj; rw [addr_add]; exact cell_new w2 #[es S] _ _ rfl _ _ (by simpa using hj)) (by simp [Value.oneCell']) (by decide) (by unfold maxLen; omega) (by omega) (by have h9 := hu3.size; have h8 := HUR.out.size; simp at h9 h8 ⊢; omega) (w2.heap.size + 1) (by simp) ?_; intro g3 cap3 w3 hown3 hg3 hat3 hlt3)))
            all_goals
              have ht2 := ownsRow_upd htr.out hu3
              have HL2 := Lib.hid (ownsRow_upd hlr.out hu3)
              have HU2 := Lib.hid (HUR.out.trans hu3)
              have hsz2 := HU2.out.size
              have ht3 : ∀ b, (Value.slice (some ⟨g3, 0, none⟩) (ys.length + 1) cap3).ownBlock = some b → (Value.slice (some ⟨g, 0, none⟩) ys.length ct).ownBlock = some b ∨ w2.heap.size + 1 ≤ b := (by
                intro b hb
                simp only [Value.ownBlock, Option.some.injEq] at hb
                subst hb
                rcases hat3 with h | h
                · exact Or.inl h
                · exact Or.inr (by omega))
              clear hat3 hlt3 hu3 hu2 hlt2 k1 k2 k3 hops d0 d1 d2 d3 hw1 hw2 hz1 hz2 hcat1 hcat2 s1 s2 s3 s4 hcw htr hlr HUR HOPS
              have hla := ownsRow_upd HL2.out ((Upd.refl [] w2).alloc (.cells #[es S] 9))
              have hl3 := Stk.levels (o := .cells #[ei own] 2) (tvc := Value.slice (some ⟨g, 0, none⟩) ys.length ct) hla HAP.out hg3
              have hU3 := (HU2.out.alloc (.cells #[es S] 9)).grown hg3 (fun b hb => Or.inl ((ht2.lt b hb).1))
              have hsz3 := hU3.size
              have HU3 := Lib.hid hU3
              have HLA := Lib.hid hla
              have HT3 := Lib.hid (show ∀ b, (Value.slice (some ⟨g3, 0, none⟩) (ys.length + 1) cap3).ownBlock = some b → (Value.slice (some ⟨g, 0, none⟩) ys.length ct).ownBlock = some b ∨ (w2.alloc (.cells #[es S] 9)).heap.size ≤ b from fun b hb => by have := ht3 b hb; simpa using this)
              have HO3 := Lib.hid hown3
              clear hg3 ht3 ht2 hown3 hla hU3
              go_wp2_with (first
                | (at_builtin; refine wpList_append_tight _ rfl _ _ 95 rfl w.heap.size 2 i1 (.int .i64 0) 1 8 Tryz.underlying95 ki kz0 kz1 kz2 rfl (by decide) _ _ _ rfl hl3 ⟨w3.heap.size, 0, none⟩ 1 1 [ei own] rfl rfl (fun j u hj => by rw [addr_add]; exact cell_new w3 #[ei own] _ _ rfl _ _ (by simpa using hj)) (by simp [Value.oneCell']) (by unfold maxLen; omega) (by omega) (by simp; omega) ?_)
                | fail)
              intro v4 w4 hown4 hg4 ht4
              have hS4 : Stk w w4 (Value.slice (some ⟨g3, 0, none⟩) (ys.length + 1) cap3) v4 (.mk (2, (q : Int)) [a, b] :: ys) := Stk.done HLA.out HAP.out (by rw [HTL.out.1]; exact HO3.out) HT3.out (by rw [HTL.out.2]; exact hown4) hg4 (fun b hb => by have := ht4 b hb; simpa using this)
              have hU4 := (HU3.out.alloc (.cells #[ei own] 2)).grown hg4 (fun b hb => Or.inl ((hl3.lt b hb).1))
              have HP := Lib.hid (And.intro hS4 hU4)
              clear hown4 hg4 ht4 hS4 hU4 hl3
              go_wp2_with fail
              go_roundw
              case rel => exact ⟨k, _, by omega, by go_num, HP.out.2, Lib.hid HP.out.1, Lib.hid ⟨HOK'.out, HFL.out, by have := HLE.out; simpa using this⟩⟩
              case measure => simp [intOf]
        · rw [decide_eq_false hba] at hT
          by_cases hbb : lb ≤ own
          · rw [decide_eq_true hbb] at hT
            obtain ⟨A, hQ⟩ : ∃ A, A = par false Ta := ⟨_, rfl⟩
            have hqa : Ta = A := by rw [hQ]; rfl
            rw [← hQ] at hT
            subst hqa
            clear hQ
            obtain ⟨B, hQ⟩ : ∃ B, B = par true Tb := ⟨_, rfl⟩
            have hqb : (ByteArray.mk #[40] ++ ByteArray.mk Tb.toArray ++ ByteArray.mk #[41]) = ByteArray.mk B.toArray := by rw [hQ]; simp only [par, if_true, es_par]
            have hqbl := par_len true Tb
            rw [← hQ] at hT hqbl
            clear hQ
            obtain ⟨AO, hAO⟩ : ∃ AO, AO = Ta ++ O := ⟨_, rfl⟩
            have hcat1 : (ByteArray.mk Ta.toArray ++ ByteArray.mk O.toArray) = ByteArray.mk AO.toArray := by rw [hAO, ← es_cat]
            have haol : AO.length ≤ 500 := by rw [hAO, List.length_append]; omega
            rw [← hAO] at hT
            obtain ⟨S, hS⟩ : ∃ S, S = AO ++ B := ⟨_, rfl⟩
            have hcat2 : (ByteArray.mk AO.toArray ++ ByteArray.mk B.toArray) = ByteArray.mk S.toArray := by rw [hS, ← es_cat]
            rw [← hS] at hT
            have HTL := Lib.hid (And.intro hT hL)
            have hAl : Ta.length ≤ 500 := by omega
            have hBl : B.length ≤ 500 := by omega
            clear hT hS hAO
            have htr := Lib.hid (ownsRow_upd HTK.out ((Upd.refl [] wr).alloc (.cells #[ei 2, ei q] 170)))
            have hlr := Lib.hid (ownsRow_upd HLK.out ((Upd.refl [] wr).alloc (.cells #[ei 2, ei q] 170)))
            have HUR := Lib.hid (HU.out.alloc (.cells #[ei 2, ei q] 170))
            have s1 : (0 : Int) ≤ (ys.length : Int) := by omega
            have s2 : (ys.length : Int) ≤ (ct : Int) := by omega
            have s3 : (0 : Int) ≤ (q : Int) := by omega
            have s4 : (q : Int) < 9 := by omega
            have hw1 : IntKind.i64.wrap ((ys.length : Int) + 1 - 1) = (ys.length : Int) := by rw [IntKind.wrap_i64]; omega
            have hw2 : IntKind.i64.wrap (ys.length : Int) = (ys.length : Int) := by rw [IntKind.wrap_i64]; omega
            have hz1 : ¬ (9223372036854775807 < Ta.length + O.length) := by omega
            have hz2 : ¬ (9223372036854775807 < AO.length + B.length) := by omega
            have hcw := cell_new wr #[ei 2, ei q] 170 _ rfl 1 (ei q) rfl
            go_wp2_with fail
            refine S1.out.mono ?_
            rintro r w1 ⟨rfl, rfl⟩
            clear S1
            go_wp2_with fail
            go_region_law ((first
              | (refine step_call (by rfl) 123 #[] (by go_simp) ?_; refine (HOPS.out _).mono ?_; rintro r w2 ⟨rfl, hu2, hlt2, hops⟩; have k1 : w2.cell? ⟨wr.heap.size + 1, q, none⟩ = some (es O) := (by simpa using hops); have k2 := hu2.keep hcw; have k3 : wr.heap.size + 1 < w2.heap.size := (by simpa using hlt2); have hu3 := ((Upd.refl [] (wr.alloc (.cells #[ei 2, ei q] 170))).drew).trans hu2; refine ⟨_, rfl, ?_⟩)
              | (refine step_append_lies _ (by rfl) _ _ 31 (by rfl) w.heap.size 9 i2 (.string ⟨#[]⟩) 1 16 Tryz.underlying31 ji jz0 jz1 jz2 rfl (by decide) (.slice (some ⟨g, 0, none⟩) ys.length ct) ys.length (txs ys) (by rfl) ((ownsRow_upd htr.out hu3).alloc _) ⟨w2.heap.size, 0, none⟩ 1 1 [es S] (by rfl) (by rfl) (by intro j u hj; rw [addr_add]; exact cell_new w2 #[es S] _ _ rfl _ _ (by simpa using hj)) (by simp [Value.oneCell']) (by decide) (by unfold maxLen; omega) (by omega) (by have h9 := hu3.size; have h8 := HUR.out.size; simp at h9 h8 ⊢; omega) (w2.heap.size + 1) (by simp) ?_; intro g3 cap3 w3 hown3 hg3 hat3 hlt3)))
            all_goals
              have ht2 := ownsRow_upd htr.out hu3
              have HL2 := Lib.hid (ownsRow_upd hlr.out hu3)
              have HU2 := Lib.hid (HUR.out.trans hu3)
              have hsz2 := HU2.out.size
              have ht3 : ∀ b, (Value.slice (some ⟨g3, 0, none⟩) (ys.length + 1) cap3).ownBlock = some b → (Value.slice (some ⟨g, 0, none⟩) ys.length ct).ownBlock = some b ∨ w2.heap.size + 1 ≤ b := (by
                intro b hb
                simp only [Value.ownBlock, Option.some.injEq] at hb
                subst hb
                rcases hat3 with h | h
                · exact Or.inl h
                · exact Or.inr (by omega))
              clear hat3 hlt3 hu3 hu2 hlt2 k1 k2 k3 hops d0 d1 d2 d3 hw1 hw2 hz1 hz2 hcat1 hcat2 s1 s2 s3 s4 hcw htr hlr HUR HOPS
              have hla := ownsRow_upd HL2.out ((Upd.refl [] w2).alloc (.cells #[es S] 9))
              have hl3 := Stk.levels (o := .cells #[ei own] 2) (tvc := Value.slice (some ⟨g, 0, none⟩) ys.length ct) hla HAP.out hg3
              have hU3 := (HU2.out.alloc (.cells #[es S] 9)).grown hg3 (fun b hb => Or.inl ((ht2.lt b hb).1))
              have hsz3 := hU3.size
              have HU3 := Lib.hid hU3
              have HLA := Lib.hid hla
              have HT3 := Lib.hid (show ∀ b, (Value.slice (some ⟨g3, 0, none⟩) (ys.length + 1) cap3).ownBlock = some b → (Value.slice (some ⟨g, 0, none⟩) ys.length ct).ownBlock = some b ∨ (w2.alloc (.cells #[es S] 9)).heap.size ≤ b from fun b hb => by have := ht3 b hb; simpa using this)
              have HO3 := Lib.hid hown3
              clear hg3 ht3 ht2 hown3 hla hU3
              go_wp2_with (first
                | (at_builtin; refine wpList_append_tight _ rfl _ _ 95 rfl w.heap.size 2 i1 (.int .i64 0) 1 8 Tryz.underlying95 ki kz0 kz1 kz2 rfl (by decide) _ _ _ rfl hl3 ⟨w3.heap.size, 0, none⟩ 1 1 [ei own] rfl rfl (fun j u hj => by rw [addr_add]; exact cell_new w3 #[ei own] _ _ rfl _ _ (by simpa using hj)) (by simp [Value.oneCell']) (by unfold maxLen; omega) (by omega) (by simp; omega) ?_)
                | fail)
              intro v4 w4 hown4 hg4 ht4
              have hS4 : Stk w w4 (Value.slice (some ⟨g3, 0, none⟩) (ys.length + 1) cap3) v4 (.mk (2, (q : Int)) [a, b] :: ys) := Stk.done HLA.out HAP.out (by rw [HTL.out.1]; exact HO3.out) HT3.out (by rw [HTL.out.2]; exact hown4) hg4 (fun b hb => by have := ht4 b hb; simpa using this)
              have hU4 := (HU3.out.alloc (.cells #[ei own] 2)).grown hg4 (fun b hb => Or.inl ((hl3.lt b hb).1))
              have HP := Lib.hid (And.intro hS4 hU4)
              clear hown4 hg4 ht4 hS4 hU4 hl3
              go_wp2_with fail
              go_roundw
              case rel => exact ⟨k, _, by omega, by go_num, HP.out.2, Lib.hid HP.out.1, Lib.hid ⟨HOK'.out, HFL.out, by have := HLE.out; simpa using this⟩⟩
              case measure => simp [intOf]
          · rw [decide_eq_false hbb] at hT
            obtain ⟨A, hQ⟩ : ∃ A, A = par false Ta := ⟨_, rfl⟩
            have hqa : Ta = A := by rw [hQ]; rfl
            rw [← hQ] at hT
            subst hqa
            clear hQ
            obtain ⟨B, hQ⟩ : ∃ B, B = par false Tb := ⟨_, rfl⟩
            have hqb : Tb = B := by rw [hQ]; rfl
            rw [← hQ] at hT
            subst hqb
            clear hQ
            obtain ⟨AO, hAO⟩ : ∃ AO, AO = Ta ++ O := ⟨_, rfl⟩
            have hcat1 : (ByteArray.mk Ta.toArray ++ ByteArray.mk O.toArray) = ByteArray.mk AO.toArray := by rw [hAO, ← es_cat]
            have haol : AO.length ≤ 500 := by rw [hAO, List.length_append]; omega
            rw [← hAO] at hT
            obtain ⟨S, hS⟩ : ∃ S, S = AO ++ Tb := ⟨_, rfl⟩
            have hcat2 : (ByteArray.mk AO.toArray ++ ByteArray.mk Tb.toArray) = ByteArray.mk S.toArray := by rw [hS, ← es_cat]
            rw [← hS] at hT
            have HTL := Lib.hid (And.intro hT hL)
            have hAl : Ta.length ≤ 500 := by omega
            have hBl : Tb.length ≤ 500 := by omega
            clear hT hS hAO
            have htr := Lib.hid (ownsRow_upd HTK.out ((Upd.refl [] wr).alloc (.cells #[ei 2, ei q] 170)))
            have hlr := Lib.hid (ownsRow_upd HLK.out ((Upd.refl [] wr).alloc (.cells #[ei 2, ei q] 170)))
            have HUR := Lib.hid (HU.out.alloc (.cells #[ei 2, ei q] 170))
            have s1 : (0 : Int) ≤ (ys.length : Int) := by omega
            have s2 : (ys.length : Int) ≤ (ct : Int) := by omega
            have s3 : (0 : Int) ≤ (q : Int) := by omega
            have s4 : (q : Int) < 9 := by omega
            have hw1 : IntKind.i64.wrap ((ys.length : Int) + 1 - 1) = (ys.length : Int) := by rw [IntKind.wrap_i64]; omega
            have hw2 : IntKind.i64.wrap (ys.length : Int) = (ys.length : Int) := by rw [IntKind.wrap_i64]; omega
            have hz1 : ¬ (9223372036854775807 < Ta.length + O.length) := by omega
            have hz2 : ¬ (9223372036854775807 < AO.length + Tb.length) := by omega
            have hcw := cell_new wr #[ei 2, ei q] 170 _ rfl 1 (ei q) rfl
            go_wp2_with fail
            refine S1.out.mono ?_
            rintro r w1 ⟨rfl, rfl⟩
            clear S1
            go_wp2_with fail
            go_region_law ((first
              | (refine step_call (by rfl) 123 #[] (by go_simp) ?_; refine (HOPS.out _).mono ?_; rintro r w2 ⟨rfl, hu2, hlt2, hops⟩; have k1 : w2.cell? ⟨wr.heap.size + 1, q, none⟩ = some (es O) := (by simpa using hops); have k2 := hu2.keep hcw; have k3 : wr.heap.size + 1 < w2.heap.size := (by simpa using hlt2); have hu3 := ((Upd.refl [] (wr.alloc (.cells #[ei 2, ei q] 170))).drew).trans hu2; refine ⟨_, rfl, ?_⟩)
              | (refine step_append_lies _ (by rfl) _ _ 31 (by rfl) w.heap.size 9 i2 (.string ⟨#[]⟩) 1 16 Tryz.underlying31 ji jz0 jz1 jz2 rfl (by decide) (.slice (some ⟨g, 0, none⟩) ys.length ct) ys.length (txs ys) (by rfl) ((ownsRow_upd htr.out hu3).alloc _) ⟨w2.heap.size, 0, none⟩ 1 1 [es S] (by rfl) (by rfl) (by intro j u hj; rw [addr_add]; exact cell_new w2 #[es S] _ _ rfl _ _ (by simpa using hj)) (by simp [Value.oneCell']) (by decide) (by unfold maxLen; omega) (by omega) (by have h9 := hu3.size; have h8 := HUR.out.size; simp at h9 h8 ⊢; omega) (w2.heap.size + 1) (by simp) ?_; intro g3 cap3 w3 hown3 hg3 hat3 hlt3)))
            all_goals
              have ht2 := ownsRow_upd htr.out hu3
              have HL2 := Lib.hid (ownsRow_upd hlr.out hu3)
              have HU2 := Lib.hid (HUR.out.trans hu3)
              have hsz2 := HU2.out.size
              have ht3 : ∀ b, (Value.slice (some ⟨g3, 0, none⟩) (ys.length + 1) cap3).ownBlock = some b → (Value.slice (some ⟨g, 0, none⟩) ys.length ct).ownBlock = some b ∨ w2.heap.size + 1 ≤ b := (by
                intro b hb
                simp only [Value.ownBlock, Option.some.injEq] at hb
                subst hb
                rcases hat3 with h | h
                · exact Or.inl h
                · exact Or.inr (by omega))
              clear hat3 hlt3 hu3 hu2 hlt2 k1 k2 k3 hops d0 d1 d2 d3 hw1 hw2 hz1 hz2 hcat1 hcat2 s1 s2 s3 s4 hcw htr hlr HUR HOPS
              have hla := ownsRow_upd HL2.out ((Upd.refl [] w2).alloc (.cells #[es S] 9))
              have hl3 := Stk.levels (o := .cells #[ei own] 2) (tvc := Value.slice (some ⟨g, 0, none⟩) ys.length ct) hla HAP.out hg3
              have hU3 := (HU2.out.alloc (.cells #[es S] 9)).grown hg3 (fun b hb => Or.inl ((ht2.lt b hb).1))
              have hsz3 := hU3.size
              have HU3 := Lib.hid hU3
              have HLA := Lib.hid hla
              have HT3 := Lib.hid (show ∀ b, (Value.slice (some ⟨g3, 0, none⟩) (ys.length + 1) cap3).ownBlock = some b → (Value.slice (some ⟨g, 0, none⟩) ys.length ct).ownBlock = some b ∨ (w2.alloc (.cells #[es S] 9)).heap.size ≤ b from fun b hb => by have := ht3 b hb; simpa using this)
              have HO3 := Lib.hid hown3
              clear hg3 ht3 ht2 hown3 hla hU3
              go_wp2_with (first
                | (at_builtin; refine wpList_append_tight _ rfl _ _ 95 rfl w.heap.size 2 i1 (.int .i64 0) 1 8 Tryz.underlying95 ki kz0 kz1 kz2 rfl (by decide) _ _ _ rfl hl3 ⟨w3.heap.size, 0, none⟩ 1 1 [ei own] rfl rfl (fun j u hj => by rw [addr_add]; exact cell_new w3 #[ei own] _ _ rfl _ _ (by simpa using hj)) (by simp [Value.oneCell']) (by unfold maxLen; omega) (by omega) (by simp; omega) ?_)
                | fail)
              intro v4 w4 hown4 hg4 ht4
              have hS4 : Stk w w4 (Value.slice (some ⟨g3, 0, none⟩) (ys.length + 1) cap3) v4 (.mk (2, (q : Int)) [a, b] :: ys) := Stk.done HLA.out HAP.out (by rw [HTL.out.1]; exact HO3.out) HT3.out (by rw [HTL.out.2]; exact hown4) hg4 (fun b hb => by have := ht4 b hb; simpa using this)
              have hU4 := (HU3.out.alloc (.cells #[ei own] 2)).grown hg4 (fun b hb => Or.inl ((hl3.lt b hb).1))
              have HP := Lib.hid (And.intro hS4 hU4)
              clear hown4 hg4 ht4 hS4 hU4 hl3
              go_wp2_with fail
              go_roundw
              case rel => exact ⟨k, _, by omega, by go_num, HP.out.2, Lib.hid HP.out.1, Lib.hid ⟨HOK'.out, HFL.out, by have := HLE.out; simpa using this⟩⟩
              case measure => simp [intOf]
      · subst h
        have hA1 : (arity (3, t2)).toNat = 1 := by simp [arity]
        rw [hA1] at HLE HOK' HFL hA
        match xs, hA with
        | y :: ys, _ =>
        obtain ⟨g, ct', hv, m1, m2, -, mg, hcell⟩ := own_cells HST.out.t (by simp)
        simp only [Value.slice.injEq] at hv
        obtain ⟨rfl, -, rfl⟩ := hv
        obtain ⟨gl, cl', hv, ml1, ml2, -, mgl, hcl⟩ := own_cells HST.out.l (by simp)
        simp only [Value.slice.injEq] at hv
        obtain ⟨rfl, -, rfl⟩ := hv
        unfold maxLen at m2 ml2
        have htk := ownsRow_take HST.out.t ys.length (by simp only [List.length_cons]; omega)
        have hlk := ownsRow_take HST.out.l ys.length (by simp only [List.length_cons]; omega)
        rw [txs_cons, Nat.mul_one, List.take_left' (txs_len ys)] at htk
        rw [lvs_cons, Nat.mul_one, List.take_left' (lvs_len ys)] at hlk
        have hgy := HGS.out
        rw [goodEs_cons, Bool.and_eq_true] at hgy
        have hty := textE_len y hgy.1
        have hfy : (flatE y).length ≤ 60 := by
          have h9 := congrArg List.length HFL.out
          simp only [flatEs, flatE, List.length_append, List.length_cons, List.length_drop, List.take_succ_cons, List.take_zero, List.append_nil] at h9; omega
        have d0 : wr.cell? ⟨g, ys.length, none⟩ = some (es (textE y)) := by
          rw [hcell ys.length (by simp), txs_cons, List.getElem?_append_right (by rw [txs_len]; omega), txs_len]; simp
        have d1 : wr.cell? ⟨gl, ys.length, none⟩ = some (ei (lv7 y)) := by
          rw [hcl ys.length (by simp), lvs_cons, List.getElem?_append_right (by rw [lvs_len]; omega), lvs_len]; simp
        have hT : textE (.mk (3, t2) [y]) = [33] ++ par (isOp y) (textE y) := by simp [textE, textEs]
        have hL : lv7 (.mk (3, t2) [y]) = 6 := by simp [lv7]
        have HOK2 := Lib.hid (show okEs (.mk (3, t2) [y] :: ys) = true by simpa using HOK'.out)
        have HFL2 := Lib.hid (show flatEs (.mk (3, t2) [y] :: ys) = List.drop k e by simpa using HFL.out)
        have HLE2 := Lib.hid (show run 29 (List.take k e) 1 = some (((.mk (3, t2) [y] :: ys : List Ex).length : Nat) : Int) by simpa using HLE.out)
        have HAP := Lib.hid (show ∀ b, (Value.slice (some ⟨g, 0, none⟩) ys.length ct).ownBlock = some b → (Value.slice (some ⟨gl, 0, none⟩) ys.length cl).ownBlock ≠ some b from HST.out.apart)
        have HTK := Lib.hid htk
        have HLK := Lib.hid hlk
        have hop := lv7_op y
        rw [← hop] at hT
        simp only [List.length_cons] at m1 ml1 hxs
        clear HOK' HFL HLE HST hcell hcl htk hlk hgy hA1 hop hxl
        have HOK' := HOK2
        have HFL := HFL2
        have HLE := HLE2
        clear HOK2 HFL2 HLE2
        generalize lv7 y = ly at *
        have hty2 : (textE y).length ≤ 420 := by omega
        generalize textE y = T at *
        clear hty hfy
        by_cases hb : ly < 6
        · rw [decide_eq_true hb] at hT
          obtain ⟨Q, hQ⟩ : ∃ Q, Q = par true T := ⟨_, rfl⟩
          have hq1 : (ByteArray.mk #[40] ++ ByteArray.mk T.toArray ++ ByteArray.mk #[41]) = ByteArray.mk Q.toArray := by rw [hQ]; simp only [par, if_true, es_par]
          have hql := par_len true T
          rw [← hQ] at hT hql
          clear hQ
          obtain ⟨S, hS⟩ : ∃ S, S = [33] ++ Q := ⟨_, rfl⟩
          have hcat : (ByteArray.mk #[33] ++ ByteArray.mk Q.toArray) = ByteArray.mk S.toArray := by rw [hS, ← es_cat]
          rw [← hS] at hT
          have HTL := Lib.hid (And.intro hT hL)
          clear hT hS
          obtain ⟨w2, hw2⟩ : ∃ w2, w2 = wr.alloc (.cells #[ei 3, ei t2] 170) := ⟨_, rfl⟩
          have hu2 : Upd [] wr w2 := by rw [hw2]; exact (Upd.refl [] wr).alloc _
          have ht2 := ownsRow_upd HTK.out hu2
          have HL2 := Lib.hid (ownsRow_upd HLK.out hu2)
          have HU2 := Lib.hid (HU.out.trans hu2)
          have hsz2 := HU2.out.size
          subst hw2
          go_wp2_with (first
            | (at_builtin; refine wpList_append_tight _ rfl _ _ 31 rfl w.heap.size 9 i2 (.string ⟨#[]⟩) 1 16 Tryz.underlying31 ji jz0 jz1 jz2 rfl (by decide) _ _ _ rfl (ht2.alloc _) ⟨wr.heap.size + 1, 0, none⟩ 1 1 [es S] rfl rfl (fun j u hj => by rw [addr_add]; exact cell_new _ #[es S] _ _ (by simp) _ _ (by simpa using hj)) (by simp [Value.oneCell']) (by unfold maxLen; omega) (by omega) (by simp; omega) ?_)
            | fail)
          intro v3 w3 hown3 hg3 ht3
          have hla := ownsRow_upd HL2.out ((Upd.refl [] (wr.alloc (.cells #[ei 3, ei t2] 170))).alloc (.cells #[es S] 9))
          have hl3 := Stk.levels (o := .cells #[ei 6] 2) (tvc := Value.slice (some ⟨g, 0, none⟩) ys.length ct) hla HAP.out hg3
          have hU3 := (HU2.out.alloc (.cells #[es S] 9)).grown hg3 (fun b hb => Or.inl ((ht2.lt b hb).1))
          have hsz3 := hU3.size
          have HU3 := Lib.hid hU3
          have HLA := Lib.hid hla
          have HT3 := Lib.hid (show ∀ b, v3.ownBlock = some b → (Value.slice (some ⟨g, 0, none⟩) ys.length ct).ownBlock = some b ∨ ((wr.alloc (.cells #[ei 3, ei t2] 170)).alloc (.cells #[es S] 9)).heap.size ≤ b from fun b hb => by have := ht3 b hb; simpa using this)
          have HO3 := Lib.hid hown3
          clear hg3 ht3 ht2 hown3 hla hU3
          go_wp2_with (first
            | (at_builtin; refine wpList_append_tight _ rfl _ _ 95 rfl w.heap.size 2 i1 (.int .i64 0) 1 8 Tryz.underlying95 ki kz0 kz1 kz2 rfl (by decide) _ _ _ rfl hl3 ⟨w3.heap.size, 0, none⟩ 1 1 [ei 6] rfl rfl (fun j u hj => by rw [addr_add]; exact cell_new w3 #[ei 6] _ _ rfl _ _ (by simpa using hj)) (by simp [Value.oneCell']) (by unfold maxLen; omega) (by omega) (by simp; omega) ?_)
            | fail)
          intro v4 w4 hown4 hg4 ht4
          have hS4 : Stk w w4 v3 v4 (.mk (3, t2) [y] :: ys) := Stk.done HLA.out HAP.out (by rw [HTL.out.1]; exact HO3.out) HT3.out (by rw [HTL.out.2]; exact hown4) hg4 (fun b hb => by have := ht4 b hb; simpa using this)
          have hU4 := (HU3.out.alloc (.cells #[ei 6] 2)).grown hg4 (fun b hb => Or.inl ((hl3.lt b hb).1))
          have HP := Lib.hid (And.intro hS4 hU4)
          clear hown4 hg4 ht4 hS4 hU4 hl3
          go_wp2_with fail
          go_roundw
          case rel => exact ⟨k, _, by omega, by go_num, HP.out.2, Lib.hid HP.out.1, Lib.hid ⟨HOK'.out, HFL.out, by have := HLE.out; simpa using this⟩⟩
          case measure => simp [intOf]
        · rw [decide_eq_false hb] at hT
          obtain ⟨Q, hQ⟩ : ∃ Q, Q = par false T := ⟨_, rfl⟩
          have hq1 : T = Q := by rw [hQ]; rfl
          rw [← hQ] at hT
          subst hq1
          clear hQ
          obtain ⟨S, hS⟩ : ∃ S, S = [33] ++ T := ⟨_, rfl⟩
          have hcat : (ByteArray.mk #[33] ++ ByteArray.mk T.toArray) = ByteArray.mk S.toArray := by rw [hS, ← es_cat]
          rw [← hS] at hT
          have HTL := Lib.hid (And.intro hT hL)
          clear hT hS
          obtain ⟨w2, hw2⟩ : ∃ w2, w2 = wr.alloc (.cells #[ei 3, ei t2] 170) := ⟨_, rfl⟩
          have hu2 : Upd [] wr w2 := by rw [hw2]; exact (Upd.refl [] wr).alloc _
          have ht2 := ownsRow_upd HTK.out hu2
          have HL2 := Lib.hid (ownsRow_upd HLK.out hu2)
          have HU2 := Lib.hid (HU.out.trans hu2)
          have hsz2 := HU2.out.size
          subst hw2
          go_wp2_with (first
            | (at_builtin; refine wpList_append_tight _ rfl _ _ 31 rfl w.heap.size 9 i2 (.string ⟨#[]⟩) 1 16 Tryz.underlying31 ji jz0 jz1 jz2 rfl (by decide) _ _ _ rfl (ht2.alloc _) ⟨wr.heap.size + 1, 0, none⟩ 1 1 [es S] rfl rfl (fun j u hj => by rw [addr_add]; exact cell_new _ #[es S] _ _ (by simp) _ _ (by simpa using hj)) (by simp [Value.oneCell']) (by unfold maxLen; omega) (by omega) (by simp; omega) ?_)
            | fail)
          intro v3 w3 hown3 hg3 ht3
          have hla := ownsRow_upd HL2.out ((Upd.refl [] (wr.alloc (.cells #[ei 3, ei t2] 170))).alloc (.cells #[es S] 9))
          have hl3 := Stk.levels (o := .cells #[ei 6] 2) (tvc := Value.slice (some ⟨g, 0, none⟩) ys.length ct) hla HAP.out hg3
          have hU3 := (HU2.out.alloc (.cells #[es S] 9)).grown hg3 (fun b hb => Or.inl ((ht2.lt b hb).1))
          have hsz3 := hU3.size
          have HU3 := Lib.hid hU3
          have HLA := Lib.hid hla
          have HT3 := Lib.hid (show ∀ b, v3.ownBlock = some b → (Value.slice (some ⟨g, 0, none⟩) ys.length ct).ownBlock = some b ∨ ((wr.alloc (.cells #[ei 3, ei t2] 170)).alloc (.cells #[es S] 9)).heap.size ≤ b from fun b hb => by have := ht3 b hb; simpa using this)
          have HO3 := Lib.hid hown3
          clear hg3 ht3 ht2 hown3 hla hU3
          go_wp2_with (first
            | (at_builtin; refine wpList_append_tight _ rfl _ _ 95 rfl w.heap.size 2 i1 (.int .i64 0) 1 8 Tryz.underlying95 ki kz0 kz1 kz2 rfl (by decide) _ _ _ rfl hl3 ⟨w3.heap.size, 0, none⟩ 1 1 [ei 6] rfl rfl (fun j u hj => by rw [addr_add]; exact cell_new w3 #[ei 6] _ _ rfl _ _ (by simpa using hj)) (by simp [Value.oneCell']) (by unfold maxLen; omega) (by omega) (by simp; omega) ?_)
            | fail)
          intro v4 w4 hown4 hg4 ht4
          have hS4 : Stk w w4 v3 v4 (.mk (3, t2) [y] :: ys) := Stk.done HLA.out HAP.out (by rw [HTL.out.1]; exact HO3.out) HT3.out (by rw [HTL.out.2]; exact hown4) hg4 (fun b hb => by have := ht4 b hb; simpa using this)
          have hU4 := (HU3.out.alloc (.cells #[ei 6] 2)).grown hg4 (fun b hb => Or.inl ((hl3.lt b hb).1))
          have HP := Lib.hid (And.intro hS4 hU4)
          clear hown4 hg4 ht4 hS4 hU4 hl3
          go_wp2_with fail
          go_roundw
          case rel => exact ⟨k, _, by omega, by go_num, HP.out.2, Lib.hid HP.out.1, Lib.hid ⟨HOK'.out, HFL.out, by have := HLE.out; simpa using this⟩⟩
          case measure => simp [intOf]

end Go.Proofs.YtjelcjiofcoifaaGreatDoor

/-
  LinearText, the reference's side: what the calls return.
-/
namespace Go.Proofs.YtjelcjiofcoifaaGreatDoor
open Go.RowKit

theorem expTextS (v : Value) (e : List Tm) (w : World) (fp : List Nat) (hb : eOk e = true) (hR : R_T1 fp w [v] e) :
    Calls Tryz.prog 86 #[v] w fun r w' => r = .returned (es (expT e)) ∧ Upd [] w w' := by
  have hres : expT e = textE (treeOf e hb) := by unfold expT; rw [dif_pos hb]
  obtain ⟨hok, hfl⟩ := treeOf_ok e hb
  have hlen := eOk_len hb
  have hgood := eOk_good hb _ hok hfl
  rw [hres]
  exact l04TextS (treeOf e hb) v w fp hok (by rw [hfl]; exact hb) hgood (by rw [hfl]; omega) (by rw [hfl]; exact hR)

theorem rowSoFar {α : Type} (c : UInt8) (f : α → List UInt8) (l : List α) (k : Nat) (h : k < l.length) (h0 : 0 < k) : joinC c ((l.take (k + 1)).map f) = (joinC c ((l.take k).map f) ++ [c]) ++ f l[k] := by
  rw [List.take_succ_eq_append_getElem h, List.map_append, List.map_cons, List.map_nil, joinC_end c _ _ (by
    intro hn
    have := congrArg List.length hn
    rw [List.length_map, List.length_take, List.length_nil] at this
    omega), List.append_assoc]
theorem rowFirst {α : Type} (c : UInt8) (f : α → List UInt8) (l : List α) (k : Nat) (h : k < l.length) (h0 : k = 0) : joinC c ((l.take (k + 1)).map f) = f l[k] := by
  subst h0
  rw [List.take_succ_eq_append_getElem h]; rfl
theorem decSmall (n : Int) (w : World) (h0 : 0 ≤ n) (h1 : n ≤ 99) : Calls Tryz.prog 52 #[.int .i64 n] w fun e w' => e = .returned (es (Lib.itoa n)) ∧ Upd [] w w' := by
  obtain ⟨q, rfl⟩ : ∃ q : Nat, n = q := ⟨n.toNat, by omega⟩
  exact l01DecP q w (by omega)
theorem catE (a b : List UInt8) : (ByteArray.mk a.toArray ++ ByteArray.mk b.toArray) = ByteArray.mk (a ++ b).toArray := ByteArray.mk_append_mk a b

set_option maxRecDepth 20000 in
set_option maxHeartbeats 2000000 in
theorem rowS44 (v : Value) (xs : List (List Tm)) (w : World) (fp : List Nat) (hR : R_T2 fp w [v] xs) (hl : xs.length ≤ 1000) (hv : ∀ e ∈ xs, eOk e = true) :
    Calls Tryz.prog 121 #[v, .string ⟨#[44]⟩] w fun e w' => e = .returned (es (joinC 44 (xs.map expT))) ∧ Upd [] w w' := by
  obtain ⟨a, cap, rfl, g1, g2, hc⟩ := slP_open hR
  unfold maxLen at g2
  have HC := Lib.hid hc
  have HV := Lib.hid hv
  clear hR hc hv
  · go_enter Tryz.func121, Tryz.ntmps121
    go_wp2_with fail
    go_loopw [5, 6] (fun tv iv wr => ∃ (k : Nat) (A : List UInt8), k ≤ xs.length ∧ iv = .int .i64 k ∧ tv = es A ∧ A.length ≤ 421 * k ∧ Hid (A = joinC 44 ((xs.take k).map expT)) ∧ Hid (Upd [] w wr)) (fun _ iv _ => xs.length - (intOf iv).toNat)
    case atStart => exact ⟨0, [], Nat.zero_le _, rfl, rfl, by simp, Lib.hid rfl, Lib.hid (Upd.refl _ _)⟩
    case round =>
      obtain ⟨wo, rfl⟩ : ∃ wo : World, wo = wr := ⟨_, rfl⟩
      obtain ⟨k, A, hk, rfl, rfl, hA, HJ, HU⟩ := hrel
      by_cases hlt : k < xs.length
      · obtain ⟨b, off, u, f, rfl, -, -, p0, -, hr⟩ := HC.out k hlt
        have p0 := HU.out.keep p0
        have hkl : (k : Int) < (xs.length : Int) := by omega
        have hgv := HV.out _ (List.getElem_mem hlt)
        by_cases hk0 : k = 0
        · have HT := Lib.hid (rowFirst 44 expT xs k hlt hk0)
          have hA0 : A = [] := by rw [HJ.out, hk0]; rfl
          have hk1 : decide ((0 : Int) < (k : Int)) = false := decide_eq_false (by omega)
          have hk2 : ¬ (0 : Int) < (k : Int) := by omega
          subst hA0
          clear hk0
          have S1 := Lib.hid (expTextS u xs[k] wo f hgv (R_T1k.upd hr HU.out (by simp)))
          have hbl := expT_len xs[k]
          obtain ⟨d1, e1, rfl, -⟩ := slF2_open hr
          generalize expT xs[k] = B at *
          have hcat : (ByteArray.mk #[] ++ ByteArray.mk B.toArray) = ByteArray.mk B.toArray := catE [] B
          have hz : ¬ (9223372036854775807 < 0 + B.length) := by omega
          have hz2 : ¬ (9223372036854775807 < B.length) := by omega
          go_wp2_with fail
          refine S1.out.mono ?_
          rintro r w2 ⟨rfl, hu2⟩
          have HU2 := Lib.hid (HU.out.trans hu2)
          clear hu2 S1
          go_wp2_with fail
          go_roundw
          case rel => exact ⟨k + 1, B, by omega, by go_num, rfl, by omega, Lib.hid HT.out.symm, HU2⟩
          case measure => simp [intOf]; omega
        · have HT := Lib.hid (rowSoFar 44 expT xs k hlt (by omega))
          have hk1 : decide ((0 : Int) < (k : Int)) = true := decide_eq_true (by omega)
          have hk2 : (0 : Int) < (k : Int) := by omega
          have S1 := Lib.hid (expTextS u xs[k] wo f hgv (R_T1k.upd hr HU.out (by simp)))
          have hbl := expT_len xs[k]
          obtain ⟨d1, e1, rfl, -⟩ := slF2_open hr
          generalize expT xs[k] = B at *
          obtain ⟨A1, hA1⟩ : ∃ A1, A1 = A ++ [44] := ⟨_, rfl⟩
          obtain ⟨A2, hA2⟩ : ∃ A2, A2 = A1 ++ B := ⟨_, rfl⟩
          have hl1 : A1.length = A.length + 1 := by rw [hA1]; simp
          have hl2 : A2.length = A1.length + B.length := by rw [hA2]; simp
          have HE := Lib.hid (show A2 = joinC 44 ((xs.take (k + 1)).map expT) by rw [HT.out, ← HJ.out, hA2, hA1])
          have hcat1 : (ByteArray.mk A.toArray ++ ByteArray.mk #[44]) = ByteArray.mk A1.toArray := by rw [hA1, ← catE]
          have hcat2 : (ByteArray.mk A1.toArray ++ ByteArray.mk B.toArray) = ByteArray.mk A2.toArray := by rw [hA2, ← catE]
          have hm : A2.length ≤ 421 * (k + 1) := by rw [hl2, hl1]; omega
          have hz : ¬ (9223372036854775807 < A.length + 1) := by omega
          have hz2 : ¬ (9223372036854775807 < A1.length + B.length) := by omega
          have HM := Lib.hid hm
          clear hA1 hA2 hl1 hl2 hm hk0 HT
          go_wp2_with fail
          refine S1.out.mono ?_
          rintro r w2 ⟨rfl, hu2⟩
          have HU2 := Lib.hid (HU.out.trans hu2)
          clear hu2 S1
          go_wp2_with fail
          go_roundw
          case rel => exact ⟨k + 1, A2, by omega, by go_num, rfl, HM.out, HE, HU2⟩
          case measure => simp [intOf]; omega
      · obtain rfl : k = xs.length := by omega
        have HJ2 := Lib.hid (show A = joinC 44 (xs.map expT) by rw [HJ.out, List.take_length])
        clear HJ
        go_wp2_with fail
        go_ret
        exact ⟨by rw [← HJ2.out]; rfl, HU.out⟩

end Go.Proofs.YtjelcjiofcoifaaGreatDoor
/-
  Slices of elements of three or four plain cells each.
-/
namespace Go.Proofs.YtjelcjiofcoifaaGreatDoor
open Go.RowKit

end Go.Proofs.YtjelcjiofcoifaaGreatDoor

/-
  Two rows that a call appends to in turn, of texts and of numbers, over any items.
-/
namespace Go.Proofs.YtjelcjiofcoifaaGreatDoor
open Go.RowKit

theorem ownsRow_grownX {w w1 : World} {base : Nat} {e : TypeId} {size : Nat} {v : Value} {n : Nat} {xs : List Value} (h : w.ownsRow base e size v n xs) {row : Option Nat} (hg : w.grownBy w1 row) (hd : ∀ b, v.ownBlock = some b → row ≠ some b) : w1.ownsRow base e size v n xs := by
  refine h.kept (row := row) hg ?_
  cases hv : v.ownBlock with
  | none => exact Or.inl rfl
  | some b => exact Or.inr (fun e => hd b hv e.symm)

theorem own_cellsX {w : World} {base : Nat} {e : TypeId} {v : Value} {n : Nat} {xs : List Value} (h : w.ownsRow base e 1 v n xs) (h0 : 0 < n) :
    ∃ g cap, v = .slice (some ⟨g, 0, none⟩) n cap ∧ n ≤ cap ∧ cap ≤ maxLen ∧ base ≤ g ∧ g < w.heap.size ∧ ∀ j, j < n → w.cell? ⟨g, j, none⟩ = xs[j]? := by
  have h' := h
  rcases h.2 with ⟨-, h1⟩ | ⟨g, cap, cur, rfl, hb, hh, q1, q2, q3, q4⟩
  · omega
  · exact ⟨g, cap, rfl, q1, q2, hb, (Array.getElem?_eq_some_iff.1 hh).1, fun j hj => h'.cellAt j (by omega)⟩

section
variable {β : Type} {ft : β → List UInt8} {fl : β → Int}
def txG (ft : β → List UInt8) (xs : List β) : List Value := xs.reverse.map fun x => es (ft x)
def lvG (fl : β → Int) (xs : List β) : List Value := xs.reverse.map fun x => .int .i64 (fl x)
theorem txG_cons (x : β) (xs : List β) : txG ft (x :: xs) = txG ft xs ++ [es (ft x)] := by simp [txG]
theorem lvG_cons (x : β) (xs : List β) : lvG fl (x :: xs) = lvG fl xs ++ [.int .i64 (fl x)] := by simp [lvG]
theorem rev_take {γ : Type} (xs : List γ) (a : Nat) : xs.reverse.take (xs.length - a) = (xs.drop a).reverse := by
  rw [List.take_reverse]
  by_cases h : a ≤ xs.length
  · rw [show xs.length - (xs.length - a) = a by omega]
  · rw [show xs.length - (xs.length - a) = xs.length by omega, List.drop_of_length_le (Nat.le_refl _), List.drop_of_length_le (by omega)]
theorem txG_take (xs : List β) (a : Nat) : (txG ft xs).take ((xs.length - a) * 1) = txG ft (xs.drop a) := by
  unfold txG
  rw [Nat.mul_one, ← List.map_take, rev_take]
theorem rev_at {γ : Type} (xs : List γ) (i : Nat) (h : i < xs.length) : xs.reverse[xs.length - 1 - i]? = some xs[i] := by
  rw [List.getElem?_reverse (by omega), show xs.length - 1 - (xs.length - 1 - i) = i by omega]; simp
theorem txG_at (xs : List β) (i : Nat) (h : i < xs.length) : (txG ft xs)[xs.length - 1 - i]? = some (es (ft xs[i])) := by
  unfold txG; rw [List.getElem?_map, rev_at xs i h]; rfl
/-- the two stacks, apart. -/
structure StkG (ft : β → List UInt8) (fl : β → Int) (w0 w : World) (tv lv : Value) (xs : List β) : Prop where
  t : w.ownsRow w0.heap.size 9 1 tv xs.length (txG ft xs)
  l : w.ownsRow w0.heap.size 2 1 lv xs.length (lvG fl xs)
  apart : ∀ b, tv.ownBlock = some b → lv.ownBlock ≠ some b
theorem StkG.upd {w0 w w1 : World} {tv lv : Value} {xs : List β} (h : StkG ft fl w0 w tv lv xs) (hu : Upd [] w w1) : StkG ft fl w0 w1 tv lv xs :=
  ⟨ownsRow_upd h.t hu, ownsRow_upd h.l hu, h.apart⟩
theorem StkG.done {w0 wA w3 w4 : World} {tvc lvc tv' lv' : Value} {ys : List β} {x : β} {o : Obj} (hl : wA.ownsRow w0.heap.size 2 1 lvc ys.length (lvG fl ys))
    (hap : ∀ b, tvc.ownBlock = some b → lvc.ownBlock ≠ some b) (h3 : w3.ownsRow w0.heap.size 9 1 tv' (ys.length + 1) (txG ft ys ++ [es (ft x)])) (ht3 : ∀ b, tv'.ownBlock = some b → tvc.ownBlock = some b ∨ wA.heap.size ≤ b)
    (h4 : w4.ownsRow w0.heap.size 2 1 lv' (ys.length + 1) (lvG fl ys ++ [.int .i64 (fl x)])) (hg4 : (w3.alloc o).grownBy w4 lvc.ownBlock) (ht4 : ∀ b, lv'.ownBlock = some b → lvc.ownBlock = some b ∨ (w3.alloc o).heap.size ≤ b) : StkG ft fl w0 w4 tv' lv' (x :: ys) := by
  have hd : ∀ b, tv'.ownBlock = some b → lvc.ownBlock ≠ some b := by
    intro b hb hlb
    rcases ht3 b hb with h | h
    · exact hap b h hlb
    · have := (hl.lt b hlb).2; omega
  refine ⟨?_, by rw [lvG_cons]; simpa using h4, ?_⟩
  · rw [txG_cons]
    exact ownsRow_grownX (ownsRow_upd (by simpa using h3) ((Upd.refl [] _).alloc o)) hg4 hd
  · intro b hb hlb
    rcases ht4 b hlb with h | h
    · exact hd b hb h
    · have := (h3.lt b hb).2; simp at h; omega
theorem StkG.levels {w0 wA w3 : World} {tvc lvc : Value} {ys : List β} {o : Obj} (hl : wA.ownsRow w0.heap.size 2 1 lvc ys.length (lvG fl ys))
    (hap : ∀ b, tvc.ownBlock = some b → lvc.ownBlock ≠ some b) (hg3 : wA.grownBy w3 tvc.ownBlock) : (w3.alloc o).ownsRow w0.heap.size 2 1 lvc ys.length (lvG fl ys) :=
  ownsRow_upd (ownsRow_grownX hl hg3 (fun b hb h => hap b h hb)) ((Upd.refl [] _).alloc o)
end

end Go.Proofs.YtjelcjiofcoifaaGreatDoor

/-
  Two rows that a call appends to in turn, of texts and of truths, over any items.
-/
namespace Go.Proofs.YtjelcjiofcoifaaGreatDoor
open Go.RowKit

section
variable {β : Type} {ft : β → List UInt8} {fl : β → Bool}
def lvB (fl : β → Bool) (xs : List β) : List Value := xs.reverse.map fun x => .bool (fl x)
theorem lvB_cons (x : β) (xs : List β) : lvB fl (x :: xs) = lvB fl xs ++ [.bool (fl x)] := by simp [lvB]
theorem lvB_take (xs : List β) (a : Nat) : (lvB fl xs).take ((xs.length - a) * 1) = lvB fl (xs.drop a) := by
  unfold lvB
  rw [Nat.mul_one, ← List.map_take, rev_take]
theorem lvB_at (xs : List β) (i : Nat) (h : i < xs.length) : (lvB fl xs)[xs.length - 1 - i]? = some (.bool (fl xs[i])) := by
  unfold lvB; rw [List.getElem?_map, rev_at xs i h]; rfl

/-- the two stacks, apart. -/
structure StkB (ft : β → List UInt8) (fl : β → Bool) (w0 w : World) (tv lv : Value) (xs : List β) : Prop where
  t : w.ownsRow w0.heap.size 9 1 tv xs.length (txG ft xs)
  l : w.ownsRow w0.heap.size 4 1 lv xs.length (lvB fl xs)
  apart : ∀ b, tv.ownBlock = some b → lv.ownBlock ≠ some b
theorem StkB.upd {w0 w w1 : World} {tv lv : Value} {xs : List β} (h : StkB ft fl w0 w tv lv xs) (hu : Upd [] w w1) : StkB ft fl w0 w1 tv lv xs :=
  ⟨ownsRow_upd h.t hu, ownsRow_upd h.l hu, h.apart⟩
theorem StkB.done {w0 wA w3 w4 : World} {tvc lvc tv' lv' : Value} {ys : List β} {x : β} {o : Obj} (hl : wA.ownsRow w0.heap.size 4 1 lvc ys.length (lvB fl ys))
    (hap : ∀ b, tvc.ownBlock = some b → lvc.ownBlock ≠ some b) (h3 : w3.ownsRow w0.heap.size 9 1 tv' (ys.length + 1) (txG ft ys ++ [es (ft x)])) (ht3 : ∀ b, tv'.ownBlock = some b → tvc.ownBlock = some b ∨ wA.heap.size ≤ b)
    (h4 : w4.ownsRow w0.heap.size 4 1 lv' (ys.length + 1) (lvB fl ys ++ [.bool (fl x)])) (hg4 : (w3.alloc o).grownBy w4 lvc.ownBlock) (ht4 : ∀ b, lv'.ownBlock = some b → lvc.ownBlock = some b ∨ (w3.alloc o).heap.size ≤ b) : StkB ft fl w0 w4 tv' lv' (x :: ys) := by
  have hd : ∀ b, tv'.ownBlock = some b → lvc.ownBlock ≠ some b := by
    intro b hb hlb
    rcases ht3 b hb with h | h
    · exact hap b h hlb
    · have := (hl.lt b hlb).2; omega
  refine ⟨?_, by rw [lvB_cons]; simpa using h4, ?_⟩
  · rw [txG_cons]
    exact ownsRow_grownX (ownsRow_upd (by simpa using h3) ((Upd.refl [] _).alloc o)) hg4 hd
  · intro b hb hlb
    rcases ht4 b hlb with h | h
    · exact hd b hb h
    · have := (h3.lt b hb).2; simp at h; omega
theorem StkB.levels {w0 wA w3 : World} {tvc lvc : Value} {ys : List β} {o : Obj} (hl : wA.ownsRow w0.heap.size 4 1 lvc ys.length (lvB fl ys))
    (hap : ∀ b, tvc.ownBlock = some b → lvc.ownBlock ≠ some b) (hg3 : wA.grownBy w3 tvc.ownBlock) : (w3.alloc o).ownsRow w0.heap.size 4 1 lvc ys.length (lvB fl ys) :=
  ownsRow_upd (ownsRow_grownX hl hg3 (fun b hb h => hap b h hb)) ((Upd.refl [] _).alloc o)
end

end Go.Proofs.YtjelcjiofcoifaaGreatDoor

/-
  Pieces of the text of a body: what the reference's calls return; plain pieces.
-/
namespace Go.Proofs.YtjelcjiofcoifaaGreatDoor
open Go.RowKit

theorem es_parW (T : List UInt8) : ((⟨#[40]⟩ : ByteArray) ++ ⟨T.toArray⟩ ++ ⟨#[41]⟩) = ⟨(([40] ++ T) ++ [41]).toArray⟩ := by rw [catE, catE]
set_option maxRecDepth 20000 in
theorem wrapDS (T : List UInt8) (b : Bool) (hl : T.length ≤ 1000000) (w : World) : Calls Tryz.prog 85 #[es T, .bool b] w fun e w' => e = .returned (es (par b T)) ∧ w = w' := by
  cases b
  · go_enter Tryz.func85, Tryz.ntmps85
    go_wp2_with fail
    go_ret
    exact ⟨rfl, rfl⟩
  · go_enter Tryz.func85, Tryz.ntmps85
    go_wp2_with fail
    go_ret
    exact ⟨by simp only [par, if_true, es_parW]; rfl, rfl⟩
set_option maxRecDepth 20000 in
set_option maxHeartbeats 1000000 in
theorem argsDS (v : Value) (l : List (List Tm)) (w : World) (fp : List Nat) (hR : R_T2 fp w [v] l) (hl : l.length ≤ 3) (hv : ∀ e ∈ l, eOk e = true) :
    Calls Tryz.prog 84 #[v] w fun e w' => e = .returned (es (argsTxt l)) ∧ Upd [] w w' := by
  have S1 := Lib.hid (rowS44 v l w fp hR (by omega) hv)
  obtain ⟨a, c, rfl, g1, g2, -⟩ := slP_open hR
  unfold maxLen at g2
  have hlen := rowT_len 44 l
  have HM := Lib.hid (show argsTxt l = if l.length = 0 then [] else ([40] ++ joinC 44 (l.map expT)) ++ [41] from rfl)
  clear hR
  generalize joinC 44 (l.map expT) = T at *
  generalize argsTxt l = Z at *
  by_cases h0 : l.length = 0
  · have HZ := Lib.hid (show Z = [] by rw [HM.out, if_pos h0])
    have hb : ((l.length : Int) == 0) = true := by rw [h0]; rfl
    clear HM S1 h0
    go_enter Tryz.func84, Tryz.ntmps84
    go_wp2_with fail
    go_ret
    exact ⟨by rw [HZ.out]; rfl, Upd.refl _ _⟩
  · have HZ := Lib.hid (show Z = ([40] ++ T) ++ [41] by rw [HM.out, if_neg h0])
    have hb : ((l.length : Int) == 0) = false := by simp; intro h; exact h0 (by rw [h]; rfl)
    have n1 : ¬ (9223372036854775807 < 1 + T.length) := by omega
    have n2 : ¬ (9223372036854775807 < 1 + T.length + 1) := by omega
    clear HM h0
    go_enter Tryz.func84, Tryz.ntmps84
    go_wp2_with fail
    refine S1.out.mono ?_
    rintro e w1 ⟨rfl, hu⟩
    have HU := Lib.hid hu
    clear S1 hu
    go_wp2_with fail
    go_ret
    exact ⟨by rw [HZ.out, es_parW]; rfl, HU.out⟩

theorem getD_takeD {γ : Type} (xs : List γ) (a i : Nat) (d : γ) (h : i < a) : (xs.take a).getD i d = xs.getD i d := by
  rw [List.getD_eq_getElem?_getD, List.getD_eq_getElem?_getD, List.getElem?_take, if_pos h]
theorem getD_ltD {γ δ : Type} (xs : List γ) (F : γ → δ) (i : Nat) (d : δ) (h : i < xs.length) : (xs.map F).getD i d = F xs[i] := by
  rw [List.getD_eq_getElem?_getD, List.getElem?_map, List.getElem?_eq_getElem h, Option.map_some, Option.getD_some]
theorem forestT_leD {α : Type} : ∀ xs : List (Tr α), xs.length ≤ (flatTs xs).length
  | [] => by simp
  | x :: xs => by
    have := forestT_leD xs
    have := flatT_pos x
    simp only [flatTs, List.length_append, List.length_cons]; omega
/-- the text of a part, those of its first two children given. -/
noncomputable def nodeD (ns : List (List UInt8)) (p : Pa) (c0 : Bool) (t0 t1 : List UInt8) : List UInt8 :=
  if p.kind = 1 then ((p.name ++ argsTxt p.args) ++ [46]) ++ par c0 t0
  else if p.kind = 2 then (par c0 t0 ++ [32, 43, 32]) ++ t1
  else if p.kind = 3 then (([91] ++ expT (p.args.getD 0 [])) ++ [93]) ++ par c0 t0
  else if p.kind = 4 then (([115, 117, 109, 32] ++ Lib.itoa p.num) ++ [46]) ++ par c0 t0
  else if p.kind = 5 then ns.getD p.num.toNat [] ++ argsTxt p.args
  else [48]
theorem pT_node (ns : List (List UInt8)) (p : Pa) (xs : List (Tr Pa)) : pT ns (.mk p (xs.take (folP p).toNat)) = nodeD ns p ((xs.map chP).getD 0 false) ((xs.map (pT ns)).getD 0 []) ((xs.map (pT ns)).getD 1 []) := by
  have h1 : 1 ≤ (folP p).toNat → (((xs.take (folP p).toNat).map chP).getD 0 false = (xs.map chP).getD 0 false ∧ ((xs.take (folP p).toNat).map (pT ns)).getD 0 [] = (xs.map (pT ns)).getD 0 []) := fun h => by
    rw [List.map_take, List.map_take]
    exact ⟨getD_takeD _ _ _ _ (by omega), getD_takeD _ _ _ _ (by omega)⟩
  have h2 : 2 ≤ (folP p).toNat → ((xs.take (folP p).toNat).map (pT ns)).getD 1 [] = (xs.map (pT ns)).getD 1 [] := fun h => by
    rw [List.map_take]; exact getD_takeD _ _ _ _ (by omega)
  rw [pT, pTs_map]
  unfold nodeD
  by_cases c1 : p.kind = 1
  · have hf : folP p = 1 := by unfold folP; rw [if_pos (Or.inl c1)]
    obtain ⟨g1, g2⟩ := h1 (by rw [hf]; decide)
    simp only [c1, if_true]; rw [g1, g2]
  by_cases c2 : p.kind = 2
  · have hf : folP p = 2 := by unfold folP; rw [if_neg (by omega), if_pos c2]
    obtain ⟨g1, g2⟩ := h1 (by rw [hf]; decide)
    have g3 := h2 (by rw [hf]; decide)
    simp only [c2]; rw [g1, g2, g3]; try simp
  by_cases c3 : p.kind = 3
  · have hf : folP p = 1 := by unfold folP; rw [if_pos (Or.inr (Or.inl c3))]
    obtain ⟨g1, g2⟩ := h1 (by rw [hf]; decide)
    simp only [c3]; rw [g1, g2]; try simp
  by_cases c4 : p.kind = 4
  · have hf : folP p = 1 := by unfold folP; rw [if_pos (Or.inr (Or.inr c4))]
    obtain ⟨g1, g2⟩ := h1 (by rw [hf]; decide)
    simp only [c4]; rw [g1, g2]; try simp
  simp only [c1, c2, c3, c4, if_false]

end Go.Proofs.YtjelcjiofcoifaaGreatDoor

/-
  The laws' helper functions over lists of texts.
-/
namespace Go.Proofs.YtjelcjiofcoifaaGreatDoor
open Go.RowKit

theorem str_cat (a b : List UInt8) : (ByteArray.mk a.toArray ++ ByteArray.mk b.toArray) = ByteArray.mk (a ++ b).toArray := ByteArray.mk_append_mk a b

/-- the text that marks the number k. -/
def mtx (k : Int) : List UInt8 := 109 :: Lib.decDigits k.toNat

/-- n marks from k on. -/
def mkS (k : Int) (n : Nat) : List (List UInt8) := (upFrom k n).map mtx
@[simp] theorem mkS_length (k : Int) (n : Nat) : (mkS k n).length = n := by simp [mkS]
theorem mkS_get (k : Int) (n i : Nat) (h : i < n) : (mkS k n)[i]? = some (mtx (k + i)) := by
  unfold mkS; rw [List.getElem?_map, upFrom_get k n i h]; rfl
end Go.Proofs.YtjelcjiofcoifaaGreatDoor

/-
  Readings of slices whose elements are several cells each and hold memory of their own.
-/
namespace Go.Proofs.YtjelcjiofcoifaaGreatDoor
open Go.RowKit

theorem flat_len {β : Type} {n : Nat} : ∀ {us : List (List β)}, (∀ u ∈ us, u.length = n) → us.flatten.length = us.length * n
  | [], _ => by simp
  | u :: us, h => by
    rw [List.flatten_cons, List.length_append, h u (by simp), flat_len (fun v hv => h v (by simp [hv])), List.length_cons, Nat.add_mul]
    omega
theorem flat_at {β : Type} {n : Nat} : ∀ {us : List (List β)}, (∀ u ∈ us, u.length = n) → ∀ {i : Nat} {u : List β}, us[i]? = some u → ∀ {j : Nat} {c : β}, u[j]? = some c → us.flatten[i * n + j]? = some c
  | [], _, i, u, hu, _, _, _ => by simp at hu
  | v :: us, h, i, u, hu, j, c, hc => by
    have hv := h v (by simp)
    rw [List.flatten_cons]
    cases i with
    | zero =>
      simp at hu; subst hu
      rw [Nat.zero_mul, Nat.zero_add, List.getElem?_append_left (List.getElem?_eq_some_iff.1 hc).1]; exact hc
    | succ i =>
      simp at hu
      rw [List.getElem?_append_right (by rw [Nat.add_mul]; omega), hv, show (i + 1) * n + j - n = i * n + j by rw [Nat.add_mul]; omega]
      exact flat_at (fun x hx => h x (by simp [hx])) hu hc

/-- A slice whose elements are n cells each, and hold memory of their own. -/
def slQ {α : Type} (n : Nat) (R : Rp α) : Rp (List α) := fun fp w cs xs =>
  ∃ (a : Option Addr) (cap : Nat) (us : List (List Value)) (fb : List Nat) (fps : List (List Nat)), cs = [.slice a xs.length cap] ∧ xs.length ≤ cap ∧ cap ≤ maxLen ∧ us.length = xs.length ∧ (∀ u ∈ us, u.length = n) ∧ fps.length = xs.length ∧ fp = fb ++ fps.flatten ∧
    ((xs.length = 0 ∧ fb = []) ∨ ∃ b off, a = some ⟨b, off, none⟩ ∧ fb = [b] ∧ b < w.heap.size ∧ ∀ (i j : Nat) (u : List Value) (c : Value), us[i]? = some u → u[j]? = some c → w.cell? ⟨b, off + i * n + j, none⟩ = some c) ∧
    ∀ i (h : i < xs.length) u (f : List Nat), us[i]? = some u → fps[i]? = some f → R f w u xs[i]

theorem slQ_kept {α : Type} {n : Nat} {R : Rp α} (K : Kept R) : Kept (slQ n R) := by
  constructor
  · rintro fp w cs x ⟨a, cap, us, fb, fps, rfl, h1, h2, hu, hn, hl, rfl, hb, hr⟩ b hm
    rcases List.mem_append.1 hm with hm | hm
    · rcases hb with ⟨-, rfl⟩ | ⟨b', off, rfl, rfl, hbl, -⟩
      · simp at hm
      · simp at hm; subst hm; exact hbl
    · obtain ⟨f, hfm, hbf⟩ := List.mem_flatten.1 hm
      obtain ⟨i, hi, rfl⟩ := List.mem_iff_getElem.1 hfm
      exact K.lt (hr i (by omega) us[i] fps[i] (by simp) (by simp)) b hbf
  · rintro fp w w' cs x ⟨a, cap, us, fb, fps, rfl, h1, h2, hu, hn, hl, rfl, hb, hr⟩ hs hm
    refine ⟨a, cap, us, fb, fps, rfl, h1, h2, hu, hn, hl, rfl, ?_, fun i h u f hu' hf' => ?_⟩
    · rcases hb with hb | ⟨b', off, rfl, rfl, hbl, hc⟩
      · exact Or.inl hb
      · refine Or.inr ⟨b', off, rfl, rfl, by omega, fun i j u c hu' hc' => ?_⟩
        rw [World.cell?_of_block (w := w) (hm b' (by simp))]; exact hc i j u c hu' hc'
    · exact K.frame (hr i h u f hu' hf') hs fun b hbf => hm b (List.mem_append_right _ (List.mem_flatten.2 ⟨f, List.mem_of_getElem? hf', hbf⟩))

theorem slQ_open {α : Type} {n : Nat} {R : Rp α} {fp : List Nat} {w : World} {v : Value} {xs : List α} (h : slQ n R fp w [v] xs) :
    ∃ a cap, v = .slice a xs.length cap ∧ xs.length ≤ cap ∧ cap ≤ maxLen ∧
      ∀ i (h : i < xs.length), ∃ b off u f, a = some ⟨b, off, none⟩ ∧ b ∈ fp ∧ b < w.heap.size ∧ u.length = n ∧ (∀ (j : Nat) c, u[j]? = some c → w.cell? ⟨b, off + i * n + j, none⟩ = some c) ∧ (∀ c ∈ f, c ∈ fp) ∧ R f w u xs[i] := by
  obtain ⟨a, cap, us, fb, fps, hv, h1, h2, hu, hn, hl, rfl, hb, hr⟩ := h
  cases hv
  refine ⟨a, cap, rfl, h1, h2, fun i hi => ?_⟩
  rcases hb with ⟨h0, -⟩ | ⟨b, off, rfl, rfl, hbl, hc⟩
  · omega
  · have hu' : us[i]? = some us[i] := by simp
    have hf' : fps[i]? = some fps[i] := by simp
    exact ⟨b, off, us[i], fps[i], rfl, by simp, hbl, hn _ (List.mem_of_getElem? hu'), fun j c hj => hc i j _ c hu' hj, fun c hc => List.mem_append_right _ (List.mem_flatten.2 ⟨_, List.mem_of_getElem? hf', hc⟩), hr i hi _ _ hu' hf'⟩

theorem slQ_nil {α : Type} {n : Nat} {R : Rp α} (w : World) (a : Option Addr) (cap : Nat) (h : cap ≤ maxLen) : slQ n R [] w [.slice a 0 cap] ([] : List α) :=
  ⟨a, cap, [], [], [], rfl, Nat.zero_le _, h, rfl, by simp, rfl, rfl, Or.inl ⟨rfl, rfl⟩, by simp⟩

/-- the first elements of a slice. -/
theorem slQ_take {α : Type} {n : Nat} {R : Rp α} {fp : List Nat} {w : World} {a : Option Addr} {cap m : Nat} {xs : List α} (h : slQ n R fp w [.slice a m cap] xs) (k : Nat) (hk : k ≤ xs.length) :
    ∃ fp', slQ n R fp' w [.slice a k cap] (xs.take k) ∧ ∀ b ∈ fp', b ∈ fp := by
  obtain ⟨a', cap', us, fb, fps, hv, h1, h2, hu, hn, hl, rfl, hb, hr⟩ := h
  simp only [List.cons.injEq, Value.slice.injEq, and_true] at hv
  obtain ⟨rfl, rfl, rfl⟩ := hv
  have hlk : (xs.take k).length = k := by simp; omega
  by_cases h0 : k = 0
  · subst h0
    exact ⟨[], by simpa using slQ_nil w a cap h2, by simp⟩
  · refine ⟨fb ++ (fps.take k).flatten, ⟨a, cap, us.take k, fb, fps.take k, by rw [hlk], by rw [hlk]; omega, h2, by simp [hu], fun u hu' => hn u (List.mem_of_mem_take hu'), by simp [hl], rfl, ?_, ?_⟩, ?_⟩
    · rcases hb with ⟨hx, -⟩ | ⟨b, off, rfl, rfl, hbl, hc⟩
      · omega
      · refine Or.inr ⟨b, off, rfl, rfl, hbl, fun i j u c hu' hc' => hc i j u c ?_ hc'⟩
        rw [List.getElem?_take] at hu'
        split at hu'
        · exact hu'
        · cases hu'
    · intro i hi u f hu' hf'
      have hik : i < k := by rw [hlk] at hi; exact hi
      rw [List.getElem?_take, if_pos hik] at hu' hf'
      rw [List.getElem_take]
      exact hr i (by omega) u f hu' hf'
    · intro b hb'
      rcases List.mem_append.1 hb' with hb' | hb'
      · exact List.mem_append_left _ hb'
      · obtain ⟨f, hf, hbf⟩ := List.mem_flatten.1 hb'
        exact List.mem_append_right _ (List.mem_flatten.2 ⟨f, List.mem_of_mem_take hf, hbf⟩)

/-- Elements of several cells each, with memory of their own, from block base on and apart from the blocks ob. -/
def RowsQ {α : Type} (n : Nat) (R : Rp α) (base : Nat) (ob : List Nat) (w : World) (us : List (List Value)) (xs : List α) : Prop :=
  ∃ fps : List (List Nat), fps.length = xs.length ∧ us.length = xs.length ∧ (∀ u ∈ us, u.length = n) ∧ Own fps.flatten w ∧ (∀ b ∈ fps.flatten, base ≤ b ∧ b ∉ ob) ∧
    ∀ i (h : i < xs.length) u (f : List Nat), us[i]? = some u → fps[i]? = some f → R f w u xs[i]

/-- What a call makes anew, as several cells. -/
def NewQ {α : Type} (R : Rp α) (w w' : World) (u : List Value) (x : α) : Prop :=
  ∃ fp, R fp w' u x ∧ Own fp w' ∧ ∀ b ∈ fp, w.heap.size ≤ b

namespace RowsQ
variable {α : Type} {n : Nat} {R : Rp α} {base : Nat} {ob : List Nat} {w w1 : World} {us : List (List Value)} {xs : List α}

theorem nil (n : Nat) (R : Rp α) (base : Nat) (ob : List Nat) (w : World) : RowsQ n R base ob w [] [] := ⟨[], rfl, rfl, by simp, Own.nil w, by simp, by simp⟩
theorem length (h : RowsQ n R base ob w us xs) : us.length = xs.length := by obtain ⟨_, _, h, _⟩ := h; exact h
theorem each (h : RowsQ n R base ob w us xs) : ∀ u ∈ us, u.length = n := by obtain ⟨_, _, _, h, _⟩ := h; exact h
theorem flat (h : RowsQ n R base ob w us xs) : us.flatten.length = xs.length * n := by rw [flat_len h.each, h.length]

theorem upd (K : Kept R) (h : RowsQ n R base ob w us xs) {f : List Nat} (hu : Upd f w w1) (hf : ∀ b ∈ f, b ∈ ob ∨ b < base) : RowsQ n R base ob w1 us xs := by
  obtain ⟨fps, h1, h2, h6, h3, h4, h5⟩ := h
  have hd : ∀ b ∈ fps.flatten, b ∉ f := fun b hb hm => by
    rcases hf b hm with h | h
    · exact (h4 b hb).2 h
    · have := (h4 b hb).1; omega
  refine ⟨fps, h1, h2, h6, h3.upd hu hd, h4, fun i hi u f' hu' hf' => K.upd (h5 i hi u f' hu' hf') hu fun b hb => hd b (List.mem_flatten.2 ⟨_, List.mem_of_getElem? hf', hb⟩)⟩

theorem ob' (h : RowsQ n R base ob w us xs) {ob2 : List Nat} (hb : ∀ b ∈ ob2, b ∈ ob ∨ b < base ∨ w.heap.size ≤ b) : RowsQ n R base ob2 w us xs := by
  obtain ⟨fps, h1, h2, h6, h3, h4, h5⟩ := h
  refine ⟨fps, h1, h2, h6, h3, fun b hb' => ⟨(h4 b hb').1, fun hm => ?_⟩, h5⟩
  rcases hb b hm with h | h | h
  · exact (h4 b hb').2 h
  · have := (h4 b hb').1; omega
  · have := h3.lt b hb'; omega

theorem push (K : Kept R) (h : RowsQ n R base ob w us xs) {u : List Value} {x : α} (hu : Upd [] w w1) (hn : NewQ R w w1 u x) (hl : u.length = n) (hb : base ≤ w.heap.size) (hob : ∀ b ∈ ob, b < w.heap.size) :
    RowsQ n R base ob w1 (us ++ [u]) (xs ++ [x]) := by
  obtain ⟨fps, h1, h2, h6, h3, h4, h5⟩ := h.upd K hu (by simp)
  obtain ⟨fps', h1', h2', h6', h3', h4', h5'⟩ := h
  obtain ⟨fp, g1, g2, g3⟩ := hn
  have hlt : ∀ b ∈ fps'.flatten, b < w.heap.size := h3'.lt
  refine ⟨fps' ++ [fp], by simp [h1'], by simp [h2], ?_, ⟨?_, ?_⟩, ?_, ?_⟩
  · intro v hv
    rcases List.mem_append.1 hv with hv | hv
    · exact h6 v hv
    · simp at hv; subst hv; exact hl
  · rw [List.flatten_append, List.nodup_append]
    refine ⟨h3'.1, by simpa using g2.1, fun a ha b hb' e => ?_⟩
    subst e
    have := hlt a ha
    have := g3 a (by simpa using hb')
    omega
  · intro b hb'
    rw [List.flatten_append] at hb'
    rcases List.mem_append.1 hb' with hb' | hb'
    · exact (h3'.upd hu (by simp)).2 b hb'
    · exact g2.2 b (by simpa using hb')
  · intro b hb'
    rw [List.flatten_append] at hb'
    rcases List.mem_append.1 hb' with hb' | hb'
    · exact h4' b hb'
    · have := g3 b (by simpa using hb')
      exact ⟨by omega, fun hm => by have := hob b hm; omega⟩
  · intro i hi u' f' hu' hf'
    by_cases e : i < xs.length
    · rw [List.getElem?_append_left (by omega)] at hu' hf'
      rw [List.getElem_append_left e]
      exact K.upd (h5' i e u' f' hu' hf') hu (by simp)
    · have ei : i = xs.length := by simp at hi; omega
      subst ei
      rw [List.getElem?_append_right (by omega)] at hu' hf'
      rw [h2, Nat.sub_self] at hu'
      rw [h1', Nat.sub_self] at hf'
      simp at hu' hf'
      subst hu' hf'
      simpa using g1

theorem new (h : RowsQ n R base ob w us xs) {w0 : World} {e : TypeId} {v : Value} (ho : w.ownsRow w0.heap.size e n v xs.length us.flatten) (hob : ∀ b, v.ownBlock = some b → b ∈ ob) (hb : w0.heap.size ≤ base) :
    New (slQ n R) w0 w v xs := by
  obtain ⟨fps, h1, h2, h6, h3, h4, h5⟩ := h
  obtain ⟨fb, ⟨a, cap, rfl, q1, q2, -, q4⟩, g2, g3, g4⟩ := Flat.ofOwns ho
  refine ⟨fb ++ fps.flatten, ⟨a, cap, us, fb, fps, rfl, q1, q2, h2, h6, h1, rfl, ?_, h5⟩, ⟨?_, ?_⟩, ?_⟩
  · rcases q4 with q4 | ⟨b, off, rfl, rfl, hbl, hc⟩
    · exact Or.inl q4
    · refine Or.inr ⟨b, off, rfl, rfl, hbl, fun i j u c hu hj => ?_⟩
      rw [Nat.add_assoc]
      exact hc _ _ (flat_at h6 hu hj)
  · rw [List.nodup_append]
    refine ⟨g2.1, h3.1, fun a ha b hb' e => ?_⟩
    subst e
    exact (h4 a hb').2 (hob a (g4 a ha))
  · intro b hb'
    rcases List.mem_append.1 hb' with hb' | hb'
    · exact g2.2 b hb'
    · exact h3.2 b hb'
  · intro b hb'
    rcases List.mem_append.1 hb' with hb' | hb'
    · exact g3 b hb'
    · have := (h4 b hb').1; omega
end RowsQ

/-- cells put into a list one behind the other. -/
def putAt {β : Type} : List β → Nat → List β → List β
  | cs, _, [] => cs
  | cs, o, v :: vs => putAt (cs.set o v) (o + 1) vs
theorem putAt_mid {β : Type} : ∀ (vs A old B : List β), old.length = vs.length → putAt (A ++ old ++ B) A.length vs = A ++ vs ++ B
  | [], A, old, B, h => by
    obtain rfl : old = [] := List.eq_nil_of_length_eq_zero h
    rfl
  | v :: vs, A, o :: old, B, h => by
    rw [putAt, List.append_assoc, List.set_append_right _ _ (Nat.le_refl _), Nat.sub_self, List.cons_append, List.set_cons_zero]
    have := putAt_mid vs (A ++ [v]) old B (by simpa using h)
    simpa using this
theorem ownsRow_setCells {base : Nat} {e : TypeId} {n B L cap : Nat} : ∀ (vs : List Value) {w : World} {cs : List Value} (o : Nat), w.ownsRow base e n (.slice (some ⟨B, 0, none⟩) L cap) L cs → o + vs.length ≤ L * n →
    (w.setCells B o vs).ownsRow base e n (.slice (some ⟨B, 0, none⟩) L cap) L (putAt cs o vs)
  | [], _, _, _, h, _ => h
  | v :: vs, w, cs, o, h, hl => by
    rw [World.setCells, putAt]
    exact ownsRow_setCells vs (o + 1) (h.stored o v).1 (by simp at hl; omega)
theorem upd_setCells {f : List Nat} {w : World} (b : Nat) (hp : w.heap.size ≤ b ∨ b ∈ f) : ∀ (vs : List Value) (o : Nat) {w1 : World}, Upd f w w1 → Upd f w (w1.setCells b o vs)
  | [], _, _, h => h
  | v :: vs, o, _, h => by
    rw [World.setCells]
    exact upd_setCells b hp vs (o + 1) (h.setCell (p := ⟨b, o, none⟩) hp v)
/-- a made row of which the first elements are filled in: one more. -/
theorem filled_set {β : Type} (us : List (List β)) (z : List β) (m n : Nat) (hz : z.length = n) (hu : ∀ u ∈ us, u.length = n) (u : List β) (hl : u.length = n) :
    putAt (us.flatten ++ (List.replicate (m + 1) z).flatten) (us.length * n) u = (us ++ [u]).flatten ++ (List.replicate m z).flatten := by
  rw [List.replicate_succ, List.flatten_cons, ← List.append_assoc, ← flat_len hu, putAt_mid _ _ _ _ (by omega)]
  simp

theorem made_Q {n : Nat} (L : List Value) (hn : L.length = n) (h0 : 0 < n) (m : Nat) : (madeCells (Value.agg L.toArray).cells (m * n)).toList = (List.replicate m L).flatten := by
  apply List.ext_getElem?
  intro i
  have hsz : (Value.agg L.toArray).cells.size = n := by simpa [Value.cells] using hn
  by_cases hi : i < m * n
  · have h2 : i / n < m := by
      have := Nat.div_mul_le_self i n
      rcases Nat.lt_or_ge (i / n) m with h | h
      · exact h
      · have := Nat.mul_le_mul_right n h; omega
    have h3 : i % n < L.length := by rw [hn]; exact Nat.mod_lt _ h0
    have g := flat_at (n := n) (us := List.replicate m L) (by intro u hu; rw [(List.mem_replicate.1 hu).2]; exact hn) (i := i / n) (u := L) (by rw [List.getElem?_replicate, if_pos h2]) (j := i % n) (c := L[i % n]) (List.getElem?_eq_getElem h3)
    have hd : i / n * n + i % n = i := by rw [Nat.mul_comm]; exact Nat.div_add_mod i n
    rw [hd] at g
    rw [g]
    simp [madeCells, hi, Value.cells, hn]
    rw [List.getElem?_eq_getElem h3]; rfl
  · have g : (List.replicate m L).flatten.length = m * n := by
      rw [flat_len (n := n) (by intro u hu; rw [(List.mem_replicate.1 hu).2]; exact hn)]; simp
    have h4 : (madeCells (Value.agg L.toArray).cells (m * n)).toList.length = m * n := by simp [madeCells]
    rw [List.getElem?_eq_none (by omega), List.getElem?_eq_none (by omega)]

theorem Upd.keepF {f : List Nat} {w w1 : World} {b o : Nat} {v : Value} (hu : Upd f w w1) (hb : b ∉ f) (h : w.cell? ⟨b, o, none⟩ = some v) : w1.cell? ⟨b, o, none⟩ = some v := by
  have hl := World.block_lt_of_cell? w _ h
  unfold World.cell? at h ⊢
  rw [hu.block b hl hb]; exact h
theorem Upd.cellF {f : List Nat} {w w1 : World} {b : Nat} (hu : Upd f w w1) (hb : b ∉ f) (hl : b < w.heap.size) (o : Nat) : w1.cell? ⟨b, o, none⟩ = w.cell? ⟨b, o, none⟩ := by
  unfold World.cell?
  rw [hu.block b hl hb]
theorem Upd.row {f : List Nat} {w w1 : World} (h : Upd f w w1) {g : Nat} (hg : w.heap.size ≤ g ∨ g ∈ f) (cs : Array Value) : Upd f w (w1.setRow g cs) :=
  h.fresh (f := [g]) ⟨rfl, rfl, rfl, by simp [World.setRow], fun k _ hf => setRow_other _ _ _ _ (by simpa using hf)⟩ (by simpa using hg)
/-- memory made between two worlds, as it lies later. -/
structure Part {α : Type} (R : Rp α) (lo hi : Nat) (w : World) (v : Value) (x : α) (fp : List Nat) : Prop where
  r : R fp w [v] x
  o : Own fp w
  b : ∀ b ∈ fp, lo ≤ b ∧ b < hi
theorem Part.of {α : Type} {R : Rp α} (K : Kept R) {w w1 : World} {v : Value} {x : α} (h : New R w w1 v x) : ∃ fp, Part R w.heap.size w1.heap.size w1 v x fp := by
  obtain ⟨fp, h1, h2, h3⟩ := h
  exact ⟨fp, h1, h2, fun b hb => ⟨h3 b hb, K.lt h1 b hb⟩⟩
theorem Part.upd {α : Type} {R : Rp α} (K : Kept R) {lo hi : Nat} {w w1 : World} {v : Value} {x : α} {fp f : List Nat} (h : Part R lo hi w v x fp) (hu : Upd f w w1) (hf : ∀ b ∈ f, b < lo ∨ hi ≤ b) : Part R lo hi w1 v x fp := by
  have hd : ∀ b ∈ fp, b ∉ f := fun b hb hm => by have := h.b b hb; have := hf b hm; omega
  exact ⟨K.upd h.r hu hd, h.o.upd hu hd, h.b⟩
theorem New.formQ {α : Type} {n : Nat} {R : Rp α} {w w' : World} {v : Value} {x : List α} (h : New (slQ n R) w w' v x) : ∃ a cap, v = .slice a x.length cap := by
  obtain ⟨fp, ⟨a, cap, us, fb, fps, hv, -⟩, -⟩ := h
  cases hv; exact ⟨a, cap, rfl⟩

/-- outside of a part of block b the cells are as they were. -/
def FarEq (w w' : World) (b lo hi : Nat) : Prop := ∀ o, (o < lo ∨ hi ≤ o) → w'.cell? ⟨b, o, none⟩ = w.cell? ⟨b, o, none⟩
theorem FarEq.refl (w : World) (b lo hi : Nat) : FarEq w w b lo hi := fun _ _ => rfl
theorem FarEq.upd {w w1 w2 : World} {b lo hi : Nat} {f : List Nat} (h : FarEq w w1 b lo hi) (hu : Upd f w1 w2) (hb : b ∉ f) (hl : b < w1.heap.size) : FarEq w w2 b lo hi := fun o ho => (hu.cellF hb hl o).trans (h o ho)
theorem FarEq.put {w w1 w2 : World} {b lo hi j : Nat} (h : FarEq w w1 b lo hi) (hc : ∀ o, o ≠ j → w2.cell? ⟨b, o, none⟩ = w1.cell? ⟨b, o, none⟩) (hj : lo ≤ j ∧ j < hi) : FarEq w w2 b lo hi := fun o ho => (hc o (by omega)).trans (h o ho)

/-- three blocks in a row: what came in, the result's, and the one under way. -/
structure Three (w W : World) (T1 T2 : TypeId) (B : Nat) (p z o : List Value) : Prop where
  base : w.heap.size = B
  upd : Upd [] w W
  h0 : W.heap[B]? = some (.cells p.toArray T1 (0, 0))
  h1 : W.heap[B + 1]? = some (.cells z.toArray T2 (0, 0))
  h2 : W.heap[B + 2]? = some (.cells o.toArray T2 (0, 0))
namespace Three
variable {w W W' : World} {T1 T2 : TypeId} {B : Nat} {p z o : List Value}
theorem mk0 (w : World) (T1 T2 : TypeId) (p z o : List Value) : Three w (((w.alloc (.cells p.toArray T1)).alloc (.cells z.toArray T2)).alloc (.cells o.toArray T2)) T1 T2 w.heap.size p z o := by
  have s1 : (w.alloc (.cells p.toArray T1)).heap.size = w.heap.size + 1 := by simp
  have s2 : ((w.alloc (.cells p.toArray T1)).alloc (.cells z.toArray T2)).heap.size = w.heap.size + 2 := by simp
  refine ⟨rfl, (((Upd.refl _ _).alloc _).alloc _).alloc _, ?_, ?_, ?_⟩
  · rw [Below.heap_alloc _ _ _ (by omega), Below.heap_alloc _ _ _ (by omega)]; exact heap_alloc_new w _
  · rw [Below.heap_alloc _ _ _ (by omega), ← s1]; exact heap_alloc_new _ _
  · rw [← s2]; exact heap_alloc_new _ _
theorem size (h : Three w W T1 T2 B p z o) : B + 2 < W.heap.size := (Array.getElem?_eq_some_iff.1 h.h2).1
theorem call (h : Three w W T1 T2 B p z o) (hu : Upd [] W W') : Three w W' T1 T2 B p z o :=
  ⟨h.base, h.upd.trans hu, by rw [hu.block _ (Array.getElem?_eq_some_iff.1 h.h0).1 (by simp)]; exact h.h0, by rw [hu.block _ (Array.getElem?_eq_some_iff.1 h.h1).1 (by simp)]; exact h.h1, by rw [hu.block _ (Array.getElem?_eq_some_iff.1 h.h2).1 (by simp)]; exact h.h2⟩
theorem store (h : Three w W T1 T2 B p z o) (j : Nat) (v : Value) : Three w (W.setCell ⟨B + 2, j, none⟩ v) T1 T2 B p z (o.set j v) := by
  refine ⟨h.base, h.upd.setCell (Or.inl (by rw [h.base]; simp)) _, ?_, ?_, ?_⟩
  · rw [Below.heap_setCell _ _ _ _ (by simp)]; exact h.h0
  · rw [Below.heap_setCell _ _ _ _ (by simp)]; exact h.h1
  · simp [World.setCell, Array.getElem?_modify, h.h2]
theorem pc (h : Three w W T1 T2 B p z o) (j : Nat) (c : Value) (hc : p[j]? = some c) : W.cell? ⟨B, j, none⟩ = some c := by simp [World.cell?, h.h0, hc]
theorem oc (h : Three w W T1 T2 B p z o) (j : Nat) (c : Value) (hc : o[j]? = some c) : W.cell? ⟨B + 2, j, none⟩ = some c := by simp [World.cell?, h.h2, hc]
theorem fz (h : Three w W T1 T2 B p z o) (j : Nat) : W.frozen? ⟨B + 2, j, none⟩ = false := by simp [World.frozen?, h.h2]
end Three

end Go.Proofs.YtjelcjiofcoifaaGreatDoor

/-
  Names and labels by the reference: what its calls return.
-/
namespace Go.Proofs.YtjelcjiofcoifaaGreatDoor
open Go.RowKit

theorem smallS (b : UInt8) (w : World) : Calls Tryz.prog 80 #[.int .u8 (b.toNat : Int)] w fun e w' => e = .returned (.bool (sml b)) ∧ w = w' := by
  by_cases h1 : 97 ≤ b.toNat
  · by_cases h2 : b.toNat ≤ 122
    · have HR := Lib.hid (show sml b = true by simp [sml]; omega)
      have g1 : (97 : Int) ≤ (b.toNat : Int) := by omega
      have g2 : (b.toNat : Int) ≤ 122 := by omega
      go_enter Tryz.func80, Tryz.ntmps80
      go_wp2_with fail
      go_ret
      exact ⟨by rw [HR.out]; rfl, rfl⟩
    · have HR := Lib.hid (show sml b = false by simp [sml]; omega)
      have g1 : (97 : Int) ≤ (b.toNat : Int) := by omega
      have g2 : ¬ (b.toNat : Int) ≤ 122 := by omega
      go_enter Tryz.func80, Tryz.ntmps80
      go_wp2_with fail
      go_ret
      exact ⟨by rw [HR.out]; rfl, rfl⟩
  · have HR := Lib.hid (show sml b = false by simp [sml]; omega)
    have g1 : ¬ (97 : Int) ≤ (b.toNat : Int) := by omega
    go_enter Tryz.func80, Tryz.ntmps80
    go_wp2_with fail
    go_ret
    exact ⟨by rw [HR.out]; rfl, rfl⟩

theorem digitS (b : UInt8) (w : World) : Calls Tryz.prog 81 #[.int .u8 (b.toNat : Int)] w fun e w' => e = .returned (.bool (isDig b)) ∧ w = w' := by
  by_cases h1 : 48 ≤ b.toNat
  · by_cases h2 : b.toNat ≤ 57
    · have HR := Lib.hid (show isDig b = true by simp [isDig]; omega)
      have g1 : (48 : Int) ≤ (b.toNat : Int) := by omega
      have g2 : (b.toNat : Int) ≤ 57 := by omega
      go_enter Tryz.func81, Tryz.ntmps81
      go_wp2_with fail
      go_ret
      exact ⟨by rw [HR.out]; rfl, rfl⟩
    · have HR := Lib.hid (show isDig b = false by simp [isDig]; omega)
      have g1 : (48 : Int) ≤ (b.toNat : Int) := by omega
      have g2 : ¬ (b.toNat : Int) ≤ 57 := by omega
      go_enter Tryz.func81, Tryz.ntmps81
      go_wp2_with fail
      go_ret
      exact ⟨by rw [HR.out]; rfl, rfl⟩
  · have HR := Lib.hid (show isDig b = false by simp [isDig]; omega)
    have g1 : ¬ (48 : Int) ≤ (b.toNat : Int) := by omega
    go_enter Tryz.func81, Tryz.ntmps81
    go_wp2_with fail
    go_ret
    exact ⟨by rw [HR.out]; rfl, rfl⟩

set_option maxRecDepth 20000 in
set_option maxHeartbeats 2000000 in
theorem nameS (l : List UInt8) (w : World) (hl : l.length ≤ 2000000) : Calls Tryz.prog 50 #[es l] w fun e w' => e = .returned (.bool (nameF l)) ∧ w = w' := by
  cases hcase : l with
  | nil =>
    have HR := Lib.hid (show nameF [] = false by rfl)
    go_enter Tryz.func50, Tryz.ntmps50
    go_wp2_with fail
    go_ret
    exact ⟨by rw [HR.out]; rfl, rfl⟩
  | cons c r =>
    rw [← hcase]
    have hne : (l == []) = false := by rw [hcase]; rfl
    have hpos : 0 < l.length := by rw [hcase]; simp
    by_cases hlen : l.length ≤ 10
    · have hix : (⟨l.toArray⟩ : ByteArray)[0]'(by simpa [ByteArray.size] using hpos) = c := by
        simp [ByteArray.getElem_eq_getElem_data, hcase]
      have HN := Lib.hid (show nameF l = (sml c && l.all (fun c => sml c || isDig c)) by
        unfold nameF; rw [decide_eq_true (show 1 ≤ l.length from hpos), decide_eq_true hlen, hcase]; simp)
      have g1 : ¬ (10 : Int) < (l.length : Int) := by omega
      have S1 := Lib.hid (smallS c w)
      clear hcase
      cases hs : sml c with
      | false =>
        have HR := Lib.hid (show nameF l = false by rw [HN.out, hs]; rfl)
        rw [hs] at S1
        clear HN hs
        go_enter Tryz.func50, Tryz.ntmps50
        go_wp2_with fail
        refine S1.out.mono ?_
        rintro e w1 ⟨rfl, rfl⟩
        clear S1
        go_wp2_with fail
        go_ret
        exact ⟨by rw [HR.out]; rfl, rfl⟩
      | true =>
        have HA := Lib.hid (show nameF l = l.all (fun c => sml c || isDig c) by rw [HN.out, hs]; rfl)
        rw [hs] at S1
        clear HN hs
        go_enter Tryz.func50, Tryz.ntmps50
        go_wp2_with fail
        refine S1.out.mono ?_
        rintro e w1 ⟨rfl, rfl⟩
        clear S1 hix
        go_wp2_with fail
        go_loop [3] (fun i => ∃ k : Nat, k ≤ l.length ∧ i = .int .i64 k ∧ Hid (l.all (fun c => sml c || isDig c) = (l.drop k).all (fun c => sml c || isDig c))) (fun i => l.length - (intOf i).toNat)
        case atStart => exact ⟨0, Nat.zero_le _, rfl, Lib.hid rfl⟩
        case round =>
          obtain ⟨k, hk, rfl, HF⟩ := hrel
          by_cases hlt : k < l.length
          · obtain ⟨b, hb⟩ : ∃ b, l[k] = b := ⟨_, rfl⟩
            have hix : (⟨l.toArray⟩ : ByteArray)[k]'(by simpa [ByteArray.size] using hlt) = b := by rw [← hb]; simp [ByteArray.getElem_eq_getElem_data]
            have hF := HF.out
            rw [List.drop_eq_getElem_cons hlt, hb, List.all_cons] at hF
            have HG := Lib.hid hF
            have S2 := Lib.hid (smallS b w)
            have S3 := Lib.hid (digitS b w)
            clear hF HF hb
            cases hs : sml b with
            | true =>
              have HQ := Lib.hid (HG.out.trans (by rw [hs]; rfl) : l.all (fun c => sml c || isDig c) = (l.drop (k + 1)).all (fun c => sml c || isDig c))
              rw [hs] at S2
              clear HG hs S3
              go_wp2_with fail
              refine S2.out.mono ?_
              rintro e w1 ⟨rfl, rfl⟩
              clear S2
              go_wp2_with fail
              go_round
              case rel => exact ⟨k + 1, by omega, by go_num, HQ⟩
              case measure => simp [intOf]; omega
            | false =>
              rw [hs] at S2
              cases hd : isDig b with
              | true =>
                have HQ := Lib.hid (HG.out.trans (by rw [hs, hd]; rfl) : l.all (fun c => sml c || isDig c) = (l.drop (k + 1)).all (fun c => sml c || isDig c))
                rw [hd] at S3
                clear HG hs hd
                go_wp2_with fail
                refine S2.out.mono ?_
                rintro e w1 ⟨rfl, rfl⟩
                clear S2
                go_wp2_with fail
                refine S3.out.mono ?_
                rintro e w1 ⟨rfl, rfl⟩
                clear S3
                go_wp2_with fail
                go_round
                case rel => exact ⟨k + 1, by omega, by go_num, HQ⟩
                case measure => simp [intOf]; omega
              | false =>
                have HR := Lib.hid (show nameF l = false by rw [HA.out, HG.out, hs, hd]; rfl)
                rw [hd] at S3
                clear HG hs hd HA
                go_wp2_with fail
                refine S2.out.mono ?_
                rintro e w1 ⟨rfl, rfl⟩
                clear S2
                go_wp2_with fail
                refine S3.out.mono ?_
                rintro e w1 ⟨rfl, rfl⟩
                clear S3
                go_wp2_with fail
                go_ret
                exact ⟨by rw [HR.out]; rfl, rfl⟩
          · obtain rfl : k = l.length := by omega
            have HR := Lib.hid (show nameF l = true by rw [HA.out, HF.out, List.drop_of_length_le (Nat.le_refl _)]; rfl)
            clear HF HA
            go_wp2_with fail
            go_ret
            exact ⟨by rw [HR.out]; rfl, rfl⟩
    · have HR := Lib.hid (show nameF l = false by unfold nameF; rw [decide_eq_false hlen]; simp)
      have g1 : (10 : Int) < (l.length : Int) := by omega
      clear hcase hlen
      go_enter Tryz.func50, Tryz.ntmps50
      go_wp2_with fail
      go_ret
      exact ⟨by rw [HR.out]; rfl, rfl⟩

end Go.Proofs.YtjelcjiofcoifaaGreatDoor

/-
  Names and labels: what the program's calls return.
-/
namespace Go.Proofs.YtjelcjiofcoifaaGreatDoor
open Go.RowKit

theorem isDigitI (b : UInt8) (w : World) : Calls Tryz.prog 90 #[.int .u8 (b.toNat : Int)] w fun e w' => e = .returned (.bool (isDig b)) ∧ w = w' := by
  by_cases h1 : 48 ≤ b.toNat
  · by_cases h2 : b.toNat ≤ 57
    · have HR := Lib.hid (show isDig b = true by simp [isDig]; omega)
      have g1 : (48 : Int) ≤ (b.toNat : Int) := by omega
      have g2 : (b.toNat : Int) ≤ 57 := by omega
      go_enter Tryz.func90, Tryz.ntmps90
      go_wp2_with fail
      go_ret
      exact ⟨by rw [HR.out]; rfl, rfl⟩
    · have HR := Lib.hid (show isDig b = false by simp [isDig]; omega)
      have g1 : (48 : Int) ≤ (b.toNat : Int) := by omega
      have g2 : ¬ (b.toNat : Int) ≤ 57 := by omega
      go_enter Tryz.func90, Tryz.ntmps90
      go_wp2_with fail
      go_ret
      exact ⟨by rw [HR.out]; rfl, rfl⟩
  · have HR := Lib.hid (show isDig b = false by simp [isDig]; omega)
    have g1 : ¬ (48 : Int) ≤ (b.toNat : Int) := by omega
    go_enter Tryz.func90, Tryz.ntmps90
    go_wp2_with fail
    go_ret
    exact ⟨by rw [HR.out]; rfl, rfl⟩

set_option maxRecDepth 20000 in
set_option maxHeartbeats 2000000 in
theorem isNameI (l : List UInt8) (w : World) (hl : l.length ≤ 2000000) : Calls Tryz.prog 57 #[es l] w fun e w' => e = .returned (.bool (nameF l)) ∧ w = w' := by
  go_enter Tryz.func57, Tryz.ntmps57
  go_wp2_with fail
  go_loop [7] (fun i => ∃ k : Nat, k ≤ l.length ∧ i = .int .i64 k ∧ Hid (∀ j (hj : j < k) (hj2 : j < l.length), (sml l[j] || (decide (0 < j) && isDig l[j])) = true)) (fun i => l.length - (intOf i).toNat)
  case atStart => exact ⟨0, Nat.zero_le _, rfl, Lib.hid (fun j hj => by omega)⟩
  case round =>
    obtain ⟨k, hk, rfl, HQ⟩ := hrel
    by_cases hlt : k < l.length
    · obtain ⟨b, hb⟩ : ∃ b, l[k] = b := ⟨_, rfl⟩
      have hix : (⟨l.toArray⟩ : ByteArray)[k]'(by simpa [ByteArray.size] using hlt) = b := by rw [← hb]; simp [ByteArray.getElem_eq_getElem_data]
      have HB := Lib.hid hb
      have S1 := Lib.hid (isDigitI b w)
      clear hb
      have hno : (sml b || (decide (0 < k) && isDig b)) = false → nameF l = false := by
        intro h
        cases hn : nameF l with
        | false => rfl
        | true =>
          exfalso
          have hn' := hn
          unfold nameF at hn'
          simp only [Bool.and_eq_true] at hn'
          rw [Bool.or_eq_false_iff] at h
          by_cases h0 : k = 0
          · subst h0
            have e0 : l.headD 0 = b := by rw [← HB.out]; cases l with
              | nil => simp at hlt
              | cons x l => rfl
            have := hn'.1.2
            rw [e0, h.1] at this; cases this
          · have := List.all_eq_true.1 hn'.2 b (by rw [← HB.out]; exact List.getElem_mem hlt)
            rw [h.1] at this
            have h3 := h.2
            rw [decide_eq_true (by omega : 0 < k)] at h3
            simp at h3 this
            rw [h3] at this; cases this
      have HNO := Lib.hid hno
      have hstep : (sml b || (decide (0 < k) && isDig b)) = true → ∀ j (hj : j < k + 1) (hj2 : j < l.length), (sml l[j] || (decide (0 < j) && isDig l[j])) = true := by
        intro h j hj hj2
        by_cases e : j = k
        · subst e; rw [HB.out]; exact h
        · exact HQ.out j (by omega) hj2
      have HST := Lib.hid hstep
      clear hno hstep HQ HB
      by_cases hs : sml b = true
      · have hs' : 97 ≤ b.toNat ∧ b.toNat ≤ 122 := by simpa [sml] using hs
        have g1 : (97 : Int) ≤ (b.toNat : Int) := by omega
        have g2 : (b.toNat : Int) ≤ 122 := by omega
        have g3 : ¬ (122 : Int) < (b.toNat : Int) := by omega
        have HR := Lib.hid (HST.out (by rw [hs]; rfl))
        clear S1 HNO HST hs hs'
        go_wp2_with fail
        go_round
        case rel => exact ⟨k + 1, by omega, by go_num, HR⟩
        case measure => simp [intOf]; omega
      · have hs0 : sml b = false := by simpa using hs
        have HS0 := Lib.hid hs0
        have hs' : ¬ (97 ≤ b.toNat ∧ b.toNat ≤ 122) := by simpa [sml] using hs
        clear hs hs0
        by_cases h0 : k = 0
        · subst h0
          have HR := Lib.hid (HNO.out (by rw [HS0.out]; rfl))
          clear S1 HNO HST
          by_cases g1 : (97 : Int) ≤ (b.toNat : Int)
          · have g2 : ¬ (b.toNat : Int) ≤ 122 := by omega
            have g3 : (122 : Int) < (b.toNat : Int) := by omega
            clear hs'
            go_wp2_with fail
            go_ret
            exact ⟨by rw [HR.out]; rfl, rfl⟩
          · clear hs'
            go_wp2_with fail
            go_ret
            exact ⟨by rw [HR.out]; rfl, rfl⟩
        · have h0' : ((k : Int) == 0) = false := by simp; omega
          cases hd : isDig b with
          | true =>
            have HR := Lib.hid (HST.out (by rw [HS0.out, hd, decide_eq_true (by omega : 0 < k)]; rfl))
            rw [hd] at S1
            clear HNO HST hd
            by_cases g1 : (97 : Int) ≤ (b.toNat : Int)
            · have g2 : ¬ (b.toNat : Int) ≤ 122 := by omega
              have g3 : (122 : Int) < (b.toNat : Int) := by omega
              clear hs'
              go_wp2_with fail
              refine S1.out.mono ?_
              rintro e w1 ⟨rfl, rfl⟩
              go_wp2_with fail
              go_round
              case rel => exact ⟨k + 1, by omega, by go_num, HR⟩
              case measure => simp [intOf]; omega
            · clear hs'
              go_wp2_with fail
              refine S1.out.mono ?_
              rintro e w1 ⟨rfl, rfl⟩
              go_wp2_with fail
              go_round
              case rel => exact ⟨k + 1, by omega, by go_num, HR⟩
              case measure => simp [intOf]; omega
          | false =>
            have HR := Lib.hid (HNO.out (by rw [HS0.out, hd]; simp))
            rw [hd] at S1
            clear HNO HST hd
            by_cases g1 : (97 : Int) ≤ (b.toNat : Int)
            · have g2 : ¬ (b.toNat : Int) ≤ 122 := by omega
              have g3 : (122 : Int) < (b.toNat : Int) := by omega
              clear hs'
              go_wp2_with fail
              refine S1.out.mono ?_
              rintro e w1 ⟨rfl, rfl⟩
              go_wp2_with fail
              go_ret
              exact ⟨by rw [HR.out]; rfl, rfl⟩
            · clear hs'
              go_wp2_with fail
              refine S1.out.mono ?_
              rintro e w1 ⟨rfl, rfl⟩
              go_wp2_with fail
              go_ret
              exact ⟨by rw [HR.out]; rfl, rfl⟩
    · obtain rfl : k = l.length := by omega
      have hfin : nameF l = (decide (1 ≤ l.length) && decide (l.length ≤ 10)) := by
        have hq := HQ.out
        unfold nameF
        by_cases h1 : 1 ≤ l.length
        · have e0 : l.headD 0 = l[0] := by cases l with
            | nil => simp at h1
            | cons x l => rfl
          have q0 := hq 0 (by omega) (by omega)
          simp only [Nat.lt_irrefl, decide_false, Bool.false_and, Bool.or_false] at q0
          have hall : l.all (fun c => sml c || isDig c) = true := by
            rw [List.all_eq_true]
            intro x hx
            obtain ⟨j, hj, rfl⟩ := List.mem_iff_getElem.1 hx
            have := hq j hj hj
            revert this
            cases sml l[j] <;> cases isDig l[j] <;> simp
          rw [e0, q0, hall]; simp
        · rw [decide_eq_false h1]; simp
      have HF := Lib.hid hfin
      clear hfin HQ
      by_cases h1 : 1 ≤ l.length
      · have g1 : (1 : Int) ≤ (l.length : Int) := by omega
        by_cases h2 : l.length ≤ 10
        · have HR := Lib.hid (show nameF l = true by rw [HF.out, decide_eq_true h1, decide_eq_true h2]; rfl)
          have g2 : (l.length : Int) ≤ 10 := by omega
          go_wp2_with fail
          go_ret
          exact ⟨by rw [HR.out]; rfl, rfl⟩
        · have HR := Lib.hid (show nameF l = false by rw [HF.out, decide_eq_true h1, decide_eq_false h2]; rfl)
          have g2 : ¬ (l.length : Int) ≤ 10 := by omega
          go_wp2_with fail
          go_ret
          exact ⟨by rw [HR.out]; rfl, rfl⟩
      · have HR := Lib.hid (show nameF l = false by rw [HF.out, decide_eq_false h1]; rfl)
        have g1 : ¬ (1 : Int) ≤ (l.length : Int) := by omega
        go_wp2_with fail
        go_ret
        exact ⟨by rw [HR.out]; rfl, rfl⟩

end Go.Proofs.YtjelcjiofcoifaaGreatDoor

/-
  Numbers in decimal: what the program's calls return.
-/
namespace Go.Proofs.YtjelcjiofcoifaaGreatDoor
open Go.RowKit

/-- what the calls of the library read of the package's variables. -/
structure Env (w : World) : Prop where
  m : ∃ m : Int, w.cell? ⟨2, 0, none⟩ = some (.int .i64 m)
  tab : Lib.TabIs Tryz.prog w "internal/strconv.uint64pow10" .u64 Lib.pow10Tab
  syn : ∃ tp p, w.var? Tryz.prog "strconv.ErrSyntax" = some #[.iface tp p]
  rng : ∃ tp p, w.var? Tryz.prog "strconv.ErrRange" = some #[.iface tp p]

theorem Upd.var {P : Program} {w w1 : World} {n : String} {cs : Array Value} (hu : Upd [] w w1) (h : w.var? P n = some cs) : w1.var? P n = some cs := by
  unfold World.var? at h ⊢
  cases hg : P.globalNamed n with
  | none => rw [hg] at h; cases h
  | some g =>
    rw [hg] at h
    simp only [Option.bind_some] at h ⊢
    have hlt : g < w.heap.size := by
      rcases Nat.lt_or_ge g w.heap.size with h1 | h1
      · exact h1
      · rw [Array.getElem?_eq_none h1] at h; cases h
    rw [hu.block g hlt (by simp)]
    exact h

theorem Env.upd {w w1 : World} (h : Env w) (hu : Upd [] w w1) : Env w1 :=
  ⟨h.m.imp fun _ hm => hu.keep hm, hu.var h.tab, h.syn.imp fun _ hs => hs.imp fun _ hs => hu.var hs, h.rng.imp fun _ hs => hs.imp fun _ hs => hu.var hs⟩

theorem Upd.grow (w : World) (k : Nat) (os : Array Obj) : Upd [] w (Sort.grow (w.drewN k) os) := by
  refine ⟨rfl, rfl, rfl, ?_, fun i hi _ => ?_⟩
  · show w.heap.size ≤ (w.heap ++ os).size
    rw [Array.size_append]; omega
  · show (w.heap ++ os)[i]? = w.heap[i]?
    rw [Array.getElem?_append_left hi]

theorem decimal (n : Int) (w : World) (h0 : -9223372036854775808 ≤ n) (h1 : n ≤ 9223372036854775807) (he : Env w) :
    Calls Tryz.prog 60 #[.int .i64 n] w fun e w' => e = .returned (es (Lib.itoa n)) ∧ Upd [] w w' := by
  have S1 := Lib.hid (Tryz.strconv_FormatInt_10 n h0 h1 w he.tab)
  clear he h0 h1
  go_enter Tryz.func60, Tryz.ntmps60
  go_wp2_with fail
  refine S1.out.mono ?_
  rintro e w1 ⟨rfl, k, os, rfl⟩
  have HU := Lib.hid (Upd.grow w k os)
  generalize Sort.grow (w.drewN k) os = w1 at *
  clear S1
  go_wp2_with fail
  go_ret
  exact ⟨rfl, HU.out⟩

theorem isActionI (l : List UInt8) (w : World) (hl : l.length ≤ 2000000) :
    Calls Tryz.prog 128 #[es l] w fun e w' => e = .returned (.bool (actF l)) ∧ w = w' := by
  have S1 := Lib.hid (isNameI l w hl)
  cases hn : nameF l with
  | false =>
    have HR := Lib.hid (show actF l = false by simp [actF, hn])
    rw [hn] at S1
    clear hn
    go_enter Tryz.func128, Tryz.ntmps128
    go_wp2_with fail
    refine S1.out.mono ?_
    rintro e w1 ⟨rfl, rfl⟩
    clear S1
    go_wp2_with fail
    go_ret
    exact ⟨by rw [HR.out]; rfl, rfl⟩
  | true =>
    have HR := Lib.hid (show actF l = (l != tauL) by simp [actF, hn])
    rw [hn] at S1
    clear hn
    go_enter Tryz.func128, Tryz.ntmps128
    go_wp2_with fail
    refine S1.out.mono ?_
    rintro e w1 ⟨rfl, rfl⟩
    clear S1
    go_wp2_with fail
    go_ret
    refine ⟨?_, rfl⟩
    rw [HR.out]
    simp [tauL, bne]

end Go.Proofs.YtjelcjiofcoifaaGreatDoor

/-
  Lists of expressions: the first of which something is true, and whether there is one (the library's functions with a function's value).
-/
namespace Go.Proofs.YtjelcjiofcoifaaGreatDoor
open Go.RowKit

def IdxE (P : List Tm → Bool) (xs : List (List Tm)) (w : World) (e : Ending) (w' : World) : Prop := (∃ q : Int, e = .returned (.int .i64 q) ∧ -1 ≤ q ∧ q ≤ 9223372036854775807 ∧ decide (0 ≤ q) = xs.any P) ∧ Upd [] w w'
set_option maxRecDepth 20000 in
set_option maxHeartbeats 1000000 in
theorem indexFuncE (P : List Tm → Bool) (fn : FuncId) (caps : Array Value) (v : Value) (xs : List (List Tm)) (w : World) (fp : List Nat) (hR : R_T2 fp w [v] xs)
    (hent : ∀ args w, Sem.run Tryz.prog (callFunc fn args) w = .ok (.enter fn args) w)
    (hby : ∀ wr u f x, Upd [] w wr → R_T1 f wr [u] x → Calls Tryz.prog fn (#[u] ++ caps) wr fun e w' => e = .returned (.bool (P x)) ∧ Upd [] wr w') :
    Calls Tryz.prog 154 #[v, .func (.func fn) #[] caps] w (IdxE P xs w) := by
  obtain ⟨a1, c1, rfl, hl1, hm1, hc1⟩ := slP_open hR
  unfold maxLen at hm1
  have HBY := Lib.hid hby
  have HC := Lib.hid hc1
  clear hR hby hc1
  go_enter Tryz.func154, Tryz.ntmps154
  go_wp2_with fail
  go_loopw [8] (fun i wr => ∃ k : Nat, k ≤ xs.length ∧ i = .int .i64 k ∧ Hid (Upd [] w wr) ∧ Hid ((xs.drop k).any P = xs.any P)) (fun i _ => xs.length - (intOf i).toNat)
  case atStart => exact ⟨0, Nat.zero_le _, rfl, Lib.hid (Upd.refl _ _), Lib.hid rfl⟩
  case round =>
    obtain ⟨k, hk, rfl, HU, HF⟩ := hrel
    by_cases hlt : k < xs.length
    · obtain ⟨b1, o1, u, f, rfl, -, -, p0, -, hr⟩ := HC.out k hlt
      have p0 := HU.out.keep p0
      have hf := HF.out
      rw [List.drop_eq_getElem_cons hlt, List.any_cons] at hf
      have HD := Lib.hid hf
      have hkl : (k : Int) < (xs.length : Int) := by omega
      have S1 := Lib.hid (HBY.out wr u f xs[k] HU.out (R_T1k.upd hr HU.out (by simp)))
      generalize P xs[k] = bb at *
      clear hf hr
      go_wp2_with fail
      refine S1.out.mono ?_
      rintro e w1 ⟨rfl, hu1⟩
      have HU1 := Lib.hid (HU.out.trans hu1)
      clear S1 hu1
      cases bb
      · go_wp2_with fail
        go_roundw
        case rel => exact ⟨k + 1, by omega, by go_num, HU1, Lib.hid (by rw [← HD.out]; rfl)⟩
        case measure => simp [intOf]; omega
      · have HZ := Lib.hid (show decide (0 ≤ (k : Int)) = xs.any P by rw [← HD.out]; simp)
        go_wp2_with fail
        go_ret
        exact ⟨⟨k, rfl, by omega, by omega, HZ.out⟩, HU1.out⟩
    · have hf := HF.out
      rw [List.drop_of_length_le (by omega)] at hf
      have HZ := Lib.hid (show decide (0 ≤ (-1 : Int)) = xs.any P by rw [← hf]; rfl)
      clear hf
      go_wp2_with fail
      go_ret
      exact ⟨⟨-1, rfl, by omega, by omega, HZ.out⟩, HU.out⟩

set_option maxRecDepth 20000 in
theorem containsFuncE (P : List Tm → Bool) (fn : FuncId) (caps : Array Value) (v : Value) (xs : List (List Tm)) (w : World) (fp : List Nat) (hR : R_T2 fp w [v] xs)
    (hent : ∀ args w, Sem.run Tryz.prog (callFunc fn args) w = .ok (.enter fn args) w)
    (hby : ∀ wr u f x, Upd [] w wr → R_T1 f wr [u] x → Calls Tryz.prog fn (#[u] ++ caps) wr fun e w' => e = .returned (.bool (P x)) ∧ Upd [] wr w') :
    Calls Tryz.prog 130 #[v, .func (.func fn) #[] caps] w fun e w' => e = .returned (.bool (xs.any P)) ∧ Upd [] w w' := by
  have S2 := Lib.hid (indexFuncE P fn caps v xs w fp hR hent hby)
  clear hby hent hR
  go_enter Tryz.func130, Tryz.ntmps130
  go_wp2_with fail
  refine S2.out.mono ?_
  rintro e w1 ⟨⟨q, rfl, h1, h2, h3⟩, hu⟩
  have H3 := Lib.hid (And.intro h3 hu)
  clear h3 hu
  go_wp2_with fail
  go_ret
  exact ⟨by rw [← H3.out.1]; rfl, H3.out.2⟩

end Go.Proofs.YtjelcjiofcoifaaGreatDoor

/-
  Whether a number is an index of a list: what the program's call returns.
-/
namespace Go.Proofs.YtjelcjiofcoifaaGreatDoor
open Go.RowKit

theorem idxI (n : Int) (m : Nat) (w : World) (hm : m ≤ 1000000) : Calls Tryz.prog 28 #[.int .i64 n, .int .i64 m] w fun e w' => e = .returned (.bool (inB n 0 (m - 1))) ∧ w = w' := by
  have S1 := Lib.hid (within n 0 ((m : Int) - 1) w)
  generalize inB n 0 ((m : Int) - 1) = b at *
  go_enter Tryz.func28, Tryz.ntmps28
  go_wp2_with fail
  refine S1.out.mono ?_
  rintro e w1 ⟨rfl, rfl⟩
  clear S1
  go_wp2_with fail
  go_ret
  exact ⟨rfl, rfl⟩

end Go.Proofs.YtjelcjiofcoifaaGreatDoor

/-
  The first element of which something is true, plainly.
-/
namespace Go.Proofs.YtjelcjiofcoifaaGreatDoor

def firstP {α : Type} (p : α → Bool) : List α → Int
  | [] => -1
  | s :: r => if p s then 0 else if firstP p r < 0 then -1 else firstP p r + 1
theorem firstP_at {α : Type} {p : α → Bool} : ∀ {l : List α} (k : Nat) (hk : k < l.length), (∀ j (_ : j < k) (hj : j < l.length), p l[j] = false) → p l[k] = true → firstP p l = k
  | [], k, hk, _, _ => by simp at hk
  | s :: r, 0, _, _, h => by simp at h; simp [firstP, h]
  | s :: r, k + 1, hk, hn, h => by
    have h0 : p s = false := hn 0 (by omega) (by simp)
    have ih := firstP_at (p := p) (l := r) k (by simpa using hk) (fun j hj hj2 => by have := hn (j + 1) (by omega) (by simpa using hj2); rwa [List.getElem_cons_succ] at this) (by rwa [List.getElem_cons_succ] at h)
    rw [firstP, h0, if_neg (by simp), ih, if_neg (by omega)]; omega
theorem firstP_none {α : Type} {p : α → Bool} : ∀ {l : List α}, (∀ j (hj : j < l.length), p l[j] = false) → firstP p l = -1
  | [], _ => rfl
  | s :: r, hn => by
    have h0 : p s = false := hn 0 (by simp)
    have ih := firstP_none (p := p) (l := r) (fun j hj => by have := hn (j + 1) (by simpa using hj); rwa [List.getElem_cons_succ] at this)
    rw [firstP, h0, if_neg (by simp), ih, if_pos (by omega)]
theorem firstP_nonneg {α : Type} (p : α → Bool) : ∀ l : List α, decide (0 ≤ firstP p l) = l.any p
  | [] => rfl
  | s :: r => by
    have ih := firstP_nonneg p r
    rw [List.any_cons, firstP]
    by_cases h : p s = true
    · simp [h]
    · rw [if_neg h, ← ih, show p s = false by simpa using h, Bool.false_or]
      by_cases h2 : firstP p r < 0
      · rw [if_pos h2]; rw [decide_eq_false (by omega), decide_eq_false (by omega)]
      · rw [if_neg h2]; rw [decide_eq_true (by omega), decide_eq_true (by omega)]
end Go.Proofs.YtjelcjiofcoifaaGreatDoor

/-
  Append of a whole slice to an owned row, whatever the slice: a law for the walks; slices.Clone and the reference's copies.
-/
namespace Go.Proofs.YtjelcjiofcoifaaGreatDoor
open Go.RowKit

section
variable {P : Program} {w : World}
end

end Go.Proofs.YtjelcjiofcoifaaGreatDoor

/-
  slices.IndexFunc and ContainsFunc over numbers, at whatever function value.
-/
namespace Go.Proofs.YtjelcjiofcoifaaGreatDoor
open Go.RowKit

end Go.Proofs.YtjelcjiofcoifaaGreatDoor

/-
  Lists of numbers and of expressions as texts: what the program's calls return.
-/
namespace Go.Proofs.YtjelcjiofcoifaaGreatDoor
open Go.RowKit

theorem joinL (c : UInt8) (v : Value) (ps : List (List UInt8)) (w : World) (fp : List Nat) (hR : RS fp w [v] ps) (h0 : 0 < ps.length) (hn : ps.length ≤ 1000000) (hj9 : (joinC c ps).length ≤ 100000000) :
    Calls Tryz.prog 40 #[v, .string ⟨#[c]⟩] w fun e w' => e = .returned (es (joinC c ps)) ∧ Upd [] w w' := by
  obtain ⟨a, cap, rfl, h1, h2, hc⟩ := slF1_open hR
  obtain ⟨b, off, rfl, hf, hbl, -⟩ := hc 0 h0
  have hmm : (ps.map (fun p => (⟨p.toArray⟩ : ByteArray))).map (fun b => b.data.toList) = ps := by
    rw [List.map_map]; exact (List.map_congr_left (fun p _ => rfl)).trans (List.map_id _)
  have hj : Lib.join ((ps.map (fun p => (⟨p.toArray⟩ : ByteArray))).map (fun b => b.data.toList)) (⟨#[c]⟩ : ByteArray).data.toList = joinC c ps := by
    rw [hmm]; exact join_lib c ps
  have S0 := Tryz.strings_Join b off cap (ps.map (fun p => (⟨p.toArray⟩ : ByteArray))) ⟨#[c]⟩ w (fun j x hx => by
    obtain ⟨hj1, rfl⟩ := List.getElem?_eq_some_iff.1 hx
    have hj2 : j < ps.length := by simpa using hj1
    obtain ⟨b', off', hb, -, -, hcl⟩ := hc j hj2
    cases hb
    rw [hcl]
    simp [es]) hbl (by simp; omega) (by simp; omega) (by rw [hj]; omega)
  rw [hj] at S0
  simp only [List.length_map] at S0
  refine S0.mono ?_
  rintro e w3 ⟨rfl, hb3⟩
  exact ⟨rfl, Upd.ofBelow hb3⟩

theorem decimalL (n : Int) (w : World) (h0 : 0 ≤ n) (h1 : n ≤ 99) : Calls Tryz.prog 60 #[.int .i64 n] w fun e w' => e = .returned (es (Lib.itoa n)) ∧ Upd [] w w' := by
  obtain ⟨q, rfl⟩ : ∃ q : Nat, n = q := ⟨n.toNat, by omega⟩
  refine (decimalS q (by omega) w).mono ?_
  rintro e w1 ⟨rfl, rfl⟩
  exact ⟨rfl, Upd.refl _ _⟩

set_option maxRecDepth 20000 in
set_option maxHeartbeats 2000000 in
theorem listedI (v : Value) (l : List (List Tm)) (w : World) (fp : List Nat) (hG : Glob w) (hR : R_T2 fp w [v] l) (hl : l.length ≤ 1000) (hv : ∀ e ∈ l, eOk e = true) :
    Calls Tryz.prog 97 #[v] w fun e w' => e = .returned (es (argsTxt l)) ∧ Upd [] w w' := by
  obtain ⟨i0, hi, hz0, hz1, hz2⟩ := info_parts Tryz.info9
  obtain ⟨a, cap, rfl, g1, g2, hc⟩ := slP_open hR
  unfold maxLen at g2
  have HC := Lib.hid hc
  have HV := Lib.hid hv
  have HGL := Lib.hid hG
  clear hR hc hv hG
  by_cases h0 : l.length = 0
  · have HZ := Lib.hid (show argsTxt l = [] by unfold argsTxt; rw [if_pos h0])
    have e0 : ((l.length : Int) == 0) = true := by rw [beq_iff_eq]; omega
    go_enter Tryz.func97, Tryz.ntmps97
    go_wp2_with fail
    go_ret
    exact ⟨by rw [HZ.out]; rfl, Upd.refl _ _⟩
  · have HZ := Lib.hid (show argsTxt l = ([40] ++ joinC 44 (l.map expT)) ++ [41] by unfold argsTxt; rw [if_neg h0])
    have e0 : ((l.length : Int) == 0) = false := by rw [beq_eq_false_iff_ne]; omega
    have HP0 := Lib.hid (show 0 < l.length by omega)
    clear h0
    generalize argsTxt l = Z at *
    go_enter Tryz.func97, Tryz.ntmps97
    go_wp2_with fail
    go_loopw [3, 11] (fun sp iv wr => ∃ (k : Nat) (sv : Value), sv = sp ∧ k ≤ l.length ∧ iv = .int .i64 k ∧ Hid (Upd [] w wr) ∧ Hid (wr.ownsRow w.heap.size 9 1 sv k (((l.take k).map expT).map es))) (fun _ iv _ => l.length - (intOf iv).toNat)
    case atStart => exact ⟨0, _, rfl, Nat.zero_le _, rfl, Lib.hid (Upd.refl _ _), Lib.hid (World.ownsRow_nil _ _ _ _)⟩
    case round =>
      obtain ⟨wo, rfl⟩ : ∃ wo : World, wo = wr := ⟨_, rfl⟩
      obtain ⟨k, sv, rfl, hk, rfl, HU, HA⟩ := hrel
      by_cases hlt : k < l.length
      · obtain ⟨b, off, u, f, rfl, -, -, p0, -, hr⟩ := HC.out k hlt
        have p0 := HU.out.keep p0
        have hkl : (k : Int) < (l.length : Int) := by omega
        have hb := HV.out _ (List.getElem_mem hlt)
        have HTK := Lib.hid (show ((l.take (k + 1)).map expT).map es = ((l.take k).map expT).map es ++ [es (expT l[k])] by rw [List.take_succ_eq_append_getElem hlt, List.map_append, List.map_append]; rfl)
        have hr := R_T1k.upd hr HU.out (by simp)
        generalize l[k] = e at *
        have hres : expT e = textE (treeOf e hb) := by unfold expT; rw [dif_pos hb]
        obtain ⟨hok, hfl⟩ := treeOf_ok e hb
        have hlen := eOk_len hb
        have hgood := eOk_good hb _ hok hfl
        rw [hres] at HTK
        generalize treeOf e hb = x at *
        have S1 := Lib.hid (treeE x wo u f hok (by rw [hfl]; omega) (by rw [hfl]; exact hr))
        have HX := Lib.hid (And.intro hgood (show (flatE x).length ≤ 1000 by rw [hfl]; omega))
        obtain ⟨d1, e1, rfl, -⟩ := slF2_open hr
        generalize e.length = l1 at *
        have HOW := HA.out
        obtain ⟨ca, cc, rfl⟩ := ownsRow_form HOW
        clear hres hok hfl hgood hr hb hlen HA
        have HA := Lib.hid HOW
        clear HOW
        go_wp2_with fail
        refine S1.out.mono ?_
        rintro r w2 ⟨⟨vt, rfl, ft, ht, -, -⟩, hu2⟩
        have HU2 := Lib.hid (HU.out.trans hu2)
        have S3 := Lib.hid (textI _ x w2 vt ft (Nat.le_refl _) HX.out.2 HX.out.1 (HGL.out.upd HU2.out) ht)
        have HB2 := Lib.hid hu2
        clear S1 ht hu2 p0
        go_wp2_with fail
        refine S3.out.mono ?_
        rintro r w4 ⟨rfl, n4, hw4⟩
        have HU4 := Lib.hid (show Upd [] wo w4 by rw [hw4]; exact HB2.out.drewN n4)
        have hown1 := ownsRow_upd HA.out HU4.out
        have hsz4 : w.heap.size ≤ w4.heap.size := (HU.out.trans HU4.out).size
        have HOL := Lib.hid (fun c hc => (hown1.lt c hc).1)
        generalize textE x = A at *
        clear S3 hw4 HA
        go_wp2_with (first
          | (at_builtin; refine wpList_append_tight _ rfl _ _ 31 rfl w.heap.size 9 i0 (es []) 1 16 Tryz.underlying31 hi hz0 hz1 hz2 rfl (by decide) _ _ _ rfl (hown1.alloc _) ⟨w4.heap.size, 0, none⟩ 1 1 [es A] rfl rfl (fun j u hj => by rw [addr_add, Nat.zero_add]; exact cell_new w4 #[es A] _ _ rfl j u (by simpa using hj)) (by simp [Value.oneCell']) (by unfold maxLen; omega) (by omega) (by simp; omega) ?_)
          | fail)
        intro v2 w5 hown2 hg2 ht2
        have HO5 := Lib.hid (show w5.ownsRow w.heap.size 9 1 v2 (k + 1) (((l.take (k + 1)).map expT).map es) by rw [HTK.out]; simpa using hown2)
        have HU5 := Lib.hid (show Upd [] w w5 from ((HU.out.trans HU4.out).alloc _).grown hg2 (fun c hc => Or.inl (HOL.out c hc)))
        clear hown1 hown2 hg2 ht2
        go_wp2_with fail
        go_roundw
        case rel => exact ⟨k + 1, _, rfl, by omega, by go_num, HU5, HO5⟩
        case measure => simp [intOf]; omega
      · obtain rfl : k = l.length := by omega
        have ho := HA.out
        rw [List.take_length] at ho
        obtain ⟨ca, cc, rfl⟩ := ownsRow_form ho
        obtain ⟨fo, ho1, -, -⟩ := New.ofOwns (w := w) (e := 9) (enc := es) (xs := l.map expT) (by simpa using ho)
        have hj := rowT_len 44 l
        have S5 := joinL 44 _ (l.map expT) wo fo ho1 (by rw [List.length_map]; exact HP0.out) (by rw [List.length_map]; omega) (by omega)
        generalize hj9 : joinC 44 (l.map expT) = Y at *
        have HS5 := Lib.hid S5
        have hy : (Y.length : Int) ≤ 500000 := by omega
        have HJ9 := Lib.hid hj9
        clear ho ho1 HA S5 hj9
        go_wp2_with fail
        refine HS5.out.mono ?_
        rintro r w6 ⟨rfl, hu6⟩
        have HU6 := Lib.hid (HU.out.trans hu6)
        have hb1 : ¬ (9223372036854775807 : Int) < 1 + (Y.length : Int) := by omega
        have hb2 : ¬ (9223372036854775807 : Int) < 1 + (Y.length : Int) + 1 := by omega
        clear hu6 HS5
        go_wp2_with fail
        go_ret
        exact ⟨by rw [HZ.out]; first | rfl | (simp only [es, es_par]; done) | (rw [es_par]; rfl), HU6.out⟩
end Go.Proofs.YtjelcjiofcoifaaGreatDoor

/-
  The text of an expression, the program's side: what the calls return.
-/
namespace Go.Proofs.YtjelcjiofcoifaaGreatDoor
open Go.RowKit

theorem expTreeI (e : List Tm) (v : Value) (w : World) (fp : List Nat) (hb : eOk e = true) (hR : R_T1 fp w [v] e) :
    Calls Tryz.prog 99 #[v] w fun r w' => (∃ vt ft, r = .returned vt ∧ (∃ x, textE x = expT e ∧ R_E ft w' [vt] x ∧ goodE 29 x = true ∧ (flatE x).length ≤ 1000)) ∧ Upd [] w w' := by
  have hres : expT e = textE (treeOf e hb) := by unfold expT; rw [dif_pos hb]
  obtain ⟨hok, hfl⟩ := treeOf_ok e hb
  have hlen := eOk_len hb
  have hgood := eOk_good hb _ hok hfl
  refine (treeE (treeOf e hb) w v fp hok (by rw [hfl]; omega) (by rw [hfl]; exact hR)).mono ?_
  rintro r w2 ⟨⟨vt, rfl, ft, ht, -, -⟩, hu2⟩
  exact ⟨⟨vt, ft, rfl, treeOf e hb, hres.symm, ht, hgood, by rw [hfl]; omega⟩, hu2⟩
theorem expTextI (T : List UInt8) (w : World) (v : Value) (ft : List Nat) (hG : Glob w) (h : ∃ x, textE x = T ∧ R_E ft w [v] x ∧ goodE 29 x = true ∧ (flatE x).length ≤ 1000) :
    Calls Tryz.prog 100 #[v] w fun r w' => r = .returned (es T) ∧ Upd [] w w' := by
  obtain ⟨x, rfl, hR, hg, hl⟩ := h
  refine (textI _ x w v ft (Nat.le_refl _) hl hg hG hR).mono ?_
  rintro r w1 ⟨rfl, n, rfl⟩
  exact ⟨rfl, (Upd.refl _ _).drewN n⟩

end Go.Proofs.YtjelcjiofcoifaaGreatDoor

/-
  What the listed tables give the walks.
-/
namespace Go.Proofs.YtjelcjiofcoifaaGreatDoor
open Go.RowKit

/-- an array of strings that reads as these texts holds them, cell for cell. -/
theorem strs_of_array {H : Type} {enc : TypeId × Value → H} {P : Program} {w : World} {base : Nat} {sp : Nat → Bool} {held : Bool} {fuel : Nat} {t e : TypeId} {n : Nat} {cs : List Value} {zs : List (List UInt8)} {p : List MemPlace}
    (ht : P.underlying t = some (.array n e)) (he : P.underlying e = some .string) (hce : P.cellsOf e = 1) (hct : P.cellsOf t = n)
    (h : DataW.trod enc P w base sp held fuel t cs = some (.agg (zs.map fun z => .lit (.string z)), p)) : cs = zs.map es := by
  obtain ⟨xs, m, rfl, hx, hl, hxl, hall⟩ := DataW.trod_array ht h
  have hxs : xs.map (·.1) = zs.map fun z => (DataW.lit (.string z) : DataW H) := by
    have := congrArg Prod.fst hx
    simpa using this.symm
  have hzl : zs.length = n := by
    have := congrArg List.length hxs
    simp at this
    omega
  apply List.ext_getElem?
  intro i
  by_cases hi : i < n
  · have h1 := hall i hi
    obtain ⟨b, hb⟩ : ∃ b, xs[i]? = some b := ⟨xs[i]'(by omega), List.getElem?_eq_getElem (by omega)⟩
    rw [hb, hce, Nat.mul_one] at h1
    obtain ⟨s, hc, rfl, _⟩ := DataW.trod_string he h1
    have h2 : cs[i]? = some (.string s) := by
      have := congrArg (·[0]?) hc
      simpa [List.getElem?_take, List.getElem?_drop] using this
    have h3 : (xs.map (·.1))[i]? = some (DataW.lit (.string s.data.toList) : DataW H) := by simp [hb]
    rw [hxs] at h3
    simp only [List.getElem?_map, Option.map_eq_some_iff, DataW.lit.injEq, Lit.string.injEq] at h3
    obtain ⟨z, hz, rfl⟩ := h3
    simp [h2, hz]
  · rw [List.getElem?_eq_none (by omega), List.getElem?_eq_none (by simp; omega)]

theorem glob_of {W : World} {do' dl : DataW Unit} {no nl : String} (ho : Lib.VarReads Tryz.prog W no do') (hl : Lib.VarReads Tryz.prog W nl dl)
    (hdo : do' = .agg (([[43], [45], [42], [61], [35], [60], [60, 61], [38], [124]] : List (List UInt8)).map fun z => .lit (.string z)))
    (hdl : dl = Lib.tabData .i64 [4, 4, 5, 3, 3, 3, 3, 2, 1])
    (hno : Tryz.prog.globalNamed no = some 0) (hnl : Tryz.prog.globalNamed nl = some 1)
    (hto : (Tryz.prog.globals[0]?).map (·.type) = some 185) (htl : (Tryz.prog.globals[1]?).map (·.type) = some 211)
    (hc9 : Tryz.prog.cellsOf 185 = 9) (hcs : Tryz.prog.cellsOf 9 = 1) (hc9' : Tryz.prog.cellsOf 211 = 9) (hci : Tryz.prog.cellsOf 2 = 1) : Glob W := by
  obtain ⟨g, t, cs, fuel, p, hg, ht, hv, hd⟩ := ho
  obtain ⟨g', t', cs', fuel', p', hg', ht', hv', hd'⟩ := hl
  obtain rfl := Option.some.inj (hno.symm.trans hg)
  obtain rfl := Option.some.inj (hnl.symm.trans hg')
  obtain rfl := Option.some.inj (hto.symm.trans ht)
  obtain rfl := Option.some.inj (htl.symm.trans ht')
  subst hdo hdl
  have e1 := strs_of_array Tryz.underlying185 Tryz.underlying9 hcs hc9 hd
  have e2 := Lib.cells_of_tab Tryz.underlying211 Tryz.underlying2 hci hc9' hd'
  constructor
  · intro i hi
    rw [World.var?_cell hg hv i, ← Array.getElem?_toList, e1]
    rcases (by omega : i = 0 ∨ i = 1 ∨ i = 2 ∨ i = 3 ∨ i = 4 ∨ i = 5 ∨ i = 6 ∨ i = 7 ∨ i = 8) with rfl | rfl | rfl | rfl | rfl | rfl | rfl | rfl | rfl <;> simp [opT]
  · intro i hi
    rw [World.var?_cell hg' hv' i, ← Array.getElem?_toList, e2]
    rcases (by omega : i = 0 ∨ i = 1 ∨ i = 2 ∨ i = 3 ∨ i = 4 ∨ i = 5 ∨ i = 6 ∨ i = 7 ∨ i = 8) with rfl | rfl | rfl | rfl | rfl | rfl | rfl | rfl | rfl <;> simp [lvl]

end Go.Proofs.YtjelcjiofcoifaaGreatDoor

/-
  The form's reading of slices of structs with memory of their own.
-/
namespace Go.Proofs.YtjelcjiofcoifaaGreatDoor
open Go.RowKit Go.ChangeShapes Go.WideShapes Go.Deep

theorem opens_slQ {α : Type} {P : Program} {t e : TypeId} {n : Nat} {R : Rp α} {φ : α → Prop} (ht : P.underlying t = some (.slice e)) (hc : P.cellsOf e = n) (hn : 0 < n) (h : Opens P e R φ) :
    Opens P t (slQ n R) (fun xs => ∀ x ∈ xs, φ x) := by
  intro H enc w fuel cs x hx
  rcases open_slice ht hx with ⟨rfl, -⟩ | ⟨a, len, cap, m, q, D, Pl, rfl, -, hl, hm, hmm, -, hel⟩
  · exact ⟨[], [], slQ_nil w none 0 (by simp [maxLen]), by simp⟩
  · have hlm : len ≤ m := by subst hmm; simpa using hl
    rw [hc] at hel
    obtain ⟨l, hll, hlq⟩ := list_choice (fun i (y : α × List Value × List Nat) => (y.2.1.length = n ∧ ∀ j, j < n → w.cell? ((a.add (i * n)).add j) = y.2.1[j]?) ∧ R y.2.2 w y.2.1 y.1 ∧ φ y.1) len (fun i hi => by
      obtain ⟨cs', h1, h2⟩ := hel i (by omega)
      obtain ⟨-, h3, h4⟩ := World.cells?_some h1
      obtain ⟨y, f, hr, hy⟩ := h h2
      exact ⟨(y, cs', f), ⟨h3, h4⟩, hr, hy⟩)
    by_cases h0 : len = 0
    · subst h0
      exact ⟨[], [], by simpa using slQ_nil w (some a) cap hm, by simp⟩
    · have q0 := hlq 0 l[0] (by simp)
      have hc0 := q0.1.2 0 hn
      obtain ⟨c0, hc1⟩ : ∃ c, l[0].2.1[0]? = some c := ⟨_, List.getElem?_eq_getElem (by rw [q0.1.1]; exact hn)⟩
      rw [hc1] at hc0
      have hs : a.spot = none := by simpa [Addr.add] using World.cell?_spot hc0
      obtain ⟨b, off, spot⟩ := a
      simp at hs
      subst hs
      have ha : ∀ o, (⟨b, off, none⟩ : Addr).add o = ⟨b, off + o, none⟩ := fun o => by simp only [Addr.add]; split <;> simp_all
      have ha2 : ∀ o o2, (⟨b, off + o, none⟩ : Addr).add o2 = ⟨b, off + o + o2, none⟩ := fun o o2 => by simp only [Addr.add]; split <;> simp_all
      refine ⟨l.map (·.1), [b] ++ (l.map (·.2.2)).flatten, ⟨some ⟨b, off, none⟩, cap, l.map (·.2.1), [b], l.map (·.2.2), by simp [hll], by simpa [hll] using hl, hm, by simp, ?_, by simp, rfl, Or.inr ⟨b, off, rfl, rfl, ?_, ?_⟩, ?_⟩, ?_⟩
      · intro u hu
        obtain ⟨y, hy, rfl⟩ := List.mem_map.1 hu
        obtain ⟨i, hi, rfl⟩ := List.mem_iff_getElem.1 hy
        exact (hlq i _ (by simp)).1.1
      · have := World.block_lt_of_cell? w _ hc0
        simpa [Addr.add] using this
      · intro i j u c hu hj
        rw [List.getElem?_map] at hu
        cases hli : l[i]? with
        | none => simp [hli] at hu
        | some y =>
          simp [hli] at hu
          subst hu
          have g := hlq i y hli
          have := g.1.2 j (by rw [← g.1.1]; exact (List.getElem?_eq_some_iff.1 hj).1)
          rw [ha, ha2] at this
          rw [this]; exact hj
      · intro i hi u f hu hf
        simp at hi
        have hq := hlq i l[i] (by simp)
        simp [List.getElem?_eq_getElem hi] at hf hu
        subst hf hu
        simpa using hq.2.1
      · intro x hx
        obtain ⟨y, hy, rfl⟩ := List.mem_map.1 hx
        obtain ⟨i, hi, rfl⟩ := List.mem_iff_getElem.1 hy
        exact (hlq i _ (by simp)).2.2

section
variable {P : Program} {H : Type} {enc : TypeId × Value → H} {w : World} {base : Nat} {spare : Nat → Bool} {held : Bool}
end

end Go.Proofs.YtjelcjiofcoifaaGreatDoor

/-
  The form's reading of lists of numbers and of lists of expressions.
-/
namespace Go.Proofs.YtjelcjiofcoifaaGreatDoor
open Go.RowKit Go.ChangeShapes Go.WideShapes Go.Deep

theorem opens_T2 : Opens Tryz.prog 125 R_T2 (fun xss => ∀ xs ∈ xss, ∀ t ∈ xs, (Lit.int .i64 t.1).wf = true ∧ (Lit.int .i64 t.2).wf = true) := opens_slP Tryz.underlying125 (by kernel_rfl) opens_T1

end Go.Proofs.YtjelcjiofcoifaaGreatDoor
