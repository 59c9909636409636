/-
  More of the library: parts of slices, append behind a full slice expression, rows of a stack that is cut.
-/
import Derived.Test.YtnfghgaadnobbaaGreatDoorLib
import Derived.Deep.AppendLies
namespace Go.Proofs.YtnfghgaadnobbaaGreatDoor
open Go.RowKit

theorem addr_add (b off j : Nat) : (⟨b, off, none⟩ : Addr).add j = ⟨b, off + j, none⟩ := by simp only [Addr.add]; split <;> simp_all

/-- a part of a slice of one-cell elements with memory; an empty part may bear any offset. -/
theorem slP_sub {α : Type} {R : Rp α} {fp : List Nat} {w : World} {b off len cap : Nat} {xs : List α} (h : slP R fp w [.slice (some ⟨b, off, none⟩) len cap] xs)
    (i j o' cap' : Nat) (hij : i ≤ j) (hj : j ≤ xs.length) (ho : i < j → o' = off + i) (hc : j - i ≤ cap') (hm : cap' ≤ maxLen) :
    ∃ fp', slP R fp' w [.slice (some ⟨b, o', none⟩) (j - i) cap'] ((xs.take j).drop i) ∧ (∀ c ∈ fp', c ∈ fp) := by
  obtain ⟨v, us, fb, fps, hv, ⟨a, cap0, hv2, h1, h2, h3, h4⟩, h5, rfl, h6⟩ := h
  cases hv
  simp only [Value.slice.injEq] at hv2
  obtain ⟨rfl, rfl, rfl⟩ := hv2
  have hlen : ((xs.take j).drop i).length = j - i := by rw [List.length_drop, List.length_take, Nat.min_eq_left hj]
  have hus : us.length = xs.length := by simpa using h3
  have hul : ((us.take j).drop i).length = j - i := by rw [List.length_drop, List.length_take, hus, Nat.min_eq_left hj]
  have hfl : ((fps.take j).drop i).length = j - i := by rw [List.length_drop, List.length_take, h5, Nat.min_eq_left hj]
  have key : ∀ k (h : k < ((xs.take j).drop i).length) u (f : List Nat), ((us.take j).drop i)[k]? = some u → ((fps.take j).drop i)[k]? = some f → R f w [u] ((xs.take j).drop i)[k] := by
    intro k hk u f hu hf
    rw [List.getElem?_drop, List.getElem?_take, if_pos (by omega)] at hu hf
    have := h6 (i + k) (by omega) u f hu hf
    simpa using this
  rcases h4 with ⟨h0, rfl⟩ | ⟨b', off', hb', rfl, hbl, hc'⟩
  · refine ⟨((fps.take j).drop i).flatten, ⟨_, (us.take j).drop i, [], (fps.take j).drop i, rfl, ⟨_, cap', by rw [hlen], by omega, hm, by rw [hul, hlen, Nat.mul_one], Or.inl ⟨by omega, rfl⟩⟩, by rw [hfl, hlen], rfl, key⟩, ?_⟩
    intro c hc
    have : xs.length = 0 := h0
    have : fps = [] := List.eq_nil_of_length_eq_zero (by omega)
    simp [this] at hc
  · simp only [Option.some.injEq, Addr.mk.injEq, and_true] at hb'
    obtain ⟨rfl, rfl⟩ := hb'
    refine ⟨[b] ++ ((fps.take j).drop i).flatten, ⟨_, (us.take j).drop i, [b], (fps.take j).drop i, rfl, ⟨_, cap', by rw [hlen], by omega, hm, by rw [hul, hlen, Nat.mul_one], Or.inr ⟨b, o', rfl, rfl, hbl, ?_⟩⟩, by rw [hfl, hlen], rfl, key⟩, ?_⟩
    · intro q u hu
      have hq : q < ((us.take j).drop i).length := (List.getElem?_eq_some_iff.1 hu).1
      rw [hul] at hq
      rw [List.getElem?_drop, List.getElem?_take, if_pos (by omega)] at hu
      rw [ho (by omega), Nat.add_assoc]
      exact hc' _ _ hu
    · intro c hc
      rcases List.mem_append.1 hc with hc | hc
      · exact List.mem_append_left _ hc
      · obtain ⟨l, hl, hcl⟩ := List.mem_flatten.1 hc
        exact List.mem_append_right _ (List.mem_flatten.2 ⟨l, List.mem_of_mem_take (List.mem_of_mem_drop hl), hcl⟩)

/-- a slice's reading with its cells named. -/
def slPc {α : Type} (R : Rp α) (fp : List Nat) (w : World) (v : Value) (us : List Value) (xs : List α) : Prop :=
  ∃ fb fps, Flat fb w v 1 xs.length us ∧ List.length fps = xs.length ∧ fp = fb ++ List.flatten fps ∧ ∀ i (h : i < xs.length) u (f : List Nat), us[i]? = some u → fps[i]? = some f → R f w [u] xs[i]
theorem slP_c {α : Type} {R : Rp α} {fp : List Nat} {w : World} {v : Value} {xs : List α} (h : slP R fp w [v] xs) : ∃ us, slPc R fp w v us xs := by
  obtain ⟨v', us, fb, fps, hv, h1, h2, h3, h4⟩ := h
  cases hv; exact ⟨us, fb, fps, h1, h2, h3, h4⟩
theorem slPc_cells {α : Type} {R : Rp α} {fp : List Nat} {w : World} {b off len cap : Nat} {us : List Value} {xs : List α} (h : slPc R fp w (.slice (some ⟨b, off, none⟩) len cap) us xs) :
    us.length = xs.length * 1 ∧ len = xs.length ∧ ∀ j u, us[j]? = some u → w.cell? ((⟨b, off, none⟩ : Addr).add j) = some u := by
  obtain ⟨fb, fps, ⟨a, cap', hv, h1, h2, h3, h4⟩, -⟩ := h
  simp only [Value.slice.injEq] at hv
  obtain ⟨rfl, rfl, rfl⟩ := hv
  refine ⟨h3, rfl, fun j u hu => ?_⟩
  rcases h4 with ⟨h0, -⟩ | ⟨b', off', hb', -, -, hc⟩
  · have := (List.getElem?_eq_some_iff.1 hu).1; omega
  · cases hb'; rw [addr_add]; exact hc j u hu
theorem slPc_upd {α : Type} {R : Rp α} (K : Kept R) {fp : List Nat} {w w1 : World} {v : Value} {us : List Value} {xs : List α} (h : slPc R fp w v us xs) (hu : Upd [] w w1) : slPc R fp w1 v us xs := by
  obtain ⟨fb, fps, h1, h2, h3, h4⟩ := h
  exact ⟨fb, fps, h1.upd hu (by simp), h2, h3, fun i hi u f hu' hf => K.upd (h4 i hi u f hu' hf) hu (by simp)⟩

theorem slP_nilv {α : Type} (R : Rp α) (w : World) : slP R [] w [.slice none 0 0] [] := ⟨_, [], [], [], rfl, flatNil w 1, rfl, rfl, by simp⟩
where flatNil (w : World) (n : Nat) : Flat [] w (.slice none 0 0) n 0 [] := ⟨none, 0, rfl, Nat.le_refl _, by simp [maxLen], by simp, Or.inl ⟨rfl, rfl⟩⟩

section
variable {P : Program} (w : World)

/-- append where there is no room: what was there stays. -/
theorem run_append_full (t ty e : TypeId) (i : TypeInfo) (z : Value) (size bytes : Nat) (ht : P.underlying t = some (.slice e)) (hi : P.info? e = some i) (hz : i.zero = some z)
    (hsize : i.size = size) (hby : i.bytes = bytes) (hzs : z.cells.size = size)
    (b : Addr) (n : Nat) (xs : List Value) (hlo : xs.length = n * size) (holds : ∀ j u, xs[j]? = some u → w.cell? (b.add j) = some u)
    (a : Addr) (m c : Nat) (news : List Value) (hl : news.length = m * size) (hnews : ∀ j u, news[j]? = some u → w.cell? (a.add j) = some u)
    (h0 : 0 < m) (h63 : n + m ≤ maxLen) (hbytes : (n + m) * bytes ≤ 140737488355328) :
    ∃ cap w', (Builtin.append_ #[t, t] ty #[.slice (some b) n n, .slice (some a) m c]).run P w = .ok (.slice (some ⟨w.heap.size, 0, none⟩) (n + m) cap) w' ∧
      w'.ownsRow w.heap.size e size (.slice (some ⟨w.heap.size, 0, none⟩) (n + m) cap) (n + m) (xs ++ news) ∧ w.grownBy w' none := by
  subst hsize
  subst hby
  have hsmall : n + m ≤ 9223372036854775807 := by simp only [maxLen] at h63; omega
  have hr := run_append_grow (P := P) w t ty e i z ht hi hz b n n xs hlo holds a m c news hl hnews (by omega) (by omega) (growslice_fits (by omega) hbytes)
  have hlen : (xs ++ news).length = (n + m) * i.size := by rw [List.length_append, hlo, hl, Nat.add_mul]
  have hge := grownCap_ge w (n + m) n e
  have hcm : grownCap w (n + m) n e ≤ maxLen := grownCap_le_maxLen w (n + m) n e h63
  refine ⟨_, _, hr, ⟨hlen, .inr ⟨w.heap.size, _, _, rfl, Nat.le_refl _, heap_alloc_new w.drew _, hge, hcm, ?_, ?_⟩⟩, ⟨rfl, rfl, rfl, by simp, fun k hk _ => heap_alloc_old w.drew _ hk⟩⟩
  · simp only [Array.size_append, List.size_toArray, size_zeroCells, hzs, hlo, hl, ← Nat.add_mul]
    congr 1
    omega
  · simp only [Array.toList_append, List.append_assoc]
    rw [← List.append_assoc, ← hlen]
    exact List.take_left

theorem wp_append_full {o : Oper} {a : Act} {K : Act → World → Prop} {Q : Exit → Act → World → Prop} (s x : Operand) (t : TypeId)
    (ho : o.op = .call { callee := .builtin .append, args := #[s, x], argTypes := #[t, t] })
    (e : TypeId) (i : TypeInfo) (z : Value) (size bytes : Nat) (ht : P.underlying t = some (.slice e)) (hi : P.info? e = some i) (hz : i.zero = some z)
    (hsize : i.size = size) (hby : i.bytes = bytes) (hzs : z.cells.size = size)
    (b : Addr) (n : Nat) (xs : List Value) (hs : a.eval s = .slice (some b) n n) (hlo : xs.length = n * size) (holds : ∀ j u, xs[j]? = some u → w.cell? (b.add j) = some u)
    (ad : Addr) (m c : Nat) (news : List Value) (hx : a.eval x = .slice (some ad) m c) (hl : news.length = m * size) (hnews : ∀ j u, news[j]? = some u → w.cell? (ad.add j) = some u)
    (h0 : 0 < m) (h63 : n + m ≤ maxLen) (hbytes : (n + m) * bytes ≤ 140737488355328) (H : Nat) (hH : w.heap.size = H)
    (h : ∀ cap w', w'.ownsRow H e size (.slice (some ⟨H, 0, none⟩) (n + m) cap) (n + m) (xs ++ news) → w.grownBy w' none → K (a.put o.dst (.slice (some ⟨H, 0, none⟩) (n + m) cap)) w') : o.wp P a w K Q := by
  obtain ⟨cap, w', hr, h2, h3⟩ := run_append_full (P := P) w t o.type e i z size bytes ht hi hz hsize hby hzs b n xs hlo holds ad m c news hl hnews h0 h63 hbytes
  subst hH
  unfold Oper.wp execOp
  simp only [ho, resolve, invoke, builtin, Sem.run_bind, Sem.run_pure, Result.andThen_ok, List.map_toArray, List.map_cons, List.map_nil, hs, hx, hr]
  exact h cap w' h2 h3

theorem wpList_append_full {ops : Array Oper} {rest : List Oper} {o : Oper} {a : Act} {Q : Exit → Act → World → Prop} (hgd : o.guard = none) (s x : Operand) (t : TypeId)
    (ho : o.op = .call { callee := .builtin .append, args := #[s, x], argTypes := #[t, t] })
    (e : TypeId) (i : TypeInfo) (z : Value) (size bytes : Nat) (ht : P.underlying t = some (.slice e)) (hi : P.info? e = some i) (hz : i.zero = some z)
    (hsize : i.size = size) (hby : i.bytes = bytes) (hzs : z.cells.size = size)
    (b : Addr) (n : Nat) (xs : List Value) (hs : a.eval s = .slice (some b) n n) (hlo : xs.length = n * size) (holds : ∀ j u, xs[j]? = some u → w.cell? (b.add j) = some u)
    (ad : Addr) (m c : Nat) (news : List Value) (hx : a.eval x = .slice (some ad) m c) (hl : news.length = m * size) (hnews : ∀ j u, news[j]? = some u → w.cell? (ad.add j) = some u)
    (h0 : 0 < m) (h63 : n + m ≤ maxLen) (hbytes : (n + m) * bytes ≤ 140737488355328) (H : Nat) (hH : w.heap.size = H)
    (h : ∀ cap w', w'.ownsRow H e size (.slice (some ⟨H, 0, none⟩) (n + m) cap) (n + m) (xs ++ news) → w.grownBy w' none → wpList P ops Q rest (a.put o.dst (.slice (some ⟨H, 0, none⟩) (n + m) cap)) w') : wpList P ops Q (o :: rest) a w :=
  wpList_plain hgd fun _ hK => wp_append_full w s x t ho e i z size bytes ht hi hz hsize hby hzs b n xs hs hlo holds ad m c news hx hl hnews h0 h63 hbytes H hH fun cap w' h2 h3 => hK _ _ (h cap w' h2 h3)

theorem step_append_full {ops : Array Oper} {o : Oper} {a : Act} {K : Act → World → Prop} {Q : Exit → Act → World → Prop} {E : Prop} (hgd : o.guard = none) (s x : Operand) (t : TypeId)
    (ho : o.op = .call { callee := .builtin .append, args := #[s, x], argTypes := #[t, t] })
    (e : TypeId) (i : TypeInfo) (z : Value) (size bytes : Nat) (ht : P.underlying t = some (.slice e)) (hi : P.info? e = some i) (hz : i.zero = some z)
    (hsize : i.size = size) (hby : i.bytes = bytes) (hzs : z.cells.size = size)
    (b : Addr) (n : Nat) (xs : List Value) (hs : a.eval s = .slice (some b) n n) (hlo : xs.length = n * size) (holds : ∀ j u, xs[j]? = some u → w.cell? (b.add j) = some u)
    (ad : Addr) (m c : Nat) (news : List Value) (hx : a.eval x = .slice (some ad) m c) (hl : news.length = m * size) (hnews : ∀ j u, news[j]? = some u → w.cell? (ad.add j) = some u)
    (h0 : 0 < m) (h63 : n + m ≤ maxLen) (hbytes : (n + m) * bytes ≤ 140737488355328) (H : Nat) (hH : w.heap.size = H)
    (h : ∀ cap w', w'.ownsRow H e size (.slice (some ⟨H, 0, none⟩) (n + m) cap) (n + m) (xs ++ news) → w.grownBy w' none → K (a.put o.dst (.slice (some ⟨H, 0, none⟩) (n + m) cap)) w') :
    if Region.wanted o (yielded ops a.tmps) = true then Oper.wp P o a w K Q else E := by
  have hw : Region.wanted o (yielded ops a.tmps) = true := by simp [Region.wanted, hgd]
  rw [if_pos hw]
  exact wp_append_full w s x t ho e i z size bytes ht hi hz hsize hby hzs b n xs hs hlo holds ad m c news hx hl hnews h0 h63 hbytes H hH h
end

/-- A slice of one-cell elements with memory, and one element more, behind an append into new memory. -/
theorem slP_snoc_new {α : Type} {R : Rp α} (K : Kept R) {w w2 : World} {fp g : List Nat} {v u v2 : Value} {us : List Value} {xs : List α} {x : α} {e : TypeId} {H : Nat}
    (hus : slPc R fp w v us xs) (hx : R g w [u] x) (hu : Upd [] w w2) (hown : w2.ownsRow H e 1 v2 (xs.length + 1) (us ++ [u])) : ∃ fp', slP R fp' w2 [v2] (xs ++ [x]) := by
  obtain ⟨fb, fps, hf, hl, rfl, hr⟩ := hus
  obtain ⟨fb2, hF2, -, -, -⟩ := Flat.ofOwns hown
  have hul : us.length = xs.length := by obtain ⟨_, _, _, _, _, h3, _⟩ := hf; simpa using h3
  refine ⟨fb2 ++ (fps ++ [g]).flatten, v2, us ++ [u], fb2, fps ++ [g], rfl, by simpa using hF2, by simp [hl], rfl, ?_⟩
  intro i hi u' f hu' hf'
  by_cases h : i < xs.length
  · rw [List.getElem?_append_left (by omega)] at hu' hf'
    rw [List.getElem_append_left h]
    exact K.upd (hr i h u' f hu' hf') hu (by simp)
  · have ei : i = xs.length := by simp at hi; omega
    subst ei
    rw [List.getElem?_append_right (by omega)] at hu' hf'
    rw [hul, Nat.sub_self] at hu'
    rw [hl, Nat.sub_self] at hf'
    simp at hu' hf'
    subst hu' hf'
    simpa using K.upd hx hu (by simp)

theorem ownsRow_take {w : World} {base : Nat} {e : TypeId} {size g n cap : Nat} {xs : List Value} (h : w.ownsRow base e size (.slice (some ⟨g, 0, none⟩) n cap) n xs) (m : Nat) (hm : m ≤ n) :
    w.ownsRow base e size (.slice (some ⟨g, 0, none⟩) m cap) m (xs.take (m * size)) := by
  have hle : m * size ≤ n * size := Nat.mul_le_mul_right _ hm
  refine ⟨by rw [List.length_take, h.1]; omega, ?_⟩
  rcases h.2 with ⟨h0, -⟩ | ⟨g', cap', cur, hv, h1, h2, h3, h4, h5, h6⟩
  · cases h0
  · cases hv
    exact Or.inr ⟨g, cap, cur, rfl, h1, h2, by omega, h4, h5, by rw [← h6, List.take_take, Nat.min_eq_left hle]⟩

theorem Rows.take {α : Type} {R : Rp α} {base : Nat} {ob : List Nat} {w : World} {us : List Value} {xs : List α} (h : Rows R base ob w us xs) (m : Nat) : Rows R base ob w (us.take m) (xs.take m) := by
  obtain ⟨fps, h1, h2, h3, h4, h5⟩ := h
  have hs : (fps.take m).flatten.Sublist fps.flatten := by
    conv => rhs; rw [← List.take_append_drop m fps, List.flatten_append]
    exact List.sublist_append_left _ _
  refine ⟨fps.take m, by simp [h1], by simp [h2], ⟨h3.1.sublist hs, fun b hb => h3.2 b (hs.subset hb)⟩, fun b hb => h4 b (hs.subset hb), fun i hi u f hu hf => ?_⟩
  simp at hi
  rw [List.getElem?_take, if_pos (by omega)] at hu hf
  simpa using h5 i (by omega) u f hu hf

theorem Acc.take {α : Type} {R : Rp α} {w0 w : World} {e : TypeId} {g n cap : Nat} {xs : List α} (h : Acc R w0 e w (.slice (some ⟨g, 0, none⟩) n cap) xs) (m : Nat) (hm : m ≤ xs.length) :
    n = xs.length ∧ Acc R w0 e w (.slice (some ⟨g, 0, none⟩) m cap) (xs.take m) := by
  obtain ⟨us, h1, h2⟩ := h
  have hn : n = xs.length := by
    rcases h1.2 with ⟨h0, -⟩ | ⟨g', cap', cur, hv, -⟩
    · cases h0
    · cases hv; rfl
  subst hn
  refine ⟨rfl, us.take m, ?_, ?_⟩
  · have := ownsRow_take h1 m hm
    rw [Nat.mul_one] at this
    rw [List.length_take, Nat.min_eq_left hm]; exact this
  · simpa [Value.ownBlock] using h2.take m


/-- a slice that is not empty, as the source of an append. -/
theorem slF_src {α : Type} {n : Nat} {enc : α → List Value} {fp : List Nat} {w : World} {v : Value} {xs : List α} (h : slF n enc fp w [v] xs) (h0 : 0 < xs.length) :
    ∃ b off cap, v = .slice (some ⟨b, off, none⟩) xs.length cap ∧ xs.length ≤ cap ∧ cap ≤ maxLen ∧ (xs.flatMap enc).length = xs.length * n ∧ ∀ j u, (xs.flatMap enc)[j]? = some u → w.cell? ((⟨b, off, none⟩ : Addr).add j) = some u := by
  obtain ⟨v', hv, a, cap, rfl, h1, h2, h3, h4⟩ := h
  cases hv
  rcases h4 with ⟨h0', -⟩ | ⟨b, off, rfl, -, -, hc⟩
  · omega
  · exact ⟨b, off, cap, rfl, h1, h2, h3, fun j u hu => by rw [addr_add]; exact hc j u hu⟩

theorem Acc.cap {α : Type} {R : Rp α} {w0 w : World} {e : TypeId} {g n cap : Nat} {xs : List α} (h : Acc R w0 e w (.slice (some ⟨g, 0, none⟩) n cap) xs) :
    n = xs.length ∧ n ≤ cap ∧ cap ≤ maxLen := by
  obtain ⟨us, h1, h2⟩ := h
  generalize hx : xs.length = m at h1
  rcases h1.2 with ⟨h0, -⟩ | ⟨g', cap', cur, hv, -, -, h3, h4, -⟩
  · cases h0
  · cases hv; exact ⟨rfl, h3, h4⟩


/-- A slice of one-cell elements that a call collects by append; the elements' memory may be older, its blocks are of G. -/
def Got {α : Type} (R : Rp α) (base : Nat) (G : Nat → Prop) (e : TypeId) (w : World) (v : Value) (xs : List α) : Prop :=
  ∃ us fps, w.ownsRow base e 1 v xs.length us ∧ List.length fps = xs.length ∧ (∀ b ∈ List.flatten fps, v.ownBlock ≠ some b ∧ G b) ∧
    ∀ i (h : i < xs.length) u (f : List Nat), us[i]? = some u → fps[i]? = some f → R f w [u] xs[i]

namespace Got
variable {α : Type} {R : Rp α} {base : Nat} {G : Nat → Prop} {e : TypeId} {w w1 w2 : World} {v : Value} {xs : List α}

theorem nil (R : Rp α) (base : Nat) (G : Nat → Prop) (e : TypeId) (w : World) : Got R base G e w (.slice none 0 0) [] :=
  ⟨[], [], World.ownsRow_nil _ _ _ _, rfl, by simp, by simp⟩

theorem own (h : Got R base G e w v xs) : ∃ us, w.ownsRow base e 1 v xs.length us := by obtain ⟨us, _, h, _⟩ := h; exact ⟨us, h⟩

theorem upd (K : Kept R) (h : Got R base G e w v xs) {f : List Nat} (hu : Upd f w w1) (hf : ∀ b ∈ f, b < base ∧ ¬ G b) : Got R base G e w1 v xs := by
  obtain ⟨us, fps, h1, h2, h3, h4⟩ := h
  refine ⟨us, fps, ?_, h2, h3, fun i hi u g hu' hg => K.upd (h4 i hi u g hu' hg) hu fun b hb hm => (hf b hm).2 (h3 b (List.mem_flatten.2 ⟨_, List.mem_of_getElem? hg, hb⟩)).2⟩
  obtain ⟨g1, g2⟩ := h1
  refine ⟨g1, ?_⟩
  rcases g2 with g2 | ⟨g, cap, cur, hv, hb, hh, q1, q2, q3, q4⟩
  · exact Or.inl g2
  · refine Or.inr ⟨g, cap, cur, hv, hb, ?_, q1, q2, q3, q4⟩
    rw [hu.block g (Array.getElem?_eq_some_iff.1 hh).1 (fun hm => by have := (hf g hm).1; omega)]; exact hh

theorem slP (h : Got R base G e w v xs) : ∃ fp, slP R fp w [v] xs ∧ ∀ b ∈ fp, base ≤ b ∨ G b := by
  obtain ⟨us, fps, h1, h2, h3, h4⟩ := h
  obtain ⟨fb, g1, g2, g3, g4⟩ := Flat.ofOwns h1
  refine ⟨fb ++ fps.flatten, ⟨v, us, fb, fps, rfl, g1, h2, rfl, h4⟩, fun b hb => ?_⟩
  rcases List.mem_append.1 hb with hb | hb
  · exact Or.inl (g3 b hb)
  · exact Or.inr (h3 b hb).2

/-- behind an append of one element u, boxed in a new block. -/
theorem push (K : Kept R) (h : Got R base G e w v xs) {us : List Value} (hus : w.ownsRow base e 1 v xs.length us) {u : Value} {x : α} {g : List Nat} (hx : R g w [u] x) (hg : ∀ b ∈ g, v.ownBlock ≠ some b ∧ G b) (o : Obj) {v2 : Value}
    (h2 : w2.ownsRow base e 1 v2 (xs.length + 1) (us ++ [u])) (hgr : (w.alloc o).grownBy w2 v.ownBlock)
    (ht : ∀ b, v2.ownBlock = some b → v.ownBlock = some b ∨ (w.alloc o).heap.size ≤ b) : Got R base G e w2 v2 (xs ++ [x]) := by
  obtain ⟨us', fps, h1, q2, q3, q4⟩ := h
  have hu3 : Upd v.ownBlock.toList w w2 := ((Upd.refl _ _).alloc o).grown hgr (fun k hk => Or.inr (by simp [hk]))
  have hsame : us' = us := by
    rcases h1.2 with ⟨hv, h0⟩ | ⟨b, cap, cur, hv, hb, hh, r1, r2, r3, r4⟩
    · have e1 : us' = [] := List.eq_nil_of_length_eq_zero (by have := h1.1; rw [h0] at this; simpa using this)
      have e2 : us = [] := List.eq_nil_of_length_eq_zero (by have := hus.1; rw [h0] at this; simpa using this)
      rw [e1, e2]
    · subst hv
      rcases hus.2 with ⟨hv', _⟩ | ⟨b', cap', cur', hv', hb', hh', r1', r2', r3', r4'⟩
      · cases hv'
      · simp only [Value.slice.injEq, Option.some.injEq, Addr.mk.injEq, and_true] at hv'
        obtain ⟨rfl, _, rfl⟩ := hv'
        rw [hh] at hh'
        cases hh'
        rw [← r4, ← r4']
  subst hsame
  have hul : us'.length = xs.length := by rw [h1.1, Nat.mul_one]
  have hlt : ∀ b ∈ fps.flatten, b < w.heap.size := by
    intro b hb
    obtain ⟨f, hf, hbf⟩ := List.mem_flatten.1 hb
    obtain ⟨i, hi, rfl⟩ := List.mem_iff_getElem.1 hf
    exact K.lt (q4 i (by omega) us'[i] fps[i] (by simp) (by simp)) b hbf
  have hnot : ∀ b, v.ownBlock ≠ some b → b < w.heap.size → v2.ownBlock ≠ some b := by
    intro b hb hl he
    rcases ht b he with h | h
    · exact hb h
    · simp at h; omega
  refine ⟨us' ++ [u], fps ++ [g], by simpa using h2, by simp [q2], ?_, ?_⟩
  · intro b hb
    rw [List.flatten_append] at hb
    rcases List.mem_append.1 hb with hb | hb
    · exact ⟨hnot b (q3 b hb).1 (hlt b hb), (q3 b hb).2⟩
    · have hb' : b ∈ g := by simpa using hb
      exact ⟨hnot b (hg b hb').1 (K.lt hx b hb'), (hg b hb').2⟩
  · intro i hi u' f hu' hf'
    by_cases hlt' : i < xs.length
    · rw [List.getElem?_append_left (by omega)] at hu' hf'
      rw [List.getElem_append_left hlt']
      exact K.upd (q4 i hlt' u' f hu' hf') hu3 (fun b hb hm => (q3 b (List.mem_flatten.2 ⟨_, List.mem_of_getElem? hf', hb⟩)).1 (by simpa using hm))
    · have ei : i = xs.length := by simp at hi; omega
      subst ei
      rw [List.getElem?_append_right (by omega)] at hu' hf'
      rw [hul, Nat.sub_self] at hu'
      rw [q2, Nat.sub_self] at hf'
      simp at hu' hf'
      subst hu' hf'
      simpa using K.upd hx hu3 (fun b hb hm => (hg b hb).1 (by simpa using hm))
end Got

theorem own_new (w : World) (cs : Array Value) (T : TypeId) : Own [w.heap.size] (w.alloc (.cells cs T)) := by
  refine ⟨by simp, fun b hb => ?_⟩
  obtain rfl : b = w.heap.size := by simpa using hb
  exact ⟨_, _, heap_alloc_new w _⟩

theorem cell_new (w : World) (cs : Array Value) (T : TypeId) (B : Nat) (hB : w.heap.size = B) (j : Nat) (u : Value) (h : cs[j]? = some u) : (w.alloc (.cells cs T)).cell? ⟨B, j, none⟩ = some u := by
  subst hB
  rw [cell_of_row _ _ _ _ _ _ (heap_alloc_new w _)]; exact h

/-- a call of a Go function at a step of a region that draws. -/
theorem step_call {P : Program} {ops : Array Oper} {o : Oper} {a : Act} {w : World} {K : Act → World → Prop} {Q : Exit → Act → World → Prop} {E : Prop} (hgd : o.guard = none) (f : FuncId) (args : Array Value)
    (hx : (execOp a.eval o).run P w = .ok (.enter f args) w) (h : Calls P f args w (fun e w' => ∃ v, e = .returned v ∧ K (a.put o.dst v) w')) :
    if Region.wanted o (yielded ops a.tmps) = true then Oper.wp P o a w K Q else E := by
  have hw : Region.wanted o (yielded ops a.tmps) = true := by simp [Region.wanted, hgd]
  rw [if_pos hw]
  unfold Oper.wp
  rw [hx]
  simp only [Oper.upon]
  exact h.mono fun e w' ⟨v, he, hk⟩ => by subst he; exact hk

end Go.Proofs.YtnfghgaadnobbaaGreatDoor
