/- Slices of writes and of pairs, as lists. -/
import Derived.Test.YtfbldpppjnnblaaCopy
import Derived.Test.YtfbldpppjnnblaaSet
import Derived.StillTailTactics
import Derived.Deep.DeepCutAuto
import Derived.Deep.CutBlock
import Derived.Laws.Rows
import Derived.IntWalk
namespace Go.Proofs.Ytfbldpppjnnblaa.Rows3
open Go.RowKit Go.Joins Go.Proofs.Ytfbldpppjnnblaa.Mem Go.Proofs.Ytfbldpppjnnblaa.Read Go.Proofs.Ytfbldpppjnnblaa.Out Go.Proofs.Ytfbldpppjnnblaa.Copy Go.Proofs.Ytfbldpppjnnblaa.Key Go.Proofs.Ytfbldpppjnnblaa.Set

/-- A write; a pair. -/
structure W3 where
  k : ByteArray
  t : ByteArray
  g : Bool
structure P2 where
  k : ByteArray
  t : ByteArray

def W3.cells (x : W3) : List Value := [.string x.k, .string x.t, .bool x.g]
def P2.cells (x : P2) : List Value := [.string x.k, .string x.t]
theorem W3.len (x : W3) : x.cells.length = 3 := rfl
theorem P2.len (x : P2) : x.cells.length = 2 := rfl
theorem W3.one (x : W3) : ∀ u ∈ x.cells, u.oneCell' = true := by simp [W3.cells, Value.oneCell']
theorem P2.one (x : P2) : ∀ u ∈ x.cells, u.oneCell' = true := by simp [P2.cells, Value.oneCell']
theorem W3.ext {x y : W3} (h1 : x.k = y.k) (h2 : x.t = y.t) (h3 : x.g = y.g) : x = y := by cases x; cases y; simp_all
theorem P2.ext {x y : P2} (h1 : x.k = y.k) (h2 : x.t = y.t) : x = y := by cases x; cases y; simp_all

theorem W3.differs {x y : W3} (h : ¬ x = y) : (x.k.toList == y.k.toList) = false ∨ ((x.k.toList == y.k.toList) = true ∧ (x.t.toList == y.t.toList) = false) ∨ ((x.k.toList == y.k.toList) = true ∧ (x.t.toList == y.t.toList) = true ∧ (x.g == y.g) = false) := by
  rw [eq_beq, eq_beq]
  by_cases h1 : x.k = y.k
  · by_cases h2 : x.t = y.t
    · exact .inr (.inr ⟨decide_eq_true h1, decide_eq_true h2, by simpa using fun h3 => h (W3.ext h1 h2 h3)⟩)
    · exact .inr (.inl ⟨decide_eq_true h1, decide_eq_false h2⟩)
  · exact .inl (decide_eq_false h1)
theorem P2.differs {x y : P2} (h : ¬ x = y) : (x.k.toList == y.k.toList) = false ∨ ((x.k.toList == y.k.toList) = true ∧ (x.t.toList == y.t.toList) = false) := by
  rw [eq_beq, eq_beq]
  by_cases h1 : x.k = y.k
  · exact .inr ⟨decide_eq_true h1, decide_eq_false (fun h2 => h (P2.ext h1 h2))⟩
  · exact .inl (decide_eq_false h1)

section
variable {α : Type}

/-- A slice of n elements that reads as l. -/
def RowsOf (cells : α → List Value) (sz : Nat) (w : World) (A : Option Addr) (n : Nat) (l : List α) : Prop :=
  l.length = n ∧ n ≤ maxLen ∧ (0 < n → ∃ b off, A = some ⟨b, off, none⟩ ∧ b < w.heap.size ∧ ∀ i x, l[i]? = some x → ∀ j v, (cells x)[j]? = some v → w.cell? ⟨b, off + i * sz + j, none⟩ = some v)

variable {cells : α → List Value} {sz : Nat} {w w' : World} {A : Option Addr} {n : Nat} {l : List α}

theorem RowsOf.kept (h : RowsOf cells sz w A n l) (hb : Below w.heap.size w w') : RowsOf cells sz w' A n l := by
  refine ⟨h.1, h.2.1, fun h0 => ?_⟩
  obtain ⟨b, off, e, hlt, hc⟩ := h.2.2 h0
  exact ⟨b, off, e, Nat.lt_of_lt_of_le hlt hb.size, fun i x hi j v hj => (hb.cell (p := ⟨b, off + i * sz + j, none⟩) hlt).trans (hc i x hi j v hj)⟩

theorem RowsOf.nil (cells : α → List Value) (sz : Nat) (w : World) : RowsOf cells sz w none 0 [] := ⟨rfl, Nat.zero_le _, fun h => absurd h (by omega)⟩

theorem RowsOf.of_structs (h : Structs w sz A n (l.map cells)) (hlen : ∀ x, (cells x).length = sz) : RowsOf cells sz w A n l := by
  refine ⟨by simpa using h.1, h.2.1, fun h0 => ?_⟩
  obtain ⟨b, off, e, hlt, hc⟩ := h.2.2 h0
  refine ⟨b, off, e, hlt, fun i x hi j v hj => ?_⟩
  have hil := (List.getElem?_eq_some_iff.1 hi).1
  have hl := h.1
  rw [List.length_map] at hl
  have hjs : j < sz := by rw [← hlen x]; exact (List.getElem?_eq_some_iff.1 hj).1
  rw [hc i (by omega) j hjs, List.getD_eq_getElem?_getD, List.getElem?_map, hi]
  exact hj

/-- The element at an index. -/
theorem RowsOf.at {b off : Nat} (h : RowsOf cells sz w (some ⟨b, off, none⟩) n l) {i : Nat} {x : α} (hi : l[i]? = some x) : ∀ j v, (cells x)[j]? = some v → w.cell? ⟨b, off + i * sz + j, none⟩ = some v := by
  have hil := (List.getElem?_eq_some_iff.1 hi).1
  obtain ⟨b', off', e, _, hc⟩ := h.2.2 (by have := h.1; omega)
  cases e
  exact hc i x hi

theorem RowsOf.addr (h : RowsOf cells sz w A n l) (h0 : 0 < n) : ∃ b off, A = some ⟨b, off, none⟩ := by
  obtain ⟨b, off, e, _⟩ := h.2.2 h0
  exact ⟨b, off, e⟩

/-- Behind the first ones. -/
theorem RowsOf.drop {b off : Nat} (h : RowsOf cells sz w (some ⟨b, off, none⟩) n l) (i : Nat) : RowsOf cells sz w (some ⟨b, off + i * sz, none⟩) (n - i) (l.drop i) := by
  refine ⟨by rw [List.length_drop, h.1], Nat.le_trans (Nat.sub_le _ _) h.2.1, fun h0 => ?_⟩
  obtain ⟨b', off', e, hlt, hc⟩ := h.2.2 (by omega)
  cases e
  refine ⟨b, off + i * sz, rfl, hlt, fun j x hj m v hm => ?_⟩
  rw [List.getElem?_drop] at hj
  have := hc (i + j) x hj m v hm
  rw [Nat.add_mul, ← Nat.add_assoc] at this
  exact this

theorem flat_len (hlen : ∀ x, (cells x).length = sz) (l : List α) : (l.flatMap cells).length = l.length * sz := by
  induction l with
  | nil => simp
  | cons a l ih => simp [ih, hlen, Nat.add_mul]; omega

theorem flat_at (hlen : ∀ x, (cells x).length = sz) : ∀ (l : List α) (i : Nat) (x : α), l[i]? = some x → ∀ j v, (cells x)[j]? = some v → (l.flatMap cells)[i * sz + j]? = some v
  | [], _, _, h, _, _, _ => by simp at h
  | a :: l, 0, x, h, j, v, hj => by
    obtain rfl : a = x := by simpa using h
    rw [List.flatMap_cons, List.getElem?_append_left (by have := (List.getElem?_eq_some_iff.1 hj).1; omega)]
    rw [Nat.zero_mul, Nat.zero_add]
    exact hj
  | a :: l, i + 1, x, h, j, v, hj => by
    have := flat_at hlen l i x (by simpa using h) j v hj
    rw [List.flatMap_cons, List.getElem?_append_right (by rw [hlen, Nat.add_mul]; omega), hlen]
    rw [show (i + 1) * sz + j - sz = i * sz + j by rw [Nat.add_mul]; omega]
    exact this

theorem flat_one (h1 : ∀ x : α, ∀ u ∈ cells x, u.oneCell' = true) (l : List α) : ∀ u ∈ l.flatMap cells, u.oneCell' = true := by
  intro u hu
  obtain ⟨x, _, hx⟩ := List.mem_flatMap.1 hu
  exact h1 x u hx

theorem flat_take (hlen : ∀ x, (cells x).length = sz) : ∀ (l : List α) (i : Nat), (l.take i).flatMap cells = (l.flatMap cells).take (i * sz)
  | [], i => by simp
  | a :: l, 0 => by simp
  | a :: l, i + 1 => by
    rw [List.take_succ_cons, List.flatMap_cons, List.flatMap_cons, flat_take hlen l i, List.take_append, hlen, Nat.add_mul, Nat.one_mul, Nat.add_sub_cancel]
    rw [List.take_of_length_le (show (cells a).length ≤ i * sz + sz by rw [hlen]; omega)]

theorem flat_drop (hlen : ∀ x, (cells x).length = sz) : ∀ (l : List α) (i : Nat), (l.drop i).flatMap cells = (l.flatMap cells).drop (i * sz)
  | [], i => by simp
  | a :: l, 0 => by simp
  | a :: l, i + 1 => by
    rw [List.drop_succ_cons, List.flatMap_cons, flat_drop hlen l i, List.drop_append, hlen, Nat.add_mul, Nat.one_mul, Nat.add_sub_cancel]
    rw [List.drop_of_length_le (show (cells a).length ≤ i * sz + sz by rw [hlen]; omega), List.nil_append]

theorem flat_snoc (l : List α) (x : α) : (l ++ [x]).flatMap cells = l.flatMap cells ++ cells x := by simp

/-- A list that the call built, read. -/
theorem own_rows {w0 : World} {e : TypeId} {v : Value} (hlen : ∀ x, (cells x).length = sz) (h : Out w0 w e sz v n (l.flatMap cells)) (hl : l.length = n) (hn : n ≤ maxLen) : ∃ A c, v = .slice A n c ∧ n ≤ c ∧ RowsOf cells sz w A n l := by
  rcases h.1.2 with ⟨rfl, hx⟩ | ⟨g, c, cur, rfl, _, hg, hnc, _⟩
  · subst hx
    obtain rfl : l = [] := List.eq_nil_of_length_eq_zero hl
    exact ⟨none, 0, rfl, Nat.le_refl _, RowsOf.nil _ _ _⟩
  · refine ⟨some ⟨g, 0, none⟩, c, rfl, hnc, hl, hn, fun _ => ⟨g, 0, rfl, (h.1.lt g rfl).2, fun i x hi j v hj => ?_⟩⟩
    have hf := flat_at hlen l i x hi j v hj
    have hlt := (List.getElem?_eq_some_iff.1 hf).1
    rw [h.len] at hlt
    rw [Nat.zero_add]
    rw [h.1.cellAt (i * sz + j) hlt]
    exact hf

/-- A row known whole, behind a store of one element. -/
theorem flat_set (hlen : ∀ x, (cells x).length = sz) (l : List α) (i : Nat) (x : α) (hi : i < l.length) : (l.set i x).flatMap cells = (l.flatMap cells).take (i * sz) ++ (cells x ++ (l.flatMap cells).drop ((i + 1) * sz)) := by
  rw [List.set_eq_take_append_cons_drop, if_pos hi, List.flatMap_append, List.flatMap_cons, flat_take hlen, flat_drop hlen]
end

theorem two_new (w : World) (o : Obj) (cs : List Value) (T : TypeId) : ∀ (j : Nat) (u : Value), cs[j]? = some u → ((w.alloc o).alloc (.cells cs.toArray T (0, 0))).cell? ((⟨w.heap.size + 1, 0, none⟩ : Addr).add j) = some u := by
  intro j u h
  have hc := Cells.new (w.alloc o) cs T
  rw [show (w.alloc o).heap.size = w.heap.size + 1 by simp] at hc
  rw [add_plain, hc.cell j]
  exact h

theorem rs_adj {α : Type} {key : α → ByteArray} : ∀ {l : List α}, Rs key l ↔ ∀ i x y, l[i]? = some x → l[i + 1]? = some y → kl (key x) (key y) = true
  | [] => ⟨fun _ i x y h => by simp at h, fun _ => Rs.nil⟩
  | a :: l => by
    refine ⟨fun h i x y hx hy => ?_, fun h => ?_⟩
    · cases i with
      | zero =>
        obtain rfl : a = x := by simpa using hx
        exact h.head (List.mem_of_getElem? (by simpa using hy))
      | succ i => exact rs_adj.1 h.tail i x y (by simpa using hx) (by simpa using hy)
    · have ht : Rs key l := rs_adj.2 (fun i x y hx hy => h (i + 1) x y (by simpa using hx) (by simpa using hy))
      refine Rs.cons (fun b hb => ?_) ht
      cases l with
      | nil => cases hb
      | cons c l =>
        have h0 := h 0 a c rfl rfl
        rcases List.mem_cons.1 hb with rfl | hb
        · exact h0
        · exact kl_trans h0 (ht.head hb)

theorem info_wr : (Try.prog.info? 50).map (fun i => (i.zero, i.size, i.bytes)) = some (some (.agg #[.string ⟨#[]⟩, .string ⟨#[]⟩, .bool false]), 3, 40) := by kernel_rfl
theorem info_rw : (Try.prog.info? 38).map (fun i => (i.zero, i.size, i.bytes)) = some (some (.agg #[.string ⟨#[]⟩, .string ⟨#[]⟩, .bool false]), 3, 40) := by kernel_rfl
end Go.Proofs.Ytfbldpppjnnblaa.Rows3
