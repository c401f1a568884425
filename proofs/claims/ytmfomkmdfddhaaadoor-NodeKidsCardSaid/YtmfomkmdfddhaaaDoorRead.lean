/- What comes in: slices of whole numbers. -/
import Derived.Test.YtmfomkmdfddhaaaDoorMem
import Derived.OpenShut
import Derived.ChangeSlices
import Derived.WideShapes
import Derived.Deep.Slices
import Derived.Deep.Fields
import Derived.ChangeSame
namespace Go.Proofs.YtmfomkmdfddhaaaDoor.Read
open Go.ChangeShapes Go.WideShapes Go.ChangeAt Go.RowKit Go.Proofs.YtmfomkmdfddhaaaDoor.Mem

/-- A slice's whole numbers, where they stand. -/
def Ints (w : World) (k : IntKind) (A : Option Addr) (n : Nat) (xs : List Int) : Prop :=
  xs.length = n ∧ n ≤ maxLen ∧ (∀ x ∈ xs, (Lit.int k x).wf = true) ∧ (0 < n → ∃ b off, A = some ⟨b, off, none⟩ ∧ b < w.heap.size ∧ ∀ i, i < n → w.cell? ⟨b, off + i, none⟩ = some (.int k (xs.getD i 0)))

theorem Ints.kept {w w' : World} {k : IntKind} {A : Option Addr} {n : Nat} {xs : List Int} (h : Ints w k A n xs) (hb : Below w.heap.size w w') : Ints w' k A n xs := by
  refine ⟨h.1, h.2.1, h.2.2.1, fun h0 => ?_⟩
  obtain ⟨b, off, e, hlt, hc⟩ := h.2.2.2 h0
  exact ⟨b, off, e, Nat.lt_of_lt_of_le hlt hb.size, fun i hi => (hb.cell (p := ⟨b, off + i, none⟩) hlt).trans (hc i hi)⟩

theorem ints_open {H : Type} {enc : TypeId × Value → H} {P : Program} {W : World} {base : Nat} {t e : TypeId} {k : IntKind} {v : Value} {d : DataW H} {p : List MemPlace} (ht : P.underlying t = some (.slice e)) (he : P.underlying e = some (.int k)) (hc : P.cellsOf e = 1)
    (h : DataW.Trod enc P W 0 (fun _ => true) true t v d p) (ho : Value.okWide P W .any base t v) : ∃ A n c xs, v = .slice A n c ∧ Ints W k A n xs := by
  obtain ⟨A, n, c, rfl⟩ := okWide_slice ht ho
  refine ⟨A, n, c, ?_⟩
  obtain ⟨fuel, hf⟩ := h
  rcases open_ints ht he hc hf with ⟨hcs, _⟩ | ⟨a, len, cap, zs, hcs, _, hl, hm, hz, _, hcell, hw⟩
  · have e : Value.slice A n c = .slice none 0 0 := by simpa [Value.cells] using hcs
    injection e with e1 e2 e3
    subst e1 e2 e3
    exact ⟨[], rfl, rfl, by simp [maxLen], by simp, by simp⟩
  · have e : Value.slice A n c = .slice (some a) len cap := by simpa [Value.cells] using hcs
    injection e with e1 e2 e3
    subst e1 e2 e3
    simp only [if_true] at hz
    refine ⟨zs.take n, rfl, by simp; omega, by omega, fun x hx => hw x (List.mem_of_mem_take hx), fun h0 => ?_⟩
    have h1 := hcell 0 (by omega)
    obtain ⟨b, off, rfl, hc2⟩ := ints_at hcell (by omega)
    refine ⟨b, off, rfl, World.block_lt_of_cell? W _ (hc2 0 (by omega)), fun i hi => ?_⟩
    rw [hc2 i (by omega)]
    congr 2
    simp [List.getD_eq_getElem?_getD, hi]

/-- A slice of structs of one-cell fields, where they stand: a list of cells for each. -/
def Structs (w : World) (size : Nat) (A : Option Addr) (n : Nat) (rows : List (List Value)) : Prop :=
  rows.length = n ∧ n ≤ maxLen ∧ (0 < n → ∃ b off, A = some ⟨b, off, none⟩ ∧ b < w.heap.size ∧ ∀ i, i < n → ∀ j, j < size → w.cell? ⟨b, off + i * size + j, none⟩ = (rows.getD i [])[j]?)

theorem Structs.kept {w w' : World} {size : Nat} {A : Option Addr} {n : Nat} {rows : List (List Value)} (h : Structs w size A n rows) (hb : Below w.heap.size w w') : Structs w' size A n rows := by
  refine ⟨h.1, h.2.1, fun h0 => ?_⟩
  obtain ⟨b, off, e, hlt, hc⟩ := h.2.2 h0
  exact ⟨b, off, e, Nat.lt_of_lt_of_le hlt hb.size, fun i hi j hj => (hb.cell (p := ⟨b, off + i * size + j, none⟩) hlt).trans (hc i hi j hj)⟩

theorem exists_rows {α : Type} (n : Nat) (Q : Nat → α → Prop) (h : ∀ i, i < n → ∃ a, Q i a) : ∃ l : List α, l.length = n ∧ ∀ i (hi : i < l.length), Q i l[i] := by
  induction n with
  | zero => exact ⟨[], rfl, fun i hi => by simp at hi⟩
  | succ n ih =>
    obtain ⟨l, hl, hq⟩ := ih (fun i hi => h i (by omega))
    obtain ⟨a, ha⟩ := h n (by omega)
    refine ⟨l ++ [a], by simp [hl], fun i hi => ?_⟩
    by_cases e : i < l.length
    · rw [List.getElem_append_left e]; exact hq i e
    · have : i = n := by simp at hi; omega
      subst this
      rw [List.getElem_append_right (by omega)]
      simpa [hl] using ha

/-- A slice of structs of one-cell fields, opened: what is told of each field's value is told of each row. -/
theorem structs_open {H : Type} {enc : TypeId × Value → H} {P : Program} {W : World} {base : Nat} {t e : TypeId} {fs : Array Field} {v : Value} {d : DataW H} {p : List MemPlace} {α : Type} (cells : α → List Value)
    (ht : P.underlying t = some (.slice e)) (he : P.underlying e = some (.struct fs)) (hone : Go.Deep.oneCellFields P fs = true) (hC : P.cellsOf e = fs.size) (hpos : 0 < fs.size)
    (hrow : ∀ row : List Value, row.length = fs.size → (∀ (j : Nat) (f : Field), fs[j]? = some f → ∃ (n : Nat) (y : DataW H × List MemPlace), DataW.trod enc P W 0 (fun _ => true) true n f.type [row.getD j undef] = some y) → ∃ a, row = cells a)
    (h : DataW.Trod enc P W 0 (fun _ => true) true t v d p) (ho : Value.okWide P W .any base t v) : ∃ (A : Option Addr) (n c : Nat) (l : List α), v = .slice A n c ∧ Structs W fs.size A n (l.map cells) := by
  obtain ⟨A, n, c, rfl⟩ := okWide_slice ht ho
  refine ⟨A, n, c, ?_⟩
  obtain ⟨fuel, hf⟩ := h
  rcases Go.Deep.open_slice ht hf with ⟨hcs, _⟩ | ⟨a, len, cap, m, k, D, Pl, hcs, _, hl, hm, hmm, _, hi⟩
  · have e : Value.slice A n c = .slice none 0 0 := by simpa [Value.cells] using hcs
    injection e with e1 e2 e3
    subst e1 e2 e3
    exact ⟨[], rfl, rfl, by simp [maxLen], by simp⟩
  · have e : Value.slice A n c = .slice (some a) len cap := by simpa [Value.cells] using hcs
    injection e with e1 e2 e3
    subst e1 e2 e3
    simp only [if_true] at hmm
    subst hmm
    have hrows : ∀ i, i < n → ∃ r : α, W.cells? 0 (a.add (i * fs.size)) fs.size = some (cells r) := by
      intro i hin
      obtain ⟨cs', hc, ht'⟩ := hi i (by omega)
      rw [hC] at hc
      obtain ⟨ys, n', hn', hy, hlen, hyl, hf⟩ := DataW.trod_struct he ht'
      have hcl := (World.cells?_some hc).2.1
      obtain ⟨r, hr⟩ := hrow cs' hcl (fun j f hj => by
        obtain ⟨ho, hk⟩ := Go.Deep.hone_of hone j f hj
        have hjl : j < fs.size := (Array.getElem?_eq_some_iff.1 hj).1
        have h1 := hf j f hj
        rw [ho, hk] at h1
        have hone' : (cs'.drop j).take 1 = [cs'.getD j undef] := by
          have e2 : cs'.getD j undef = cs'[j]'(by omega) := by rw [List.getD_eq_getElem?_getD, List.getElem?_eq_getElem (show j < cs'.length by omega)]; rfl
          rw [List.drop_eq_getElem_cons (by omega), e2]
          rfl
        rw [hone', List.getElem?_eq_getElem (by omega)] at h1
        exact ⟨n', _, h1⟩)
      exact ⟨r, by rw [hc, hr]⟩
    obtain ⟨l, hl2, hq⟩ := exists_rows n _ hrows
    refine ⟨l, rfl, by simpa using hl2, by omega, fun h0 => ?_⟩
    have h1 := hq 0 (by omega)
    obtain ⟨h2, h3, h4⟩ := World.cells?_some h1
    have h5 := h4 0 hpos
    rw [List.getElem?_eq_getElem (by omega)] at h5
    obtain ⟨b, off, spot⟩ := a
    have hspot : spot = none := by simpa [Addr.add] using World.cell?_spot h5
    subst hspot
    have hplain : ∀ k, (({ block := b, off := off, spot := none } : Addr).add k) = ⟨b, off + k, none⟩ := fun k => by
      unfold Addr.add; split <;> simp_all
    have hlt : b < W.heap.size := by have := World.block_lt_of_cell? W _ h5; rw [Go.Deep.add_add, hplain] at this; exact this
    refine ⟨b, off, rfl, hlt, fun i hin j hj => ?_⟩
    have h6 := (World.cells?_some (hq i (by omega))).2.2 j hj
    have e1 : ((({ block := b, off := off, spot := none } : Addr).add (i * fs.size)).add j) = ⟨b, off + i * fs.size + j, none⟩ := by
      rw [Go.Deep.add_add, hplain, Nat.add_assoc]
    rw [e1] at h6
    rw [h6]
    simp [List.getD_eq_getElem?_getD, List.getElem?_eq_getElem (show i < l.length by omega)]

end Go.Proofs.YtmfomkmdfddhaaaDoor.Read
