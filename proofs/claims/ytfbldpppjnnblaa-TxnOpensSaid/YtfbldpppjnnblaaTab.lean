/- Layer 17's table of transactions, as it lies in memory. -/
import Derived.Test.YtfbldpppjnnblaaWatch6
import Derived.Test.YtfbldpppjnnblaaPut15
import Derived.Test.YtfbldpppjnnblaaMap2
namespace Go.Proofs.Ytfbldpppjnnblaa.Tab
open Go.RowKit Go.Proofs.Ytfbldpppjnnblaa.Mem Go.Proofs.Ytfbldpppjnnblaa.Q Go.Proofs.Ytfbldpppjnnblaa.Watch Go.Proofs.Ytfbldpppjnnblaa.Read Go.Proofs.Ytfbldpppjnnblaa.Out Go.Proofs.Ytfbldpppjnnblaa.Copy Go.Proofs.Ytfbldpppjnnblaa.Key Go.Proofs.Ytfbldpppjnnblaa.Set Go.Proofs.Ytfbldpppjnnblaa.Rows3 Go.Proofs.Ytfbldpppjnnblaa.Get15 Go.Proofs.Ytfbldpppjnnblaa.Put15 Go.Proofs.Ytfbldpppjnnblaa.Map
set_option maxRecDepth 100000

def ks (k : ByteArray) : Value := .string k

/-- A set that a table holds. -/
def SetV (w : World) (v : Value) (l : List W3) : Prop := ∃ A n c, v = .slice A n c ∧ n ≤ c ∧ RowsOf W3.cells 3 w A n l ∧ ∀ a, A = some a → a.block < w.heap.size

theorem SetV.nil (w : World) : SetV w (.slice none 0 0) [] := ⟨none, 0, 0, rfl, Nat.le_refl _, RowsOf.nil _ _ _, fun _ h => by cases h⟩

theorem SetV.lt {w : World} {v : Value} {l : List W3} (h : SetV w v l) {b : Nat} (hb : v.ownBlock = some b) : b < w.heap.size := by
  obtain ⟨A, n, c, rfl, _, _, h4⟩ := h
  cases A with
  | none => simp [Value.ownBlock] at hb
  | some a => simp [Value.ownBlock] at hb; subst hb; exact h4 a rfl

theorem SetV.kept {H : Nat → Prop} {w w' : World} {v : Value} {l : List W3} (h : SetV w v l) (hc : Chg H w w') (hv : ∀ b, v.ownBlock = some b → ¬ H b) : SetV w' v l := by
  obtain ⟨A, n, c, rfl, h2, h3, h4⟩ := h
  refine ⟨A, n, c, rfl, h2, ⟨h3.1, h3.2.1, fun h0 => ?_⟩, fun a e => Nat.lt_of_lt_of_le (h4 a e) hc.size⟩
  obtain ⟨b, off, rfl, hlt, hcell⟩ := h3.2.2 h0
  exact ⟨b, off, rfl, Nat.lt_of_lt_of_le hlt hc.size, fun i x hi j u hj => hc.cell (hcell i x hi j u hj) (hv b rfl)⟩

theorem SetV.of_out {w0 w : World} {v : Value} {n : Nat} {l : List W3} (h : Out w0 w 50 3 v n (l.flatMap W3.cells)) (hl : l.length = n) (hn : n ≤ maxLen) : SetV w v l ∧ ∀ b, v.ownBlock = some b → w0.heap.size ≤ b := by
  obtain ⟨A, c, rfl, hnc, hr⟩ := own_rows W3.len h hl hn
  refine ⟨⟨A, n, c, rfl, hnc, hr, fun a e => ?_⟩, fun b e => h.ge b e⟩
  subst e
  exact (h.1.lt a.block rfl).2

/-- A table at block tb: its watch, its notes, its sets. -/
structure TabR (w : World) (tb wb mb : Nat) (F : Nat → Prop) (vs : List Value) (N : Nat) (st : List (Option Int)) (ss : List (List W3)) (m : List (ByteArray × Int)) : Prop where
  cells : Cells w tb 77 (ptr wb :: (vs ++ [.map (some mb)]))
  watch : WatchAt w wb F N st
  notes : MapOf ks (Value.int .u64) w mb m
  vlen : vs.length = 8
  slen : ss.length = 8
  sets : ∀ (i : Nat) v, vs[i]? = some v → SetV w v (ss.getD i [])
  rs : ∀ i : Nat, Rs W3.k (ss.getD i []) ∧ (ss.getD i []).length ≤ 16
  ft : ¬ F tb
  fm : ¬ F mb
  tm : tb ≠ mb
  own : ∀ v ∈ vs, ∀ b, v.ownBlock = some b → ¬ F b ∧ b ≠ tb ∧ b ≠ mb

/-- A table: its blocks are those of S. -/
def Tab (w : World) (tb : Nat) (S : Nat → Prop) (N : Nat) (st : List (Option Int)) (ss : List (List W3)) (m : List (ByteArray × Int)) : Prop :=
  ∃ wb mb F vs, TabR w tb wb mb F vs N st ss m ∧ ∀ k, S k ↔ (F k ∨ k = tb ∨ k = mb ∨ ∃ v ∈ vs, v.ownBlock = some k)

section
variable {w w' : World} {tb wb mb N : Nat} {F S : Nat → Prop} {vs : List Value} {st : List (Option Int)} {ss : List (List W3)} {m : List (ByteArray × Int)}

theorem TabR.cell0 (h : TabR w tb wb mb F vs N st ss m) : w.cell? ⟨tb, 0, none⟩ = some (ptr wb) := by rw [h.cells.cell]; rfl

theorem TabR.cell9 (h : TabR w tb wb mb F vs N st ss m) : w.cell? ⟨tb, 9, none⟩ = some (.map (some mb)) := by
  rw [h.cells.cell, List.getElem?_cons_succ, List.getElem?_append_right (by rw [h.vlen]; omega), h.vlen]
  rfl

theorem TabR.cellS (h : TabR w tb wb mb F vs N st ss m) {i : Nat} {v : Value} (hi : vs[i]? = some v) : w.cell? ⟨tb, 1 + i, none⟩ = some v := by
  have hlt := (List.getElem?_eq_some_iff.1 hi).1
  rw [h.cells.cell, Nat.add_comm 1 i, List.getElem?_cons_succ, List.getElem?_append_left hlt, hi]

theorem TabR.lt {v : Value} (h : TabR w tb wb mb F vs N st ss m) (hv : v ∈ vs) {b : Nat} (hb : v.ownBlock = some b) : b < w.heap.size := by
  obtain ⟨i, hi, e⟩ := List.getElem_of_mem hv
  exact (h.sets i v (by rw [← e]; exact List.getElem?_eq_getElem hi)).lt hb

theorem TabR.kept {H : Nat → Prop} (h : TabR w tb wb mb F vs N st ss m) (hc : Chg H w w') (h1 : ∀ k, F k → ¬ H k) (h2 : ¬ H tb) (h3 : ¬ H mb) (h4 : ∀ v ∈ vs, ∀ b, v.ownBlock = some b → ¬ H b) : TabR w' tb wb mb F vs N st ss m :=
  ⟨h.cells.kept hc h2, h.watch.kept hc h1, h.notes.kept hc h3, h.vlen, h.slen, fun i v hi => (h.sets i v hi).kept hc (h4 v (List.mem_of_getElem? hi)), h.rs, h.ft, h.fm, h.tm, h.own⟩

theorem TabR.below (h : TabR w tb wb mb F vs N st ss m) (hb : Below w.heap.size w w') : TabR w' tb wb mb F vs N st ss m :=
  h.kept (Chg.of_below (F := fun _ => False) hb) (fun _ _ f => f) (fun f => f) (fun f => f) (fun _ _ _ _ f => f)

theorem TabR.watched {F' : Nat → Prop} {N' : Nat} {st' : List (Option Int)} (h : TabR w tb wb mb F vs N st ss m) (hc : Chg F w w') (hw : WatchAt w' wb F' N' st') (hF : ∀ k, F' k → F k ∨ w.heap.size ≤ k) : TabR w' tb wb mb F' vs N' st' ss m := by
  have out : ∀ k, k < w.heap.size → ¬ F k → ¬ F' k := fun k _ hn hf => (hF k hf).elim hn (fun h => by omega)
  refine ⟨h.cells.kept hc h.ft, hw, h.notes.kept hc h.fm, h.vlen, h.slen, fun i v hi => (h.sets i v hi).kept hc (fun b hb => (h.own v (List.mem_of_getElem? hi) b hb).1), h.rs, out _ h.cells.lt h.ft, out _ h.notes.lt h.fm, h.tm, fun v hv b hb => ⟨out b (h.lt hv hb) (h.own v hv b hb).1, (h.own v hv b hb).2⟩⟩

theorem TabR.noted {m' : List (ByteArray × Int)} (h : TabR w tb wb mb F vs N st ss m) (hc : Chg (· = mb) w w') (hm : MapOf ks (Value.int .u64) w' mb m') : TabR w' tb wb mb F vs N st ss m' :=
  ⟨h.cells.kept hc h.tm, h.watch.kept hc (fun _ hk e => h.fm (e ▸ hk)), hm, h.vlen, h.slen, fun i v hi => (h.sets i v hi).kept hc (fun b hb => (h.own v (List.mem_of_getElem? hi) b hb).2.2), h.rs, h.ft, h.fm, h.tm, h.own⟩

theorem TabR.put {i : Nat} {v : Value} {l : List W3} (h : TabR w tb wb mb F vs N st ss m) (hi : i < 8) (hv : SetV w v l) (hr : Rs W3.k l) (hl : l.length ≤ 16) (ho : ∀ b, v.ownBlock = some b → ¬ F b ∧ b ≠ tb ∧ b ≠ mb) :
    TabR (w.setCell ⟨tb, 1 + i, none⟩ v) tb wb mb F (vs.set i v) N st (ss.set i l) m := by
  have hc : Chg (· = tb) w (w.setCell ⟨tb, 1 + i, none⟩ v) := (Chg.refl (· = tb) w).setCell (fun _ => rfl) _
  have hvl := h.vlen
  have hsl := h.slen
  refine ⟨?_, h.watch.kept hc (fun _ hk e => h.ft (e ▸ hk)), h.notes.kept hc (fun e => h.tm e.symm), by simp [h.vlen], by simp [h.slen], fun j u hj => ?_, fun j => ?_, h.ft, h.fm, h.tm, fun u hu b hb => ?_⟩
  · have := h.cells.set (1 + i) v
    rw [Nat.add_comm 1 i, List.set_cons_succ, List.set_append_left _ _ (by omega)] at this
    rw [Nat.add_comm 1 i]
    exact this
  · rw [List.getElem?_set] at hj
    by_cases e : i = j
    · subst e
      rw [if_pos rfl, if_pos (by omega)] at hj
      cases hj
      rw [List.getD_eq_getElem?_getD, List.getElem?_set, if_pos rfl, if_pos (by omega)]
      exact hv.kept hc (fun b hb => (ho b hb).2.1)
    · rw [if_neg e] at hj
      have := (h.sets j u hj).kept hc (fun b hb => (h.own u (List.mem_of_getElem? hj) b hb).2.1)
      rw [List.getD_eq_getElem?_getD, List.getElem?_set, if_neg e]
      rwa [List.getD_eq_getElem?_getD] at this
  · have := h.rs j
    rw [List.getD_eq_getElem?_getD] at this ⊢
    rw [List.getElem?_set]
    by_cases e : i = j
    · rw [if_pos e]
      by_cases e2 : i < ss.length
      · rw [if_pos e2]; exact ⟨hr, hl⟩
      · rw [if_neg e2]; exact ⟨Rs.nil, by simp⟩
    · rw [if_neg e]; exact this
  · rcases List.mem_or_eq_of_mem_set hu with hu | rfl
    · exact h.own u hu b hb
    · exact ho b hb

theorem Tab.len (h : Tab w tb S N st ss m) : st.length = 8 ∧ ss.length = 8 := by
  obtain ⟨wb, mb, F, vs, h, _⟩ := h
  exact ⟨h.watch.len, h.slen⟩

theorem Tab.rs (h : Tab w tb S N st ss m) (i : Nat) : Rs W3.k (ss.getD i []) ∧ (ss.getD i []).length ≤ 16 := by
  obtain ⟨wb, mb, F, vs, h, _⟩ := h
  exact h.rs i

theorem Tab.lt (h : Tab w tb S N st ss m) {k : Nat} (hk : S k) : k < w.heap.size := by
  obtain ⟨wb, mb, F, vs, h, hS⟩ := h
  rcases (hS k).1 hk with h1 | rfl | rfl | ⟨v, hv, hb⟩
  · exact h.watch.lt k h1
  · exact h.cells.lt
  · exact h.notes.lt
  · exact h.lt hv hb

theorem Tab.kept {H : Nat → Prop} (h : Tab w tb S N st ss m) (hc : Chg H w w') (hH : ∀ k, S k → ¬ H k) : Tab w' tb S N st ss m := by
  obtain ⟨wb, mb, F, vs, h, hS⟩ := h
  exact ⟨wb, mb, F, vs, h.kept hc (fun k hk => hH k ((hS k).2 (.inl hk))) (hH _ ((hS _).2 (.inr (.inl rfl)))) (hH _ ((hS _).2 (.inr (.inr (.inl rfl))))) (fun v hv b hb => hH b ((hS b).2 (.inr (.inr (.inr ⟨v, hv, hb⟩))))), hS⟩

theorem Tab.below (h : Tab w tb S N st ss m) (hb : Below w.heap.size w w') : Tab w' tb S N st ss m := h.kept (Chg.of_below (F := fun _ => False) hb) (fun _ _ f => f)

/-- What a call makes of a table. -/
def Turn (w : World) (S : Nat → Prop) (w' : World) (tb N : Nat) (st : List (Option Int)) (ss : List (List W3)) (m : List (ByteArray × Int)) : Prop :=
  ∃ S', Tab w' tb S' N st ss m ∧ (∀ k, S' k → S k ∨ w.heap.size ≤ k) ∧ Chg S w w'

/-- The parts are a table again. -/
theorem TabR.turn {F' : Nat → Prop} {vs' : List Value} {N' : Nat} {st' : List (Option Int)} {ss' : List (List W3)} {m' : List (ByteArray × Int)} {H : Nat → Prop} (h : TabR w' tb wb mb F' vs' N' st' ss' m') (hS : ∀ k, S k ↔ (F k ∨ k = tb ∨ k = mb ∨ ∃ v ∈ vs, v.ownBlock = some k))
    (hF : ∀ k, F' k → F k ∨ w.heap.size ≤ k) (hv : ∀ v ∈ vs', ∀ b, v.ownBlock = some b → v ∈ vs ∨ w.heap.size ≤ b) (hc : Chg H w w') (hH : ∀ k, H k → k < w.heap.size → F k ∨ k = tb ∨ k = mb) : Turn w S w' tb N' st' ss' m' := by
  refine ⟨fun k => F' k ∨ k = tb ∨ k = mb ∨ ∃ v ∈ vs', v.ownBlock = some k, ⟨wb, mb, F', vs', h, fun k => Iff.rfl⟩, fun k hk => ?_, hc.mono (fun k hk hh => ?_)⟩
  · rcases hk with hk | rfl | rfl | ⟨v, hv1, hb⟩
    · rcases hF k hk with h | h
      · exact .inl ((hS k).2 (.inl h))
      · exact .inr h
    · exact .inl ((hS _).2 (.inr (.inl rfl)))
    · exact .inl ((hS _).2 (.inr (.inr (.inl rfl))))
    · rcases hv v hv1 k hb with h | h
      · exact .inl ((hS k).2 (.inr (.inr (.inr ⟨v, h, hb⟩))))
      · exact .inr h
  · rcases hH k hh hk with h | h | h
    · exact (hS k).2 (.inl h)
    · exact (hS k).2 (.inr (.inl h))
    · exact (hS k).2 (.inr (.inr (.inl h)))
end
end Go.Proofs.Ytfbldpppjnnblaa.Tab
