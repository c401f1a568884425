/- The queue's own Push and Pop (stamp), and the heap's, walked. -/
import Derived.Test.YtfbldpppjnnblaaQ3
namespace Go.Proofs.Ytfbldpppjnnblaa.Q
set_option maxRecDepth 100000
open Go.RowKit Go.Proofs.Ytfbldpppjnnblaa.Mem Go.Proofs.Ytfbldpppjnnblaa.HeapLaw

/-- Block b is as it was, but for its cell o. -/
def Upd (w w' : World) (b o : Nat) (v : Value) : Prop := ∀ T cs, Cells w b T cs → Cells w' b T (cs.set o v)

theorem info_one : (Try.prog.info? 87).map (fun i => (i.zero, i.size, i.bytes)) = some (some (.pointer none), 1, 8) := by kernel_rfl

/-- A queue at b, o: its slice, and its numbers. -/
structure Que (w : World) (b o : Nat) (qv : Value) (q : List Nat) : Prop where
  head : w.cell? ⟨b, o, none⟩ = some qv
  free : w.frozen? ⟨b, o, none⟩ = false
  own : w.ownsRow 0 87 1 qv q.length (q.map ptr)
  ne : qv.ownBlock ≠ some b

theorem Que.row {w : World} {b o : Nat} {qv : Value} {q : List Nat} (h : Que w b o qv q) (h0 : 0 < q.length) :
    ∃ g n c rest, qv = .slice (some ⟨g, 0, none⟩) n c ∧ Row w b o g n c q rest ∧ qv.ownBlock = some g := by
  rcases h.own.2 with ⟨_, e⟩ | ⟨g, cap, cur, hv, _, hh, hnc, hcm, hcs, ht⟩
  · omega
  · have hb := h.ne
    rw [hv] at hb
    refine ⟨g, q.length, cap, cur.toList.drop q.length, hv, ⟨hv ▸ h.head, ?_, rfl, fun e => hb (by simp [Value.ownBlock, e]), by simp; omega, hcm⟩, by rw [hv]; rfl⟩
    have : q.map ptr ++ cur.toList.drop q.length = cur.toList := by
      rw [← ht]; simp
    unfold Cells
    rw [this, hh]

theorem Que.of_row {w : World} {b o g n c : Nat} {q : List Nat} {rest : List Value} (h : Row w b o g n c q rest) (hf : w.frozen? ⟨b, o, none⟩ = false) : Que w b o (.slice (some ⟨g, 0, none⟩) n c) q := by
  refine ⟨h.head, hf, ⟨by simp, .inr ⟨g, c, (q.map ptr ++ rest).toArray, by rw [h.len], Nat.zero_le _, h.cells, by have := h.room; have := h.len; omega, h.small, ?_, ?_⟩⟩, by simp [Value.ownBlock]; exact fun e => h.ne e.symm⟩
  · have := h.room; have := h.len; simp; omega
  · simp

theorem assert_one (v : Value) (w : World) : (Instr.typeAssert (.iface 87 v) 20 87 true).run Try.prog w = .ok (.tuple #[v, .bool true]) w := by kernel_rfl

set_option maxHeartbeats 400000 in
theorem qpush_any (b o x : Nat) (qv : Value) (q : List Nat) (w : World) (hQ : Que w b o qv q) (hn : q.length < 1000000) :
    Calls Try.prog 94 #[.pointer (some ⟨b, o, none⟩), .iface 87 (ptr x)] w fun e w' => e = .returned (.tuple #[]) ∧ ∃ qv', Que w' b o qv' (q ++ [x]) ∧ (∀ g, qv'.ownBlock = some g → qv.ownBlock = some g ∨ w.heap.size ≤ g) ∧ Chg (fun k => k = b ∨ qv.ownBlock = some k) w w' ∧ Upd w w' b o qv' := by
  have hh := hQ.head
  have hf := hQ.free
  have HQ := Lib.hid hQ
  clear hQ
  have ha := assert_one
  go_enter Try.func94, Try.ntmps94
  go_wp2_with (at_builtin; refine wpList_app rfl _ _ 90 rfl 87 (.pointer none) 1 8 Try.underlying90 info_one rfl (by decide) _ _ _ rfl (HQ.out.own.alloc _) ⟨w.heap.size, 0, none⟩ 1 1 [ptr x] rfl rfl ?c1 ?c2 ?c3 ?c4 (by decide) ?_)
  case c1 => exact one_new w _ _
  case c2 => simp [Value.oneCell']
  case c3 => simp only [maxLen]; omega
  case c4 => omega
  intro g k w1 ho1 hg1 hw1
  have hbl := World.block_lt_of_cell? w _ hh
  have hh0 : (w.alloc (.cells #[ptr x] 87)).cell? ⟨b, o, none⟩ = some qv := by rw [← hh]; exact World.cell?_of_block (w := w) (Below.heap_alloc _ _ _ hbl)
  have hne : some b ≠ qv.ownBlock := fun e => HQ.out.ne e.symm
  have hh1 : w1.cell? ⟨b, o, none⟩ = some qv := hg1.out.cell hh0 hne
  have hf1 : w1.frozen? ⟨b, o, none⟩ = false := (grownBy.frozen hg1.out hh0 hne).trans ((World.frozen?_of_block (w := w) (Below.heap_alloc _ _ _ hbl)).trans hf)
  have HN := Lib.hid hne
  have HB := Lib.hid hbl
  have HH := Lib.hid hh0
  clear hne hbl hh0
  have hgb : g ≠ b := by
    rcases hw1.out with e | e
    · intro e2; subst e2; exact HN.out e
    · have h1 : b < w.heap.size := HB.out
      have h2 : g = w.heap.size + 1 := by first | exact e | simpa using e
      omega
  go_wp2_with fail
  go_end0
  refine ⟨rfl, _, ⟨World.cell?_setCell_same (h := hh1) .., by simpa using hf1, ?_, fun e => hgb (by simpa [Value.ownBlock] using e)⟩, ?_, ?_, ?_⟩
  · have := own_set ho1.out (p := ⟨b, o, none⟩) (by simpa [Value.ownBlock] using hgb) (.slice (some ⟨g, 0, none⟩) (q.length + 1) k)
    simpa using this
  · intro g' e
    have e2 : g = g' := by simpa [Value.ownBlock] using e
    subst e2
    exact hw1.out.imp Eq.symm (fun e => by have h2 : g = w.heap.size + 1 := (by first | exact e | simpa using e); omega)
  · exact ((((Chg.refl (fun k => k = b ∨ qv.ownBlock = some k) w).alloc _).grown hg1.out (fun k e _ => .inr e)).setCell (p := ⟨b, o, none⟩) (fun _ => .inl rfl) _)
  · intro T cs hc
    exact (hc.kept (((Chg.refl (fun k => qv.ownBlock = some k) w).alloc _).grown hg1.out (fun k e _ => e)) (fun e => HN.out e.symm)).set o _

theorem Row.pop {w : World} {b o g m c : Nat} {q : List Nat} {rest : List Value} (h : Row w b o g (m + 1) c q rest) (hf : w.frozen? ⟨b, o, none⟩ = false) :
    Que (w.setCell ⟨b, o, none⟩ (.slice (some ⟨g, 0, none⟩) m c)) b o (.slice (some ⟨g, 0, none⟩) m c) (q.take m) ∧ Chg (· = b) w (w.setCell ⟨b, o, none⟩ (.slice (some ⟨g, 0, none⟩) m c)) ∧ Upd w (w.setCell ⟨b, o, none⟩ (.slice (some ⟨g, 0, none⟩) m c)) b o (.slice (some ⟨g, 0, none⟩) m c) := by
  have hl := h.len
  have hr := h.room
  have hc : Chg (· = b) w (w.setCell ⟨b, o, none⟩ (.slice (some ⟨g, 0, none⟩) m c)) := (Chg.refl (· = b) w).setCell (p := ⟨b, o, none⟩) (fun _ => rfl) _
  refine ⟨⟨World.cell?_setCell_same (h := h.head) .., by simpa using hf, ⟨by simp, .inr ⟨g, c, (q.map ptr ++ rest).toArray, ?_, Nat.zero_le _, h.cells.kept hc (fun e => h.ne e.symm), ?_, h.small, ?_, ?_⟩⟩, fun e => h.ne (by simpa [Value.ownBlock] using e.symm)⟩, hc, fun T cs h => h.set o _⟩
  · simp; omega
  · simp; omega
  · simp; omega
  · have : (q.take m).length = m := by simp; omega
    rw [this]
    simp only [Nat.mul_one]
    rw [List.take_append_of_le_length (by simp; omega), List.map_take]

set_option maxHeartbeats 400000 in
theorem qpop_any (b o g n c : Nat) (q : List Nat) (rest : List Value) (w : World) (hR : Row w b o g n c q rest) (hf : w.frozen? ⟨b, o, none⟩ = false) (hn : 0 < n) :
    Calls Try.prog 93 #[.pointer (some ⟨b, o, none⟩)] w fun e w' => (∃ v, e = .returned v) ∧ Que w' b o (.slice (some ⟨g, 0, none⟩) (n - 1) c) (q.take (n - 1)) ∧ Chg (· = b) w w' ∧ Upd w w' b o (.slice (some ⟨g, 0, none⟩) (n - 1) c) := by
  have hh := hR.head
  have hg := hR.get (show n - 1 < n by omega)
  have hm := hR.small
  have hr := hR.room
  unfold maxLen at hm
  obtain ⟨m, rfl⟩ : ∃ m, n = m + 1 := ⟨n - 1, by omega⟩
  simp only [Nat.add_sub_cancel] at hg ⊢
  have HR := Lib.hid hR
  clear hR
  go_enter Try.func93, Try.ntmps93
  go_wp2_with fail
  go_quiet (fail)
  go_wp2_with fail
  go_region
  go_wp2_with fail
  go_ret
  obtain ⟨h1, h2, h3⟩ := HR.out.pop hf
  exact ⟨⟨_, rfl⟩, ⟨h1.head, h1.free, h1.own, h1.ne⟩, ⟨h2.os, h2.tape, h2.output, h2.size, h2.block⟩, h3⟩
end Go.Proofs.Ytfbldpppjnnblaa.Q
