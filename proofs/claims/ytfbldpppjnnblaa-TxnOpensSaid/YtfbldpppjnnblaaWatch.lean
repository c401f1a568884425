/- The watch (stamp): what it holds in memory, and its calls. -/
import Derived.Test.YtfbldpppjnnblaaQ5
import Derived.StillTailTactics
namespace Go.Proofs.Ytfbldpppjnnblaa.Watch
set_option maxRecDepth 100000
open Go.RowKit Go.Proofs.Ytfbldpppjnnblaa.Mem Go.Proofs.Ytfbldpppjnnblaa.HeapLaw Go.Proofs.Ytfbldpppjnnblaa.Q

def optr (o : Option Nat) : Value := .pointer (o.map fun i => ⟨i, 0, none⟩)

/-- A watch at block b. -/
structure WatchR (w : World) (b : Nat) (qv : Value) (q : List Nat) (op : List (Option Nat)) (key : Nat → Int) (gone : Nat → Bool) : Prop where
  cells : Cells w b 92 (op.map optr ++ [qv])
  len : op.length = 8
  own : w.ownsRow 0 87 1 qv q.length (q.map ptr)
  ne : qv.ownBlock ≠ some b
  ones : ∀ y ∈ q, y ≠ b ∧ qv.ownBlock ≠ some y ∧ Cells w y 110 [.int .u64 (key y), .bool (gone y)]
  nodup : q.Nodup
  opens : ∀ (i y : Nat), op[i]? = some (some y) → y ∈ q ∧ gone y = false
  inj : ∀ (i j y : Nat), op[i]? = some (some y) → op[j]? = some (some y) → i = j
  live : ∀ y ∈ q, gone y = false → ∃ i : Nat, op[i]? = some (some y)
  heap : HeapN key q q.length

/-- A watch: its blocks, how many stamps its queue may have, and the stamps that are open, by their numbers. -/
def WatchAt (w : World) (b : Nat) (F : Nat → Prop) (N : Nat) (st : List (Option Int)) : Prop :=
  ∃ qv q op key gone, WatchR w b qv q op key gone ∧ st = op.map (Option.map key) ∧ q.length ≤ N ∧ ∀ k, F k ↔ (k = b ∨ qv.ownBlock = some k ∨ k ∈ q)

theorem WatchAt.len {w : World} {b : Nat} {F : Nat → Prop} {N : Nat} {st : List (Option Int)} (h : WatchAt w b F N st) : st.length = 8 := by
  obtain ⟨qv, q, op, key, gone, hR, rfl, _⟩ := h
  simp [hR.len]

theorem WatchR.kept {F : Nat → Prop} {w w' : World} {b : Nat} {qv : Value} {q : List Nat} {op : List (Option Nat)} {key : Nat → Int} {gone : Nat → Bool} (h : WatchR w b qv q op key gone) (hc : Chg F w w')
    (hF : ∀ k, k = b ∨ qv.ownBlock = some k ∨ k ∈ q → ¬ F k) : WatchR w' b qv q op key gone :=
  ⟨h.cells.kept hc (hF b (.inl rfl)), h.len, own_kept h.own hc (fun k hk => hF k (.inr (.inl hk))), h.ne,
   fun y hy => ⟨(h.ones y hy).1, (h.ones y hy).2.1, (h.ones y hy).2.2.kept hc (hF y (.inr (.inr hy)))⟩, h.nodup, h.opens, h.inj, h.live, h.heap⟩

theorem WatchAt.kept {F G : Nat → Prop} {w w' : World} {b N : Nat} {st : List (Option Int)} (h : WatchAt w b F N st) (hc : Chg G w w') (hF : ∀ k, F k → ¬ G k) : WatchAt w' b F N st := by
  obtain ⟨qv, q, op, key, gone, hR, e, hN, hk⟩ := h
  exact ⟨qv, q, op, key, gone, hR.kept hc (fun k h => hF k ((hk k).2 h)), e, hN, hk⟩

theorem WatchAt.lt {w : World} {b : Nat} {F : Nat → Prop} {N : Nat} {st : List (Option Int)} (h : WatchAt w b F N st) : ∀ k, F k → k < w.heap.size := by
  obtain ⟨qv, q, op, key, gone, hR, e, hN, hk⟩ := h
  intro k hF
  rcases (hk k).1 hF with rfl | h | h
  · exact hR.cells.lt
  · rcases hR.own.2 with ⟨rfl, _⟩ | ⟨g, cap, cur, rfl, _, hg, _⟩
    · simp [Value.ownBlock] at h
    · have : g = k := by simpa [Value.ownBlock] using h
      subst this
      exact (Array.getElem?_eq_some_iff.1 hg).1
  · exact (hR.ones k h).2.2.lt

theorem WatchR.get {w : World} {b : Nat} {qv : Value} {q : List Nat} {op : List (Option Nat)} {key : Nat → Int} {gone : Nat → Bool} (h : WatchR w b qv q op key gone) {i : Nat} {o : Option Nat} (hi : op[i]? = some o) :
    w.cell? ⟨b, i, none⟩ = some (optr o) := by
  have hl := h.len
  have h8 : i < op.length := by
    rcases Nat.lt_or_ge i op.length with h | h
    · exact h
    · rw [List.getElem?_eq_none h] at hi; cases hi
  rw [h.cells.cell i, List.getElem?_append_left (by simpa using h8)]
  simp [hi]

theorem WatchR.qcell {w : World} {b : Nat} {qv : Value} {q : List Nat} {op : List (Option Nat)} {key : Nat → Int} {gone : Nat → Bool} (h : WatchR w b qv q op key gone) : w.cell? ⟨b, 8, none⟩ = some qv := by
  have hl := h.len
  rw [h.cells.cell 8, List.getElem?_append_right (by simp; omega)]
  simp [hl]

/-- Whether number I is somebody's. -/
def hasB (st : List (Option Int)) (I : Int) : Bool := decide (0 ≤ I) && (decide (I < 8) && (st.getD I.toNat none).isSome)

set_option maxHeartbeats 400000 in
theorem has_nil (I : Int) (w : World) :
    Calls Try.prog 51 #[.pointer none, .int .i64 I] w fun e w' => e = .returned (.bool false) ∧ w = w' := by
  go_enter Try.func51, Try.ntmps51
  go_wp2_with fail
  go_ret
  exact ⟨rfl, rfl⟩

set_option maxHeartbeats 400000 in
theorem has_any (b : Nat) (F : Nat → Prop) (N : Nat) (st : List (Option Int)) (I : Int) (r : Bool) (w : World) (h : WatchAt w b F N st) (hr : hasB st I = r) :
    Calls Try.prog 51 #[ptr b, .int .i64 I] w fun e w' => e = .returned (.bool r) ∧ w = w' := by
  obtain ⟨qv, q, op, key, gone, hR, rfl, hN, hk⟩ := h
  subst hr
  have hl := hR.len
  by_cases h0 : 0 ≤ I
  · by_cases h8 : I < 8
    · obtain ⟨i, rfl⟩ := Int.eq_ofNat_of_zero_le h0
      have hi : i < op.length := by omega
      have hg := hR.get (List.getElem?_eq_getElem hi)
      have he : hasB (op.map (Option.map key)) i = op[i].isSome := by
        unfold hasB
        rw [decide_eq_true h0, decide_eq_true h8]
        simp [List.getD_eq_getElem?_getD, hi]
      rw [he]
      have h8' : i < 8 := by omega
      clear he hR hN hk
      cases ho : op[i] with
      | none =>
        rw [ho] at hg
        simp only [optr, Option.map_none] at hg
        clear ho
        go_enter Try.func51, Try.ntmps51
        go_wp2_with fail
        go_ret
        exact ⟨rfl, rfl⟩
      | some y =>
        rw [ho] at hg
        simp only [optr, Option.map_some] at hg
        clear ho
        go_enter Try.func51, Try.ntmps51
        go_wp2_with fail
        go_ret
        exact ⟨rfl, rfl⟩
    · have he : hasB (op.map (Option.map key)) I = false := by unfold hasB; rw [decide_eq_false h8]; simp
      rw [he]
      have hb : decide (I < 8) = false := decide_eq_false h8
      clear he hR hN hk h8
      go_enter Try.func51, Try.ntmps51
      go_wp2_with fail
      go_ret
      exact ⟨rfl, rfl⟩
  · have he : hasB (op.map (Option.map key)) I = false := by unfold hasB; rw [decide_eq_false h0]; simp
    rw [he]
    have hb : decide (0 ≤ I) = false := decide_eq_false h0
    clear he hR hN hk h0
    go_enter Try.func51, Try.ntmps51
    go_wp2_with fail
    go_ret
    exact ⟨rfl, rfl⟩
end Go.Proofs.Ytfbldpppjnnblaa.Watch
