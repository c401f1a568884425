/- The watch's calls (stamp): Least, Open; a watch that is new. -/
import Derived.Test.YtfbldpppjnnblaaWatch4
namespace Go.Proofs.Ytfbldpppjnnblaa.Watch
set_option maxRecDepth 100000
open Go.RowKit Go.Proofs.Ytfbldpppjnnblaa.Mem Go.Proofs.Ytfbldpppjnnblaa.HeapLaw Go.Proofs.Ytfbldpppjnnblaa.Q

/-- n is the least one of those that are open; with none open: 'none'. -/
def IsLeast (st : List (Option Int)) (none n : Int) : Prop :=
  ((∃ i : Nat, st[i]? = some (some n)) ∧ ∀ (i : Nat) x, st[i]? = some (some x) → n ≤ x) ∨ ((∀ (i : Nat) x, st[i]? ≠ some (some x)) ∧ n = none)

theorem IsLeast.unique {st : List (Option Int)} {none n m : Int} (h : IsLeast st none n) (k : IsLeast st none m) : n = m := by
  rcases h with ⟨⟨i, hi⟩, h⟩ | ⟨h, rfl⟩ <;> rcases k with ⟨⟨j, hj⟩, k⟩ | ⟨k, rfl⟩
  · have h1 := h j m hj
    have h2 := k i n hi
    omega
  · exact absurd hi (k i n)
  · exact absurd hj (h j m)
  · rfl

def headKey (key : Nat → Int) (none : Int) (q : List Nat) : Int := match q with | [] => none | y :: _ => key y

theorem WatchR.least {w : World} {b : Nat} {qv : Value} {q : List Nat} {op : List (Option Nat)} {key : Nat → Int} {gone : Nat → Bool} (h : WatchR w b qv q op key gone) (hr : overB q gone = false) (none : Int) :
    IsLeast (op.map (Option.map key)) none (headKey key none q) := by
  have hst : ∀ (i : Nat) x, (op.map (Option.map key))[i]? = some (some x) → ∃ y, op[i]? = some (some y) ∧ x = key y := by
    intro i x hx
    rw [List.getElem?_map] at hx
    cases ho : op[i]? with
    | none => rw [ho] at hx; simp at hx
    | some o =>
      rw [ho] at hx
      cases o with
      | none => simp at hx
      | some y => exact ⟨y, rfl, by simpa using hx.symm⟩
  cases q with
  | nil =>
    refine .inr ⟨fun i x hx => ?_, rfl⟩
    obtain ⟨y, hy, _⟩ := hst i x hx
    exact absurd (h.opens i y hy).1 (by simp)
  | cons y q =>
    obtain ⟨i, hi⟩ := h.live y (by simp) hr
    refine .inl ⟨⟨i, by rw [List.getElem?_map, hi]; rfl⟩, fun j x hx => ?_⟩
    obtain ⟨z, hz, rfl⟩ := hst j x hx
    obtain ⟨k, hk, hkz⟩ := List.getElem_of_mem (h.opens j z hz).1
    have := h.heap.least k hk
    simp only [List.getD_eq_getElem?_getD, List.getElem?_eq_getElem hk, hkz, List.getElem?_cons_zero, Option.getD_some] at this
    exact this

set_option maxHeartbeats 400000 in
theorem least_nil (none : Int) (w : World) :
    Calls Try.prog 45 #[.pointer .none, .int .u64 none] w fun e w' => e = .returned (.int .u64 none) ∧ w = w' := by
  go_enter Try.func45, Try.ntmps45
  go_wp2_with fail
  go_ret
  exact ⟨rfl, rfl⟩

set_option maxHeartbeats 400000 in
theorem least_any (b : Nat) (F : Nat → Prop) (N : Nat) (st : List (Option Int)) (none : Int) (w : World) (h : WatchAt w b F N st) (hN : N < 1000000) :
    Calls Try.prog 45 #[ptr b, .int .u64 none] w fun e w' => (∃ n, e = .returned (.int .u64 n) ∧ IsLeast st none n) ∧ (∃ F', WatchAt w' b F' N st ∧ ∀ k, F' k → F k) ∧ Chg F w w' := by
  obtain ⟨qv, q, op, key, gone, hR, rfl, hq, hk⟩ := h
  have H := Lib.hid hR
  have HK := Lib.hid hk
  clear hR hk
  go_enter Try.func45, Try.ntmps45
  go_wp2_with fail
  refine Calls.mono (sweep_any w H.out (by omega)) ?_
  rintro e w1 ⟨rfl, qv1, q1, hW, hv, hl, ho, hs, hc⟩
  have hqc := hW.qcell
  have hL := hW.least hv none
  have HF : Hid (∀ k, (k = b ∨ qv1.ownBlock = some k ∨ k ∈ q1) → F k) := Lib.hid (fun k h => (HK.out k).2 (by
    rcases h with h | h | h
    · exact .inl h
    · rw [ho] at h; exact .inr (.inl h)
    · exact .inr (.inr (hs k h))))
  have HC : Hid (Chg F w w1) := Lib.hid (hc.mono (fun k _ h => (HK.out k).2 (by
    rcases h with h | h
    · exact .inl h
    · exact .inr (.inl h))))
  have HW := Lib.hid hW
  have hq1 : q1.length ≤ N := by omega
  clear hv hl ho hs hc
  cases q1 with
  | nil =>
    obtain ⟨A, c, rfl⟩ := own_nilq hW.own
    simp only [headKey] at hL
    have HL := Lib.hid hL
    clear hW hL
    go_wp2_with fail
    go_ret
    exact ⟨⟨_, rfl, HL.out⟩, ⟨_, ⟨_, _, _, _, _, HW.out, rfl, hq1, fun k => Iff.rfl⟩, HF.out⟩, HC.out⟩
  | cons y q =>
    obtain ⟨g, n, c, rest, rfl, hR1, hg⟩ := hW.que.row (by simp)
    have hn := hR1.len
    simp at hn
    have h0 := hR1.get (i := 0) (by omega)
    simp only [List.getD_eq_getElem?_getD, List.getElem?_cons_zero, Option.getD_some] at h0
    have h1 := (hW.ones y (by simp)).2.2.cell 0
    simp only [List.getElem?_cons_zero] at h1
    have hn1 : 0 < n := by omega
    have hb : ((n : Int) == 0) = false := by simp; omega
    simp only [headKey] at hL
    have HL := Lib.hid hL
    clear hW hR1 hg hn hL
    go_wp2_with fail
    go_ret
    exact ⟨⟨_, rfl, HL.out⟩, ⟨_, ⟨_, _, _, _, _, HW.out, rfl, hq1, fun k => Iff.rfl⟩, HF.out⟩, HC.out⟩

/-- A watch that nobody has asked. -/
theorem WatchAt.new {w : World} {b : Nat} (h : Cells w b 92 (List.replicate 8 (.pointer none) ++ [.slice none 0 0])) : WatchAt w b (· = b) 0 (List.replicate 8 none) :=
  ⟨.slice none 0 0, [], List.replicate 8 none, fun _ => 0, fun _ => false,
    ⟨h, by simp, World.ownsRow_nil _ _ _ _, by simp [Value.ownBlock], by simp, List.nodup_nil, fun i y hi => by rw [List.getElem?_replicate] at hi; split at hi <;> simp at hi, fun i j y hi => by rw [List.getElem?_replicate] at hi; split at hi <;> simp at hi, by simp, fun k _ h => by simp at h⟩,
    by simp, by simp, fun k => by simp [Value.ownBlock]⟩

end Go.Proofs.Ytfbldpppjnnblaa.Watch
