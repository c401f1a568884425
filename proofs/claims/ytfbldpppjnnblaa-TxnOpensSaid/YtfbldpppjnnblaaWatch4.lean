/- The watch's calls (stamp): Least. -/
import Derived.Test.YtfbldpppjnnblaaWatch3
namespace Go.Proofs.Ytfbldpppjnnblaa.Watch
set_option maxRecDepth 100000
open Go.RowKit Go.Proofs.Ytfbldpppjnnblaa.Mem Go.Proofs.Ytfbldpppjnnblaa.HeapLaw Go.Proofs.Ytfbldpppjnnblaa.Q

theorem WatchR.que {w : World} {b : Nat} {qv : Value} {q : List Nat} {op : List (Option Nat)} {key : Nat → Int} {gone : Nat → Bool} (h : WatchR w b qv q op key gone) : Que w b 8 qv q :=
  ⟨h.qcell, h.cells.frozen 8, h.own, h.ne⟩

theorem WatchR.keys {w : World} {b : Nat} {qv : Value} {q : List Nat} {op : List (Option Nat)} {key : Nat → Int} {gone : Nat → Bool} (h : WatchR w b qv q op key gone) : KeysQ w b qv key q :=
  fun y hy => ⟨(h.ones y hy).1, (h.ones y hy).2.1, by rw [(h.ones y hy).2.2.cell 0]; rfl⟩

/-- Whether the least one of the queue is closed. -/
def overB (q : List Nat) (gone : Nat → Bool) : Bool := match q with | [] => false | y :: _ => gone y

theorem own_nilq {w : World} {qv : Value} (h : w.ownsRow 0 87 1 qv 0 []) : ∃ A c, qv = .slice A 0 c := by
  rcases h.2 with ⟨rfl, _⟩ | ⟨g, cap, cur, rfl, _⟩
  · exact ⟨_, _, rfl⟩
  · exact ⟨_, _, rfl⟩

set_option maxHeartbeats 400000 in
theorem over_any {b : Nat} {qv : Value} {q : List Nat} {op : List (Option Nat)} {key : Nat → Int} {gone : Nat → Bool} (r : Bool) (w : World) (h : WatchR w b qv q op key gone) (hr : overB q gone = r) :
    Calls Try.prog 59 #[ptr b] w fun e w' => e = .returned (.bool r) ∧ w = w' := by
  subst hr
  have hq := h.qcell
  cases q with
  | nil =>
    obtain ⟨A, c, rfl⟩ := own_nilq h.own
    simp only [overB]
    clear h
    go_enter Try.func59, Try.ntmps59
    go_wp2_with fail
    go_ret
    exact ⟨rfl, rfl⟩
  | cons y q =>
    obtain ⟨g, n, c, rest, rfl, hR, hg⟩ := h.que.row (by simp)
    have hn := hR.len
    simp at hn
    have h0 := hR.get (i := 0) (by omega)
    simp only [List.getD_eq_getElem?_getD, List.getElem?_cons_zero, Option.getD_some] at h0
    have h1 := (h.ones y (by simp)).2.2.cell 1
    simp only [List.getElem?_cons_zero, List.getElem?_cons_succ] at h1
    simp only [overB]
    have hn1 : 0 < n := by omega
    clear h hR hg hn
    go_enter Try.func59, Try.ntmps59
    go_wp2_with fail
    go_ret
    exact ⟨rfl, rfl⟩

set_option maxHeartbeats 400000 in
theorem pop_any {b : Nat} {qv : Value} {q : List Nat} {op : List (Option Nat)} {key : Nat → Int} {gone : Nat → Bool} (w : World) (h : WatchR w b qv q op key gone) (hr : overB q gone = true) (hn : q.length < 1000000) :
    Calls Try.prog 60 #[ptr b] w fun e w' => e = .returned (.tuple #[]) ∧ ∃ qv' q', WatchR w' b qv' q' op key gone ∧ q'.length + 1 = q.length ∧ qv'.ownBlock = qv.ownBlock ∧ (∀ y ∈ q', y ∈ q) ∧ Chg (fun k => k = b ∨ qv.ownBlock = some k) w w' := by
  have H := Lib.hid h
  have h0 : 0 < q.length := by
    cases q with
    | nil => simp [overB] at hr
    | cons y q => simp
  have HR := Lib.hid hr
  clear h hr
  go_enter Try.func60, Try.ntmps60
  go_wp2_with fail
  refine Calls.mono (hpop_any b 8 key qv q w H.out.que H.out.keys H.out.heap h0 hn) ?_
  rintro e w1 ⟨⟨v, rfl⟩, qv', q', hQ, hp, hh, ho, hc, hu⟩
  go_wp2_with fail
  go_end0
  have h := H.out
  have hg0 : gone (q.getD 0 0) = true := by
    have := HR.out
    cases q with
    | nil => simp [overB] at this
    | cons y q => simpa [overB] using this
  have hnd := hp.nodup_iff.2 h.nodup
  have hsub : ∀ y ∈ q', y ∈ q := fun y hy => hp.mem_iff.1 (List.mem_cons_of_mem _ hy)
  refine ⟨rfl, qv', q', ⟨?_, h.len, hQ.own, hQ.ne, ?_, (List.nodup_cons.1 hnd).2, ?_, h.inj, ?_, hh⟩, ?_, ho, hsub, hc⟩
  · have := hu _ _ h.cells
    rwa [List.set_append, if_neg (by simp [h.len]), List.length_map, h.len] at this
  · intro y hy
    obtain ⟨h1, h2, h3⟩ := h.ones y (hsub y hy)
    exact ⟨h1, by rw [ho]; exact h2, h3.kept hc (by rintro (e | e); exact h1 e; exact h2 e)⟩
  · intro i y hi
    obtain ⟨h1, h2⟩ := h.opens i y hi
    refine ⟨?_, h2⟩
    rcases List.mem_cons.1 (hp.mem_iff.2 h1) with e | e
    · subst e; rw [hg0] at h2; cases h2
    · exact e
  · intro y hy hg
    exact h.live y (hsub y hy) hg
  · simpa using hp.length_eq

set_option maxHeartbeats 400000 in
theorem sweep_any {b : Nat} {qv : Value} {q : List Nat} {op : List (Option Nat)} {key : Nat → Int} {gone : Nat → Bool} (w : World) (h : WatchR w b qv q op key gone) (hn : q.length < 1000000) :
    Calls Try.prog 58 #[.func (.func 59) #[ptr b] #[], .func (.func 60) #[ptr b] #[]] w fun e w' => e = .returned (.tuple #[]) ∧
      ∃ qv' q', WatchR w' b qv' q' op key gone ∧ overB q' gone = false ∧ q'.length ≤ q.length ∧ qv'.ownBlock = qv.ownBlock ∧ (∀ y ∈ q', y ∈ q) ∧ Chg (fun k => k = b ∨ qv.ownBlock = some k) w w' := by
  have H := Lib.hid h
  clear h
  go_enter Try.func58, Try.ntmps58
  go_wp2_with fail
  go_loopg [] q.length (fun k w' => ∃ qv' q', Hid (WatchR w' b qv' q' op key gone) ∧ q'.length = k ∧ k ≤ q.length ∧ Hid (qv'.ownBlock = qv.ownBlock) ∧ Hid (∀ y ∈ q', y ∈ q) ∧ Hid (Chg (fun k => k = b ∨ qv.ownBlock = some k) w w'))
  case atStart => exact ⟨qv, q, H, rfl, Nat.le_refl _, Lib.hid rfl, Lib.hid (fun _ h => h), Lib.hid (Chg.refl _ _)⟩
  case round =>
    obtain ⟨qv', q', HW, hq, hk, HO, HS, HC⟩ := hrel
    have HQ := Lib.hid hq
    clear hq
    cases hv : overB q' gone with
    | true =>
      have HV := Lib.hid hv
      clear hv
      go_wp2_with fail
      refine Calls.mono (over_any true wr HW.out HV.out) ?_
      rintro e w1 ⟨rfl, rfl⟩
      go_wp2_with fail
      refine Calls.mono (pop_any wr HW.out HV.out (by have := HQ.out; omega)) ?_
      rintro e w1 ⟨rfl, qv2, q2, hW2, hl2, ho2, hs2, hc2⟩
      have HW2 := Lib.hid hW2
      have HL2 := Lib.hid hl2
      have HO2 := Lib.hid ho2
      have HS2 := Lib.hid hs2
      have HC2 := Lib.hid hc2
      clear hW2 hl2 ho2 hs2 hc2
      go_wp2_with fail
      go_roundg q2.length
      case measure => have := HQ.out; have := HL2.out; omega
      case rel =>
        have h1 := HQ.out
        have h2 := HL2.out
        refine ⟨qv2, q2, HW2, rfl, by omega, Lib.hid (HO2.out.trans HO.out), Lib.hid (fun y hy => HS.out y (HS2.out y hy)), Lib.hid (HC.out.trans HC2.out (fun i _ e => ?_))⟩
        rw [HO.out] at e; exact e
    | false =>
      have HV := Lib.hid hv
      clear hv
      go_wp2_with fail
      refine Calls.mono (over_any false wr HW.out HV.out) ?_
      rintro e w1 ⟨rfl, rfl⟩
      go_wp2_with fail
      go_end0
      exact ⟨rfl, qv', q', HW.out, HV.out, by have := HQ.out; omega, HO.out, HS.out, HC.out⟩

end Go.Proofs.Ytfbldpppjnnblaa.Watch
