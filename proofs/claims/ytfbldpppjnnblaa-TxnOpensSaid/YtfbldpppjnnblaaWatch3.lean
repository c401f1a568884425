/- The watch's calls (stamp): Close, and what Least does. -/
import Derived.Test.YtfbldpppjnnblaaWatch2
import Derived.Deep.RegionHeld3
namespace Go.Proofs.Ytfbldpppjnnblaa.Watch
set_option maxRecDepth 100000
open Go.RowKit Go.Proofs.Ytfbldpppjnnblaa.Mem Go.Proofs.Ytfbldpppjnnblaa.HeapLaw Go.Proofs.Ytfbldpppjnnblaa.Q

theorem set_append_left {α : Type} (l r : List α) (i : Nat) (v : α) (h : i < l.length) : (l ++ r).set i v = l.set i v ++ r := by
  rw [List.set_append, if_pos h]

theorem WatchR.close {w : World} {b : Nat} {qv : Value} {q : List Nat} {op : List (Option Nat)} {key : Nat → Int} {gone : Nat → Bool} (h : WatchR w b qv q op key gone) {i y : Nat} (hi : op[i]? = some (some y)) :
    WatchR ((w.setCell ⟨y, 1, none⟩ (.bool true)).setCell ⟨b, i, none⟩ (.pointer none)) b qv q (op.set i none) key (fun k => if k = y then true else gone k) ∧
      Chg (fun k => k = b ∨ k ∈ q) w ((w.setCell ⟨y, 1, none⟩ (.bool true)).setCell ⟨b, i, none⟩ (.pointer none)) := by
  have hl := h.len
  have h8 : i < op.length := by
    rcases Nat.lt_or_ge i op.length with h | h
    · exact h
    · rw [List.getElem?_eq_none h] at hi; cases hi
  obtain ⟨hyq, hyg⟩ := h.opens i y hi
  obtain ⟨hyb, hyo, hyc⟩ := h.ones y hyq
  have hne : ∀ z ∈ q, z ≠ b ∧ qv.ownBlock ≠ some z := fun z hz => ⟨(h.ones z hz).1, (h.ones z hz).2.1⟩
  refine ⟨⟨?_, by simpa using hl, ?_, h.ne, ?_, h.nodup, ?_, ?_, ?_, h.heap⟩, ?_⟩
  · have h1 := (h.cells.other (p := ⟨y, 1, none⟩) (fun e => hyb e.symm) (.bool true)).set i (.pointer none)
    rw [set_append_left _ _ _ _ (by simpa using h8)] at h1
    have e2 : (op.map optr).set i (.pointer none) = (op.set i none).map optr := by rw [List.map_set]; rfl
    rwa [e2] at h1
  · exact own_set (own_set h.own (p := ⟨y, 1, none⟩) hyo (.bool true)) (p := ⟨b, i, none⟩) h.ne (.pointer none)
  · intro z hz
    obtain ⟨h1, h2, h3⟩ := h.ones z hz
    refine ⟨h1, h2, ?_⟩
    by_cases e : z = y
    · subst e
      rw [if_pos rfl]
      exact (h3.set 1 (.bool true)).other (p := ⟨b, i, none⟩) h1 _
    · rw [if_neg e]
      exact (h3.other (p := ⟨y, 1, none⟩) e _).other (p := ⟨b, i, none⟩) h1 _
  · intro j z hj
    rw [List.getElem?_set] at hj
    split at hj
    · simp at hj
    · rename_i hij
      obtain ⟨h1, h2⟩ := h.opens j z hj
      refine ⟨h1, ?_⟩
      have : z ≠ y := fun e => hij (by subst e; exact h.inj i j z hi hj)
      rw [if_neg this]; exact h2
  · intro j k z hj hk
    rw [List.getElem?_set] at hj hk
    split at hj
    · simp at hj
    · split at hk
      · simp at hk
      · exact h.inj j k z hj hk
  · intro z hz hg
    have hzy : z ≠ y := fun e => by simp [e] at hg
    rw [if_neg hzy] at hg
    obtain ⟨j, hj⟩ := h.live z hz hg
    refine ⟨j, ?_⟩
    rw [List.getElem?_set, if_neg]
    · exact hj
    · intro e
      subst e
      rw [hi] at hj
      exact hzy (by simpa using hj.symm)
  · exact ((Chg.refl (fun k => k = b ∨ k ∈ q) w).setCell (p := ⟨y, 1, none⟩) (fun _ => .inr hyq) _).setCell (p := ⟨b, i, none⟩) (fun _ => .inl rfl) _

set_option maxHeartbeats 400000 in
theorem close_nil (I : Int) (w : World) :
    Calls Try.prog 37 #[.pointer none, .int .i64 I] w fun e w' => e = .returned (.int .i64 1) ∧ w = w' := by
  go_enter Try.func37, Try.ntmps37
  go_wp2_with fail
  go_ret
  exact ⟨rfl, rfl⟩

set_option maxHeartbeats 400000 in
theorem close_no (b : Nat) (F : Nat → Prop) (N : Nat) (st : List (Option Int)) (I : Int) (w : World) (h : WatchAt w b F N st) (hr : hasB st I = false) :
    Calls Try.prog 37 #[ptr b, .int .i64 I] w fun e w' => e = .returned (.int .i64 7) ∧ w = w' := by
  have H := Lib.hid h
  have HR := Lib.hid hr
  clear h hr
  go_enter Try.func37, Try.ntmps37
  go_wp2_with (go_at_call 51; refine Calls.mono (has_any b F N st I false w H.out HR.out) ?_; rintro e w' ⟨rfl, rfl⟩)
  go_ret
  exact ⟨rfl, rfl⟩

set_option maxHeartbeats 400000 in
theorem close_yes (b : Nat) (F : Nat → Prop) (N : Nat) (st : List (Option Int)) (I : Int) (w : World) (h : WatchAt w b F N st) (hr : hasB st I = true) :
    Calls Try.prog 37 #[ptr b, .int .i64 I] w fun e w' => e = .returned (.int .i64 0) ∧ WatchAt w' b F N (st.set I.toNat none) ∧ Chg F w w' := by
  have HH := Lib.hid (has_any b F N st I true w h hr)
  obtain ⟨qv, q, op, key, gone, hR, rfl, hN, hk⟩ := h
  obtain ⟨i, y, rfl, hi, ho, hg⟩ := hasB_open hR.len hr
  rw [Int.toNat_natCast]
  have hyq := hR.opens i y ho
  obtain ⟨hyb, hyo, hyc⟩ := hR.ones y hyq.1
  have hc := hR.get ho
  simp only [optr, Option.map_some] at hc
  have hf := hR.cells.frozen i
  have hy := hyc.cell 1
  simp only [List.getElem?_cons_zero, List.getElem?_cons_succ] at hy
  have hyf := hyc.frozen 1
  have hcl := hR.close ho
  have HC := Lib.hid hcl
  have HK := Lib.hid hk
  have HN := Lib.hid hN
  have hc2 : (w.setCell ⟨y, 1, none⟩ (.bool true)).cell? ⟨b, i, none⟩ = some (.pointer (some ⟨y, 0, none⟩)) := by
    rw [World.cell?_setCell_far _ _ _ _ hyb]; exact hc
  clear hg hr hk hN hR ho hyq hyb hyo hyc hcl
  go_enter Try.func37, Try.ntmps37
  go_wp2_with (go_at_call 51; refine Calls.mono HH.out ?_; rintro e w' ⟨rfl, rfl⟩)
  go_ret
  refine ⟨rfl, ⟨qv, q, op.set i none, key, _, HC.out.1, ?_, HN.out, HK.out⟩, HC.out.2.mono (fun k _ h => ?_)⟩
  · rw [List.map_set]; rfl
  · exact (HK.out k).2 (h.imp id .inr)

end Go.Proofs.Ytfbldpppjnnblaa.Watch
