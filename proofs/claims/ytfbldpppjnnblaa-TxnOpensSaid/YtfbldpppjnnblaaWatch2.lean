/- The watch's calls (stamp): At, Len, Close, Least. -/
import Derived.Test.YtfbldpppjnnblaaWatch
namespace Go.Proofs.Ytfbldpppjnnblaa.Watch
set_option maxRecDepth 100000
open Go.RowKit Go.Proofs.Ytfbldpppjnnblaa.Mem Go.Proofs.Ytfbldpppjnnblaa.HeapLaw Go.Proofs.Ytfbldpppjnnblaa.Q

theorem hasB_open {op : List (Option Nat)} {key : Nat → Int} {I : Int} (hl : op.length = 8) (h : hasB (op.map (Option.map key)) I = true) :
    ∃ (i y : Nat), I = i ∧ i < 8 ∧ op[i]? = some (some y) ∧ (op.map (Option.map key)).getD i none = some (key y) := by
  unfold hasB at h
  simp only [Bool.and_eq_true, decide_eq_true_eq] at h
  obtain ⟨h0, h8, hs⟩ := h
  obtain ⟨i, rfl⟩ := Int.eq_ofNat_of_zero_le h0
  have hi : i < op.length := by omega
  have h2 : i < 8 := by omega
  simp [List.getD_eq_getElem?_getD, hi] at hs
  obtain ⟨y, hy⟩ := Option.isSome_iff_exists.1 hs
  exact ⟨i, y, rfl, h2, by rw [List.getElem?_eq_getElem hi, hy], by simp [List.getD_eq_getElem?_getD, hi, hy]⟩

set_option maxHeartbeats 400000 in
theorem at_nil (I : Int) (w : World) :
    Calls Try.prog 46 #[.pointer none, .int .i64 I] w fun e w' => e = .returned (.tuple #[.int .u64 0, .bool false]) ∧ w = w' := by
  go_enter Try.func46, Try.ntmps46
  go_wp2_with (go_at_call 51; refine Calls.mono (has_nil I w) ?_; rintro e w' ⟨rfl, rfl⟩)
  go_ret2
  exact ⟨rfl, rfl⟩

set_option maxHeartbeats 400000 in
theorem at_no (b : Nat) (F : Nat → Prop) (N : Nat) (st : List (Option Int)) (I : Int) (w : World) (h : WatchAt w b F N st) (hr : hasB st I = false) :
    Calls Try.prog 46 #[ptr b, .int .i64 I] w fun e w' => e = .returned (.tuple #[.int .u64 0, .bool false]) ∧ w = w' := by
  have H := Lib.hid h
  have HR := Lib.hid hr
  clear h hr
  go_enter Try.func46, Try.ntmps46
  go_wp2_with (go_at_call 51; refine Calls.mono (has_any b F N st I false w H.out HR.out) ?_; rintro e w' ⟨rfl, rfl⟩)
  go_ret2
  exact ⟨rfl, rfl⟩

set_option maxHeartbeats 400000 in
theorem at_yes (b : Nat) (F : Nat → Prop) (N : Nat) (st : List (Option Int)) (I x : Int) (w : World) (h : WatchAt w b F N st) (hr : hasB st I = true) (hx : st.getD I.toNat none = some x) :
    Calls Try.prog 46 #[ptr b, .int .i64 I] w fun e w' => e = .returned (.tuple #[.int .u64 x, .bool true]) ∧ w = w' := by
  have HH := Lib.hid (has_any b F N st I true w h hr)
  obtain ⟨qv, q, op, key, gone, hR, rfl, hN, hk⟩ := h
  obtain ⟨i, y, rfl, hi, ho, hg⟩ := hasB_open hR.len hr
  rw [Int.toNat_natCast, hg] at hx
  obtain rfl := Option.some.inj hx
  have hc := hR.get ho
  simp only [optr, Option.map_some] at hc
  have hy := ((hR.ones y (hR.opens i y ho).1).2.2).cell 0
  simp only [List.getElem?_cons_zero] at hy
  clear hg hx hr hk hN hR ho
  go_enter Try.func46, Try.ntmps46
  go_wp2_with (go_at_call 51; refine Calls.mono HH.out ?_; rintro e w' ⟨rfl, rfl⟩)
  go_ret2
  exact ⟨rfl, rfl⟩

/-- How many are open. -/
def cntB (st : List (Option Int)) : Nat := (st.filter Option.isSome).length

theorem cnt_take (st : List (Option Int)) (i : Nat) (hi : i < st.length) : cntB (st.take (i + 1)) = cntB (st.take i) + if (st.getD i none).isSome then 1 else 0 := by
  unfold cntB
  rw [List.take_succ_eq_append_getElem hi, List.filter_append, List.length_append, List.getD_eq_getElem?_getD, List.getElem?_eq_getElem hi]
  simp only [Option.getD_some]
  by_cases hs : (st[i]).isSome = true <;> simp [hs]

theorem cnt_le (st : List (Option Int)) : cntB st ≤ st.length := List.length_filter_le _ _

theorem hasB_at {st : List (Option Int)} {i : Nat} (hi : i < 8) : hasB st i = (st.getD i none).isSome := by
  unfold hasB
  rw [decide_eq_true (by omega), decide_eq_true (by omega)]
  simp

set_option maxHeartbeats 400000 in
theorem len_nil (w : World) :
    Calls Try.prog 89 #[.pointer none] w fun e w' => e = .returned (.int .i64 0) ∧ w = w' := by
  go_enter Try.func89, Try.ntmps89
  go_wp2_with fail
  go_loop [3, 5] (fun n v => n = .int .i64 0 ∧ ∃ i : Nat, i ≤ 8 ∧ v = .int .i64 i) (fun _ v => 8 - (intOf v).toNat)
  case atStart => exact ⟨rfl, 0, by omega, rfl⟩
  case round =>
    obtain ⟨rfl, i, hi, rfl⟩ := hrel
    by_cases h8 : i < 8
    · go_wp2_with (go_at_call 51; refine Calls.mono (has_nil i _) ?_; rintro e w' ⟨rfl, rfl⟩)
      go_round
      case rel => exact ⟨rfl, i + 1, by omega, by go_num⟩
      case measure => simp [intOf]; omega
    · go_wp2_with fail
      go_ret
      exact ⟨rfl, rfl⟩

set_option maxHeartbeats 400000 in
theorem len_any' (b : Nat) (F : Nat → Prop) (N : Nat) (st : List (Option Int)) (w : World) (h : WatchAt w b F N st) :
    Calls Try.prog 89 #[ptr b] w fun e w' => e = .returned (.int .i64 (cntB st)) ∧ w = w' := by
  have HL := Lib.hid h.len
  have H := Lib.hid h
  clear h
  go_enter Try.func89, Try.ntmps89
  go_wp2_with fail
  go_loop [3, 5] (fun n v => ∃ i k : Nat, i ≤ 8 ∧ v = .int .i64 i ∧ n = .int .i64 k ∧ k ≤ i ∧ Hid (cntB (st.take i) = k)) (fun _ v => 8 - (intOf v).toNat)
  case atStart => exact ⟨0, 0, by omega, rfl, rfl, by omega, Lib.hid (by simp [cntB])⟩
  case round =>
    obtain ⟨i, k, hi, rfl, rfl, hki, HK⟩ := hrel
    by_cases h8 : i < 8
    · have hs := cnt_take st i (by have := HL.out; omega)
      have hb := hasB_at (st := st) h8
      have HS := Lib.hid hs
      have HB := Lib.hid hb
      clear hs hb
      cases hv : (st.getD i none).isSome with
      | true =>
        have HV := Lib.hid hv
        clear hv
        go_wp2_with (go_at_call 51; refine Calls.mono (has_any b F N st i true _ H.out (HB.out.trans HV.out)) ?_; rintro e w' ⟨rfl, rfl⟩)
        go_round
        case rel => exact ⟨i + 1, k + 1, by omega, by go_num, by go_num, by omega, Lib.hid (by have h1 := HS.out; rw [HV.out] at h1; have := HK.out; simp at h1; omega)⟩
        case measure => simp [intOf]; omega
      | false =>
        have HV := Lib.hid hv
        clear hv
        go_wp2_with (go_at_call 51; refine Calls.mono (has_any b F N st i false _ H.out (HB.out.trans HV.out)) ?_; rintro e w' ⟨rfl, rfl⟩)
        go_round
        case rel => exact ⟨i + 1, k, by omega, by go_num, rfl, by omega, Lib.hid (by have h1 := HS.out; rw [HV.out] at h1; have := HK.out; simp at h1; omega)⟩
        case measure => simp [intOf]; omega
    · have e8 : cntB st = k := by
        have h1 := HK.out
        rwa [List.take_of_length_le (by have := HL.out; omega)] at h1
      have HE := Lib.hid e8
      clear e8
      go_wp2_with fail
      go_ret
      exact ⟨by rw [HE.out]; rfl, rfl⟩

end Go.Proofs.Ytfbldpppjnnblaa.Watch
