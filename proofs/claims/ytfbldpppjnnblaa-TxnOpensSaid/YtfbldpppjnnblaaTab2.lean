/- Layer 17's table: good, New, At, Begin. -/
import Derived.Test.YtfbldpppjnnblaaTab
namespace Go.Proofs.Ytfbldpppjnnblaa.Tab
open Go.RowKit Go.Proofs.Ytfbldpppjnnblaa.Mem Go.Proofs.Ytfbldpppjnnblaa.Q Go.Proofs.Ytfbldpppjnnblaa.Watch Go.Proofs.Ytfbldpppjnnblaa.Read Go.Proofs.Ytfbldpppjnnblaa.Out Go.Proofs.Ytfbldpppjnnblaa.Copy Go.Proofs.Ytfbldpppjnnblaa.Key Go.Proofs.Ytfbldpppjnnblaa.Set Go.Proofs.Ytfbldpppjnnblaa.Rows3 Go.Proofs.Ytfbldpppjnnblaa.Get15 Go.Proofs.Ytfbldpppjnnblaa.Put15 Go.Proofs.Ytfbldpppjnnblaa.Map
set_option maxRecDepth 100000

theorem map_some (b : Nat) (w : World) : (binOp .neq 75 (.map (some b)) (.map none)).run Try.prog w = .ok (.bool true) w := by kernel_rfl
theorem map_none (w : World) : (binOp .neq 75 (.map none) (.map none)).run Try.prog w = .ok (.bool false) w := by kernel_rfl

/-- A table that no call made. -/
def Bad (w : World) (p : Value) : Prop := Calls Try.prog 34 #[p] w fun e w' => e = .returned (.bool false) ∧ w = w'

theorem bad_nil (w : World) : Bad w (.pointer none) := by
  unfold Bad
  go_enter Try.func34, Try.ntmps34
  go_wp2_with fail
  go_ret
  exact ⟨rfl, rfl⟩

theorem bad_empty (w : World) (b : Nat) (h : w.cell? ⟨b, 9, none⟩ = some (.map none)) : Bad w (ptr b) := by
  have hq := map_none w
  unfold Bad
  go_enter Try.func34, Try.ntmps34
  go_wp2_with fail
  go_ret
  exact ⟨rfl, rfl⟩

section
variable {w : World} {tb wb mb N : Nat} {F S : Nat → Prop} {vs : List Value} {st : List (Option Int)} {ss : List (List W3)} {m : List (ByteArray × Int)}

theorem good_yes (h : TabR w tb wb mb F vs N st ss m) : Calls Try.prog 34 #[ptr tb] w fun e w' => e = .returned (.bool true) ∧ w = w' := by
  have h9 := h.cell9
  have hq := map_some mb w
  clear h
  go_enter Try.func34, Try.ntmps34
  go_wp2_with fail
  go_ret
  exact ⟨rfl, rfl⟩

theorem tat_bad {p : Value} (I : Int) (h : Bad w p) : Calls Try.prog 27 #[p, .int .i64 I] w fun e w' => e = .returned (.tuple #[.int .u64 0, .bool false]) ∧ w = w' := by
  have H := Lib.hid h
  clear h
  go_enter Try.func27, Try.ntmps27
  go_wp2_with fail
  refine Calls.mono H.out ?_
  rintro e w' ⟨rfl, rfl⟩
  go_wp2_with fail
  go_ret2
  exact ⟨rfl, rfl⟩

theorem tat_no (I : Int) (h : Tab w tb S N st ss m) (hr : hasB st I = false) : Calls Try.prog 27 #[ptr tb, .int .i64 I] w fun e w' => e = .returned (.tuple #[.int .u64 0, .bool false]) ∧ w = w' := by
  obtain ⟨wb, mb, F, vs, hR, _⟩ := h
  have H := Lib.hid hR
  have HH := Lib.hid hr
  have h0 := hR.cell0
  clear hR hr
  go_enter Try.func27, Try.ntmps27
  go_wp2_with fail
  refine Calls.mono (good_yes H.out) ?_
  rintro e w' ⟨rfl, rfl⟩
  go_wp2_with fail
  refine Calls.mono (Watch.at_no wb F N st I w H.out.watch HH.out) ?_
  rintro e w' ⟨rfl, rfl⟩
  go_wp2_with fail
  go_ret2
  exact ⟨rfl, rfl⟩

theorem tat_yes (I x : Int) (h : Tab w tb S N st ss m) (hr : hasB st I = true) (hx : st.getD I.toNat none = some x) : Calls Try.prog 27 #[ptr tb, .int .i64 I] w fun e w' => e = .returned (.tuple #[.int .u64 x, .bool true]) ∧ w = w' := by
  obtain ⟨wb, mb, F, vs, hR, _⟩ := h
  have H := Lib.hid hR
  have HH := Lib.hid hr
  have HX := Lib.hid hx
  have h0 := hR.cell0
  clear hR hr hx
  go_enter Try.func27, Try.ntmps27
  go_wp2_with fail
  refine Calls.mono (good_yes H.out) ?_
  rintro e w' ⟨rfl, rfl⟩
  go_wp2_with fail
  refine Calls.mono (Watch.at_yes wb F N st I x w H.out.watch HH.out HX.out) ?_
  rintro e w' ⟨rfl, rfl⟩
  go_wp2_with fail
  go_ret2
  exact ⟨rfl, rfl⟩

theorem tleast_bad {p : Value} (x : Int) (h : Bad w p) : Calls Try.prog 23 #[p, .int .u64 x] w fun e w' => e = .returned (.int .u64 x) ∧ w = w' := by
  have H := Lib.hid h
  clear h
  go_enter Try.func23, Try.ntmps23
  go_wp2_with fail
  refine Calls.mono H.out ?_
  rintro e w' ⟨rfl, rfl⟩
  go_wp2_with fail
  go_ret
  exact ⟨rfl, rfl⟩

theorem tleast (none_ n : Int) (h : Tab w tb S N st ss m) (hN : N < 1000000) (hl : IsLeast st none_ n) : Calls Try.prog 23 #[ptr tb, .int .u64 none_] w fun e w' => e = .returned (.int .u64 n) ∧ Hid (Turn w S w' tb N st ss m) := by
  obtain ⟨wb, mb, F, vs, hR, hS⟩ := h
  have H := Lib.hid hR
  have HS := Lib.hid hS
  have HL := Lib.hid hl
  have h0 := hR.cell0
  clear hR hS hl
  go_enter Try.func23, Try.ntmps23
  go_wp2_with fail
  refine Calls.mono (good_yes H.out) ?_
  rintro e w' ⟨rfl, rfl⟩
  go_wp2_with fail
  refine Calls.mono (least_any wb F N st none_ w H.out.watch hN) ?_
  rintro e w' ⟨⟨q, rfl, hm⟩, ⟨F', k4, k5⟩, k6⟩
  have HT : Hid (Turn w S w' tb N st ss m) := Lib.hid ((H.out.watched k6 k4 (fun k hk => .inl (k5 k hk))).turn HS.out (fun k hk => .inl (k5 k hk)) (fun v hv _ _ => .inl hv) k6 (fun _ h _ => .inl h))
  obtain rfl := hm.unique HL.out
  clear k4 k5 k6 hm
  go_wp2_with fail
  go_ret
  exact ⟨rfl, HT⟩

theorem tbegin_bad {p : Value} (x : Int) (h : Bad w p) : Calls Try.prog 13 #[p, .int .u64 x] w fun e w' => e = .returned (.tuple #[.int .i64 0, .int .i64 1]) ∧ w = w' := by
  have H := Lib.hid h
  clear h
  go_enter Try.func13, Try.ntmps13
  go_wp2_with fail
  refine Calls.mono H.out ?_
  rintro e w' ⟨rfl, rfl⟩
  go_wp2_with fail
  go_ret2
  exact ⟨rfl, rfl⟩

theorem tbegin_no (x : Int) (h : Tab w tb S N st ss m) (hf : ∀ i : Nat, st[i]? ≠ some none) : Calls Try.prog 13 #[ptr tb, .int .u64 x] w fun e w' => e = .returned (.tuple #[.int .i64 0, .int .i64 6]) ∧ w = w' := by
  obtain ⟨wb, mb, F, vs, hR, hS⟩ := h
  have H := Lib.hid hR
  have HF := Lib.hid hf
  have h0 := hR.cell0
  clear hR hS hf
  go_enter Try.func13, Try.ntmps13
  go_wp2_with fail
  refine Calls.mono (good_yes H.out) ?_
  rintro e w' ⟨rfl, rfl⟩
  go_wp2_with fail
  refine Calls.mono (Watch.open_no wb F N st x w H.out.watch HF.out) ?_
  rintro e w' ⟨rfl, rfl⟩
  go_wp2_with fail
  go_ret2
  exact ⟨rfl, rfl⟩

theorem tbegin_yes (i : Nat) (x : Int) (h : Tab w tb S N st ss m) (hN : N < 1000000) (hi : st[i]? = some none) (hlo : ∀ j, j < i → st[j]? ≠ some none) :
    Calls Try.prog 13 #[ptr tb, .int .u64 x] w fun e w' => e = .returned (.tuple #[.int .i64 i, .int .i64 0]) ∧ Hid (Turn w S w' tb (N + 1) (st.set i (some x)) (ss.set i []) m) := by
  have h8 : i < 8 := by have := (List.getElem?_eq_some_iff.1 hi).1; have := h.len.1; omega
  obtain ⟨wb, mb, F, vs, hR, hS⟩ := h
  have H := Lib.hid hR
  have HS := Lib.hid hS
  have HI := Lib.hid hi
  have HLO := Lib.hid hlo
  have h0 := hR.cell0
  clear hR hS hi hlo
  go_enter Try.func13, Try.ntmps13
  go_wp2_with fail
  refine Calls.mono (good_yes H.out) ?_
  rintro e w' ⟨rfl, rfl⟩
  go_wp2_with fail
  refine Calls.mono (Watch.open_yes wb F N st i x w H.out.watch hN HI.out HLO.out) ?_
  rintro e w' ⟨rfl, ⟨F', k4, k5⟩, k6⟩
  have H2 := Lib.hid (H.out.watched k6 k4 k5)
  have HK5 := Lib.hid k5
  have HK6 := Lib.hid k6
  have hfz := H2.out.cells.frozen (1 + i)
  obtain ⟨v, hv⟩ : ∃ v, vs[i]? = some v := ⟨vs[i]'(by have := H2.out.vlen; omega), List.getElem?_eq_getElem _⟩
  have hcs := H2.out.cellS hv
  clear h0 k4 k5 k6 hv
  go_wp2_with fail
  have HT := Lib.hid ((H2.out.put h8 (SetV.nil w') Rs.nil (by simp) (fun b hb => by simp [Value.ownBlock] at hb)).turn HS.out HK5.out (fun u hu b hb => by
    rcases List.mem_or_eq_of_mem_set hu with hu | rfl
    · exact .inl hu
    · simp [Value.ownBlock] at hb) (HK6.out.mono (G := fun k => F k ∨ k = tb) (fun _ _ f => .inl f) |>.setCell (fun _ => .inr rfl) _) (fun k hk _ => hk.elim .inl (fun e => .inr (.inl e))))
  go_ret2
  exact ⟨rfl, HT⟩
end
end Go.Proofs.Ytfbldpppjnnblaa.Tab
