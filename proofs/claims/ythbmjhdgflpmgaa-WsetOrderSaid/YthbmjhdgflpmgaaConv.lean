/- Layer 15's laws: lists turned to the program's own, and back. -/
import Derived.Test.YthbmjhdgflpmgaaRow3
namespace Go.Proofs.Ythbmjhdgflpmgaa.Conv
open Go.RowKit Go.Proofs.Ythbmjhdgflpmgaa.Mem Go.Proofs.Ythbmjhdgflpmgaa.Read Go.Proofs.Ythbmjhdgflpmgaa.Out Go.Proofs.Ythbmjhdgflpmgaa.Copy Go.Proofs.Ythbmjhdgflpmgaa.Key Go.Proofs.Ythbmjhdgflpmgaa.Set Go.Proofs.Ythbmjhdgflpmgaa.Rows3

theorem info_wp : (Try.prog.info? 55).map (fun i => (i.zero, i.size, i.bytes)) = some (some (.agg #[.string ⟨#[]⟩, .string ⟨#[]⟩]), 2, 32) := by kernel_rfl
theorem info_rp : (Try.prog.info? 28).map (fun i => (i.zero, i.size, i.bytes)) = some (some (.agg #[.string ⟨#[]⟩, .string ⟨#[]⟩]), 2, 32) := by kernel_rfl

set_option maxHeartbeats 1000000 in
theorem theirs_any (A : Option Addr) (n c : Nat) (l : List W3) (w : World) (h : RowsOf W3.cells 3 w A n l) (hn : n ≤ 100000) :
    Calls Try.prog 16 #[.slice A n c] w fun e w' => ∃ v, e = .returned v ∧ Hid (Out w w' 45 3 v n (l.flatMap W3.cells)) := by
  have hl := h.1
  have HX := Lib.hid h
  clear h
  go_enter Try.func16, Try.ntmps16
  go_wp2_with fail
  go_loopw [3, 8] (fun v3 v8 wr => ∃ (i : Nat) (A' : Option Addr) (c' : Nat), i ≤ n ∧ v8 = .int .i64 i ∧ v3 = .slice A' i c' ∧ Hid (Out w wr 45 3 (.slice A' i c') i ((l.take i).flatMap W3.cells))) (fun _ v8 _ => n - (intOf v8).toNat)
  case atStart => exact ⟨0, none, 0, by omega, rfl, rfl, Lib.hid (Out.nil (Below.refl _ _) _ _)⟩
  case round =>
    obtain ⟨i, A', c', hi, rfl, rfl, HO⟩ := hrel
    by_cases hin : i < n
    · obtain ⟨b, off, rfl⟩ := HX.out.addr (by omega)
      obtain ⟨x, hx⟩ : ∃ x, l[i]? = some x := ⟨l[i]'(by omega), List.getElem?_eq_getElem _⟩
      have hc := (HX.out.kept HO.out.below).at hx
      have hc0 := hc 0 _ rfl
      have hc1 := hc 1 _ rfl
      have hc2 := hc 2 _ rfl
      simp only [Nat.add_zero] at hc0
      have hts : (l.take (i + 1)).flatMap W3.cells = (l.take i).flatMap W3.cells ++ x.cells := by
        rw [List.take_add_one, hx]
        simp
      have HTS := Lib.hid hts
      clear hx hc hts
      go_wp2_with (at_builtin; refine wpList_out rfl _ _ 34 rfl 45 (.agg #[.string ⟨#[]⟩, .string ⟨#[]⟩, .bool false]) 3 40 Try.underlying34 info_wr rfl (by decide) _ _ _ rfl ((HO.out.alloc _).alloc _) ⟨wr.heap.size + 1, 0, none⟩ 1 1 x.cells rfl rfl ?c1 ?c2 ?c3 ?c4 (by decide) ?_)
      case c1 => exact two_new wr _ x.cells _
      case c2 => exact x.one
      case c3 => simp only [maxLen]; omega
      case c4 => omega
      intro g kk w1 ho1 hg1 hw1
      clear hg1 hw1
      have HO1 : Hid (Out w w1 45 3 (.slice (some ⟨g, 0, none⟩) (i + 1) kk) (i + 1) ((l.take (i + 1)).flatMap W3.cells)) := Lib.hid (by rw [HTS.out]; exact ho1.out)
      clear ho1
      go_wp2_with fail
      go_roundw
      case rel => exact ⟨i + 1, some ⟨g, 0, none⟩, kk, by omega, by go_num, rfl, HO1⟩
      case measure => simp [intOf]; omega
    · obtain rfl : i = n := by omega
      have HF : Hid (Out w wr 45 3 (.slice A' i c') i (l.flatMap W3.cells)) := Lib.hid (by have := HO.out; rwa [List.take_of_length_le (by omega)] at this)
      go_wp2_with fail
      go_ret
      exact ⟨_, rfl, HF⟩
set_option maxHeartbeats 1000000 in
theorem ours_any (A : Option Addr) (n c : Nat) (l : List W3) (w : World) (h : RowsOf W3.cells 3 w A n l) (hn : n ≤ 100000) :
    Calls Try.prog 21 #[.slice A n c] w fun e w' => ∃ v, e = .returned v ∧ Hid (Out w w' 41 3 v n (l.flatMap W3.cells)) := by
  have hl := h.1
  have HX := Lib.hid h
  clear h
  go_enter Try.func21, Try.ntmps21
  go_wp2_with fail
  go_loopw [3, 8] (fun v3 v8 wr => ∃ (i : Nat) (A' : Option Addr) (c' : Nat), i ≤ n ∧ v8 = .int .i64 i ∧ v3 = .slice A' i c' ∧ Hid (Out w wr 41 3 (.slice A' i c') i ((l.take i).flatMap W3.cells))) (fun _ v8 _ => n - (intOf v8).toNat)
  case atStart => exact ⟨0, none, 0, by omega, rfl, rfl, Lib.hid (Out.nil (Below.refl _ _) _ _)⟩
  case round =>
    obtain ⟨i, A', c', hi, rfl, rfl, HO⟩ := hrel
    by_cases hin : i < n
    · obtain ⟨b, off, rfl⟩ := HX.out.addr (by omega)
      obtain ⟨x, hx⟩ : ∃ x, l[i]? = some x := ⟨l[i]'(by omega), List.getElem?_eq_getElem _⟩
      have hc := (HX.out.kept HO.out.below).at hx
      have hc0 := hc 0 _ rfl
      have hc1 := hc 1 _ rfl
      have hc2 := hc 2 _ rfl
      simp only [Nat.add_zero] at hc0
      have hts : (l.take (i + 1)).flatMap W3.cells = (l.take i).flatMap W3.cells ++ x.cells := by
        rw [List.take_add_one, hx]
        simp
      have HTS := Lib.hid hts
      clear hx hc hts
      go_wp2_with (at_builtin; refine wpList_out rfl _ _ 23 rfl 41 (.agg #[.string ⟨#[]⟩, .string ⟨#[]⟩, .bool false]) 3 40 Try.underlying23 info_rw rfl (by decide) _ _ _ rfl ((HO.out.alloc _).alloc _) ⟨wr.heap.size + 1, 0, none⟩ 1 1 x.cells rfl rfl ?c1 ?c2 ?c3 ?c4 (by decide) ?_)
      case c1 => exact two_new wr _ x.cells _
      case c2 => exact x.one
      case c3 => simp only [maxLen]; omega
      case c4 => omega
      intro g kk w1 ho1 hg1 hw1
      clear hg1 hw1
      have HO1 : Hid (Out w w1 41 3 (.slice (some ⟨g, 0, none⟩) (i + 1) kk) (i + 1) ((l.take (i + 1)).flatMap W3.cells)) := Lib.hid (by rw [HTS.out]; exact ho1.out)
      clear ho1
      go_wp2_with fail
      go_roundw
      case rel => exact ⟨i + 1, some ⟨g, 0, none⟩, kk, by omega, by go_num, rfl, HO1⟩
      case measure => simp [intOf]; omega
    · obtain rfl : i = n := by omega
      have HF : Hid (Out w wr 41 3 (.slice A' i c') i (l.flatMap W3.cells)) := Lib.hid (by have := HO.out; rwa [List.take_of_length_le (by omega)] at this)
      go_wp2_with fail
      go_ret
      exact ⟨_, rfl, HF⟩
set_option maxHeartbeats 1000000 in
theorem pairs_any (A : Option Addr) (n c : Nat) (l : List P2) (w : World) (h : RowsOf P2.cells 2 w A n l) (hn : n ≤ 100000) :
    Calls Try.prog 15 #[.slice A n c] w fun e w' => ∃ v, e = .returned v ∧ Hid (Out w w' 55 2 v n (l.flatMap P2.cells)) := by
  have hl := h.1
  have HX := Lib.hid h
  clear h
  go_enter Try.func15, Try.ntmps15
  go_wp2_with fail
  go_loopw [3, 8] (fun v3 v8 wr => ∃ (i : Nat) (A' : Option Addr) (c' : Nat), i ≤ n ∧ v8 = .int .i64 i ∧ v3 = .slice A' i c' ∧ Hid (Out w wr 55 2 (.slice A' i c') i ((l.take i).flatMap P2.cells))) (fun _ v8 _ => n - (intOf v8).toNat)
  case atStart => exact ⟨0, none, 0, by omega, rfl, rfl, Lib.hid (Out.nil (Below.refl _ _) _ _)⟩
  case round =>
    obtain ⟨i, A', c', hi, rfl, rfl, HO⟩ := hrel
    by_cases hin : i < n
    · obtain ⟨b, off, rfl⟩ := HX.out.addr (by omega)
      obtain ⟨x, hx⟩ : ∃ x, l[i]? = some x := ⟨l[i]'(by omega), List.getElem?_eq_getElem _⟩
      have hc := (HX.out.kept HO.out.below).at hx
      have hc0 := hc 0 _ rfl
      have hc1 := hc 1 _ rfl
      simp only [Nat.add_zero] at hc0
      have hts : (l.take (i + 1)).flatMap P2.cells = (l.take i).flatMap P2.cells ++ x.cells := by
        rw [List.take_add_one, hx]
        simp
      have HTS := Lib.hid hts
      clear hx hc hts
      go_wp2_with (at_builtin; refine wpList_out rfl _ _ 30 rfl 55 (.agg #[.string ⟨#[]⟩, .string ⟨#[]⟩]) 2 32 Try.underlying30 info_wp rfl (by decide) _ _ _ rfl ((HO.out.alloc _).alloc _) ⟨wr.heap.size + 1, 0, none⟩ 1 1 x.cells rfl rfl ?c1 ?c2 ?c3 ?c4 (by decide) ?_)
      case c1 => exact two_new wr _ x.cells _
      case c2 => exact x.one
      case c3 => simp only [maxLen]; omega
      case c4 => omega
      intro g kk w1 ho1 hg1 hw1
      clear hg1 hw1
      have HO1 : Hid (Out w w1 55 2 (.slice (some ⟨g, 0, none⟩) (i + 1) kk) (i + 1) ((l.take (i + 1)).flatMap P2.cells)) := Lib.hid (by rw [HTS.out]; exact ho1.out)
      clear ho1
      go_wp2_with fail
      go_roundw
      case rel => exact ⟨i + 1, some ⟨g, 0, none⟩, kk, by omega, by go_num, rfl, HO1⟩
      case measure => simp [intOf]; omega
    · obtain rfl : i = n := by omega
      have HF : Hid (Out w wr 55 2 (.slice A' i c') i (l.flatMap P2.cells)) := Lib.hid (by have := HO.out; rwa [List.take_of_length_le (by omega)] at this)
      go_wp2_with fail
      go_ret
      exact ⟨_, rfl, HF⟩
set_option maxHeartbeats 1000000 in
theorem back_any (A : Option Addr) (n c : Nat) (l : List P2) (w : World) (h : RowsOf P2.cells 2 w A n l) (hn : n ≤ 100000) :
    Calls Try.prog 13 #[.slice A n c] w fun e w' => ∃ v, e = .returned v ∧ Hid (Out w w' 28 2 v n (l.flatMap P2.cells)) := by
  have hl := h.1
  have HX := Lib.hid h
  clear h
  go_enter Try.func13, Try.ntmps13
  go_wp2_with fail
  go_loopw [3, 8] (fun v3 v8 wr => ∃ (i : Nat) (A' : Option Addr) (c' : Nat), i ≤ n ∧ v8 = .int .i64 i ∧ v3 = .slice A' i c' ∧ Hid (Out w wr 28 2 (.slice A' i c') i ((l.take i).flatMap P2.cells))) (fun _ v8 _ => n - (intOf v8).toNat)
  case atStart => exact ⟨0, none, 0, by omega, rfl, rfl, Lib.hid (Out.nil (Below.refl _ _) _ _)⟩
  case round =>
    obtain ⟨i, A', c', hi, rfl, rfl, HO⟩ := hrel
    by_cases hin : i < n
    · obtain ⟨b, off, rfl⟩ := HX.out.addr (by omega)
      obtain ⟨x, hx⟩ : ∃ x, l[i]? = some x := ⟨l[i]'(by omega), List.getElem?_eq_getElem _⟩
      have hc := (HX.out.kept HO.out.below).at hx
      have hc0 := hc 0 _ rfl
      have hc1 := hc 1 _ rfl
      simp only [Nat.add_zero] at hc0
      have hts : (l.take (i + 1)).flatMap P2.cells = (l.take i).flatMap P2.cells ++ x.cells := by
        rw [List.take_add_one, hx]
        simp
      have HTS := Lib.hid hts
      clear hx hc hts
      go_wp2_with (at_builtin; refine wpList_out rfl _ _ 22 rfl 28 (.agg #[.string ⟨#[]⟩, .string ⟨#[]⟩]) 2 32 Try.underlying22 info_rp rfl (by decide) _ _ _ rfl ((HO.out.alloc _).alloc _) ⟨wr.heap.size + 1, 0, none⟩ 1 1 x.cells rfl rfl ?c1 ?c2 ?c3 ?c4 (by decide) ?_)
      case c1 => exact two_new wr _ x.cells _
      case c2 => exact x.one
      case c3 => simp only [maxLen]; omega
      case c4 => omega
      intro g kk w1 ho1 hg1 hw1
      clear hg1 hw1
      have HO1 : Hid (Out w w1 28 2 (.slice (some ⟨g, 0, none⟩) (i + 1) kk) (i + 1) ((l.take (i + 1)).flatMap P2.cells)) := Lib.hid (by rw [HTS.out]; exact ho1.out)
      clear ho1
      go_wp2_with fail
      go_roundw
      case rel => exact ⟨i + 1, some ⟨g, 0, none⟩, kk, by omega, by go_num, rfl, HO1⟩
      case measure => simp [intOf]; omega
    · obtain rfl : i = n := by omega
      have HF : Hid (Out w wr 28 2 (.slice A' i c') i (l.flatMap P2.cells)) := Lib.hid (by have := HO.out; rwa [List.take_of_length_le (by omega)] at this)
      go_wp2_with fail
      go_ret
      exact ⟨_, rfl, HF⟩
end Go.Proofs.Ythbmjhdgflpmgaa.Conv
