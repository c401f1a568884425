/- The watch's calls (stamp): Open. -/
import Derived.Test.YtfbldpppjnnblaaWatch5
namespace Go.Proofs.Ytfbldpppjnnblaa.Watch
set_option maxRecDepth 100000
open Go.RowKit Go.Proofs.Ytfbldpppjnnblaa.Mem Go.Proofs.Ytfbldpppjnnblaa.HeapLaw Go.Proofs.Ytfbldpppjnnblaa.Q

theorem index_arr (cs : Array Value) (i : Nat) (v : Value) (h : cs[i]? = some v) (hi : i < 8) (w : World) : (Instr.index 88 (.agg cs) (.int .i64 i)).run Try.prog w = .ok v w := by
  obtain ⟨j, hj, hs0, hs1, hs2⟩ := info_parts info_one
  have h1 : (0 : Int) ≤ i := by omega
  have h2 : i < 8 := by omega
  have hu := Try.underlying88
  have hu2 := Try.underlying87
  simp [Instr.index, asIntOf, run_underlying hu, h1, h2, part, isAgg, run_underlying hu2, sizeOf, typeInfo, hj, hs1, h]

/-- The world ahead of Open's heap.Push: a new one, and its number's place. -/
theorem WatchR.fresh {w : World} {b : Nat} {qv : Value} {q : List Nat} {op : List (Option Nat)} {key : Nat → Int} {gone : Nat → Bool} (h : WatchR w b qv q op key gone) {i : Nat} (hi : op[i]? = some none) (x : Int) :
    let W := (w.alloc (.cells #[.int .u64 x, .bool false] 110)).setCell ⟨b, i, none⟩ (ptr w.heap.size)
    let key' := fun k => if k = w.heap.size then x else key k
    Cells W b 92 ((op.set i (some w.heap.size)).map optr ++ [qv]) ∧ Que W b 8 qv q ∧ KeysQ W b qv key' (q ++ [w.heap.size]) ∧ HeapN key' q q.length ∧ Cells W w.heap.size 110 [.int .u64 x, .bool false] ∧
    Chg (fun k => k = b) w W ∧ w.heap.size < W.heap.size ∧ (∀ y ∈ q, y < w.heap.size) := by
  intro W key'
  have hl := h.len
  have h8 : i < op.length := by
    rcases Nat.lt_or_ge i op.length with h | h
    · exact h
    · rw [List.getElem?_eq_none h] at hi; cases hi
  have hb := h.cells.lt
  have hc : Chg (fun k => k = b) w W := ((Chg.refl (fun k => k = b) w).alloc _).setCell (p := ⟨b, i, none⟩) (fun _ => rfl) _
  have hlt : ∀ y ∈ q, y < w.heap.size := fun y hy => (h.ones y hy).2.2.lt
  have hnew : Cells W w.heap.size 110 [.int .u64 x, .bool false] := (Cells.new w [.int .u64 x, .bool false] _).other (p := ⟨b, i, none⟩) (by simp; omega) _
  have hcells : Cells W b 92 ((op.set i (some w.heap.size)).map optr ++ [qv]) := by
    have h1 := (h.cells.alloc (.cells #[.int .u64 x, .bool false] 110)).set i (ptr w.heap.size)
    rw [set_append_left _ _ _ _ (by simpa using h8)] at h1
    have e2 : (op.map optr).set i (ptr w.heap.size) = (op.set i (some w.heap.size)).map optr := by rw [List.map_set]; rfl
    rwa [e2] at h1
  have hown : W.ownsRow 0 87 1 qv q.length (q.map ptr) := own_kept h.own hc (fun k hk e => by subst e; exact h.ne hk)
  refine ⟨hcells, ⟨?_, hcells.frozen 8, hown, h.ne⟩, ?_, ?_, hnew, hc, by simp [W, World.setCell], hlt⟩
  · rw [hcells.cell 8, List.getElem?_append_right (by simp; omega)]
    simp [hl]
  · intro y hy
    rcases List.mem_append.1 hy with hy | hy
    · obtain ⟨h1, h2, h3⟩ := h.ones y hy
      have := hlt y hy
      refine ⟨h1, h2, ?_⟩
      rw [(h3.kept hc h1).cell 0]
      simp [key', show y ≠ w.heap.size by omega]
    · obtain rfl : y = w.heap.size := by simpa using hy
      refine ⟨by omega, fun e => ?_, by rw [hnew.cell 0]; simp [key']⟩
      rcases h.own.2 with ⟨e2, _⟩ | ⟨g, cap, cur, e2, _, hg, _⟩
      · rw [e2] at e; simp [Value.ownBlock] at e
      · rw [e2] at e
        have : g = w.heap.size := by simpa [Value.ownBlock] using e
        have := (Array.getElem?_eq_some_iff.1 hg).1
        omega
  · refine fun k k0 hk => ?_
    have h1 := h.heap k k0 hk
    have h2 : ∀ j, j < q.length → key' (q.getD j 0) = key (q.getD j 0) := fun j hj => by
      have := hlt _ (mem_getD hj)
      simp only [key']
      rw [if_neg (by omega)]
    rw [h2 _ hk, h2 _ (by omega)]
    exact h1

/-- Behind Open's heap.Push. -/
theorem WatchR.opened {w W w' : World} {b : Nat} {qv qv' : Value} {q q' : List Nat} {op : List (Option Nat)} {key : Nat → Int} {gone : Nat → Bool} (h : WatchR w b qv q op key gone) {i : Nat} (hi : op[i]? = some none) (x : Int)
    (hW : W = (w.alloc (.cells #[.int .u64 x, .bool false] 110)).setCell ⟨b, i, none⟩ (ptr w.heap.size))
    (hQ : Que w' b 8 qv' q') (hp : q'.Perm (q ++ [w.heap.size])) (hh : HeapN (fun k => if k = w.heap.size then x else key k) q' q'.length)
    (ho : ∀ g, qv'.ownBlock = some g → qv.ownBlock = some g ∨ W.heap.size ≤ g) (hc : Chg (fun k => k = b ∨ qv.ownBlock = some k) W w') (hu : Upd W w' b 8 qv') :
    WatchR w' b qv' q' (op.set i (some w.heap.size)) (fun k => if k = w.heap.size then x else key k) (fun k => if k = w.heap.size then false else gone k) ∧
    Chg (fun k => k = b ∨ qv.ownBlock = some k) w w' := by
  obtain ⟨h1, h2, h3, h4, h5, h6, h7, hlt⟩ := h.fresh hi x
  rw [← hW] at h1 h2 h3 h5 h6 h7
  have hl := h.len
  have h8 : i < op.length := by
    rcases Nat.lt_or_ge i op.length with h | h
    · exact h
    · rw [List.getElem?_eq_none h] at hi; cases hi
  have hmem : ∀ y, y ∈ q' ↔ y ∈ q ∨ y = w.heap.size := fun y => by rw [hp.mem_iff]; simp
  have hCW : Chg (fun k => k = b ∨ qv.ownBlock = some k) w w' := (h6.mono (fun k _ e => .inl e)).trans hc (fun i _ e => e)
  refine ⟨⟨?_, by simpa using hl, hQ.own, hQ.ne, ?_, ?_, ?_, ?_, ?_, hh⟩, hCW⟩
  · have := hu _ _ h1
    rwa [List.set_append, if_neg (by simp [hl]), List.length_map, List.length_set, hl] at this
  · intro y hy
    have hk := h3 y (hp.mem_iff.1 hy)
    have hlt2 : y < W.heap.size := World.block_lt_of_cell? W _ hk.2.2
    refine ⟨hk.1, fun e => ?_, ?_⟩
    · rcases ho y e with e | e
      · exact hk.2.1 e
      · omega
    · rcases (hmem y).1 hy with hq | rfl
      · obtain ⟨z1, z2, z3⟩ := h.ones y hq
        have hne : y ≠ w.heap.size := by have := hlt y hq; omega
        rw [if_neg hne, if_neg hne]
        exact z3.kept hCW (by rintro (e | e); exact z1 e; exact z2 e)
      · rw [if_pos rfl, if_pos rfl]
        exact h5.kept hc (by rintro (e | e); exact hk.1 e; exact hk.2.1 e)
  · rw [hp.nodup_iff]
    rw [List.nodup_append]
    refine ⟨h.nodup, by simp, fun a ha c hc2 => ?_⟩
    have := hlt a ha
    obtain rfl : c = w.heap.size := by simpa using hc2
    omega
  · intro j y hj
    rw [List.getElem?_set] at hj
    split at hj
    · rename_i e
      obtain rfl : w.heap.size = y := by simpa using hj
      exact ⟨(hmem _).2 (.inr rfl), if_pos rfl⟩
    · obtain ⟨z1, z2⟩ := h.opens j y hj
      have hne : y ≠ w.heap.size := by have := hlt y z1; omega
      exact ⟨(hmem _).2 (.inl z1), by rw [if_neg hne]; exact z2⟩
  · intro j k y hj hk
    have hno : ∀ m, op[m]? = some (some y) → y ≠ w.heap.size := fun m hm => by have := hlt y (h.opens m y hm).1; omega
    rw [List.getElem?_set] at hj hk
    split at hj
    · split at hk
      · omega
      · obtain rfl : w.heap.size = y := by simpa using hj
        exact absurd rfl (hno k hk)
    · split at hk
      · obtain rfl : w.heap.size = y := by simpa using hk
        exact absurd rfl (hno j hj)
      · exact h.inj j k y hj hk
  · intro y hy hg
    rcases (hmem y).1 hy with hq | rfl
    · have hne : y ≠ w.heap.size := by have := hlt y hq; omega
      rw [if_neg hne] at hg
      obtain ⟨j, hj⟩ := h.live y hq hg
      refine ⟨j, ?_⟩
      rw [List.getElem?_set, if_neg]
      · exact hj
      · intro e; subst e; rw [hi] at hj; cases hj
    · exact ⟨i, by rw [List.getElem?_set, if_pos rfl, if_pos h8]⟩

set_option maxHeartbeats 400000 in
theorem open_nil (x : Int) (w : World) :
    Calls Try.prog 35 #[.pointer .none, .int .u64 x] w fun e w' => e = .returned (.tuple #[.int .i64 0, .int .i64 1]) ∧ w = w' := by
  go_enter Try.func35, Try.ntmps35
  go_wp2_with fail
  go_ret2
  exact ⟨rfl, rfl⟩

set_option maxHeartbeats 1000000 in
theorem open_yes (b : Nat) (F : Nat → Prop) (N : Nat) (st : List (Option Int)) (i : Nat) (x : Int) (w : World) (h : WatchAt w b F N st) (hN : N < 1000000) (hi : st[i]? = some none) (hlo : ∀ j, j < i → st[j]? ≠ some none) :
    Calls Try.prog 35 #[ptr b, .int .u64 x] w fun e w' => e = .returned (.tuple #[.int .i64 i, .int .i64 0]) ∧ (∃ F', WatchAt w' b F' (N + 1) (st.set i (some x)) ∧ ∀ k, F' k → F k ∨ w.heap.size ≤ k) ∧ Chg F w w' := by
  obtain ⟨qv, q, op, key, gone, hR, rfl, hq, hk⟩ := h
  have hl := hR.len
  have ho : op[i]? = some none := by
    rw [List.getElem?_map] at hi
    cases h : op[i]? with
    | none => rw [h] at hi; simp at hi
    | some o => rw [h] at hi; cases o with
      | none => rfl
      | some y => simp at hi
  have hlo' : ∀ j, j < i → ∃ y, op[j]? = some (some y) := by
    intro j hj
    have := hlo j hj
    rw [List.getElem?_map] at this
    have hjl : j < op.length := by
      rcases Nat.lt_or_ge i op.length with h | h
      · omega
      · rw [List.getElem?_eq_none h] at ho; cases ho
    rw [List.getElem?_eq_getElem hjl] at this ⊢
    cases h : op[j] with
    | none => rw [h] at this; simp at this
    | some y => exact ⟨y, rfl⟩
  have hi8 : i < 8 := by
    rcases Nat.lt_or_ge i op.length with h | h
    · omega
    · rw [List.getElem?_eq_none h] at ho; cases ho
  have hfr := hR.fresh ho x
  obtain ⟨f1, f2, f3, f4, f5, f6, f7, f8⟩ := hfr
  have HF2 := Lib.hid f2
  have HF3 := Lib.hid f3
  have HF4 := Lib.hid f4
  have hcw := f1.cell i
  rw [List.getElem?_append_left (by simp; omega)] at hcw
  simp [hl, hi8] at hcw
  have HCW := Lib.hid hcw
  have HR := Lib.hid hR
  have HO := Lib.hid ho
  have HLO := Lib.hid hlo'
  have HK := Lib.hid hk
  have hc0 := fun j o (h : op[j]? = some o) => hR.get h
  have HC0 := Lib.hid hc0
  have hfz := fun o => (hR.cells.alloc o).frozen i
  have hci := hR.get ho
  simp only [optr, Option.map_none] at hci
  have hca : ∀ o, (w.alloc o).cell? ⟨b, i, none⟩ = some (.pointer none) := fun o => by rw [← hci]; exact World.cell?_of_block (w := w) (Below.heap_alloc _ _ _ hR.cells.lt)
  clear f1 f2 f3 f4 f5 f6 f7 f8 hcw hR ho hlo' hk hc0 hi hlo
  obtain ⟨o0, o1, o2, o3, o4, o5, o6, o7, rfl⟩ : ∃ o0 o1 o2 o3 o4 o5 o6 o7, op = [o0, o1, o2, o3, o4, o5, o6, o7] := by
    match op, hl with
    | [o0, o1, o2, o3, o4, o5, o6, o7], _ => exact ⟨_, _, _, _, _, _, _, _, rfl⟩
  have c0 := HC0.out 0 o0 rfl
  have c1 := HC0.out 1 o1 rfl
  have c2 := HC0.out 2 o2 rfl
  have c3 := HC0.out 3 o3 rfl
  have c4 := HC0.out 4 o4 rfl
  have c5 := HC0.out 5 o5 rfl
  have c6 := HC0.out 6 o6 rfl
  have c7 := HC0.out 7 o7 rfl
  have HX : Hid (∀ (j : Nat) o, [o0, o1, o2, o3, o4, o5, o6, o7][j]? = some o → j < 8 → (w : World) → (Instr.index 88 (.agg #[optr o0, optr o1, optr o2, optr o3, optr o4, optr o5, optr o6, optr o7]) (.int .i64 j)).run Try.prog w = .ok (optr o) w) := by
    refine Lib.hid (fun j o hj h8 w => index_arr _ j _ ?_ h8 w)
    have : (#[optr o0, optr o1, optr o2, optr o3, optr o4, optr o5, optr o6, optr o7] : Array Value)[j]? = ([o0, o1, o2, o3, o4, o5, o6, o7].map optr)[j]? := by simp
    rw [this, List.getElem?_map, hj]
    rfl
  go_enter Try.func35, Try.ntmps35
  go_wp2_with fail
  go_loop [14] (fun v => ∃ j : Nat, j ≤ i ∧ v = .int .i64 j) (fun v => 8 - (intOf v).toNat)
  case atStart => exact ⟨0, Nat.zero_le _, rfl⟩
  case round =>
    obtain ⟨j, hj, rfl⟩ := hrel
    by_cases hji : j < i
    · obtain ⟨y, hy⟩ := HLO.out j hji
      have hx : (Instr.index 88 (.agg #[optr o0, optr o1, optr o2, optr o3, optr o4, optr o5, optr o6, optr o7]) (.int .i64 j)).run Try.prog w = .ok (ptr y) w := HX.out j _ hy (by omega) w
      clear hy
      go_wp2_with fail
      go_round
      case rel => exact ⟨j + 1, by omega, by go_num⟩
      case measure => simp [intOf]; omega
    · obtain rfl : j = i := by omega
      have hx : (Instr.index 88 (.agg #[optr o0, optr o1, optr o2, optr o3, optr o4, optr o5, optr o6, optr o7]) (.int .i64 j)).run Try.prog w = .ok (.pointer none) w := HX.out j _ HO.out hi8 w
      go_wp2_with fail
      obtain ⟨W, hW⟩ : ∃ W, W = (w.alloc (.cells #[.int .u64 x, .bool false] 110)).setCell ⟨b, j, none⟩ (ptr w.heap.size) := ⟨_, rfl⟩
      rw [← hW]
      have hcw : W.cell? ⟨b, j, none⟩ = some (ptr w.heap.size) := by rw [hW]; exact HCW.out
      have HW := Lib.hid hW
      clear hW
      go_still_tail 11, (by kernel_rfl)
      go_wp2_with fail
      have hq2 : Que W.drew b 8 qv q := by have h := HF2.out; rw [← HW.out] at h; exact ⟨h.head, h.free, h.own, h.ne⟩
      have hk2 : KeysQ W.drew b qv (fun k => if k = w.heap.size then x else key k) (q ++ [w.heap.size]) := by have h := HF3.out; rw [← HW.out] at h; exact h
      refine Calls.mono (hpush_any b 8 w.heap.size _ qv q W.drew hq2 hk2 HF4.out (by omega)) ?_
      rintro e w1 ⟨rfl, qv', q', hQ, hp, hh, ho, hc, hu⟩
      have hl' : q'.length = q.length + 1 := by have := hp.length_eq; simpa using this
      obtain ⟨r1, r2⟩ := HR.out.opened HO.out x HW.out hQ hp hh ho (⟨hc.os, hc.tape, hc.output, hc.size, hc.block⟩ : Chg _ W w1) hu
      have hsz : w.heap.size < W.heap.size := by rw [HW.out]; simp [World.setCell]
      have HR1 := Lib.hid r1
      have HR2 := Lib.hid r2
      have HP := Lib.hid hp
      have HO2 := Lib.hid ho
      clear hq2 hk2 hQ hp hh ho hc hu r1 r2
      go_wp2_with fail
      go_ret2
      refine ⟨rfl, ⟨_, ⟨qv', q', _, _, _, HR1.out, ?_, by omega, fun k => Iff.rfl⟩, fun k hk => ?_⟩, HR2.out.mono (fun k _ h => (HK.out k).2 (h.imp id .inl))⟩
      · rw [List.map_set]
        simp only [Option.map_some, if_pos]
        congr 1
        apply List.map_congr_left
        intro o ho
        cases o with
        | none => rfl
        | some y =>
          obtain ⟨m, hm, hmy⟩ := List.getElem_of_mem ho
          have h1 := HR.out.opens m y (by rw [List.getElem?_eq_getElem hm, hmy])
          have h2 := (HR.out.ones y h1.1).2.2.lt
          simp only [Option.map_some]
          rw [if_neg (by omega)]
      · rcases hk with h | h | h
        · exact .inl ((HK.out k).2 (.inl h))
        · rcases HO2.out k h with h | h
          · exact .inl ((HK.out k).2 (.inr (.inl h)))
          · exact .inr (by have : W.heap.size ≤ k := h; omega)
        · rcases List.mem_append.1 (HP.out.mem_iff.1 h) with h | h
          · exact .inl ((HK.out k).2 (.inr (.inr h)))
          · exact .inr (by have : k = w.heap.size := by simpa using h
                           omega)

set_option maxHeartbeats 1000000 in
theorem open_no (b : Nat) (F : Nat → Prop) (N : Nat) (st : List (Option Int)) (x : Int) (w : World) (h : WatchAt w b F N st) (hf : ∀ i : Nat, st[i]? ≠ some none) :
    Calls Try.prog 35 #[ptr b, .int .u64 x] w fun e w' => e = .returned (.tuple #[.int .i64 0, .int .i64 6]) ∧ w = w' := by
  obtain ⟨qv, q, op, key, gone, hR, rfl, hq, hk⟩ := h
  have hl := hR.len
  have hlo : ∀ j, j < 8 → ∃ y, op[j]? = some (some y) := by
    intro j hj
    have := hf j
    rw [List.getElem?_map] at this
    rw [List.getElem?_eq_getElem (show j < op.length by omega)] at this ⊢
    cases h : op[j] with
    | none => rw [h] at this; simp at this
    | some y => exact ⟨y, rfl⟩
  have HLO := Lib.hid hlo
  have hc0 := fun j o (h : op[j]? = some o) => hR.get h
  have HC0 := Lib.hid hc0
  clear hR hlo hk hc0 hf
  obtain ⟨o0, o1, o2, o3, o4, o5, o6, o7, rfl⟩ : ∃ o0 o1 o2 o3 o4 o5 o6 o7, op = [o0, o1, o2, o3, o4, o5, o6, o7] := by
    match op, hl with
    | [o0, o1, o2, o3, o4, o5, o6, o7], _ => exact ⟨_, _, _, _, _, _, _, _, rfl⟩
  have c0 := HC0.out 0 o0 rfl
  have c1 := HC0.out 1 o1 rfl
  have c2 := HC0.out 2 o2 rfl
  have c3 := HC0.out 3 o3 rfl
  have c4 := HC0.out 4 o4 rfl
  have c5 := HC0.out 5 o5 rfl
  have c6 := HC0.out 6 o6 rfl
  have c7 := HC0.out 7 o7 rfl
  have HX : Hid (∀ (j : Nat) o, [o0, o1, o2, o3, o4, o5, o6, o7][j]? = some o → j < 8 → (w : World) → (Instr.index 88 (.agg #[optr o0, optr o1, optr o2, optr o3, optr o4, optr o5, optr o6, optr o7]) (.int .i64 j)).run Try.prog w = .ok (optr o) w) := by
    refine Lib.hid (fun j o hj h8 w => index_arr _ j _ ?_ h8 w)
    have : (#[optr o0, optr o1, optr o2, optr o3, optr o4, optr o5, optr o6, optr o7] : Array Value)[j]? = ([o0, o1, o2, o3, o4, o5, o6, o7].map optr)[j]? := by simp
    rw [this, List.getElem?_map, hj]
    rfl
  go_enter Try.func35, Try.ntmps35
  go_wp2_with fail
  go_loop [14] (fun v => ∃ j : Nat, j ≤ 8 ∧ v = .int .i64 j) (fun v => 8 - (intOf v).toNat)
  case atStart => exact ⟨0, Nat.zero_le _, rfl⟩
  case round =>
    obtain ⟨j, hj, rfl⟩ := hrel
    by_cases hji : j < 8
    · obtain ⟨y, hy⟩ := HLO.out j hji
      have hx : (Instr.index 88 (.agg #[optr o0, optr o1, optr o2, optr o3, optr o4, optr o5, optr o6, optr o7]) (.int .i64 j)).run Try.prog w = .ok (ptr y) w := HX.out j _ hy (by omega) w
      clear hy
      go_wp2_with fail
      go_round
      case rel => exact ⟨j + 1, by omega, by go_num⟩
      case measure => simp [intOf]; omega
    · go_wp2_with fail
      go_ret2
      exact ⟨rfl, rfl⟩
end Go.Proofs.Ytfbldpppjnnblaa.Watch
