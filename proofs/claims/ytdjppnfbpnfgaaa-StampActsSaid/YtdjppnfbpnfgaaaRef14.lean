/- The document's watch (stillroomref14), walked. -/
import Derived.Test.YtdjppnfbpnfgaaaWatch7
import Derived.Laws.Tables
import Derived.Laws.Rows
import Derived.Deep.DeepCutAuto
import Derived.Deep.CutBlock
namespace Go.Proofs.Ytdjppnfbpnfgaaa.Ref14
open Go.RowKit Go.Proofs.Ytdjppnfbpnfgaaa.Mem Go.Proofs.Ytdjppnfbpnfgaaa.Q Go.Proofs.Ytdjppnfbpnfgaaa.Watch

/-- Its cells. -/
def refL (st : List (Option Int)) : List Value := st.map (fun o => .int .u64 (o.getD 0)) ++ st.map (fun o => .bool o.isSome)

theorem refL_len {st : List (Option Int)} (h : st.length = 8) : (refL st).length = 16 := by simp [refL, h]

theorem refL_at {st : List (Option Int)} (h : st.length = 8) {i : Nat} {o : Option Int} (hi : st[i]? = some o) : (refL st)[i]? = some (.int .u64 (o.getD 0)) ∧ (refL st)[8 + i]? = some (.bool o.isSome) := by
  have hlt : i < st.length := (List.getElem?_eq_some_iff.1 hi).1
  unfold refL
  refine ⟨?_, ?_⟩
  · rw [List.getElem?_append_left (by simpa using hlt)]
    simp [hi]
  · rw [List.getElem?_append_right (by simp; omega)]
    simp [h, hi]

theorem refL_set {st : List (Option Int)} (h : st.length = 8) {i : Nat} (hi : i < 8) (o : Option Int) : ((refL st).set (8 + i) (.bool o.isSome)).set i (.int .u64 (o.getD 0)) = refL (st.set i o) := by
  unfold refL
  rw [List.set_append, if_neg (by simp; omega), List.set_append, if_pos (by simp; omega)]
  simp [h, List.map_set]

theorem refL_one (st : List (Option Int)) : (refL st).toArray.all (·.oneCell') = true := by
  rw [Array.all_eq_true_iff_forall_mem]
  intro v hv
  have hv' : v ∈ refL st := by simpa using hv
  unfold refL at hv'
  rcases List.mem_append.1 hv' with h | h
  · obtain ⟨o, _, rfl⟩ := List.mem_map.1 h; rfl
  · obtain ⟨o, _, rfl⟩ := List.mem_map.1 h; rfl

theorem size34 : (Try.prog.info? 34).map (·.size) = some 16 := by kernel_rfl

theorem Cells.row {w : World} {b : Nat} {T : TypeId} {old : List Value} (h : Cells w b T old) (cs : List Value) : Cells (w.setRow b cs.toArray) b T cs := setRow_heap w b old.toArray cs.toArray T (0, 0) h

theorem Chg.row {F : Nat → Prop} {a w : World} (h : Chg F a w) {b : Nat} (hb : b < a.heap.size → F b) (cs : Array Value) : Chg F a (w.setRow b cs) :=
  h.trans (G := fun k => k = b) ⟨rfl, rfl, rfl, by simp [World.setRow], fun k _ hne => setRow_other w b k cs hne⟩ (fun i hi e => by subst e; exact hb hi)

theorem hRow {B : Nat} {w W : World} (h : Below B w W) (cs : Array Value) {b : Nat} (hb : B ≤ b) : Below B w (W.setRow b cs) :=
  h.trans ⟨rfl, rfl, rfl, by simp [World.setRow], fun k hk => setRow_other W b k cs (by omega)⟩

theorem results_cell_two {P : Program} {fn : Func} {p a b : Tmp} {ty : TypeId} (h : fn.results = #[.cell p ty, .tmp a, .tmp b]) (tmps : Array Value) (w : World) (g : Nat) (t : TypeId) (cs : Array Value) (fr : Nat × Nat) (d : TypeDesc)
    (hp : tmps.getD p undef = .pointer (some ⟨g, 0, none⟩)) (hg : w.heap[g]? = some (.cells cs t fr))
    (hu : P.underlying ty = some d) (hd : (match d with | .struct _ | .array _ _ => true | _ => false) = true) (hi : (P.info? ty).map (·.size) = some cs.size) :
    (results fn tmps).run P w = .ok (.tuple #[.agg cs, tmps.getD a undef, tmps.getD b undef]) w := by
  have hp' : tmps[p]?.getD undef = .pointer (some ⟨g, 0, none⟩) := by simpa using hp
  simp [results, h, hp', asAddr, run_loadVar_row w g t ty cs fr d hg hu hd hi]

theorem results_cell_one {P : Program} {fn : Func} {p a : Tmp} {ty : TypeId} (h : fn.results = #[.cell p ty, .tmp a]) (tmps : Array Value) (w : World) (g : Nat) (t : TypeId) (cs : Array Value) (fr : Nat × Nat) (d : TypeDesc)
    (hp : tmps.getD p undef = .pointer (some ⟨g, 0, none⟩)) (hg : w.heap[g]? = some (.cells cs t fr))
    (hu : P.underlying ty = some d) (hd : (match d with | .struct _ | .array _ _ => true | _ => false) = true) (hi : (P.info? ty).map (·.size) = some cs.size) :
    (results fn tmps).run P w = .ok (.tuple #[.agg cs, tmps.getD a undef]) w := by
  have hp' : tmps[p]?.getD undef = .pointer (some ⟨g, 0, none⟩) := by simpa using hp
  simp [results, h, hp', asAddr, run_loadVar_row w g t ty cs fr d hg hu hd hi]


set_option maxHeartbeats 1000000 in
theorem put_yes (st : List (Option Int)) (i : Nat) (x : Int) (w : World) (hl : st.length = 8) (hi : st[i]? = some none) (hlo : ∀ j, j < i → st[j]? ≠ some none) :
    Calls Try.prog 10 #[.agg (refL st).toArray, .int .u64 x] w fun e w' => e = .returned (.tuple #[.agg (refL (st.set i (some x))).toArray, .int .i64 i, .int .i64 0]) ∧ Below w.heap.size w w' := by
  go_enter Try.func10, Try.ntmps10
  go_wp2_with fail
  generalize hW : World.alloc (w.alloc (Obj.cells (refL st).toArray _)) _ = W1
  have hC0 : Cells W1 w.heap.size 34 (refL st) := by rw [← hW]; exact (Cells.new w (refL st) _).alloc _
  have hD0 : Cells W1 (w.heap.size + 1) 34 (List.replicate 8 (.int .u64 0) ++ List.replicate 8 (.bool false)) := by
    rw [← hW]; have := Cells.new (w.alloc (.cells (refL st).toArray 34)) (List.replicate 8 (.int .u64 0) ++ List.replicate 8 (.bool false)) 34
    simpa using this
  have hB0 : Below w.heap.size w W1 := by rw [← hW]; exact ((Below.refl _ w).alloc (Nat.le_refl _) _).alloc (by simp) _
  clear hW
  have hi8 : i < 8 := by have := (List.getElem?_eq_some_iff.1 hi).1; omega
  have HC := Lib.hid hC0
  have HD := Lib.hid hD0
  have HB := Lib.hid hB0
  have HL := Lib.hid hl
  have HI := Lib.hid hi
  have HLO := Lib.hid hlo
  clear hC0 hD0 hB0 hl hi hlo
  go_loop [7] (fun v7 => ∃ j : Nat, j ≤ i ∧ v7 = .int .i64 j) (fun v7 => i - (intOf v7).toNat)
  case atStart => exact ⟨0, Nat.zero_le _, rfl⟩
  case round =>
    obtain ⟨j, hj, rfl⟩ := hrel
    have hst : ∃ o, st[j]? = some o := ⟨_, List.getElem?_eq_getElem (show j < st.length by have := HL.out; omega)⟩
    obtain ⟨o, hso⟩ := hst
    have hcell : W1.cell? ⟨w.heap.size, 8 + j, none⟩ = some (.bool o.isSome) := by rw [HC.out.cell]; exact (refL_at HL.out hso).2
    by_cases hji : j < i
    · cases o with
      | none => exact absurd hso (HLO.out j hji)
      | some y =>
        simp only [Option.isSome_some] at hcell
        clear hso
        go_wp2_with fail
        go_round
        case rel => exact ⟨j + 1, by omega, by go_num⟩
        case measure => simp [intOf]; omega
    · obtain rfl : j = i := by omega
      obtain rfl : o = none := by have := HI.out; rw [hso] at this; exact Option.some.inj this
      simp only [Option.isSome_none] at hcell
      have hcell2 : W1.cell? ⟨w.heap.size, j, none⟩ = some (.int .u64 0) := by rw [HC.out.cell]; exact (refL_at HL.out hso).1
      have hf := HC.out.frozen
      have hC1 := HC.out.set (8 + j) (.bool true)
      have hcell3 : (W1.setCell ⟨w.heap.size, 8 + j, none⟩ (.bool true)).cell? ⟨w.heap.size, j, none⟩ = some (.int .u64 0) := by
        rw [hC1.cell, List.getElem?_set_ne (by omega), ← HC.out.cell]; exact hcell2
      have hC2 := hC1.set j (.int .u64 x)
      have hD2 := (HD.out.other (p := ⟨w.heap.size, 8 + j, none⟩) (by simp) (.bool true)).other (p := ⟨w.heap.size, j, none⟩) (by simp) (.int .u64 x)
      have hB2 := (HB.out.setCell (p := ⟨w.heap.size, 8 + j, none⟩) (Nat.le_refl _) (.bool true)).setCell (p := ⟨w.heap.size, j, none⟩) (Nat.le_refl _) (.int .u64 x)
      have hset := refL_set HL.out hi8 (some x)
      simp only [Option.isSome_some, Option.getD_some] at hset
      rw [hset] at hC2
      have HC2 := Lib.hid hC2
      have HD2 := Lib.hid hD2
      have HB2 := Lib.hid hB2
      clear hso hC1 hC2 hD2 hB2 hset
      go_upto_region 7 with (fail)
      generalize World.setCell (World.setCell W1 _ _) _ _ = W2 at *
      obtain ⟨st2, hst2⟩ : ∃ st2, st2 = st.set j (some x) := ⟨_, rfl⟩
      have HL2 : Hid (st2.length = 8) := Lib.hid (by rw [hst2]; simpa using HL.out)
      rw [← hst2] at HC2
      have HS2 := Lib.hid hst2
      clear hst2 hcell hcell2 hcell3 hf
      have HC3 := Lib.hid (Cells.row HD2.out (refL st2))
      have HB3 := Lib.hid (hRow HB2.out (refL st2).toArray (b := w.heap.size + 1) (by omega))
      go_wp2_with (first | (refine wpList_load_row rfl 34 _ rfl w.heap.size rfl 34 (refL st2).toArray (0, 0) _ HC2.out Try.underlying34 rfl (by rw [size34, List.size_toArray, refL_len HL2.out]) ?_) | (refine wpList_store_row rfl 34 _ _ rfl (w.heap.size + 1) (refL st2).toArray rfl rfl 34 _ HD2.out (by rw [size34, List.size_toArray, refL_len HL2.out]) (by rw [List.size_toArray, List.size_toArray, refL_len HL2.out]; rfl) (refL_one st2) ?_))
      refine bodyPost_ret (results_cell_two rfl _ _ (w.heap.size + 1) 34 (refL st2).toArray (0, 0) _ rfl HC3.out Try.underlying34 rfl (by rw [size34, List.size_toArray, refL_len HL2.out])) rfl ?_
      rw [← HS2.out]
      exact ⟨rfl, HB3.out⟩



set_option maxHeartbeats 1000000 in
theorem put_no (st : List (Option Int)) (x : Int) (w : World) (hl : st.length = 8) (hf : ∀ i : Nat, st[i]? ≠ some none) :
    Calls Try.prog 10 #[.agg (refL st).toArray, .int .u64 x] w fun e w' => e = .returned (.tuple #[.agg (refL st).toArray, .int .i64 0, .int .i64 6]) ∧ Below w.heap.size w w' := by
  have HF := Lib.hid hf
  clear hf
  go_enter Try.func10, Try.ntmps10
  go_wp2_with fail
  generalize hW : World.alloc (w.alloc (Obj.cells (refL st).toArray _)) _ = W1
  have hC0 : Cells W1 w.heap.size 34 (refL st) := by rw [← hW]; exact (Cells.new w (refL st) _).alloc _
  have hD0 : Cells W1 (w.heap.size + 1) 34 (List.replicate 8 (.int .u64 0) ++ List.replicate 8 (.bool false)) := by
    rw [← hW]; have := Cells.new (w.alloc (.cells (refL st).toArray 34)) (List.replicate 8 (.int .u64 0) ++ List.replicate 8 (.bool false)) 34
    simpa using this
  have hB0 : Below w.heap.size w W1 := by rw [← hW]; exact ((Below.refl _ w).alloc (Nat.le_refl _) _).alloc (by simp) _
  clear hW
  have HC := Lib.hid hC0
  have HD := Lib.hid hD0
  have HB := Lib.hid hB0
  have HL := Lib.hid hl
  clear hC0 hD0 hB0 hl
  go_loop [7] (fun v7 => ∃ j : Nat, j ≤ 8 ∧ v7 = .int .i64 j) (fun v7 => 8 - (intOf v7).toNat)
  case atStart => exact ⟨0, Nat.zero_le _, rfl⟩
  case round =>
    obtain ⟨j, hj, rfl⟩ := hrel
    by_cases hji : j < 8
    · obtain ⟨o, hso⟩ : ∃ o, st[j]? = some o := ⟨_, List.getElem?_eq_getElem (show j < st.length by have := HL.out; omega)⟩
      have hcell : W1.cell? ⟨w.heap.size, 8 + j, none⟩ = some (.bool o.isSome) := by rw [HC.out.cell]; exact (refL_at HL.out hso).2
      cases o with
      | none => exact absurd hso (HF.out j)
      | some y =>
        simp only [Option.isSome_some] at hcell
        clear hso
        go_wp2_with fail
        go_round
        case rel => exact ⟨j + 1, by omega, by go_num⟩
        case measure => simp [intOf]; omega
    · have HC3 := Lib.hid (Cells.row HD.out (refL st))
      have HB3 := Lib.hid (hRow HB.out (refL st).toArray (b := w.heap.size + 1) (by omega))
      go_wp2_with (first | (refine wpList_load_row rfl 34 _ rfl w.heap.size rfl 34 (refL st).toArray (0, 0) _ HC.out Try.underlying34 rfl (by rw [size34, List.size_toArray, refL_len HL.out]) ?_) | (refine wpList_store_row rfl 34 _ _ rfl (w.heap.size + 1) (refL st).toArray rfl rfl 34 _ HD.out (by rw [size34, List.size_toArray, refL_len HL.out]) (by rw [List.size_toArray, List.size_toArray, refL_len HL.out]; rfl) (refL_one st) ?_))
      refine bodyPost_ret (results_cell_two rfl _ _ (w.heap.size + 1) 34 (refL st).toArray (0, 0) _ rfl HC3.out Try.underlying34 rfl (by rw [size34, List.size_toArray, refL_len HL.out])) rfl ?_
      exact ⟨rfl, HB3.out⟩

set_option maxHeartbeats 1000000 in
theorem close_no (st : List (Option Int)) (I : Int) (w : World) (hl : st.length = 8) (hr : hasB st I = false) :
    Calls Try.prog 12 #[.agg (refL st).toArray, .int .i64 I] w fun e w' => e = .returned (.tuple #[.agg (refL st).toArray, .int .i64 7]) ∧ Below w.heap.size w w' := by
  by_cases h0 : I < 0
  · have hb0 : decide (I < 0) = true := decide_eq_true h0
    clear h0 hr
    go_enter Try.func12, Try.ntmps12
    go_upto_region 1 with (fail)
    generalize hW : World.alloc (w.alloc (Obj.cells (refL st).toArray _)) _ = W1
    have hC0 : Cells W1 w.heap.size 34 (refL st) := by rw [← hW]; exact (Cells.new w (refL st) _).alloc _
    have hD0 : Cells W1 (w.heap.size + 1) 34 (List.replicate 8 (.int .u64 0) ++ List.replicate 8 (.bool false)) := by
      rw [← hW]; have := Cells.new (w.alloc (.cells (refL st).toArray 34)) (List.replicate 8 (.int .u64 0) ++ List.replicate 8 (.bool false)) 34
      simpa using this
    have hB0 : Below w.heap.size w W1 := by rw [← hW]; exact ((Below.refl _ w).alloc (Nat.le_refl _) _).alloc (by simp) _
    clear hW
    have HC := Lib.hid hC0
    have HD := Lib.hid hD0
    have HB := Lib.hid hB0
    have HL := Lib.hid hl
    clear hC0 hD0 hB0 hl
    have HC3 := Lib.hid (Cells.row HD.out (refL st))
    have HB3 := Lib.hid (hRow HB.out (refL st).toArray (b := w.heap.size + 1) (by omega))
    go_wp2_with (first | (refine wpList_load_row rfl 34 _ rfl w.heap.size rfl 34 (refL st).toArray (0, 0) _ HC.out Try.underlying34 rfl (by rw [size34, List.size_toArray, refL_len HL.out]) ?_) | (refine wpList_store_row rfl 34 _ _ rfl (w.heap.size + 1) (refL st).toArray rfl rfl 34 _ HD.out (by rw [size34, List.size_toArray, refL_len HL.out]) (by rw [List.size_toArray, List.size_toArray, refL_len HL.out]; rfl) (refL_one st) ?_))
    refine bodyPost_ret (results_cell_one rfl _ _ (w.heap.size + 1) 34 (refL st).toArray (0, 0) _ rfl HC3.out Try.underlying34 rfl (by rw [size34, List.size_toArray, refL_len HL.out])) rfl ?_
    exact ⟨rfl, HB3.out⟩
  · have hb0 : decide (I < 0) = false := decide_eq_false h0
    by_cases h8 : 8 ≤ I
    · have hb8 : decide (8 ≤ I) = true := decide_eq_true h8
      clear h0 h8 hr
      go_enter Try.func12, Try.ntmps12
      go_upto_region 1 with (fail)
      generalize hW : World.alloc (w.alloc (Obj.cells (refL st).toArray _)) _ = W1
      have hC0 : Cells W1 w.heap.size 34 (refL st) := by rw [← hW]; exact (Cells.new w (refL st) _).alloc _
      have hD0 : Cells W1 (w.heap.size + 1) 34 (List.replicate 8 (.int .u64 0) ++ List.replicate 8 (.bool false)) := by
        rw [← hW]; have := Cells.new (w.alloc (.cells (refL st).toArray 34)) (List.replicate 8 (.int .u64 0) ++ List.replicate 8 (.bool false)) 34
        simpa using this
      have hB0 : Below w.heap.size w W1 := by rw [← hW]; exact ((Below.refl _ w).alloc (Nat.le_refl _) _).alloc (by simp) _
      clear hW
      have HC := Lib.hid hC0
      have HD := Lib.hid hD0
      have HB := Lib.hid hB0
      have HL := Lib.hid hl
      clear hC0 hD0 hB0 hl
      have HC3 := Lib.hid (Cells.row HD.out (refL st))
      have HB3 := Lib.hid (hRow HB.out (refL st).toArray (b := w.heap.size + 1) (by omega))
      go_wp2_with (first | (refine wpList_load_row rfl 34 _ rfl w.heap.size rfl 34 (refL st).toArray (0, 0) _ HC.out Try.underlying34 rfl (by rw [size34, List.size_toArray, refL_len HL.out]) ?_) | (refine wpList_store_row rfl 34 _ _ rfl (w.heap.size + 1) (refL st).toArray rfl rfl 34 _ HD.out (by rw [size34, List.size_toArray, refL_len HL.out]) (by rw [List.size_toArray, List.size_toArray, refL_len HL.out]; rfl) (refL_one st) ?_))
      refine bodyPost_ret (results_cell_one rfl _ _ (w.heap.size + 1) 34 (refL st).toArray (0, 0) _ rfl HC3.out Try.underlying34 rfl (by rw [size34, List.size_toArray, refL_len HL.out])) rfl ?_
      exact ⟨rfl, HB3.out⟩
    · have hb8 : decide (8 ≤ I) = false := decide_eq_false h8
      obtain ⟨i, rfl⟩ := Int.eq_ofNat_of_zero_le (by omega : 0 ≤ I)
      have hi : i < 8 := by omega
      have hno : st[i]? = some none := by
        rw [hasB_at hi, List.getD_eq_getElem?_getD] at hr
        rw [List.getElem?_eq_getElem (by omega)] at hr ⊢
        cases hs : st[i] with
        | none => rfl
        | some y => rw [hs] at hr; simp at hr
      have HI := Lib.hid hno
      clear h0 h8 hr hno
      go_enter Try.func12, Try.ntmps12
      go_upto_region 1 with (fail)
      generalize hW : World.alloc (w.alloc (Obj.cells (refL st).toArray _)) _ = W1
      have hC0 : Cells W1 w.heap.size 34 (refL st) := by rw [← hW]; exact (Cells.new w (refL st) _).alloc _
      have hD0 : Cells W1 (w.heap.size + 1) 34 (List.replicate 8 (.int .u64 0) ++ List.replicate 8 (.bool false)) := by
        rw [← hW]; have := Cells.new (w.alloc (.cells (refL st).toArray 34)) (List.replicate 8 (.int .u64 0) ++ List.replicate 8 (.bool false)) 34
        simpa using this
      have hB0 : Below w.heap.size w W1 := by rw [← hW]; exact ((Below.refl _ w).alloc (Nat.le_refl _) _).alloc (by simp) _
      clear hW
      have HC := Lib.hid hC0
      have HD := Lib.hid hD0
      have HB := Lib.hid hB0
      have HL := Lib.hid hl
      clear hC0 hD0 hB0 hl
      have HC3 := Lib.hid (Cells.row HD.out (refL st))
      have HB3 := Lib.hid (hRow HB.out (refL st).toArray (b := w.heap.size + 1) (by omega))
      have hcell : W1.cell? ⟨w.heap.size, 8 + i, none⟩ = some (.bool false) := by rw [HC.out.cell]; exact (refL_at HL.out HI.out).2
      go_wp2_with (first | (refine wpList_load_row rfl 34 _ rfl w.heap.size rfl 34 (refL st).toArray (0, 0) _ HC.out Try.underlying34 rfl (by rw [size34, List.size_toArray, refL_len HL.out]) ?_) | (refine wpList_store_row rfl 34 _ _ rfl (w.heap.size + 1) (refL st).toArray rfl rfl 34 _ HD.out (by rw [size34, List.size_toArray, refL_len HL.out]) (by rw [List.size_toArray, List.size_toArray, refL_len HL.out]; rfl) (refL_one st) ?_))
      refine bodyPost_ret (results_cell_one rfl _ _ (w.heap.size + 1) 34 (refL st).toArray (0, 0) _ rfl HC3.out Try.underlying34 rfl (by rw [size34, List.size_toArray, refL_len HL.out])) rfl ?_
      exact ⟨rfl, HB3.out⟩

set_option maxHeartbeats 1000000 in
theorem close_yes (st : List (Option Int)) (I : Int) (w : World) (hl : st.length = 8) (hr : hasB st I = true) :
    Calls Try.prog 12 #[.agg (refL st).toArray, .int .i64 I] w fun e w' => e = .returned (.tuple #[.agg (refL (st.set I.toNat none)).toArray, .int .i64 0]) ∧ Below w.heap.size w w' := by
  have hr2 := hr
  unfold hasB at hr2
  simp only [Bool.and_eq_true, decide_eq_true_eq] at hr2
  obtain ⟨h0, h8, hs⟩ := hr2
  obtain ⟨i, rfl⟩ := Int.eq_ofNat_of_zero_le h0
  have hi : i < 8 := by omega
  rw [Int.toNat_natCast] at hs ⊢
  obtain ⟨y, hy⟩ : ∃ y, st[i]? = some (some y) := by
    rw [List.getD_eq_getElem?_getD, List.getElem?_eq_getElem (show i < st.length by omega)] at hs
    rw [List.getElem?_eq_getElem (show i < st.length by omega)]
    obtain ⟨y, hy⟩ := Option.isSome_iff_exists.1 hs
    exact ⟨y, by simpa using hy⟩
  have HY := Lib.hid hy
  clear hr h0 h8 hs hy
  go_enter Try.func12, Try.ntmps12
  go_upto_region 1 with (fail)
  generalize hW : World.alloc (w.alloc (Obj.cells (refL st).toArray _)) _ = W1
  have hC0 : Cells W1 w.heap.size 34 (refL st) := by rw [← hW]; exact (Cells.new w (refL st) _).alloc _
  have hD0 : Cells W1 (w.heap.size + 1) 34 (List.replicate 8 (.int .u64 0) ++ List.replicate 8 (.bool false)) := by
    rw [← hW]; have := Cells.new (w.alloc (.cells (refL st).toArray 34)) (List.replicate 8 (.int .u64 0) ++ List.replicate 8 (.bool false)) 34
    simpa using this
  have hB0 : Below w.heap.size w W1 := by rw [← hW]; exact ((Below.refl _ w).alloc (Nat.le_refl _) _).alloc (by simp) _
  clear hW
  have HC := Lib.hid hC0
  have HD := Lib.hid hD0
  have HB := Lib.hid hB0
  have HL := Lib.hid hl
  clear hC0 hD0 hB0 hl
  have hcell : W1.cell? ⟨w.heap.size, 8 + i, none⟩ = some (.bool true) := by rw [HC.out.cell]; exact (refL_at HL.out HY.out).2
  have hcell2 : W1.cell? ⟨w.heap.size, i, none⟩ = some (.int .u64 y) := by rw [HC.out.cell]; exact (refL_at HL.out HY.out).1
  have hf := HC.out.frozen
  have hC1 := HC.out.set (8 + i) (.bool false)
  have hcell3 : (W1.setCell ⟨w.heap.size, 8 + i, none⟩ (.bool false)).cell? ⟨w.heap.size, i, none⟩ = some (.int .u64 y) := by
    rw [hC1.cell, List.getElem?_set_ne (by omega), ← HC.out.cell]; exact hcell2
  have hC2 := hC1.set i (.int .u64 0)
  have hD2 := (HD.out.other (p := ⟨w.heap.size, 8 + i, none⟩) (by simp) (.bool false)).other (p := ⟨w.heap.size, i, none⟩) (by simp) (.int .u64 0)
  have hB2 := (HB.out.setCell (p := ⟨w.heap.size, 8 + i, none⟩) (Nat.le_refl _) (.bool false)).setCell (p := ⟨w.heap.size, i, none⟩) (Nat.le_refl _) (.int .u64 0)
  have hset := refL_set HL.out hi none
  simp only [Option.isSome_none, Option.getD_none] at hset
  rw [hset] at hC2
  have HC2 := Lib.hid hC2
  have HD2 := Lib.hid hD2
  have HB2 := Lib.hid hB2
  clear hC1 hC2 hD2 hB2 hset
  go_upto_region 5 with (fail)
  generalize World.setCell (World.setCell W1 _ _) _ _ = W2 at *
  obtain ⟨st2, hst2⟩ : ∃ st2, st2 = st.set i none := ⟨_, rfl⟩
  have HL2 : Hid (st2.length = 8) := Lib.hid (by rw [hst2]; simpa using HL.out)
  rw [← hst2] at HC2
  have HS2 := Lib.hid hst2
  clear hst2 hcell hcell2 hcell3 hf
  have HC3 := Lib.hid (Cells.row HD2.out (refL st2))
  have HB3 := Lib.hid (hRow HB2.out (refL st2).toArray (b := w.heap.size + 1) (by omega))
  go_wp2_with (first | (refine wpList_load_row rfl 34 _ rfl w.heap.size rfl 34 (refL st2).toArray (0, 0) _ HC2.out Try.underlying34 rfl (by rw [size34, List.size_toArray, refL_len HL2.out]) ?_) | (refine wpList_store_row rfl 34 _ _ rfl (w.heap.size + 1) (refL st2).toArray rfl rfl 34 _ HD2.out (by rw [size34, List.size_toArray, refL_len HL2.out]) (by rw [List.size_toArray, List.size_toArray, refL_len HL2.out]; rfl) (refL_one st2) ?_))
  refine bodyPost_ret (results_cell_one rfl _ _ (w.heap.size + 1) 34 (refL st2).toArray (0, 0) _ rfl HC3.out Try.underlying34 rfl (by rw [size34, List.size_toArray, refL_len HL2.out])) rfl ?_
  rw [← HS2.out]
  exact ⟨rfl, HB3.out⟩

set_option maxHeartbeats 1000000 in
theorem len_ref (st : List (Option Int)) (w : World) (hl : st.length = 8) :
    Calls Try.prog 16 #[.agg (refL st).toArray] w fun e w' => e = .returned (.int .i64 (cntB st)) ∧ Below w.heap.size w w' := by
  go_enter Try.func16, Try.ntmps16
  go_wp2_with fail
  generalize hW : World.alloc w (Obj.cells (refL st).toArray _) = W1
  have HC : Hid (Cells W1 w.heap.size 34 (refL st)) := Lib.hid (by rw [← hW]; exact Cells.new w (refL st) _)
  have HB : Hid (Below w.heap.size w W1) := Lib.hid (by rw [← hW]; exact (Below.refl _ w).alloc (Nat.le_refl _) _)
  have HL := Lib.hid hl
  clear hW hl
  go_loop [3, 4] (fun n v => ∃ i k : Nat, i ≤ 8 ∧ v = .int .i64 i ∧ n = .int .i64 k ∧ k ≤ i ∧ Hid (cntB (st.take i) = k)) (fun _ v => 8 - (intOf v).toNat)
  case atStart => exact ⟨0, 0, by omega, rfl, rfl, by omega, Lib.hid (by simp [cntB])⟩
  case round =>
    obtain ⟨i, k, hi, rfl, rfl, hki, HK⟩ := hrel
    by_cases h8 : i < 8
    · obtain ⟨o, hso⟩ : ∃ o, st[i]? = some o := ⟨_, List.getElem?_eq_getElem (show i < st.length by have := HL.out; omega)⟩
      have hcell : W1.cell? ⟨w.heap.size, 8 + i, none⟩ = some (.bool o.isSome) := by rw [HC.out.cell]; exact (refL_at HL.out hso).2
      have hs := cnt_take st i (by have := HL.out; omega)
      rw [List.getD_eq_getElem?_getD, hso] at hs
      simp only [Option.getD_some] at hs
      clear hso
      cases o with
      | none =>
        simp only [Option.isSome_none] at hcell hs
        have HS := Lib.hid hs
        clear hs
        go_wp2_with fail
        go_round
        case rel => exact ⟨i + 1, k, by omega, by go_num, rfl, by omega, Lib.hid (by have h1 := HS.out; have := HK.out; simp at h1; omega)⟩
        case measure => simp [intOf]; omega
      | some y =>
        simp only [Option.isSome_some] at hcell hs
        have HS := Lib.hid hs
        clear hs
        go_wp2_with fail
        go_round
        case rel => exact ⟨i + 1, k + 1, by omega, by go_num, by go_num, by omega, Lib.hid (by have h1 := HS.out; have := HK.out; simp at h1; omega)⟩
        case measure => simp [intOf]; omega
    · have HE : Hid (cntB st = k) := Lib.hid (by
        have h1 := HK.out
        rwa [List.take_of_length_le (by have := HL.out; omega)] at h1)
      go_wp2_with fail
      go_ret
      exact ⟨by rw [HE.out]; rfl, HB.out⟩

/-- The least one of the first i, as the document's loop has it. -/
def Upto (st : List (Option Int)) (none : Int) (i : Nat) (first : Bool) (n : Int) : Prop :=
  (first = true ∧ n = none ∧ ∀ (j : Nat) x, j < i → st[j]? ≠ some (some x)) ∨ (first = false ∧ (∃ j : Nat, st[j]? = some (some n)) ∧ ∀ (j : Nat) x, j < i → st[j]? = some (some x) → n ≤ x)

theorem Upto.done {st : List (Option Int)} {none n : Int} {first : Bool} (hl : st.length = 8) (h : Upto st none 8 first n) : IsLeast st none n := by
  have hlt : ∀ (j : Nat) (o : Option Int), st[j]? = some o → j < 8 := fun j o h => by have := (List.getElem?_eq_some_iff.1 h).1; omega
  rcases h with ⟨_, rfl, h⟩ | ⟨_, h1, h2⟩
  · exact .inr ⟨fun j x hx => h j x (hlt j _ hx) hx, rfl⟩
  · exact .inl ⟨h1, fun j x hx => h2 j x (hlt j _ hx) hx⟩

theorem Upto.skip {st : List (Option Int)} {none n : Int} {i : Nat} {first : Bool} (h : Upto st none i first n) (hs : st[i]? = some Option.none) : Upto st none (i + 1) first n := by
  rcases h with ⟨h1, h2, h⟩ | ⟨h1, h2, h⟩
  · refine .inl ⟨h1, h2, fun j x hj hx => ?_⟩
    by_cases e : j = i
    · subst e; rw [hs] at hx; cases hx
    · exact h j x (by omega) hx
  · refine .inr ⟨h1, h2, fun j x hj hx => ?_⟩
    by_cases e : j = i
    · subst e; rw [hs] at hx; cases hx
    · exact h j x (by omega) hx

theorem Upto.stay {st : List (Option Int)} {none n y : Int} {i : Nat} (h : Upto st none i false n) (hs : st[i]? = some (some y)) (hy : ¬ y < n) : Upto st none (i + 1) false n := by
  rcases h with ⟨h1, h2, h⟩ | ⟨h1, h2, h⟩
  · cases h1
  · refine .inr ⟨h1, h2, fun j x hj hx => ?_⟩
    by_cases e : j = i
    · subst e; rw [hs] at hx; obtain rfl : y = x := by simpa using hx
      omega
    · exact h j x (by omega) hx

theorem Upto.less {st : List (Option Int)} {none n y : Int} {i : Nat} {first : Bool} (h : Upto st none i first n) (hs : st[i]? = some (some y)) (hy : first = true ∨ y < n) : Upto st none (i + 1) false y := by
  refine .inr ⟨rfl, ⟨i, hs⟩, fun j x hj hx => ?_⟩
  by_cases e : j = i
  · subst e; rw [hs] at hx; obtain rfl : y = x := by simpa using hx
    omega
  · rcases h with ⟨h1, h2, h⟩ | ⟨h1, h2, h⟩
    · exact absurd hx (h j x (by omega))
    · have := h j x (by omega) hx
      rcases hy with hy | hy
      · rw [hy] at h1; cases h1
      · omega

set_option maxHeartbeats 1000000 in
theorem least_ref (st : List (Option Int)) (none : Int) (w : World) (hl : st.length = 8) :
    Calls Try.prog 14 #[.agg (refL st).toArray, .int .u64 none] w fun e w' => (∃ n, e = .returned (.int .u64 n) ∧ IsLeast st none n) ∧ Below w.heap.size w w' := by
  go_enter Try.func14, Try.ntmps14
  go_wp2_with fail
  generalize hW : World.alloc w (Obj.cells (refL st).toArray _) = W1
  have HC : Hid (Cells W1 w.heap.size 34 (refL st)) := Lib.hid (by rw [← hW]; exact Cells.new w (refL st) _)
  have HB : Hid (Below w.heap.size w W1) := Lib.hid (by rw [← hW]; exact (Below.refl _ w).alloc (Nat.le_refl _) _)
  have HL := Lib.hid hl
  clear hW hl
  go_loop [1, 5, 6] (fun v1 v5 v6 => ∃ (i : Nat) (first : Bool) (n : Int), i ≤ 8 ∧ v6 = .int .i64 i ∧ v5 = .bool first ∧ v1 = .int .u64 n ∧ Hid (Upto st none i first n)) (fun _ _ v => 8 - (intOf v).toNat)
  case atStart => exact ⟨0, true, none, by omega, rfl, rfl, rfl, Lib.hid (.inl ⟨rfl, rfl, fun j x hj => by omega⟩)⟩
  case round =>
    obtain ⟨i, first, n, hi, rfl, rfl, rfl, HU⟩ := hrel
    by_cases h8 : i < 8
    · obtain ⟨o, hso⟩ : ∃ o, st[i]? = some o := ⟨_, List.getElem?_eq_getElem (show i < st.length by have := HL.out; omega)⟩
      have hcell : W1.cell? ⟨w.heap.size, 8 + i, .none⟩ = some (.bool o.isSome) := by rw [HC.out.cell]; exact (refL_at HL.out hso).2
      have hcell2 : W1.cell? ⟨w.heap.size, i, .none⟩ = some (.int .u64 (o.getD 0)) := by rw [HC.out.cell]; exact (refL_at HL.out hso).1
      have HSO := Lib.hid hso
      clear hso
      cases o with
      | none =>
        simp only [Option.isSome_none] at hcell
        clear hcell2
        go_wp2_with fail
        go_round
        case rel => exact ⟨i + 1, first, n, by omega, by go_num, rfl, rfl, Lib.hid (HU.out.skip HSO.out)⟩
        case measure => simp [intOf]; omega
      | some y =>
        simp only [Option.isSome_some, Option.getD_some] at hcell hcell2
        cases first with
        | true =>
          go_wp2_with fail
          go_round
          case rel => exact ⟨i + 1, false, y, by omega, by go_num, rfl, rfl, Lib.hid (HU.out.less HSO.out (.inl rfl))⟩
          case measure => simp [intOf]; omega
        | false =>
          by_cases hy : y < n
          · have hb : decide (y < n) = true := decide_eq_true hy
            have HY := Lib.hid hy
            clear hy
            go_wp2_with fail
            go_round
            case rel => exact ⟨i + 1, false, y, by omega, by go_num, rfl, rfl, Lib.hid (HU.out.less HSO.out (.inr HY.out))⟩
            case measure => simp [intOf]; omega
          · have hb : decide (y < n) = false := decide_eq_false hy
            have HY := Lib.hid hy
            clear hy
            go_wp2_with fail
            go_round
            case rel => exact ⟨i + 1, false, n, by omega, by go_num, rfl, rfl, Lib.hid (HU.out.stay HSO.out (by have := HY.out; omega))⟩
            case measure => simp [intOf]; omega
    · obtain rfl : i = 8 := by omega
      go_wp2_with fail
      go_ret
      exact ⟨⟨n, rfl, HU.out.done HL.out⟩, HB.out⟩
end Go.Proofs.Ytdjppnfbpnfgaaa.Ref14
