/- Layer 17's table: Open, New. -/
import Derived.Test.YtfbldpppjnnblaaTab5
namespace Go.Proofs.Ytfbldpppjnnblaa.Tab
open Go.RowKit Go.Proofs.Ytfbldpppjnnblaa.Mem Go.Proofs.Ytfbldpppjnnblaa.Q Go.Proofs.Ytfbldpppjnnblaa.Watch Go.Proofs.Ytfbldpppjnnblaa.Read Go.Proofs.Ytfbldpppjnnblaa.Out Go.Proofs.Ytfbldpppjnnblaa.Copy Go.Proofs.Ytfbldpppjnnblaa.Key Go.Proofs.Ytfbldpppjnnblaa.Set Go.Proofs.Ytfbldpppjnnblaa.Rows3 Go.Proofs.Ytfbldpppjnnblaa.Get15 Go.Proofs.Ytfbldpppjnnblaa.Put15 Go.Proofs.Ytfbldpppjnnblaa.Map
set_option maxRecDepth 100000
set_option maxHeartbeats 1000000

theorem info_int : (Try.prog.info? 3).map (fun i => (i.zero, i.size, i.bytes)) = some (some (.int .i64 0), 1, 8) := by kernel_rfl

/-- A number as a cell. -/
def icells (n : Nat) : List Value := [.int .i64 n]
theorem icells_len (n : Nat) : (icells n).length = 1 := rfl

theorem one_new (w : World) (v : Value) (T : TypeId) : ∀ j u, [v][j]? = some u → (w.alloc (.cells #[v] T)).cell? ((⟨w.heap.size, 0, none⟩ : Addr).add j) = some u := by
  intro j u hj
  have := (Cells.new w [v] T).cell j
  rw [Addr.add_lit, Nat.zero_add]
  exact this.trans hj

/-- The numbers that are open. -/
def opensL (st : List (Option Int)) (i : Nat) : List Nat := (List.range i).filter fun j => hasB st j

theorem opens_yes {st : List (Option Int)} {i : Nat} (h : hasB st i = true) : opensL st (i + 1) = opensL st i ++ [i] := by
  unfold opensL
  rw [List.range_succ, List.filter_append]
  simp [h]

theorem opens_no {st : List (Option Int)} {i : Nat} (h : hasB st i = false) : opensL st (i + 1) = opensL st i := by
  unfold opensL
  rw [List.range_succ, List.filter_append]
  simp [h]

theorem opens_len (st : List (Option Int)) (i : Nat) : (opensL st i).length ≤ i := by
  unfold opensL
  exact Nat.le_trans (List.length_filter_le _ _) (by simp)

section
variable {w : World} {tb wb mb N : Nat} {F S : Nat → Prop} {vs : List Value} {st : List (Option Int)} {ss : List (List W3)} {m : List (ByteArray × Int)}

theorem hasB_some {st : List (Option Int)} {i : Nat} (h : hasB st i = true) : ∃ y, st.getD i none = some y := by
  unfold hasB at h
  simp only [Int.toNat_natCast, Bool.and_eq_true] at h
  exact Option.isSome_iff_exists.1 h.2.2

theorem topen_bad {p : Value} (h : ∀ I, Calls Try.prog 27 #[p, .int .i64 I] w fun e w2 => e = .returned (.tuple #[.int .u64 0, .bool false]) ∧ w = w2) :
    Calls Try.prog 25 #[p] w fun e w' => e = .returned (.slice none 0 0) ∧ w = w' := by
  have H := Lib.hid h
  clear h
  go_enter Try.func25, Try.ntmps25
  go_wp2_with fail
  go_loopw [3, 7] (fun v3 v7 wr => ∃ i : Nat, i ≤ 8 ∧ v7 = .int .i64 i ∧ v3 = .slice none 0 0 ∧ Hid (w = wr)) (fun _ v7 _ => 8 - (intOf v7).toNat)
  case atStart => exact ⟨0, by omega, rfl, rfl, Lib.hid rfl⟩
  case round =>
    obtain ⟨i, hi, rfl, rfl, HW⟩ := hrel
    obtain rfl := HW.out
    by_cases hin : i < 8
    · go_wp2_with fail
      refine Calls.mono (H.out i) ?_
      rintro e w' ⟨rfl, rfl⟩
      go_wp2_with fail
      go_roundw
      case rel => exact ⟨i + 1, by omega, by go_num, rfl, Lib.hid (by simp)⟩
      case measure => simp [intOf]; omega
    · obtain rfl : i = 8 := by omega
      go_wp2_with fail
      go_ret
      exact ⟨rfl, rfl⟩

theorem topen (h : Tab w tb S N st ss m) : Calls Try.prog 25 #[ptr tb] w fun e w' => ∃ A c, e = .returned (.slice A (opensL st 8).length c) ∧ Hid (RowsOf icells 1 w' A (opensL st 8).length (opensL st 8)) ∧ Below w.heap.size w w' := by
  have H := Lib.hid h
  obtain ⟨L, hL⟩ : ∃ L, L = opensL st 8 := ⟨_, rfl⟩
  rw [← hL]
  have HL := Lib.hid hL
  clear h hL
  go_enter Try.func25, Try.ntmps25
  go_wp2_with fail
  go_loopw [3, 7] (fun v3 v7 wr => ∃ (i : Nat) (A : Option Addr) (n c : Nat), i ≤ 8 ∧ v7 = .int .i64 i ∧ v3 = .slice A n c ∧ n ≤ i ∧ Hid (Out w wr 3 1 (.slice A n c) n ((opensL st i).flatMap icells)) ∧ Hid ((opensL st i).length = n)) (fun _ v7 _ => 8 - (intOf v7).toNat)
  case atStart => exact ⟨0, none, 0, 0, by omega, rfl, rfl, by omega, Lib.hid (Out.nil (Below.refl _ _) _ _), Lib.hid rfl⟩
  case round =>
    obtain ⟨i, A, n, c, hi, rfl, rfl, hni, HO, HN⟩ := hrel
    by_cases hin : i < 8
    · have HT := Lib.hid (H.out.below HO.out.below)
      cases hb : hasB st i with
      | true =>
        obtain ⟨y, hy⟩ := hasB_some hb
        have HB := Lib.hid hb
        have HY := Lib.hid hy
        have HS : Hid ((opensL st (i + 1)).flatMap icells = (opensL st i).flatMap icells ++ [.int .i64 i]) := Lib.hid (by rw [opens_yes hb, List.flatMap_append]; simp [icells])
        have HS2 : Hid ((opensL st (i + 1)).length = n + 1) := Lib.hid (by rw [opens_yes hb, List.length_append, HN.out]; rfl)
        clear hb hy
        go_wp2_with fail
        refine Calls.mono (tat_yes i y HT.out HB.out (by rw [Int.toNat_natCast]; exact HY.out)) ?_
        rintro e w' ⟨rfl, rfl⟩
        go_wp2_with (at_builtin; refine wpList_out rfl _ _ 60 rfl 3 (.int .i64 0) 1 8 Try.underlying60 info_int rfl (by decide) _ _ _ rfl (HO.out.alloc _) ⟨wr.heap.size, 0, none⟩ 1 1 [.int .i64 i] rfl rfl ?c1 ?c2 ?c3 ?c4 (by decide) ?_)
        case c1 => exact one_new wr _ _
        case c2 => simp [Value.oneCell']
        case c3 => simp only [maxLen]; omega
        case c4 => omega
        intro g k w1 ho1 hg1 hw1
        clear hg1 hw1
        have HO1 : Hid (Out w w1 3 1 (.slice (some ⟨g, 0, none⟩) (n + 1) k) (n + 1) ((opensL st (i + 1)).flatMap icells)) := Lib.hid (by rw [HS.out]; exact ho1.out)
        clear ho1
        go_wp2_with fail
        go_roundw
        case rel => exact ⟨i + 1, _, _, _, by omega, by go_num, rfl, by omega, HO1, HS2⟩
        case measure => simp [intOf]; omega
      | false =>
        have HB := Lib.hid hb
        have HS : Hid (opensL st (i + 1) = opensL st i) := Lib.hid (opens_no hb)
        clear hb
        go_wp2_with fail
        refine Calls.mono (tat_no i HT.out HB.out) ?_
        rintro e w' ⟨rfl, rfl⟩
        go_wp2_with fail
        go_roundw
        case rel => exact ⟨i + 1, A, n, c, by omega, by go_num, rfl, by omega, by rw [HS.out]; exact HO, by rw [HS.out]; exact HN⟩
        case measure => simp [intOf]; omega
    · obtain rfl : i = 8 := by omega
      rw [← HL.out] at HN HO
      obtain ⟨A', c', he, hnc, hr⟩ := own_rows icells_len HO.out HN.out (by simp only [maxLen]; omega)
      cases he
      have HR : Hid (RowsOf icells 1 wr A L.length L) := Lib.hid (by rw [HN.out]; exact hr)
      have HBB := Lib.hid HO.out.below
      have hnl := HN.out
      subst hnl
      clear HN HO hr
      go_wp2_with fail
      go_ret
      exact ⟨A, c, rfl, HR, HBB.out⟩

theorem tnew (w : World) : Calls Try.prog 12 #[] w fun e w' => ∃ tb S, e = .returned (ptr tb) ∧ Hid (Tab w' tb S 0 (List.replicate 8 none) (List.replicate 8 []) []) ∧ Hid (∀ k, S k → w.heap.size ≤ k) ∧ Below w.heap.size w w' := by
  have hmm := @run_makeMap Try.prog
  go_enter Try.func12, Try.ntmps12
  go_wp2_with fail
  go_ret
  have hb1 := (Below.refl w.heap.size w).alloc (Nat.le_refl _) (.cells #[.pointer none, .pointer none, .pointer none, .pointer none, .pointer none, .pointer none, .pointer none, .pointer none, .slice none 0 0] 92)
  have hw1 := WatchAt.new (Cells.new w (List.replicate 8 (Value.pointer none) ++ [Value.slice none 0 0]) 92)
  have h2 : ∀ (x : World) (o : Obj), Below x.heap.size x (x.alloc o) := fun x o => (Below.refl x.heap.size x).alloc (Nat.le_refl _) o
  have e1 : (w.alloc (.cells (List.replicate 8 (Value.pointer none) ++ [Value.slice none 0 0]).toArray 92)).heap.size = w.heap.size + 1 := by simp
  have hm2 := MapOf.new ks (Value.int .u64) (w.alloc (.cells (List.replicate 8 (Value.pointer none) ++ [Value.slice none 0 0]).toArray 92))
  rw [e1] at hm2
  have e2 : ((w.alloc (.cells (List.replicate 8 (Value.pointer none) ++ [Value.slice none 0 0]).toArray 92)).alloc (.map #[] 0)).heap.size = w.heap.size + 1 + 1 := by simp
  have hc3 := Cells.new ((w.alloc (.cells (List.replicate 8 (Value.pointer none) ++ [Value.slice none 0 0]).toArray 92)).alloc (.map #[] 0)) (ptr w.heap.size :: (List.replicate 8 (.slice none 0 0) ++ [.map (some (w.heap.size + 1))])) 77
  rw [e2] at hc3
  have hrep : ∀ v ∈ List.replicate 8 (Value.slice none 0 0), v = .slice none 0 0 := fun v hv => (List.mem_replicate.1 hv).2
  refine ⟨w.heap.size + 1 + 1, _, rfl, Lib.hid ⟨w.heap.size, w.heap.size + 1, (· = w.heap.size), List.replicate 8 (.slice none 0 0), ⟨hc3, ?_, ?_, by simp, by simp, ?_, ?_, by show ¬ w.heap.size + 1 + 1 = w.heap.size; omega, by show ¬ w.heap.size + 1 = w.heap.size; omega, by omega, ?_⟩, fun k => Iff.rfl⟩, ?_, ?_⟩
  · exact (hw1.kept (Chg.of_below (F := fun _ => False) (h2 _ _)) (fun _ _ f => f)).kept (Chg.of_below (F := fun _ => False) (h2 _ _)) (fun _ _ f => f)
  · exact hm2.kept (Chg.of_below (F := fun _ => False) (h2 _ _)) (fun f => f)
  · intro i v hv
    rw [hrep v (List.mem_of_getElem? hv)]
    have : (List.replicate 8 ([] : List W3)).getD i [] = [] := by
      rw [List.getD_eq_getElem?_getD, List.getElem?_replicate]; split <;> rfl
    rw [this]
    exact SetV.nil _
  · intro i
    have : (List.replicate 8 ([] : List W3)).getD i [] = [] := by
      rw [List.getD_eq_getElem?_getD, List.getElem?_replicate]; split <;> rfl
    rw [this]
    exact ⟨Rs.nil, by simp⟩
  · intro v hv b hb
    rw [hrep v hv] at hb
    simp [Value.ownBlock] at hb
  · refine Lib.hid fun k hk => ?_
    rcases hk with h | h | h | ⟨v, hv, hb⟩
    · omega
    · omega
    · omega
    · rw [hrep v hv] at hb
      simp [Value.ownBlock] at hb
  · exact (hb1.alloc (by simp) _).alloc (by simp; omega) _
end
end Go.Proofs.Ytfbldpppjnnblaa.Tab
