/- Layer 17's table: Set, End, Note. -/
import Derived.Test.YtfbldpppjnnblaaTab3
namespace Go.Proofs.Ytfbldpppjnnblaa.Tab
open Go.RowKit Go.Proofs.Ytfbldpppjnnblaa.Mem Go.Proofs.Ytfbldpppjnnblaa.Q Go.Proofs.Ytfbldpppjnnblaa.Watch Go.Proofs.Ytfbldpppjnnblaa.Read Go.Proofs.Ytfbldpppjnnblaa.Out Go.Proofs.Ytfbldpppjnnblaa.Copy Go.Proofs.Ytfbldpppjnnblaa.Key Go.Proofs.Ytfbldpppjnnblaa.Set Go.Proofs.Ytfbldpppjnnblaa.Rows3 Go.Proofs.Ytfbldpppjnnblaa.Get15 Go.Proofs.Ytfbldpppjnnblaa.Put15 Go.Proofs.Ytfbldpppjnnblaa.Map
set_option maxRecDepth 100000
set_option maxHeartbeats 1000000

section
variable {w : World} {tb wb mb N : Nat} {F S : Nat → Prop} {vs : List Value} {st : List (Option Int)} {ss : List (List W3)} {m : List (ByteArray × Int)}

theorem hasB_lt {i : Nat} (hr : hasB st i = true) : i < 8 := by
  unfold hasB at hr
  simp at hr
  omega

theorem tset_bad {p : Value} (I : Int) (h : Bad w p) : Calls Try.prog 28 #[p, .int .i64 I] w fun e w' => e = .returned (.tuple #[.slice none 0 0, .bool false]) ∧ w = w' := by
  have H := Lib.hid h
  clear h
  go_enter Try.func28, Try.ntmps28
  go_wp2_with fail
  refine Calls.mono (tat_bad I H.out) ?_
  rintro e w' ⟨rfl, rfl⟩
  go_wp2_with fail
  go_ret2
  exact ⟨rfl, rfl⟩

theorem tset_no (I : Int) (h : Tab w tb S N st ss m) (hr : hasB st I = false) : Calls Try.prog 28 #[ptr tb, .int .i64 I] w fun e w' => e = .returned (.tuple #[.slice none 0 0, .bool false]) ∧ w = w' := by
  have H := Lib.hid h
  have HH := Lib.hid hr
  clear h hr
  go_enter Try.func28, Try.ntmps28
  go_wp2_with fail
  refine Calls.mono (tat_no I H.out HH.out) ?_
  rintro e w' ⟨rfl, rfl⟩
  go_wp2_with fail
  go_ret2
  exact ⟨rfl, rfl⟩

theorem tset_yes (i : Nat) (y : Int) (h : Tab w tb S N st ss m) (hr : hasB st i = true) (hy : st.getD i none = some y) : Calls Try.prog 28 #[ptr tb, .int .i64 i] w fun e w' => ∃ v n, e = .returned (.tuple #[v, .bool true]) ∧ Hid (Out w w' 50 3 v n ((ss.getD i []).flatMap W3.cells)) ∧ Hid ((ss.getD i []).length = n) := by
  have h8 := hasB_lt hr
  obtain ⟨l, hl⟩ : ∃ l, l = ss.getD i [] := ⟨_, rfl⟩
  rw [← hl]
  have H := Lib.hid h
  have HH := Lib.hid hr
  have HY := Lib.hid hy
  have HL := Lib.hid hl
  clear h hr hy hl
  go_enter Try.func28, Try.ntmps28
  go_wp2_with fail
  refine Calls.mono (tat_yes i y H.out HH.out (by rw [Int.toNat_natCast]; exact HY.out)) ?_
  rintro e w' ⟨rfl, rfl⟩
  obtain ⟨wb, mb, F, vs, hR, _⟩ := H.out
  have HR := Lib.hid hR
  clear hR
  obtain ⟨v, hv⟩ : ∃ v, vs[i]? = some v := ⟨vs[i]'(by have := HR.out.vlen; omega), List.getElem?_eq_getElem _⟩
  have hcs := HR.out.cellS hv
  obtain ⟨A, n, c, rfl, hnc, hrow, _⟩ := HR.out.sets i v hv
  have hrs := HR.out.rs i
  rw [← HL.out] at hrow hrs
  have hn16 : n ≤ 16 := by have := hrow.1; omega
  have HROW := Lib.hid hrow
  clear hv hrow hrs
  go_wp2_with fail
  refine Calls.mono (clone_w A n c l w HROW.out (by omega)) ?_
  rintro e w2 ⟨u, rfl, HO⟩
  have HLN := Lib.hid HROW.out.1
  go_wp2_with fail
  go_ret2
  exact ⟨u, n, rfl, HO, HLN⟩

theorem tend_bad {p : Value} (I : Int) (h : Bad w p) : Calls Try.prog 15 #[p, .int .i64 I] w fun e w' => e = .returned (.int .i64 1) ∧ w = w' := by
  have H := Lib.hid h
  clear h
  go_enter Try.func15, Try.ntmps15
  go_wp2_with fail
  refine Calls.mono H.out ?_
  rintro e w' ⟨rfl, rfl⟩
  go_wp2_with fail
  go_ret
  exact ⟨rfl, rfl⟩

theorem tend_no (I : Int) (h : Tab w tb S N st ss m) (hr : hasB st I = false) : Calls Try.prog 15 #[ptr tb, .int .i64 I] w fun e w' => e = .returned (.int .i64 7) ∧ w = w' := by
  obtain ⟨wb, mb, F, vs, hR, hS⟩ := h
  have H := Lib.hid hR
  have HH := Lib.hid hr
  have h0 := hR.cell0
  clear hR hS hr
  go_enter Try.func15, Try.ntmps15
  go_wp2_with fail
  refine Calls.mono (good_yes H.out) ?_
  rintro e w' ⟨rfl, rfl⟩
  go_wp2_with fail
  refine Calls.mono (Watch.close_no wb F N st I w H.out.watch HH.out) ?_
  rintro e w' ⟨rfl, rfl⟩
  go_wp2_with fail
  go_ret
  exact ⟨rfl, rfl⟩

theorem tend_yes (i : Nat) (h : Tab w tb S N st ss m) (hr : hasB st i = true) : Calls Try.prog 15 #[ptr tb, .int .i64 i] w fun e w' => e = .returned (.int .i64 0) ∧ Hid (Turn w S w' tb N (st.set i none) (ss.set i []) m) := by
  have h8 := hasB_lt hr
  obtain ⟨wb, mb, F, vs, hR, hS⟩ := h
  have H := Lib.hid hR
  have HH := Lib.hid hr
  have HS := Lib.hid hS
  have h0 := hR.cell0
  clear hR hS hr
  go_enter Try.func15, Try.ntmps15
  go_wp2_with fail
  refine Calls.mono (good_yes H.out) ?_
  rintro e w' ⟨rfl, rfl⟩
  go_wp2_with fail
  refine Calls.mono (Watch.close_yes wb F N st i w H.out.watch HH.out) ?_
  rintro e w' ⟨rfl, k4, k6⟩
  rw [Int.toNat_natCast] at k4
  have H2 := Lib.hid (H.out.watched k6 k4 (fun _ hk => .inl hk))
  have HK6 := Lib.hid k6
  have hfz := H2.out.cells.frozen (1 + i)
  obtain ⟨v, hv⟩ : ∃ v, vs[i]? = some v := ⟨vs[i]'(by have := H2.out.vlen; omega), List.getElem?_eq_getElem _⟩
  have hcs := H2.out.cellS hv
  clear h0 k4 k6 hv
  go_wp2_with fail
  have HT := Lib.hid ((H2.out.put h8 (SetV.nil w') Rs.nil (by simp) (fun b hb => by simp [Value.ownBlock] at hb)).turn HS.out (fun _ hk => .inl hk) (fun u hu b hb => by
    rcases List.mem_or_eq_of_mem_set hu with hu | rfl
    · exact .inl hu
    · simp [Value.ownBlock] at hb) (HK6.out.mono (G := fun k => F k ∨ k = tb) (fun _ _ f => .inl f) |>.setCell (fun _ => .inr rfl) _) (fun k hk _ => hk.elim .inl (fun e => .inr (.inl e))))
  go_ret
  exact ⟨rfl, HT⟩

theorem tnote_bad {p : Value} (A : Option Addr) (n c : Nat) (x : Int) (h : Bad w p) : Calls Try.prog 17 #[p, .slice A n c, .int .u64 x] w fun e w' => e = .returned (.tuple #[]) ∧ w = w' := by
  have H := Lib.hid h
  clear h
  go_enter Try.func17, Try.ntmps17
  go_wp2_with fail
  refine Calls.mono H.out ?_
  rintro e w' ⟨rfl, rfl⟩
  go_wp2_with fail
  refine bodyPost_ret (results_none rfl _ _ _) rfl ?_
  exact ⟨rfl, rfl⟩

/-- One key noted. -/
def note1 (m : List (ByteArray × Int)) (x : Int) (y : W3) : List (ByteArray × Int) := Map.put m y.k (if (Map.get m y.k).getD 0 < x then x else (Map.get m y.k).getD 0)
def noteL (m : List (ByteArray × Int)) (l : List W3) (x : Int) : List (ByteArray × Int) := l.foldl (fun m y => note1 m x y) m

theorem noteL_snoc (m : List (ByteArray × Int)) (l : List W3) (x : Int) (y : W3) : noteL m (l ++ [y]) x = note1 (noteL m l x) x y := by simp [noteL]

theorem zero_u64 (w : World) : (zeroValue 23).run Try.prog w = .ok (.int .u64 0) w := by kernel_rfl

abbrev LookIs (w : World) (mb : Nat) (k : ByteArray) (r : Int) : Prop := (Instr.lookup 75 (.map (some mb)) (.string k) false).run Try.prog w = .ok (.int .u64 r) w

theorem looks {mb : Nat} {m : List (ByteArray × Int)} (h : MapOf ks (Value.int .u64) w mb m) (k : ByteArray) : LookIs w mb k ((Map.get m k).getD 0) := by
  have := run_lookup (P := Try.prog) Try.underlying75 Try.underlying9 keyed_string h k (zero_u64 w)
  refine this.trans ?_
  cases Map.get m k <;> rfl

theorem tnote (A : Option Addr) (n c : Nat) (l : List W3) (x : Int) (hrow : RowsOf W3.cells 3 w A n l) (hn : n ≤ 100000) (hlt : ∀ a, A = some a → 0 < n → ¬ S a.block) (h : Tab w tb S N st ss m) : Calls Try.prog 17 #[ptr tb, .slice A n c, .int .u64 x] w fun e w' => e = .returned (.tuple #[]) ∧ Hid (Turn w S w' tb N st ss (noteL m l x)) := by
  have hl := hrow.1
  obtain ⟨wb, mb, F, vs, hR, hS⟩ := h
  have H := Lib.hid hR
  have HS := Lib.hid hS
  have HROW := Lib.hid hrow
  clear hR hS hrow
  go_enter Try.func17, Try.ntmps17
  go_wp2_with fail
  refine Calls.mono (good_yes H.out) ?_
  rintro e w' ⟨rfl, rfl⟩
  go_wp2_with fail
  go_loopw [13] (fun v wr => ∃ i : Nat, i ≤ n ∧ v = .int .i64 i ∧ Hid (TabR wr tb wb mb F vs N st ss (noteL m (l.take i) x)) ∧ Hid (Chg (· = mb) w wr)) (fun v _ => n - (intOf v).toNat)
  case atStart => exact ⟨0, by omega, rfl, H, Lib.hid (Chg.refl _ _)⟩
  case round =>
    obtain ⟨i, hi, rfl, HI, HC⟩ := hrel
    by_cases hin : i < n
    · obtain ⟨bb, off, rfl⟩ := HROW.out.addr (by omega)
      obtain ⟨y, hy⟩ : ∃ y, l[i]? = some y := ⟨l[i]'(by omega), List.getElem?_eq_getElem _⟩
      have hc : ∀ j v, y.cells[j]? = some v → wr.cell? ⟨bb, off + i * 3 + j, none⟩ = some v := fun j v hj => HC.out.cell (HROW.out.at hy j v hj) (fun e => hlt _ rfl (by omega) ((HS.out _).2 (.inr (.inr (.inl e)))))
      have hc0 := hc 0 _ rfl
      have hc1 := hc 1 _ rfl
      have hc2 := hc 2 _ rfl
      simp only [Nat.add_zero] at hc0
      have HYY : Hid (noteL m (l.take (i + 1)) x = note1 (noteL m (l.take i) x) x y) := Lib.hid (by rw [List.take_add_one, hy]; exact noteL_snoc _ _ _ _)
      obtain ⟨M, hM⟩ : ∃ M, M = noteL m (l.take i) x := ⟨_, rfl⟩
      rw [← hM] at HYY HI
      have hba := (Below.refl wr.heap.size wr).alloc (Nat.le_refl _) (.cells #[.string y.k, .string y.t, .bool y.g] 50)
      have HI2 := Lib.hid (HI.out.below hba)
      have HX2 : Hid (Cells (wr.alloc (.cells #[.string y.k, .string y.t, .bool y.g] 50)) wr.heap.size 50 y.cells) := Lib.hid (Cells.new wr y.cells _)
      have HB2 := Lib.hid hba
      clear hc hy hM hba
      go_upto_region 4 with (fail)
      generalize hW : World.alloc wr _ = W2 at *
      generalize wr.heap.size = g at HX2 ⊢
      clear hW
      have h9 := HI2.out.cell9
      have hg0 := HX2.out.cell 0
      simp only [W3.cells, List.getElem?_cons_zero] at hg0
      obtain ⟨r, hr⟩ : ∃ r, r = (Map.get M y.k).getD 0 := ⟨_, rfl⟩
      have hlk : LookIs W2.drew mb y.k r := by rw [hr]; exact looks (w := W2.drew) HI2.out.notes y.k
      clear HX2 hc0 hc1 hc2
      go_still_tail 15, (by kernel_rfl)
      refine wpList_mput (w := W2.drew) rfl _ _ _ 75 rfl 9 23 Try.underlying75 Try.underlying9 keyed_string HI2.out.notes y.k (if (Map.get M y.k).getD 0 < x then x else (Map.get M y.k).getD 0) rfl rfl rfl ?_
      intro w4 HM4 HC4
      have HI4 : Hid (TabR w4 tb wb mb F vs N st ss (noteL m (l.take (i + 1)) x)) := Lib.hid (by rw [HYY.out]; exact HI2.out.noted ((Chg.refl (· = mb) W2).drew.trans HC4.out (fun _ _ h => h)) HM4.out)
      have HC5 : Hid (Chg (· = mb) w w4) := Lib.hid ((HC.out.trans (Chg.of_below (F := fun _ => False) HB2.out) (fun _ _ f => f.elim)).trans ((Chg.refl (· = mb) W2).drew.trans HC4.out (fun _ _ h => h)) (fun _ _ h => h))
      clear HM4 HC4 h9 hg0 hlk hr
      go_wp2_with fail
      go_roundw
      case rel => exact ⟨i + 1, by omega, by go_num, HI4, HC5⟩
      case measure => simp [intOf]; omega
    · obtain rfl : i = n := by omega
      have HT : Hid (Turn w S wr tb N st ss (noteL m l x)) := Lib.hid ((by have := HI.out; rwa [List.take_of_length_le (by omega)] at this : TabR wr tb wb mb F vs N st ss (noteL m l x)).turn HS.out (fun _ hk => .inl hk) (fun v hv _ _ => .inl hv) HC.out (fun k hk _ => .inr (.inr hk)))
      go_wp2_with fail
      go_end0
      exact ⟨rfl, HT⟩
end
end Go.Proofs.Ytfbldpppjnnblaa.Tab
