/- Layer 17's table: Clash. -/
import Derived.Test.YtfbldpppjnnblaaTab4
import Derived.BigQuiet
import Derived.Deep.QuietTactic
import Derived.WalkLawsBesides
namespace Go.Proofs.Ytfbldpppjnnblaa.Tab
open Go.RowKit Go.Proofs.Ytfbldpppjnnblaa.Mem Go.Proofs.Ytfbldpppjnnblaa.Q Go.Proofs.Ytfbldpppjnnblaa.Watch Go.Proofs.Ytfbldpppjnnblaa.Read Go.Proofs.Ytfbldpppjnnblaa.Out Go.Proofs.Ytfbldpppjnnblaa.Copy Go.Proofs.Ytfbldpppjnnblaa.Key Go.Proofs.Ytfbldpppjnnblaa.Set Go.Proofs.Ytfbldpppjnnblaa.Rows3 Go.Proofs.Ytfbldpppjnnblaa.Get15 Go.Proofs.Ytfbldpppjnnblaa.Put15 Go.Proofs.Ytfbldpppjnnblaa.Map
set_option maxRecDepth 100000
set_option maxHeartbeats 1000000

/-- What Clash's inner function knows. -/
structure CS (w : World) (gt gs tb mb : Nat) (x : Int) (m : List (ByteArray × Int)) : Prop where
  box : Cells w gt 26 [ptr tb]
  cat : Cells w gs 23 [.int .u64 x]
  fld : w.cell? ⟨tb, 9, none⟩ = some (.map (some mb))
  notes : MapOf ks (Value.int .u64) w mb m

theorem CS.kept {w w' : World} {gt gs tb mb : Nat} {x : Int} {m : List (ByteArray × Int)} (h : CS w gt gs tb mb x m) (hb : Below w.heap.size w w') : CS w' gt gs tb mb x m :=
  ⟨h.box.kept (Chg.of_below (F := fun _ => False) hb) (fun f => f), h.cat.kept (Chg.of_below (F := fun _ => False) hb) (fun f => f), (Chg.of_below (F := fun _ => False) hb).cell h.fld (fun f => f), h.notes.kept (Chg.of_below (F := fun _ => False) hb) (fun f => f)⟩

/-- Does a key clash? -/
def overK (m : List (ByteArray × Int)) (x : Int) (y : W3) : Bool := decide (x < (Map.get m y.k).getD 0)

theorem clash1 (gt gs tb mb : Nat) (x : Int) (m : List (ByteArray × Int)) (y : W3) (w : World) (h : CS w gt gs tb mb x m) :
    Calls Try.prog 40 #[.agg #[.string y.k, .string y.t, .bool y.g], .pointer (some ⟨gt, 0, none⟩), .pointer (some ⟨gs, 0, none⟩)] w fun e w' => e = .returned (.bool (overK m x y)) ∧ Below w.heap.size w w' := by
  have hba := (Below.refl w.heap.size w).alloc (Nat.le_refl _) (.cells #[.string y.k, .string y.t, .bool y.g] 50)
  have HM := Lib.hid (h.kept hba)
  have HB := Lib.hid hba
  have HX : Hid (Cells (w.alloc (.cells #[.string y.k, .string y.t, .bool y.g] 50)) w.heap.size 50 y.cells) := Lib.hid (Cells.new w y.cells _)
  obtain ⟨r, hr⟩ : ∃ r, r = (Map.get m y.k).getD 0 := ⟨_, rfl⟩
  unfold overK
  rw [← hr]
  have HR := Lib.hid hr
  clear h hba hr
  go_enter Try.func40, Try.ntmps40
  go_upto_region 1 with (fail)
  generalize hW : World.alloc w _ = W2 at *
  generalize w.heap.size = g at HX ⊢
  clear hW
  have h9 := HM.out.fld
  have hg0 := HX.out.cell 0
  have ht0 := HM.out.box.cell 0
  have hs0 := HM.out.cat.cell 0
  simp only [W3.cells, List.getElem?_cons_zero] at hg0 ht0 hs0
  have hlk : ∀ nq, LookIs (W2.drewN nq) mb y.k r := fun nq => by rw [HR.out]; exact looks (w := W2.drewN nq) HM.out.notes y.k
  go_quiet (fail)
  go_wp2_with fail
  go_ret
  exact ⟨rfl, HB.out.trans (Below.mono ⟨rfl, rfl, rfl, Nat.le_refl _, fun _ _ => rfl⟩ HB.out.size)⟩

/-- Clash's inner function, as a value. -/
abbrev clashF (gt gs : Nat) : Value := .func (.func 40) #[] #[.pointer (some ⟨gt, 0, none⟩), .pointer (some ⟨gs, 0, none⟩)]

def overL (m : List (ByteArray × Int)) (x : Int) (l : List W3) : Bool := l.any (overK m x)

theorem index_c (A : Option Addr) (n c : Nat) (a : List W3) (gt gs tb mb : Nat) (x : Int) (m : List (ByteArray × Int)) (w : World) (ha : RowsOf W3.cells 3 w A n a) (hn : n ≤ 100000) (h : CS w gt gs tb mb x m) :
    Calls Try.prog 52 #[.slice A n c, clashF gt gs] w fun e w' => ∃ r : Int, e = .returned (.int .i64 r) ∧ decide (0 ≤ r) = overL m x a ∧ Below w.heap.size w w' := by
  have hl := ha.1
  have HX := Lib.hid ha
  have HM := Lib.hid h
  obtain ⟨R, hR⟩ : ∃ R, R = overL m x a := ⟨_, rfl⟩
  rw [← hR]
  have HRR := Lib.hid hR
  clear ha h hR
  go_enter Try.func52, Try.ntmps52
  go_wp2_with fail
  go_loopw [8] (fun v wr => ∃ i : Nat, i ≤ n ∧ v = .int .i64 i ∧ Hid (∀ j y, j < i → a[j]? = some y → overK m x y = false) ∧ Hid (Below w.heap.size w wr)) (fun v _ => n - (intOf v).toNat)
  case atStart => exact ⟨0, by omega, rfl, Lib.hid (fun j x hj => absurd hj (by omega)), Lib.hid (Below.refl _ _)⟩
  case round =>
    obtain ⟨i, hi, rfl, HI, HW⟩ := hrel
    by_cases hin : i < n
    · obtain ⟨bb, off, rfl⟩ := HX.out.addr (by omega)
      obtain ⟨y, hy⟩ : ∃ y, a[i]? = some y := ⟨a[i]'(by omega), List.getElem?_eq_getElem _⟩
      have hc := (HX.out.kept HW.out).at hy
      have hc0 := hc 0 _ rfl
      have hc1 := hc 1 _ rfl
      have hc2 := hc 2 _ rfl
      simp only [Nat.add_zero] at hc0
      have HYY := Lib.hid hy
      clear hc hy
      go_wp2_with fail
      refine Calls.mono (clash1 gt gs tb mb x m y wr (HM.out.kept HW.out)) ?_
      rintro e w1 ⟨rfl, hb1⟩
      have HW1 := Lib.hid (HW.out.trans (hb1.mono HW.out.size))
      clear hb1
      cases hk : overK m x y with
      | true =>
        have HF : Hid (decide ((0 : Int) ≤ i) = R) := Lib.hid (by
          rw [decide_eq_true (by omega), HRR.out]
          exact (List.any_eq_true.2 ⟨y, List.mem_of_getElem? HYY.out, hk⟩).symm)
        clear hk
        go_wp2_with fail
        go_ret
        exact ⟨_, rfl, HF.out, HW1.out⟩
      | false =>
        have HS : Hid (∀ j z, j < i + 1 → a[j]? = some z → overK m x z = false) := Lib.hid (fun j z hj hz => by
          by_cases e : j = i
          · subst e
            rw [HYY.out] at hz
            cases hz
            exact hk
          · exact HI.out j z (by omega) hz)
        clear hk
        go_wp2_with fail
        go_roundw
        case rel => exact ⟨i + 1, by omega, by go_num, HS, HW1⟩
        case measure => simp [intOf]; omega
    · have HF : Hid (decide ((0 : Int) ≤ -1) = R) := Lib.hid (by
        rw [HRR.out, decide_eq_false (by decide)]
        refine (List.any_eq_false.2 (fun z hz => ?_)).symm
        obtain ⟨j, hj, rfl⟩ := List.getElem_of_mem hz
        simpa using HI.out j _ (by omega) (List.getElem?_eq_getElem hj))
      go_wp2_with fail
      go_ret
      exact ⟨_, rfl, HF.out, HW.out⟩

theorem contains_c (A : Option Addr) (n c : Nat) (a : List W3) (gt gs tb mb : Nat) (x : Int) (m : List (ByteArray × Int)) (w : World) (ha : RowsOf W3.cells 3 w A n a) (hn : n ≤ 100000) (h : CS w gt gs tb mb x m) :
    Calls Try.prog 39 #[.slice A n c, clashF gt gs] w fun e w' => e = .returned (.bool (overL m x a)) ∧ Below w.heap.size w w' := by
  go_enter Try.func39, Try.ntmps39
  go_wp2_with fail
  refine Calls.mono (index_c A n c a gt gs tb mb x m w ha hn h) ?_
  rintro e w1 ⟨r, rfl, hR, hb⟩
  have HR := Lib.hid hR
  have HB := Lib.hid hb
  clear hR hb
  go_wp2_with fail
  go_ret
  exact ⟨by rw [← HR.out]; rfl, HB.out⟩

section
variable {w : World} {tb wb mb N : Nat} {F S : Nat → Prop} {vs : List Value} {st : List (Option Int)} {ss : List (List W3)} {m : List (ByteArray × Int)}

theorem tclash_not (o : Option Addr) (I : Int) (h : ∀ w', Below w.heap.size w w' → Calls Try.prog 27 #[.pointer o, .int .i64 I] w' fun e w2 => e = .returned (.tuple #[.int .u64 0, .bool false]) ∧ w' = w2) :
    Calls Try.prog 19 #[.pointer o, .int .i64 I] w fun e w' => e = .returned (.bool false) ∧ Below w.heap.size w w' := by
  have hba := (Below.refl w.heap.size w).alloc (Nat.le_refl _) (.cells #[.pointer o] 26)
  have H := Lib.hid (h _ hba)
  have HB := Lib.hid hba
  clear h hba
  go_enter Try.func19, Try.ntmps19
  go_wp2_with fail
  generalize hW : World.alloc w _ = W1 at *
  clear hW
  refine Calls.mono H.out ?_
  rintro e w' ⟨rfl, rfl⟩
  go_wp2_with fail
  go_ret
  exact ⟨rfl, HB.out.alloc HB.out.size _⟩

theorem tclash_yes (i : Nat) (y : Int) (h : Tab w tb S N st ss m) (hr : hasB st i = true) (hy : st.getD i none = some y) :
    Calls Try.prog 19 #[ptr tb, .int .i64 i] w fun e w' => e = .returned (.bool (overL m y (ss.getD i []))) ∧ Below w.heap.size w w' := by
  have h8 := hasB_lt hr
  obtain ⟨l, hl⟩ : ∃ l, l = ss.getD i [] := ⟨_, rfl⟩
  rw [← hl]
  have hba := (Below.refl w.heap.size w).alloc (Nat.le_refl _) (.cells #[ptr tb] 26)
  have H := Lib.hid (h.below hba)
  have HB := Lib.hid hba
  have HX : Hid (Cells (w.alloc (.cells #[ptr tb] 26)) w.heap.size 26 [ptr tb]) := Lib.hid (Cells.new w [ptr tb] _)
  have HH := Lib.hid hr
  have HY := Lib.hid hy
  have HL := Lib.hid hl
  clear h hba hr hy hl
  go_enter Try.func19, Try.ntmps19
  go_wp2_with fail
  generalize hW : World.alloc w _ = W1 at *
  generalize w.heap.size = g at HX ⊢
  clear hW
  refine Calls.mono (tat_yes i y H.out HH.out (by rw [Int.toNat_natCast]; exact HY.out)) ?_
  rintro e w' ⟨rfl, rfl⟩
  have hbb := (Below.refl W1.heap.size W1).alloc (Nat.le_refl _) (.cells #[.int .u64 y] 23)
  have H2 := Lib.hid (H.out.below hbb)
  have HB2 := Lib.hid (HB.out.trans (hbb.mono HB.out.size))
  have HX2 := Lib.hid (HX.out.kept (Chg.of_below (F := fun _ => False) hbb) (fun f => f))
  have HY2 : Hid (Cells (W1.alloc (.cells #[.int .u64 y] 23)) W1.heap.size 23 [.int .u64 y]) := Lib.hid (Cells.new W1 [.int .u64 y] _)
  clear H HB HX hbb
  go_upto_region 2 with (fail)
  generalize hW : World.alloc W1 _ = W2 at *
  generalize W1.heap.size = g2 at HY2 ⊢
  clear hW
  obtain ⟨wb, mb, F, vs, hR, _⟩ := H2.out
  have HR := Lib.hid hR
  clear hR
  obtain ⟨v, hv⟩ : ∃ v, vs[i]? = some v := ⟨vs[i]'(by have := HR.out.vlen; omega), List.getElem?_eq_getElem _⟩
  have hcs := HR.out.cellS hv
  obtain ⟨A, n, c, rfl, hnc, hrow, _⟩ := HR.out.sets i v hv
  have hrs := HR.out.rs i
  rw [← HL.out] at hrow hrs
  have hn16 : n ≤ 16 := by have := hrow.1; omega
  have HROW := Lib.hid hrow
  have hg0 := HX2.out.cell 0
  simp only [List.getElem?_cons_zero] at hg0
  have HCS : Hid (CS W2 g g2 tb mb y m) := Lib.hid ⟨HX2.out, HY2.out, HR.out.cell9, HR.out.notes⟩
  clear hv hrow hrs HX2 HY2
  go_wp2_with fail
  refine Calls.mono (contains_c A n c l g g2 tb mb y m W2 HROW.out (by omega) HCS.out) ?_
  rintro e w5 ⟨rfl, hb5⟩
  have HB5 := Lib.hid (HB2.out.trans (hb5.mono HB2.out.size))
  clear hb5
  go_wp2_with fail
  go_ret
  exact ⟨rfl, HB5.out⟩
end
end Go.Proofs.Ytfbldpppjnnblaa.Tab
