/- Layer 15's wset: Meet. -/
import Derived.Test.YtfbldpppjnnblaaGet15
namespace Go.Proofs.Ytfbldpppjnnblaa.Meet15
open Go.RowKit Go.Proofs.Ytfbldpppjnnblaa.Mem Go.Proofs.Ytfbldpppjnnblaa.Read Go.Proofs.Ytfbldpppjnnblaa.Out Go.Proofs.Ytfbldpppjnnblaa.Copy Go.Proofs.Ytfbldpppjnnblaa.Key Go.Proofs.Ytfbldpppjnnblaa.Set Go.Proofs.Ytfbldpppjnnblaa.Rows3 Go.Proofs.Ytfbldpppjnnblaa.At15 Go.Proofs.Ytfbldpppjnnblaa.Res Go.Proofs.Ytfbldpppjnnblaa.Get15

/-- The set that Meet's inner function knows, in block g. -/
structure MS (w : World) (g : Nat) (B : Option Addr) (m d : Nat) (b : List W3) : Prop where
  box : Cells w g 52 [.slice B m d]
  rows : RowsOf W3.cells 3 w B m b

theorem MS.kept {w w' : World} {g : Nat} {B : Option Addr} {m d : Nat} {b : List W3} (h : MS w g B m d b) (hb : Below w.heap.size w w') : MS w' g B m d b :=
  ⟨h.box.kept (Chg.of_below (F := fun _ => False) hb) (fun f => f), h.rows.kept hb⟩

theorem meet1 (g : Nat) (B : Option Addr) (m d : Nat) (b : List W3) (x : W3) (w : World) (h : MS w g B m d b) (hm : m ≤ 100000) (hr : Rs W3.k b) :
    Calls Try.prog 48 #[.agg #[.string x.k, .string x.t, .bool x.g], .pointer (some ⟨g, 0, none⟩)] w fun e w' => e = .returned (.bool (lk W3.k b x.k).isSome) ∧ Below w.heap.size w w' := by
  have HM := Lib.hid (h.kept ((Below.refl w.heap.size w).alloc (Nat.le_refl _) (.cells #[.string x.k, .string x.t, .bool x.g] 50)))
  have hg0 := HM.out.box.cell 0
  simp only [List.getElem?_cons_zero] at hg0
  have hgz := h.box.lt
  have hb0 := h.box.cell 0
  simp only [List.getElem?_cons_zero] at hb0
  clear h
  go_enter Try.func48, Try.ntmps48
  go_wp2_with fail
  refine Calls.mono (get_any B m d b x.k _ HM.out.rows hm hr) ?_
  rintro e w1 ⟨rfl, hb1⟩
  have HB1 : Hid (Below w.heap.size w w1) := Lib.hid (((Below.refl w.heap.size w).alloc (Nat.le_refl _) _).trans (hb1.mono (by simp)))
  clear hb1
  go_wp2_with fail
  go_ret
  exact ⟨rfl, HB1.out.alloc HB1.out.size _⟩

/-- Meet's inner function, as a value. -/
abbrev meetF (g : Nat) : Value := .func (.func 48) #[] #[.pointer (some ⟨g, 0, none⟩)]

def meetB (a b : List W3) : Bool := a.any fun x => (lk W3.k b x.k).isSome

set_option maxHeartbeats 1000000 in
theorem index_m (A : Option Addr) (n c : Nat) (a : List W3) (g : Nat) (B : Option Addr) (m d : Nat) (b : List W3) (w : World) (ha : RowsOf W3.cells 3 w A n a) (hn : n ≤ 100000) (h : MS w g B m d b) (hm : m ≤ 100000) (hr : Rs W3.k b) :
    Calls Try.prog 52 #[.slice A n c, meetF g] w fun e w' => ∃ r : Int, e = .returned (.int .i64 r) ∧ decide (0 ≤ r) = meetB a b ∧ Below w.heap.size w w' := by
  have hl := ha.1
  have HX := Lib.hid ha
  have HM := Lib.hid h
  have HR := Lib.hid hr
  obtain ⟨R, hR⟩ : ∃ R, R = meetB a b := ⟨_, rfl⟩
  rw [← hR]
  have HRR := Lib.hid hR
  clear ha h hr hR
  go_enter Try.func52, Try.ntmps52
  go_wp2_with fail
  go_loopw [8] (fun v wr => ∃ i : Nat, i ≤ n ∧ v = .int .i64 i ∧ Hid (∀ j x, j < i → a[j]? = some x → (lk W3.k b x.k).isSome = false) ∧ Hid (Below w.heap.size w wr)) (fun v _ => n - (intOf v).toNat)
  case atStart => exact ⟨0, by omega, rfl, Lib.hid (fun j x hj => absurd hj (by omega)), Lib.hid (Below.refl _ _)⟩
  case round =>
    obtain ⟨i, hi, rfl, HI, HW⟩ := hrel
    by_cases hin : i < n
    · obtain ⟨bb, off, rfl⟩ := HX.out.addr (by omega)
      obtain ⟨x, hx⟩ : ∃ x, a[i]? = some x := ⟨a[i]'(by omega), List.getElem?_eq_getElem _⟩
      have hc := (HX.out.kept HW.out).at hx
      have hc0 := hc 0 _ rfl
      have hc1 := hc 1 _ rfl
      have hc2 := hc 2 _ rfl
      simp only [Nat.add_zero] at hc0
      have HXX := Lib.hid hx
      clear hc hx
      go_wp2_with fail
      refine Calls.mono (meet1 g B m d b x wr (HM.out.kept HW.out) hm HR.out) ?_
      rintro e w1 ⟨rfl, hb1⟩
      have HW1 := Lib.hid (HW.out.trans (hb1.mono HW.out.size))
      clear hb1
      cases hk : (lk W3.k b x.k).isSome with
      | true =>
        have HF : Hid (decide ((0 : Int) ≤ i) = R) := Lib.hid (by
          rw [decide_eq_true (by omega), HRR.out]
          exact (List.any_eq_true.2 ⟨x, List.mem_of_getElem? HXX.out, hk⟩).symm)
        clear hk
        go_wp2_with fail
        go_ret
        exact ⟨_, rfl, HF.out, HW1.out⟩
      | false =>
        have HS : Hid (∀ j y, j < i + 1 → a[j]? = some y → (lk W3.k b y.k).isSome = false) := Lib.hid (fun j y hj hy => by
          by_cases e : j = i
          · subst e
            rw [HXX.out] at hy
            cases hy
            exact hk
          · exact HI.out j y (by omega) hy)
        clear hk
        go_wp2_with fail
        go_roundw
        case rel => exact ⟨i + 1, by omega, by go_num, HS, HW1⟩
        case measure => simp [intOf]; omega
    · have HF : Hid (decide ((0 : Int) ≤ -1) = R) := Lib.hid (by
        rw [HRR.out, decide_eq_false (by decide)]
        refine (List.any_eq_false.2 (fun x hx => ?_)).symm
        obtain ⟨j, hj, rfl⟩ := List.getElem_of_mem hx
        simpa using HI.out j _ (by omega) (List.getElem?_eq_getElem hj))
      go_wp2_with fail
      go_ret
      exact ⟨_, rfl, HF.out, HW.out⟩

theorem contains_m (A : Option Addr) (n c : Nat) (a : List W3) (g : Nat) (B : Option Addr) (m d : Nat) (b : List W3) (w : World) (ha : RowsOf W3.cells 3 w A n a) (hn : n ≤ 100000) (h : MS w g B m d b) (hm : m ≤ 100000) (hr : Rs W3.k b) :
    Calls Try.prog 39 #[.slice A n c, meetF g] w fun e w' => e = .returned (.bool (meetB a b)) ∧ Below w.heap.size w w' := by
  go_enter Try.func39, Try.ntmps39
  go_wp2_with fail
  refine Calls.mono (index_m A n c a g B m d b w ha hn h hm hr) ?_
  rintro e w1 ⟨r, rfl, hR, hb⟩
  have HR := Lib.hid hR
  have HB := Lib.hid hb
  clear hR hb
  go_wp2_with fail
  go_ret
  exact ⟨by rw [← HR.out]; rfl, HB.out⟩

theorem meet_any (A : Option Addr) (n c : Nat) (a : List W3) (B : Option Addr) (m d : Nat) (b : List W3) (w : World) (ha : RowsOf W3.cells 3 w A n a) (hn : n ≤ 100000) (hb : RowsOf W3.cells 3 w B m b) (hm : m ≤ 100000) (hr : Rs W3.k b) :
    Calls Try.prog 33 #[.slice A n c, .slice B m d] w fun e w' => e = .returned (.bool (meetB a b)) ∧ Below w.heap.size w w' := by
  have hb0 := (Below.refl w.heap.size w).alloc (Nat.le_refl _) (.cells #[.slice B m d] 52)
  have HA := Lib.hid (ha.kept hb0)
  have HM : Hid (MS (w.alloc (.cells #[.slice B m d] 52)) w.heap.size B m d b) := Lib.hid ⟨Cells.new w [.slice B m d] _, hb.kept hb0⟩
  have HB := Lib.hid hb0
  clear ha hb hb0
  go_enter Try.func33, Try.ntmps33
  go_wp2_with fail
  generalize hW : World.alloc w _ = W1 at *
  clear hW
  refine Calls.mono (contains_m A n c a w.heap.size B m d b W1 HA.out hn HM.out hm hr) ?_
  rintro e w2 ⟨rfl, hb2⟩
  have HB2 := Lib.hid (HB.out.trans (hb2.mono HB.out.size))
  clear hb2
  go_wp2_with fail
  go_ret
  exact ⟨rfl, HB2.out⟩
end Go.Proofs.Ytfbldpppjnnblaa.Meet15
