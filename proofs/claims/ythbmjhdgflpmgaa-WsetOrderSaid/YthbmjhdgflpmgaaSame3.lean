/- Layer 15's laws: the very same? -/
import Derived.Test.YthbmjhdgflpmgaaRow3
import Derived.BigQuiet
import Derived.WalkLawsBesides
namespace Go.Proofs.Ythbmjhdgflpmgaa.Same3
open Go.RowKit Go.Proofs.Ythbmjhdgflpmgaa.Mem Go.Proofs.Ythbmjhdgflpmgaa.Read Go.Proofs.Ythbmjhdgflpmgaa.Out Go.Proofs.Ythbmjhdgflpmgaa.Copy Go.Proofs.Ythbmjhdgflpmgaa.Key Go.Proofs.Ythbmjhdgflpmgaa.Set Go.Proofs.Ythbmjhdgflpmgaa.Rows3

set_option maxHeartbeats 1000000 in
theorem samePairs_any (A A2 : Option Addr) (n m c d : Nat) (xs ys : List P2) (w : World) (h : RowsOf P2.cells 2 w A n xs) (k : RowsOf P2.cells 2 w A2 m ys) (hn : n ≤ 100000) (b : Bool) (hb : b = true ↔ xs = ys) :
    Calls Try.prog 17 #[.slice A n c, .slice A2 m d] w fun e w' => e = .returned (.bool b) ∧ Below w.heap.size w w' := by
  have hl := h.1
  have hl2 := k.1
  have HX := Lib.hid h
  have HK := Lib.hid k
  have HB := Lib.hid hb
  clear h k hb
  by_cases hnm : n = m
  · subst hnm
    have hne : ((n : Int) != (n : Int)) = false := by simp
    go_enter Try.func17, Try.ntmps17
    go_wp2_with fail
    go_loopw [5] (fun v wr => ∃ i : Nat, i ≤ n ∧ v = .int .i64 i ∧ Hid (∀ j, j < i → xs[j]? = ys[j]?) ∧ Hid (Below w.heap.size w wr)) (fun v _ => n - (intOf v).toNat)
    case atStart => exact ⟨0, by omega, rfl, Lib.hid (fun j hj => absurd hj (by omega)), Lib.hid (Below.refl _ _)⟩
    case round =>
      obtain ⟨i, hi, rfl, HI, HW⟩ := hrel
      by_cases hin : i < n
      · obtain ⟨b1, o1, rfl⟩ := HX.out.addr (by omega)
        obtain ⟨b2, o2, rfl⟩ := HK.out.addr (by omega)
        obtain ⟨x, hx⟩ : ∃ x, xs[i]? = some x := ⟨xs[i]'(by omega), List.getElem?_eq_getElem _⟩
        obtain ⟨y, hy⟩ : ∃ y, ys[i]? = some y := ⟨ys[i]'(by omega), List.getElem?_eq_getElem _⟩
        have hc := (HX.out.kept HW.out).at hx
        have hd := (HK.out.kept HW.out).at hy
        have hc0 := hc 0 _ rfl
        have hc1 := hc 1 _ rfl
        simp only [Nat.add_zero] at hc0
        have hd0 := hd 0 _ rfl
        have hd1 := hd 1 _ rfl
        simp only [Nat.add_zero] at hd0
        have HXX := Lib.hid hx
        have HYY := Lib.hid hy
        clear hc hd hx hy
        by_cases hxy : x = y
        · subst hxy
          have hs : ∀ j, j < i + 1 → xs[j]? = ys[j]? := by
            intro j hj
            by_cases e : j = i
            · subst e; rw [HXX.out, HYY.out]
            · exact HI.out j (by omega)
          have HS := Lib.hid hs
          clear hs
          go_wp2_with fail
          go_quiet (fail)
          go_wp2_with fail
          go_roundw
          case rel => exact ⟨i + 1, by omega, by go_num, HS, Lib.hid (HW.out.trans (Below.mono ⟨rfl, rfl, rfl, Nat.le_refl _, fun _ _ => rfl⟩ HW.out.size))⟩
          case measure => simp [intOf]; omega
        · have HF : Hid (b = false) := Lib.hid (by
            cases hb : b with
            | false => rfl
            | true =>
              have e := HB.out.1 hb
              subst e
              have e2 := HXX.out.symm.trans HYY.out
              cases e2
              exact absurd rfl hxy)
          have hd := P2.differs hxy
          clear hxy
          rcases hd with h1 | ⟨h1, h2⟩
          all_goals
            go_wp2_with fail
            go_quiet (fail)
            go_wp2_with fail
            go_ret
            exact ⟨by rw [HF.out]; rfl, HW.out.trans (Below.mono ⟨rfl, rfl, rfl, Nat.le_refl _, fun _ _ => rfl⟩ HW.out.size)⟩
      · have HF : Hid (b = true) := Lib.hid (HB.out.2 (List.ext_getElem? (fun j => by
          by_cases hj : j < n
          · exact HI.out j (by omega)
          · rw [List.getElem?_eq_none (by omega), List.getElem?_eq_none (by omega)])))
        go_wp2_with fail
        go_ret
        exact ⟨by rw [HF.out]; rfl, HW.out⟩
  · have hne : ((n : Int) != (m : Int)) = true := by simp; omega
    have HF : Hid (b = false) := Lib.hid (by cases hb : b with | false => rfl | true => exact absurd (congrArg List.length (HB.out.1 hb)) (by omega))
    go_enter Try.func17, Try.ntmps17
    go_wp2_with fail
    go_ret
    exact ⟨by rw [HF.out]; rfl, Below.refl _ _⟩
set_option maxHeartbeats 1000000 in
theorem same_any (A A2 : Option Addr) (n m c d : Nat) (xs ys : List W3) (w : World) (h : RowsOf W3.cells 3 w A n xs) (k : RowsOf W3.cells 3 w A2 m ys) (hn : n ≤ 100000) (b : Bool) (hb : b = true ↔ xs = ys) :
    Calls Try.prog 20 #[.slice A n c, .slice A2 m d] w fun e w' => e = .returned (.bool b) ∧ Below w.heap.size w w' := by
  have hl := h.1
  have hl2 := k.1
  have HX := Lib.hid h
  have HK := Lib.hid k
  have HB := Lib.hid hb
  clear h k hb
  by_cases hnm : n = m
  · subst hnm
    have hne : ((n : Int) != (n : Int)) = false := by simp
    go_enter Try.func20, Try.ntmps20
    go_wp2_with fail
    go_loopw [5] (fun v wr => ∃ i : Nat, i ≤ n ∧ v = .int .i64 i ∧ Hid (∀ j, j < i → xs[j]? = ys[j]?) ∧ Hid (Below w.heap.size w wr)) (fun v _ => n - (intOf v).toNat)
    case atStart => exact ⟨0, by omega, rfl, Lib.hid (fun j hj => absurd hj (by omega)), Lib.hid (Below.refl _ _)⟩
    case round =>
      obtain ⟨i, hi, rfl, HI, HW⟩ := hrel
      by_cases hin : i < n
      · obtain ⟨b1, o1, rfl⟩ := HX.out.addr (by omega)
        obtain ⟨b2, o2, rfl⟩ := HK.out.addr (by omega)
        obtain ⟨x, hx⟩ : ∃ x, xs[i]? = some x := ⟨xs[i]'(by omega), List.getElem?_eq_getElem _⟩
        obtain ⟨y, hy⟩ : ∃ y, ys[i]? = some y := ⟨ys[i]'(by omega), List.getElem?_eq_getElem _⟩
        have hc := (HX.out.kept HW.out).at hx
        have hd := (HK.out.kept HW.out).at hy
        have hc0 := hc 0 _ rfl
        have hc1 := hc 1 _ rfl
        have hc2 := hc 2 _ rfl
        simp only [Nat.add_zero] at hc0
        have hd0 := hd 0 _ rfl
        have hd1 := hd 1 _ rfl
        have hd2 := hd 2 _ rfl
        simp only [Nat.add_zero] at hd0
        have HXX := Lib.hid hx
        have HYY := Lib.hid hy
        clear hc hd hx hy
        by_cases hxy : x = y
        · subst hxy
          have hs : ∀ j, j < i + 1 → xs[j]? = ys[j]? := by
            intro j hj
            by_cases e : j = i
            · subst e; rw [HXX.out, HYY.out]
            · exact HI.out j (by omega)
          have HS := Lib.hid hs
          clear hs
          go_wp2_with fail
          go_quiet (fail)
          go_wp2_with fail
          go_roundw
          case rel => exact ⟨i + 1, by omega, by go_num, HS, Lib.hid (HW.out.trans (Below.mono ⟨rfl, rfl, rfl, Nat.le_refl _, fun _ _ => rfl⟩ HW.out.size))⟩
          case measure => simp [intOf]; omega
        · have HF : Hid (b = false) := Lib.hid (by
            cases hb : b with
            | false => rfl
            | true =>
              have e := HB.out.1 hb
              subst e
              have e2 := HXX.out.symm.trans HYY.out
              cases e2
              exact absurd rfl hxy)
          have hd := W3.differs hxy
          clear hxy
          rcases hd with h1 | ⟨h1, h2⟩ | ⟨h1, h2, h3⟩
          all_goals
            go_wp2_with fail
            go_quiet (fail)
            go_wp2_with fail
            go_ret
            exact ⟨by rw [HF.out]; rfl, HW.out.trans (Below.mono ⟨rfl, rfl, rfl, Nat.le_refl _, fun _ _ => rfl⟩ HW.out.size)⟩
      · have HF : Hid (b = true) := Lib.hid (HB.out.2 (List.ext_getElem? (fun j => by
          by_cases hj : j < n
          · exact HI.out j (by omega)
          · rw [List.getElem?_eq_none (by omega), List.getElem?_eq_none (by omega)])))
        go_wp2_with fail
        go_ret
        exact ⟨by rw [HF.out]; rfl, HW.out⟩
  · have hne : ((n : Int) != (m : Int)) = true := by simp; omega
    have HF : Hid (b = false) := Lib.hid (by cases hb : b with | false => rfl | true => exact absurd (congrArg List.length (HB.out.1 hb)) (by omega))
    go_enter Try.func20, Try.ntmps20
    go_wp2_with fail
    go_ret
    exact ⟨by rw [HF.out]; rfl, Below.refl _ _⟩
end Go.Proofs.Ythbmjhdgflpmgaa.Same3
