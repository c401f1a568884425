/- Layer 15's laws: do keys rise? -/
import Derived.Test.YthbmjhdgflpmgaaRow3
import Derived.BigQuiet
import Derived.WalkLawsBesides
namespace Go.Proofs.Ythbmjhdgflpmgaa.Rise
open Go.RowKit Go.Proofs.Ythbmjhdgflpmgaa.Mem Go.Proofs.Ythbmjhdgflpmgaa.Read Go.Proofs.Ythbmjhdgflpmgaa.Out Go.Proofs.Ythbmjhdgflpmgaa.Copy Go.Proofs.Ythbmjhdgflpmgaa.Key Go.Proofs.Ythbmjhdgflpmgaa.Set Go.Proofs.Ythbmjhdgflpmgaa.Rows3

set_option maxHeartbeats 1000000 in
theorem rise_any (A : Option Addr) (n c : Nat) (l : List P2) (w : World) (h : RowsOf P2.cells 2 w A n l) (hn : n ≤ 100000) (b : Bool) (hb : b = true ↔ Rs P2.k l) :
    Calls Try.prog 10 #[.slice A n c] w fun e w' => e = .returned (.bool b) ∧ Below w.heap.size w w' := by
  have hl := h.1
  have HX := Lib.hid h
  have HB := Lib.hid hb
  clear h hb
  go_enter Try.func10, Try.ntmps10
  go_wp2_with fail
  go_loopw [3] (fun v3 wr => ∃ i : Nat, 1 ≤ i ∧ v3 = .int .i64 i ∧ Hid (∀ j, j + 1 < i → ∀ x y, l[j]? = some x → l[j + 1]? = some y → kl x.k y.k = true) ∧ Hid (Below w.heap.size w wr)) (fun v3 _ => n - (intOf v3).toNat)
  case atStart => exact ⟨1, by omega, rfl, Lib.hid (fun j hj => absurd hj (by omega)), Lib.hid (Below.refl _ _)⟩
  case round =>
    obtain ⟨i, hi1, rfl, HI, HW⟩ := hrel
    by_cases hin : i < n
    · obtain ⟨j, rfl⟩ : ∃ j, i = j + 1 := ⟨i - 1, by omega⟩
      obtain ⟨bb, off, rfl⟩ := HX.out.addr (by omega)
      obtain ⟨x, hx⟩ : ∃ x, l[j]? = some x := ⟨l[j]'(by omega), List.getElem?_eq_getElem _⟩
      obtain ⟨y, hy⟩ : ∃ y, l[j + 1]? = some y := ⟨l[j + 1]'(by omega), List.getElem?_eq_getElem _⟩
      have hc := (HX.out.kept HW.out).at hx
      have hd := (HX.out.kept HW.out).at hy
      have hc0 := hc 0 _ rfl
      have hd0 := hd 0 _ rfl
      simp only [Nat.add_zero] at hc0 hd0
      have hjn : j < n := by omega
      have HXX := Lib.hid hx
      have HYY := Lib.hid hy
      clear hc hd hx hy
      cases hk : Op.bytesLess x.k.toList y.k.toList with
      | true =>
        have hs : ∀ q, q + 1 < j + 1 + 1 → ∀ u v, l[q]? = some u → l[q + 1]? = some v → kl u.k v.k = true := by
          intro q hq u v hu hv
          by_cases e : q = j
          · subst e
            rw [HXX.out] at hu
            rw [HYY.out] at hv
            cases hu
            cases hv
            exact hk
          · exact HI.out q (by omega) u v hu hv
        have HS := Lib.hid hs
        clear hs
        go_wp2_with fail
        go_quiet (fail)
        go_wp2_with fail
        go_roundw
        case rel => exact ⟨j + 1 + 1, by omega, by go_num, HS, Lib.hid (HW.out.trans (Below.mono ⟨rfl, rfl, rfl, Nat.le_refl _, fun _ _ => rfl⟩ HW.out.size))⟩
        case measure => simp [intOf]; omega
      | false =>
        have HF : Hid (b = false) := Lib.hid (by
          cases hq : b with
          | false => rfl
          | true =>
            have := rs_adj.1 (HB.out.1 hq) j x y HXX.out HYY.out
            unfold kl at this
            rw [hk] at this
            cases this)
        go_wp2_with fail
        go_quiet (fail)
        go_wp2_with fail
        go_ret
        exact ⟨by rw [HF.out]; rfl, HW.out.trans (Below.mono ⟨rfl, rfl, rfl, Nat.le_refl _, fun _ _ => rfl⟩ HW.out.size)⟩
    · have HF : Hid (b = true) := Lib.hid (HB.out.2 (rs_adj.2 (fun j x y hx hy => HI.out j (by have := (List.getElem?_eq_some_iff.1 hy).1; omega) x y hx hy)))
      go_wp2_with fail
      go_ret
      exact ⟨by rw [HF.out]; rfl, HW.out⟩
set_option maxHeartbeats 1000000 in
theorem riseR_any (A : Option Addr) (n c : Nat) (l : List W3) (w : World) (h : RowsOf W3.cells 3 w A n l) (hn : n ≤ 100000) (b : Bool) (hb : b = true ↔ Rs W3.k l) :
    Calls Try.prog 12 #[.slice A n c] w fun e w' => e = .returned (.bool b) ∧ Below w.heap.size w w' := by
  have hl := h.1
  have HX := Lib.hid h
  have HB := Lib.hid hb
  clear h hb
  go_enter Try.func12, Try.ntmps12
  go_wp2_with fail
  go_loopw [3] (fun v3 wr => ∃ i : Nat, 1 ≤ i ∧ v3 = .int .i64 i ∧ Hid (∀ j, j + 1 < i → ∀ x y, l[j]? = some x → l[j + 1]? = some y → kl x.k y.k = true) ∧ Hid (Below w.heap.size w wr)) (fun v3 _ => n - (intOf v3).toNat)
  case atStart => exact ⟨1, by omega, rfl, Lib.hid (fun j hj => absurd hj (by omega)), Lib.hid (Below.refl _ _)⟩
  case round =>
    obtain ⟨i, hi1, rfl, HI, HW⟩ := hrel
    by_cases hin : i < n
    · obtain ⟨j, rfl⟩ : ∃ j, i = j + 1 := ⟨i - 1, by omega⟩
      obtain ⟨bb, off, rfl⟩ := HX.out.addr (by omega)
      obtain ⟨x, hx⟩ : ∃ x, l[j]? = some x := ⟨l[j]'(by omega), List.getElem?_eq_getElem _⟩
      obtain ⟨y, hy⟩ : ∃ y, l[j + 1]? = some y := ⟨l[j + 1]'(by omega), List.getElem?_eq_getElem _⟩
      have hc := (HX.out.kept HW.out).at hx
      have hd := (HX.out.kept HW.out).at hy
      have hc0 := hc 0 _ rfl
      have hd0 := hd 0 _ rfl
      simp only [Nat.add_zero] at hc0 hd0
      have hjn : j < n := by omega
      have HXX := Lib.hid hx
      have HYY := Lib.hid hy
      clear hc hd hx hy
      cases hk : Op.bytesLess x.k.toList y.k.toList with
      | true =>
        have hs : ∀ q, q + 1 < j + 1 + 1 → ∀ u v, l[q]? = some u → l[q + 1]? = some v → kl u.k v.k = true := by
          intro q hq u v hu hv
          by_cases e : q = j
          · subst e
            rw [HXX.out] at hu
            rw [HYY.out] at hv
            cases hu
            cases hv
            exact hk
          · exact HI.out q (by omega) u v hu hv
        have HS := Lib.hid hs
        clear hs
        go_wp2_with fail
        go_quiet (fail)
        go_wp2_with fail
        go_roundw
        case rel => exact ⟨j + 1 + 1, by omega, by go_num, HS, Lib.hid (HW.out.trans (Below.mono ⟨rfl, rfl, rfl, Nat.le_refl _, fun _ _ => rfl⟩ HW.out.size))⟩
        case measure => simp [intOf]; omega
      | false =>
        have HF : Hid (b = false) := Lib.hid (by
          cases hq : b with
          | false => rfl
          | true =>
            have := rs_adj.1 (HB.out.1 hq) j x y HXX.out HYY.out
            unfold kl at this
            rw [hk] at this
            cases this)
        go_wp2_with fail
        go_quiet (fail)
        go_wp2_with fail
        go_ret
        exact ⟨by rw [HF.out]; rfl, HW.out.trans (Below.mono ⟨rfl, rfl, rfl, Nat.le_refl _, fun _ _ => rfl⟩ HW.out.size)⟩
    · have HF : Hid (b = true) := Lib.hid (HB.out.2 (rs_adj.2 (fun j x y hx hy => HI.out j (by have := (List.getElem?_eq_some_iff.1 hy).1; omega) x y hx hy)))
      go_wp2_with fail
      go_ret
      exact ⟨by rw [HF.out]; rfl, HW.out⟩
end Go.Proofs.Ythbmjhdgflpmgaa.Rise
