/- Layer 15's wset: the place of a key. -/
import Derived.Test.YtfbldpppjnnblaaRow3
import Derived.BigQuiet
import Derived.WalkLawsBesides
namespace Go.Proofs.Ytfbldpppjnnblaa.At15
set_option maxRecDepth 100000
open Go.RowKit Go.Proofs.Ytfbldpppjnnblaa.Mem Go.Proofs.Ytfbldpppjnnblaa.Read Go.Proofs.Ytfbldpppjnnblaa.Out Go.Proofs.Ytfbldpppjnnblaa.Copy Go.Proofs.Ytfbldpppjnnblaa.Key Go.Proofs.Ytfbldpppjnnblaa.Set Go.Proofs.Ytfbldpppjnnblaa.Rows3

theorem rs_lt {α : Type} {key : α → ByteArray} {l : List α} (h : Rs key l) {i j : Nat} {x y : α} (hx : l[i]? = some x) (hy : l[j]? = some y) (hij : i < j) : kl (key x) (key y) = true := by
  obtain ⟨h1, rfl⟩ := List.getElem?_eq_some_iff.1 hx
  obtain ⟨h2, rfl⟩ := List.getElem?_eq_some_iff.1 hy
  exact List.pairwise_iff_getElem.1 h i j h1 h2 hij

theorem kl_down {a b k : ByteArray} (h : kl a b = true) (hb : kl b k = true) : kl a k = true := kl_trans h hb
theorem kl_up {a b k : ByteArray} (h : kl a b = true) (ha : kl a k = false) : kl b k = false := by
  cases hq : kl b k with
  | false => rfl
  | true => have := kl_trans h hq; rw [ha] at this; cases this

theorem idx_eq {α : Type} {key : α → ByteArray} {l : List α} (h : Rs key l) {k : ByteArray} {i : Nat} (hi : i ≤ l.length) (h1 : ∀ q x, l[q]? = some x → q < i → kl (key x) k = true) (h2 : ∀ q x, l[q]? = some x → i ≤ q → kl (key x) k = false) : i = idx key l k :=
  idx_unique h hi (fun j hj hji => h1 j _ (List.getElem?_eq_getElem hj) hji) (fun j hj hji => h2 j _ (List.getElem?_eq_getElem hj) hji)

/-- The function that compares, as a value. -/
abbrev cmpF : Value := .func (.func 63) #[] #[]

set_option maxHeartbeats 1000000 in
theorem bsf_any (A : Option Addr) (n c : Nat) (l : List W3) (key : ByteArray) (w : World) (h : RowsOf W3.cells 3 w A n l) (hn : n ≤ 100000) (hr : Rs W3.k l) :
    Calls Try.prog 62 #[.slice A n c, .string key, cmpF] w fun e w' => e = .returned (.tuple #[.int .i64 (idx W3.k l key), .bool (lk W3.k l key).isSome]) ∧ Below w.heap.size w w' := by
  have hl := h.1
  have HX := Lib.hid h
  have HR := Lib.hid hr
  obtain ⟨I, hI⟩ : ∃ I, I = idx W3.k l key := ⟨_, rfl⟩
  obtain ⟨B, hB⟩ : ∃ B, B = (lk W3.k l key).isSome := ⟨_, rfl⟩
  rw [← hI, ← hB]
  have HI := Lib.hid hI
  have HB := Lib.hid hB
  clear h hr hI hB
  go_enter Try.func62, Try.ntmps62
  go_wp2_with fail
  go_loopw [9, 10] (fun v9 v10 wr => ∃ i j : Nat, i ≤ j ∧ j ≤ n ∧ v9 = .int .i64 i ∧ v10 = .int .i64 j ∧ Hid (∀ q x, l[q]? = some x → q < i → kl x.k key = true) ∧ Hid (∀ q x, l[q]? = some x → j ≤ q → kl x.k key = false) ∧ Hid (Below w.heap.size w wr)) (fun v9 v10 _ => (intOf v10).toNat - (intOf v9).toNat)
  case atStart => exact ⟨0, n, by omega, by omega, rfl, rfl, Lib.hid (fun q x _ hq => absurd hq (by omega)), Lib.hid (fun q x hx hq => absurd (List.getElem?_eq_some_iff.1 hx).1 (by omega)), Lib.hid (Below.refl _ _)⟩
  case round =>
    obtain ⟨i, j, hij, hjn, rfl, rfl, H1, H2, HW⟩ := hrel
    by_cases hlt : i < j
    · obtain ⟨m, hm⟩ : ∃ m : Nat, ((m : Nat) : Int) = ((i : Int) + j) / 2 := ⟨(i + j) / 2, by omega⟩
      have hm1 : i ≤ m := by omega
      have hm2 : m < j := by omega
      have hmn : m < n := by omega
      obtain ⟨b, off, rfl⟩ := HX.out.addr (by omega)
      obtain ⟨x, hx⟩ : ∃ x, l[m]? = some x := ⟨l[m]'(by omega), List.getElem?_eq_getElem _⟩
      have hc := (HX.out.kept HW.out).at hx
      have hc0 := hc 0 _ rfl
      have hc1 := hc 1 _ rfl
      have hc2 := hc 2 _ rfl
      simp only [Nat.add_zero] at hc0
      have HXX := Lib.hid hx
      have hms := hm.symm
      have hcl := cmpI_lt x.k key
      clear hc hx hm
      cases hk : kl x.k key with
      | true =>
        rw [hk] at hcl
        have HN : Hid (∀ q y, l[q]? = some y → q < m + 1 → kl y.k key = true) := Lib.hid (fun q y hy hq => by
          by_cases e : q = m
          · subst e
            rw [HXX.out] at hy
            cases hy
            exact hk
          · exact kl_trans (rs_lt HR.out hy HXX.out (by omega)) hk)
        clear hk
        go_wp2_with fail
        refine Calls.mono (compare_any x.k x.t key x.g wr) ?_
        rintro e w1 ⟨rfl, hb1⟩
        have HW1 := Lib.hid (HW.out.trans (hb1.mono HW.out.size))
        clear hb1
        go_wp2_with fail
        go_roundw
        case rel => exact ⟨m + 1, j, by omega, hjn, by go_num, rfl, HN, H2, HW1⟩
        case measure => simp [intOf]; omega
      | false =>
        rw [hk] at hcl
        have HN : Hid (∀ q y, l[q]? = some y → m ≤ q → kl y.k key = false) := Lib.hid (fun q y hy hq => by
          by_cases e : q = m
          · subst e
            rw [HXX.out] at hy
            cases hy
            exact hk
          · exact kl_up (rs_lt HR.out HXX.out hy (by omega)) hk)
        clear hk
        go_wp2_with fail
        refine Calls.mono (compare_any x.k x.t key x.g wr) ?_
        rintro e w1 ⟨rfl, hb1⟩
        have HW1 := Lib.hid (HW.out.trans (hb1.mono HW.out.size))
        clear hb1
        go_wp2_with fail
        go_roundw
        case rel => exact ⟨i, m, by omega, by omega, rfl, by go_num, H1, HN, HW1⟩
        case measure => simp [intOf]; omega
    · obtain rfl : i = j := by omega
      have hi : I = i := by rw [HI.out]; exact (idx_eq HR.out (by omega) H1.out H2.out).symm
      subst hi
      by_cases hin : I < n
      · obtain ⟨b, off, rfl⟩ := HX.out.addr (by omega)
        obtain ⟨x, hx⟩ : ∃ x, l[I]? = some x := ⟨l[I]'(by omega), List.getElem?_eq_getElem _⟩
        have hc := (HX.out.kept HW.out).at hx
        have hc0 := hc 0 _ rfl
        have hc1 := hc 1 _ rfl
        have hc2 := hc 2 _ rfl
        simp only [Nat.add_zero] at hc0
        have hce := cmpI_eq x.k key
        have hbv : B = decide (x.k = key) := by
          rw [HB.out, lk_idx HR.out, ← HI.out, hx]
          by_cases e : x.k = key <;> simp [e]
        have HBV := Lib.hid hbv
        clear hc hx hbv
        cases hd : decide (x.k = key) with
        | true =>
          rw [hd] at hce
          have HBT : Hid (B = true) := Lib.hid (by rw [HBV.out]; exact hd)
          clear hd
          go_wp2_with fail
          refine Calls.mono (compare_any x.k x.t key x.g wr) ?_
          rintro e w1 ⟨rfl, hb1⟩
          have HW1 := Lib.hid (HW.out.trans (hb1.mono HW.out.size))
          clear hb1
          go_wp2_with fail
          go_ret2
          exact ⟨by rw [HBT.out]; rfl, HW1.out⟩
        | false =>
          rw [hd] at hce
          have HBT : Hid (B = false) := Lib.hid (by rw [HBV.out]; exact hd)
          clear hd
          go_wp2_with fail
          refine Calls.mono (compare_any x.k x.t key x.g wr) ?_
          rintro e w1 ⟨rfl, hb1⟩
          have HW1 := Lib.hid (HW.out.trans (hb1.mono HW.out.size))
          clear hb1
          go_wp2_with fail
          go_ret2
          exact ⟨by rw [HBT.out]; rfl, HW1.out⟩
      · have HBT : Hid (B = false) := Lib.hid (by rw [HB.out, lk_idx HR.out, ← HI.out, List.getElem?_eq_none (by omega)]; rfl)
        go_wp2_with fail
        go_ret2
        exact ⟨by rw [HBT.out]; rfl, HW.out⟩

theorem at_any (A : Option Addr) (n c : Nat) (l : List W3) (key : ByteArray) (w : World) (h : RowsOf W3.cells 3 w A n l) (hn : n ≤ 100000) (hr : Rs W3.k l) :
    Calls Try.prog 53 #[.slice A n c, .string key] w fun e w' => e = .returned (.tuple #[.int .i64 (idx W3.k l key), .bool (lk W3.k l key).isSome]) ∧ Below w.heap.size w w' := by
  go_enter Try.func53, Try.ntmps53
  go_wp2_with fail
  refine Calls.mono (bsf_any A n c l key w h hn hr) ?_
  rintro e w1 ⟨rfl, hb⟩
  have HB := Lib.hid hb
  clear hb
  go_wp2_with fail
  go_ret2
  exact ⟨rfl, HB.out⟩
end Go.Proofs.Ytfbldpppjnnblaa.At15
