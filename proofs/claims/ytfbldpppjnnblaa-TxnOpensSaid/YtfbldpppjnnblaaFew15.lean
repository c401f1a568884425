/- Layer 15's laws: are writes few and short enough to be asked? -/
import Derived.Test.YtfbldpppjnnblaaRow3
import Derived.BigQuiet
namespace Go.Proofs.Ytfbldpppjnnblaa.Few15
open Go.RowKit Go.Proofs.Ytfbldpppjnnblaa.Mem Go.Proofs.Ytfbldpppjnnblaa.Read Go.Proofs.Ytfbldpppjnnblaa.Out Go.Proofs.Ytfbldpppjnnblaa.Copy Go.Proofs.Ytfbldpppjnnblaa.Key Go.Proofs.Ytfbldpppjnnblaa.Set Go.Proofs.Ytfbldpppjnnblaa.Rows3

def shortB (x : W3) : Bool := decide (x.k.size ≤ 100) && decide (x.t.size ≤ 100)
def fewB (l : List W3) : Bool := l.all shortB && decide (l.length ≤ 60)

theorem fewB_len {l : List W3} (h : fewB l = true) : l.length ≤ 60 := by
  unfold fewB at h
  simp only [Bool.and_eq_true, decide_eq_true_eq] at h
  exact h.2

set_option maxHeartbeats 1000000 in
theorem few_any (A : Option Addr) (n c : Nat) (l : List W3) (w : World) (h : RowsOf W3.cells 3 w A n l) :
    Calls Try.prog 31 #[.slice A n c] w fun e w' => e = .returned (.bool (fewB l)) ∧ Below w.heap.size w w' := by
  have hl := h.1
  have hmax := h.2.1
  simp only [maxLen] at hmax
  have HX := Lib.hid h
  obtain ⟨R, hR⟩ : ∃ R, R = fewB l := ⟨_, rfl⟩
  rw [← hR]
  have HR := Lib.hid hR
  clear h hR
  go_enter Try.func31, Try.ntmps31
  go_wp2_with fail
  go_loopw [7] (fun v wr => ∃ i : Nat, i ≤ n ∧ v = .int .i64 i ∧ Hid (∀ j x, j < i → l[j]? = some x → shortB x = true) ∧ Hid (Below w.heap.size w wr)) (fun v _ => n - (intOf v).toNat)
  case atStart => exact ⟨0, by omega, rfl, Lib.hid (fun j x hj => absurd hj (by omega)), Lib.hid (Below.refl _ _)⟩
  case round =>
    obtain ⟨i, hi, rfl, HI, HW⟩ := hrel
    by_cases hin : i < n
    · obtain ⟨b, off, rfl⟩ := HX.out.addr (by omega)
      obtain ⟨x, hx⟩ : ∃ x, l[i]? = some x := ⟨l[i]'(by omega), List.getElem?_eq_getElem _⟩
      have hc := (HX.out.kept HW.out).at hx
      have hc0 := hc 0 _ rfl
      have hc1 := hc 1 _ rfl
      have hc2 := hc 2 _ rfl
      simp only [Nat.add_zero] at hc0
      have HXX := Lib.hid hx
      clear hc hx
      have HBA : Hid (Below w.heap.size w (wr.alloc (.cells #[.string x.k, .string x.t, .bool x.g] 38))) := Lib.hid (HW.out.alloc HW.out.size _)
      have no : shortB x = false → R = false := fun hs => by
        rw [HR.out]
        cases hf : fewB l with
        | false => rfl
        | true =>
          unfold fewB at hf
          simp only [Bool.and_eq_true, List.all_eq_true] at hf
          have := hf.1 x (List.mem_of_getElem? HXX.out)
          rw [hs] at this
          cases this
      have NO := Lib.hid no
      clear no
      by_cases h1 : x.k.size ≤ 100
      · have b1 : decide ((100 : Int) < x.k.size) = false := decide_eq_false (by omega)
        by_cases h2 : x.t.size ≤ 100
        · have b2 : decide ((100 : Int) < x.t.size) = false := decide_eq_false (by omega)
          have HS : Hid (∀ j y, j < i + 1 → l[j]? = some y → shortB y = true) := Lib.hid (fun j y hj hy => by
            by_cases e : j = i
            · subst e
              rw [HXX.out] at hy
              cases hy
              simp [shortB, h1, h2]
            · exact HI.out j y (by omega) hy)
          go_wp2_with fail
          go_roundw
          case rel => exact ⟨i + 1, by omega, by go_num, HS, HBA⟩
          case measure => simp [intOf]; omega
        · have b2 : decide ((100 : Int) < x.t.size) = true := decide_eq_true (by omega)
          have HF : Hid (R = false) := Lib.hid (NO.out (by simp [shortB, h2]))
          go_wp2_with fail
          go_ret
          exact ⟨by rw [HF.out]; rfl, HBA.out⟩
      · have b1 : decide ((100 : Int) < x.k.size) = true := decide_eq_true (by omega)
        have HF : Hid (R = false) := Lib.hid (NO.out (by simp [shortB, h1]))
        go_wp2_with fail
        go_ret
        exact ⟨by rw [HF.out]; rfl, HBA.out⟩
    · have hall : l.all shortB = true := List.all_eq_true.2 (fun x hx => by
        obtain ⟨j, hj, rfl⟩ := List.getElem_of_mem hx
        exact HI.out j _ (by omega) (List.getElem?_eq_getElem hj))
      by_cases h60 : n ≤ 60
      · have b6 : decide ((n : Int) ≤ 60) = true := decide_eq_true (by omega)
        have HF : Hid (R = true) := Lib.hid (by rw [HR.out]; simp [fewB, hall, hl, h60])
        clear hall
        go_wp2_with fail
        go_ret
        exact ⟨by rw [HF.out]; rfl, HW.out⟩
      · have b6 : decide ((n : Int) ≤ 60) = false := decide_eq_false (by omega)
        have HF : Hid (R = false) := Lib.hid (by rw [HR.out]; simp [fewB, hl, h60])
        clear hall
        go_wp2_with fail
        go_ret
        exact ⟨by rw [HF.out]; rfl, HW.out⟩
end Go.Proofs.Ytfbldpppjnnblaa.Few15
