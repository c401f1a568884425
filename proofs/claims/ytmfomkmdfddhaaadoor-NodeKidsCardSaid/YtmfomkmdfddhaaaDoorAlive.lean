/- Layer 9's law package: alive. -/
import Derived.Test.YtmfomkmdfddhaaaDoorKid
import Derived.Laws.BytesArg
namespace Go.Proofs.YtmfomkmdfddhaaaDoor.Alive
open Go.RowKit Go.Proofs.YtmfomkmdfddhaaaDoor.Mem Go.Proofs.YtmfomkmdfddhaaaDoor.Read Go.Proofs.YtmfomkmdfddhaaaDoor.Out Go.Proofs.YtmfomkmdfddhaaaDoor.Nib Go.Proofs.YtmfomkmdfddhaaaDoor.Node Go.Proofs.YtmfomkmdfddhaaaDoor.Slc Go.Proofs.YtmfomkmdfddhaaaDoor.Res Go.Proofs.YtmfomkmdfddhaaaDoor.Dec Go.Proofs.YtmfomkmdfddhaaaDoor.Kid

def n7 : ND := { ND.nil with val := 7 }
theorem n7_right : RightP n7 := ⟨rfl, rfl, by simp [n7, ND.nil], fun i hi => absurd hi (by simp [n7, ND.nil])⟩
theorem n7_at (w : World) : n7.At w := ⟨ints_nil _ _, ints_nil _ _, ints_nil _ _, rfl⟩

def L0 : List Int := [257, 354, 0, 33, 99, 0, 0, 0]
def L1 : List Int := [1, 0, 7, 0, 0, 0, 0, 0]
def N0 : ND := { ND.nil with pre := [6, 1], lab := [2], kid := [99], n3 := 1 }

theorem dec0 {N : ND} {r : Bool} (h : DecR L0 (candS L0) N r) : r = true ∧ RightP N ∧ N.pre = [6, 1] ∧ N.lab = [2] ∧ N.kid = [99] := by
  have hc : candS L0 = ([6, 1], 0, [2], [99]) := by decide
  rw [hc] at h
  rcases h with ⟨rfl, hr, _, hs⟩ | ⟨_, _, hno⟩
  · unfold ND.same at hs
    simp only [Prod.mk.injEq] at hs
    exact ⟨rfl, hr, hs.1, hs.2.2.1, hs.2.2.2⟩
  · refine absurd ⟨?_, ?_⟩ (hno N0 rfl rfl)
    · refine ⟨by decide, rfl, by decide, fun i hi => ?_⟩
      have : i = 0 := by simp [N0] at hi; omega
      subst this
      exact ⟨by decide, fun h => absurd h (by decide)⟩
    · decide

theorem same_words (A B : Option Addr) (n m c d : Nat) (xs ys : List Int) (w : World) (h : Ints w .u64 A n xs) (k : Ints w .u64 B m ys) (b : Bool) (hb : b = true ↔ xs = ys) :
    Calls Tryd.prog 15 #[.slice A n c, .slice B m d] w fun e w' => e = .returned (.bool b) ∧ Below w.heap.size w w' := by
  have hl := h.1
  have hl2 := k.1
  have hmax := h.2.1
  simp only [maxLen] at hmax
  have HX := Lib.hid h
  have HK := Lib.hid k
  have HB := Lib.hid hb
  clear h k hb
  by_cases hnm : n = m
  · subst hnm
    have hne : ((n : Int) != (n : Int)) = false := by simp
    go_enter Tryd.func15, Tryd.ntmps15
    go_wp2_with fail
    go_loopw [5] (fun v wr => ∃ i : Nat, i ≤ n ∧ v = .int .i64 i ∧ Hid (∀ j, j < i → xs.getD j 0 = ys.getD j 0) ∧ Hid (Below w.heap.size w wr)) (fun v _ => n - (intOf v).toNat)
    case atStart => exact ⟨0, by omega, rfl, Lib.hid (fun j hj => absurd hj (by omega)), Lib.hid (Below.refl _ _)⟩
    case round =>
      obtain ⟨i, hi, rfl, HI, HW⟩ := hrel
      by_cases hin : i < n
      · obtain ⟨b1, o1, rfl, _, hc⟩ := (HX.out.kept HW.out).2.2.2 (by omega)
        obtain ⟨b2, o2, rfl, _, hd⟩ := (HK.out.kept HW.out).2.2.2 (by omega)
        have hc0 := hc i hin
        have hd0 := hd i hin
        obtain ⟨x, hx⟩ : ∃ x, x = xs.getD i 0 := ⟨_, rfl⟩
        obtain ⟨y, hy⟩ : ∃ y, y = ys.getD i 0 := ⟨_, rfl⟩
        rw [← hx] at hc0
        rw [← hy] at hd0
        have HXX := Lib.hid hx
        have HYY := Lib.hid hy
        clear hc hd hx hy
        by_cases he : x = y
        · have heb : (x != y) = false := by simpa using he
          have hs : ∀ j, j < i + 1 → xs.getD j 0 = ys.getD j 0 := by
            intro j hj
            rcases Nat.lt_succ_iff_lt_or_eq.1 hj with hj | rfl
            · exact HI.out j hj
            · rw [← HXX.out, ← HYY.out, he]
          have HS := Lib.hid hs
          clear hs he
          go_wp2_with fail
          go_quiet (fail)
          go_wp2_with fail
          go_roundw
          case rel => exact ⟨i + 1, by omega, by go_num, HS, Lib.hid (below_drewN HW.out _)⟩
          case measure => simp [intOf]; omega
        · have heb : (x != y) = true := by simpa using he
          have HF : Hid (b = false) := Lib.hid (by
            cases hb : b with
            | false => rfl
            | true => exact absurd (by rw [HXX.out, HYY.out, HB.out.1 hb]) he)
          clear he
          go_wp2_with fail
          go_quiet (fail)
          go_wp2_with fail
          go_ret
          exact ⟨by rw [HF.out]; rfl, below_drewN HW.out _⟩
      · have HF : Hid (b = true) := Lib.hid (HB.out.2 (eq_of_getD (by omega) (fun j hj => HI.out j (by omega))))
        go_wp2_with fail
        go_ret
        exact ⟨by rw [HF.out]; rfl, HW.out⟩
  · have hne : ((n : Int) != (m : Int)) = true := by simp; omega
    have HF : Hid (b = false) := Lib.hid (by cases hb : b with | false => rfl | true => exact absurd (congrArg List.length (HB.out.1 hb)) (by omega))
    go_enter Tryd.func15, Tryd.ntmps15
    go_wp2_with fail
    go_ret
    exact ⟨by rw [HF.out]; rfl, Below.refl _ _⟩

theorem conv_ints {A : Option Addr} {n c : Nat} {xs : List Int} {w : World} (h : Ints w .u8 A n xs) : (convert 22 9 (.slice A n c)).run Tryd.prog w = .ok (.string (strOfNums xs)) w := by
  rcases Nat.eq_zero_or_pos n with rfl | h0
  · have hx : xs = [] := List.eq_nil_of_length_eq_zero h.1
    subst hx
    rw [run_convert_bytes_string w 22 9 5 _ 0 c Tryd.underlying22 Tryd.underlying5 Tryd.underlying9]
    cases A <;> simp [Conv.bytesToString, loadCells]
    all_goals rfl
  · obtain ⟨b, off, rfl, _, hc⟩ := h.2.2.2 h0
    exact run_convert_bytes_arg (P := Tryd.prog) w 22 5 Tryd.underlying22 Tryd.underlying5 b off n c xs h.1 hc 9 Tryd.underlying9


theorem alive_true (w : World) (hl : LinesAt w) : Calls Tryd.prog 8 #[] w fun e w' => e = .returned (.bool true) ∧ Below w.heap.size w w' := by
  have HL := Lib.hid hl
  clear hl
  go_enter Tryd.func8, Tryd.ntmps8
  go_wp2_with fail
  refine Calls.mono (encode_small n7 w (n7_at w) HL.out n7_right (by decide)) ?_
  rintro e w1 ⟨b1, rfl, HO⟩
  go_wp2_with fail
  have hi0 : Ints (w1.alloc (.cells #[.int .u64 257, .int .u64 354, .int .u64 0, .int .u64 33, .int .u64 99, .int .u64 0, .int .u64 0, .int .u64 0] 23)) .u64 (some ⟨w1.heap.size, 0, none⟩) 8 L0 := by
    have hc := Cells.new w1 (L0.map (.int .u64)) 23
    refine ⟨rfl, by decide, by decide, fun _ => ⟨w1.heap.size, 0, rfl, hc.lt, fun i hi => ?_⟩⟩
    rw [Nat.zero_add]
    have := hc.cell i
    rw [List.getElem?_map, List.getElem?_eq_getElem (show i < L0.length from hi)] at this
    rw [List.getD_eq_getElem?_getD, List.getElem?_eq_getElem (show i < L0.length from hi)]
    exact this
  have HO2 := Lib.hid (HO.out.alloc (.cells #[.int .u64 257, .int .u64 354, .int .u64 0, .int .u64 33, .int .u64 99, .int .u64 0, .int .u64 0, .int .u64 0] 23))
  have HI0 := Lib.hid hi0
  clear hi0 HO
  generalize hW : World.alloc w1 _ = W2 at *
  generalize w1.heap.size = b2 at *
  clear hW
  refine Calls.mono (decode_small (some ⟨b2, 0, none⟩) 8 L0 W2 HI0.out (HL.out.kept HO2.out.below) (by decide) (by decide)) ?_
  rintro e w3 ⟨N, r, rfl, hN, hb3, hD⟩
  obtain ⟨rfl, hr, hpre, hlab, hkid⟩ := dec0 hD
  have HN := Lib.hid hN
  have HR := Lib.hid hr
  have HPR := Lib.hid hpre
  have HLB := Lib.hid hlab
  have HKD := Lib.hid hkid
  have HO3 := Lib.hid (HO2.out.kept hb3)
  clear HO2 HI0 hN hb3 hD hr hpre hlab hkid
  unfold ND.v
  go_wp2_with fail
  have HE := Lib.hid (Env.enter HN.out (HL.out.kept HO3.out.below) HO3.out.below)
  have HO4 := Lib.hid (HO3.out.alloc (.cells #[.slice N.A1 N.n1 N.c1, .int .u64 N.val, .slice N.A2 N.n2 N.c2, .slice N.A3 N.n3 N.c3] 31))
  generalize hW : World.alloc w3 _ = W4 at *
  generalize w3.heap.size = g at *
  have hn2 : N.n2 = 1 := by have := HN.out.lab.1; rw [HLB.out] at this; exact this.symm
  have hn1 : N.n1 = 2 := by have := HN.out.pre.1; rw [HPR.out] at this; exact this.symm
  have hn3 : N.n3 = 1 := by have := HN.out.kid.1; rw [HKD.out] at this; exact this.symm
  have H2 := Lib.hid hn2
  have H1 := Lib.hid hn1
  have H3 := Lib.hid hn3
  clear hW hn2 hn1 hn3 HO3 HN
  refine Calls.mono (kid_yes N 2 0 W4 HE.out.nd HE.out.lines HR.out (by rw [H2.out]; decide) (by rw [HLB.out]; rfl)) ?_
  rintro e w5 ⟨rfl, hb5⟩
  have e1 : N.kid.getD 0 0 = 99 := by rw [HKD.out]; rfl
  have e2 : kidAt N 0 2 = 4 := by unfold kidAt; rw [if_pos (by rw [H3.out]; decide)]; rfl
  rw [e1, e2]
  have HE5 := Lib.hid (HE.out.kept hb5)
  have HO5 := Lib.hid (HO4.out.kept hb5)
  clear e1 e2 HE HO4 hb5
  go_wp2_with fail
  have hi1 : Ints (w5.alloc (.cells #[.int .u64 1, .int .u64 0, .int .u64 7, .int .u64 0, .int .u64 0, .int .u64 0, .int .u64 0, .int .u64 0] 23)) .u64 (some ⟨w5.heap.size, 0, none⟩) 8 L1 := by
    have hc := Cells.new w5 (L1.map (.int .u64)) 23
    refine ⟨rfl, by decide, by decide, fun _ => ⟨w5.heap.size, 0, rfl, hc.lt, fun i hi => ?_⟩⟩
    rw [Nat.zero_add]
    have := hc.cell i
    rw [List.getElem?_map, List.getElem?_eq_getElem (show i < L1.length from hi)] at this
    rw [List.getD_eq_getElem?_getD, List.getElem?_eq_getElem (show i < L1.length from hi)]
    exact this
  have HO6 := Lib.hid (HO5.out.alloc (.cells #[.int .u64 1, .int .u64 0, .int .u64 7, .int .u64 0, .int .u64 0, .int .u64 0, .int .u64 0, .int .u64 0] 23))
  have HE6 := Lib.hid (HE5.out.kept ((Below.refl w5.heap.size w5).alloc (Nat.le_refl _) (.cells #[.int .u64 1, .int .u64 0, .int .u64 7, .int .u64 0, .int .u64 0, .int .u64 0, .int .u64 0, .int .u64 0] 23)))
  have HI1 := Lib.hid hi1
  clear hi1 HO5 HE5
  generalize hW : World.alloc w5 _ = W6 at *
  generalize w5.heap.size = b3 at *
  clear hW
  obtain ⟨A4, c4, e4, hi4⟩ := own_ints HO6.out (by decide) (by decide)
  cases e4
  have HI4 := Lib.hid hi4
  clear hi4 HO6
  refine Calls.mono (same_words (some ⟨b1, 0, none⟩) (some ⟨b3, 0, none⟩) 8 8 8 8 (smallL n7) L1 W6 HI4.out HI1.out true (by decide)) ?_
  rintro e w7 ⟨rfl, hb7⟩
  have HE7 := Lib.hid (HE6.out.kept hb7)
  clear HE6 HI1 HI4 hb7
  have hf0 := HE7.out.cells.cell 0
  have hf1 := HE7.out.cells.cell 1
  have hf2 := HE7.out.cells.cell 2
  have hf3 := HE7.out.cells.cell 3
  simp only [ND.cells, List.getElem?_cons_zero, List.getElem?_cons_succ] at hf0 hf1 hf2 hf3
  have hv1 := conv_ints (c := N.c1) HE7.out.nd.pre
  have hv2 := conv_ints (c := N.c2) HE7.out.nd.lab
  rw [HPR.out] at hv1
  rw [HLB.out] at hv2
  rw [show strOfNums [6, 1] = ⟨#[6, 1]⟩ from rfl] at hv1
  rw [show strOfNums [2] = ⟨#[2]⟩ from rfl] at hv2
  go_wp2_with (refine wpList_load_row rfl 31 _ rfl _ rfl 31 N.cells.toArray (0, 0) _ HE7.out.cells Tryd.underlying31 rfl rfl ?_)
  refine Calls.mono (class_any N w7) ?_
  rintro e w8 ⟨rfl, hb8⟩
  have HE8 := Lib.hid (HE7.out.kept hb8)
  clear HE7 hb8
  rw [if_pos (show N.n3 ≤ 4 by rw [H3.out]; decide)]
  go_wp2_with fail
  refine Calls.mono (words_any 2 32 (.inr ⟨rfl, rfl⟩) w8 HE8.out.lines) ?_
  rintro e w9 ⟨rfl, rfl⟩
  go_wp2_with fail
  go_ret
  exact ⟨rfl, HE8.out.below⟩

/-- A node of the document's, few enough to be asked. -/
def fewB (N : ND) : Bool := decide (N.n1 ≤ 200) && decide (N.n2 ≤ 200) && decide (N.n3 ≤ 200)

theorem few_any (N : ND) (w : World) : Calls Tryd.prog 9 #[N.v] w fun e w' => e = .returned (.bool (fewB N)) ∧ Below w.heap.size w w' := by
  unfold ND.v
  obtain ⟨R, hR⟩ : ∃ R, R = fewB N := ⟨_, rfl⟩
  rw [← hR]
  have HR := Lib.hid hR
  clear hR
  by_cases h1 : N.n1 ≤ 200
  · have b1 : decide ((N.n1 : Int) ≤ 200) = true := decide_eq_true (by omega)
    by_cases h2 : N.n2 ≤ 200
    · have b2 : decide ((N.n2 : Int) ≤ 200) = true := decide_eq_true (by omega)
      by_cases h3 : N.n3 ≤ 200
      · have b3 : decide ((N.n3 : Int) ≤ 200) = true := decide_eq_true (by omega)
        have HF : Hid (R = true) := Lib.hid (by rw [HR.out]; unfold fewB; rw [decide_eq_true h1, decide_eq_true h2, decide_eq_true h3]; rfl)
        go_enter Tryd.func9, Tryd.ntmps9
        go_wp2_with fail
        go_ret
        exact ⟨by rw [HF.out]; rfl, (Below.refl _ _).alloc (Nat.le_refl _) _⟩
      · have b3 : decide ((N.n3 : Int) ≤ 200) = false := decide_eq_false (by omega)
        have HF : Hid (R = false) := Lib.hid (by rw [HR.out]; unfold fewB; rw [decide_eq_true h1, decide_eq_true h2, decide_eq_false h3]; rfl)
        go_enter Tryd.func9, Tryd.ntmps9
        go_wp2_with fail
        go_ret
        exact ⟨by rw [HF.out]; rfl, (Below.refl _ _).alloc (Nat.le_refl _) _⟩
    · have b2 : decide ((N.n2 : Int) ≤ 200) = false := decide_eq_false (by omega)
      have HF : Hid (R = false) := Lib.hid (by rw [HR.out]; unfold fewB; rw [decide_eq_true h1, decide_eq_false h2]; rfl)
      go_enter Tryd.func9, Tryd.ntmps9
      go_wp2_with fail
      go_ret
      exact ⟨by rw [HF.out]; rfl, (Below.refl _ _).alloc (Nat.le_refl _) _⟩
  · have b1 : decide ((N.n1 : Int) ≤ 200) = false := decide_eq_false (by omega)
    have HF : Hid (R = false) := Lib.hid (by rw [HR.out]; unfold fewB; rw [decide_eq_false h1]; rfl)
    go_enter Tryd.func9, Tryd.ntmps9
    go_wp2_with fail
    go_ret
    exact ⟨by rw [HF.out]; rfl, (Below.refl _ _).alloc (Nat.le_refl _) _⟩
end Go.Proofs.YtmfomkmdfddhaaaDoor.Alive
