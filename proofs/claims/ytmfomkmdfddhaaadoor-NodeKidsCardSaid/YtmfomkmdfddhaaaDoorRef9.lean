/- Layer 9's document: Pack, Right, Class, Kid. -/
import Derived.Test.YtmfomkmdfddhaaaDoorTurn9
namespace Go.Proofs.YtmfomkmdfddhaaaDoor.Ref9
open Go.RowKit Go.Proofs.YtmfomkmdfddhaaaDoor.Mem Go.Proofs.YtmfomkmdfddhaaaDoor.Read Go.Proofs.YtmfomkmdfddhaaaDoor.Out Go.Proofs.YtmfomkmdfddhaaaDoor.Nib Go.Proofs.YtmfomkmdfddhaaaDoor.Node Go.Proofs.YtmfomkmdfddhaaaDoor.Slc Go.Proofs.YtmfomkmdfddhaaaDoor.Res Go.Proofs.YtmfomkmdfddhaaaDoor.Dec Go.Proofs.YtmfomkmdfddhaaaDoor.Kid Go.Proofs.YtmfomkmdfddhaaaDoor.Words Go.Proofs.YtmfomkmdfddhaaaDoor.Open9 Go.Proofs.YtmfomkmdfddhaaaDoor.Turn9
set_option maxRecDepth 100000
set_option maxHeartbeats 2000000

/-- What Pack tells: whether these may be packed. -/
def PackP (b : Bool) (w : World) (e : Ending) (w' : World) : Prop := ∃ x : Int, e = .returned (.tuple #[.int .u64 x, .bool b]) ∧ w = w'

theorem rpack_any (A : Option Addr) (n c : Nat) (xs : List Int) (w : World) (h : Ints w .u8 A n xs) :
    Calls Tryd.prog 42 #[.slice A n c] w (PackP (packB xs) w) := by
  have hl := h.1
  have hm := h.2.1
  simp only [maxLen] at hm
  have HX := Lib.hid h
  obtain ⟨b, hb⟩ : ∃ b, b = packB xs := ⟨_, rfl⟩
  rw [← hb]
  have HB := Lib.hid hb
  clear h hb
  by_cases h15 : 15 < n
  · have hb15 : decide ((15 : Int) < n) = true := decide_eq_true (by omega)
    have HF : Hid (b = false) := Lib.hid (by rw [HB.out]; unfold packB; rw [decide_eq_false (by omega)]; rfl)
    go_enter Tryd.func42, Tryd.ntmps42
    go_wp2_with fail
    go_ret2
    exact ⟨0, by first | (rw [HF.out]; done) | (rw [HF.out]; rfl), rfl⟩
  · have hb15 : decide ((15 : Int) < n) = false := decide_eq_false (by omega)
    go_enter Tryd.func42, Tryd.ntmps42
    go_wp2_with fail
    go_loop [4, 5] (fun v4 v5 => ∃ (k : Nat) (a : Int), k ≤ n ∧ v4 = .int .u64 a ∧ v5 = .int .i64 ((k : Int) - 1) ∧ Hid (∀ j, k ≤ j → j < n → xs.getD j 0 < 16)) (fun _ v5 => (intOf v5 + 1).toNat)
    case atStart => exact ⟨n, 0, by omega, rfl, rfl, Lib.hid (fun j h1 h2 => absurd h1 (by omega))⟩
    case round =>
      obtain ⟨k, a, hk, rfl, rfl, HI⟩ := hrel
      rcases Nat.eq_zero_or_pos k with rfl | hk0
      · have HF : Hid (b = true) := Lib.hid (by
          rw [HB.out]
          unfold packB
          rw [decide_eq_true (by omega), Bool.true_and, List.all_eq_true]
          intro y hy
          obtain ⟨j, hj, rfl⟩ := mem_getD hy
          exact decide_eq_true (HI.out j (by omega) (by omega)))
        go_wp2_with fail
        go_ret2
        exact ⟨_, by first | (rw [HF.out]; done) | (rw [HF.out]; rfl), rfl⟩
      · obtain ⟨q, rfl⟩ : ∃ q, k = q + 1 := ⟨k - 1, by omega⟩
        have e1 : ((q + 1 : Nat) : Int) - 1 = (q : Int) := by omega
        rw [e1]
        clear e1
        obtain ⟨b', off, rfl, _, hc⟩ := HX.out.2.2.2 (by omega)
        have hc0 := hc q (by omega)
        obtain ⟨y, hy⟩ : ∃ y, y = xs.getD q 0 := ⟨_, rfl⟩
        rw [← hy] at hc0
        have hyb := wf_u8 (HX.out.2.2.1 y (by rw [hy]; exact getD_mem (by omega)))
        have HY := Lib.hid hy
        clear hc hy
        by_cases h16 : 15 < y
        · have hb16 : decide ((15 : Int) < y) = true := decide_eq_true h16
          have HF : Hid (b = false) := Lib.hid (by
            cases hp : b with
            | false => rfl
            | true =>
              rw [HB.out] at hp
              have := (packB_take hp).2 y (by rw [HY.out]; exact getD_mem (by omega))
              omega)
          go_wp2_with fail
          go_ret2
          exact ⟨0, by first | (rw [HF.out]; done) | (rw [HF.out]; rfl), rfl⟩
        · have hb16 : decide ((15 : Int) < y) = false := decide_eq_false h16
          have HS : Hid (∀ j, q ≤ j → j < n → xs.getD j 0 < 16) := Lib.hid (fun j h1 h2 => by
            by_cases e : j = q
            · subst e; rw [← HY.out]; omega
            · exact HI.out j (by omega) h2)
          go_wp2_with fail
          go_round
          case rel => exact ⟨q, _, by omega, rfl, rfl, HS⟩
          case measure => simp [intOf]

/-- A node of the document's in block g. -/
structure RB (N : ND) (W w : World) (g : Nat) : Prop where
  cells : Cells w g 26 N.cells
  nd : N.At w
  below : Below W.heap.size W w
  ge : W.heap.size ≤ g

theorem RB.kept {N : ND} {W w w' : World} {g : Nat} (h : RB N W w g) (hb : Below w.heap.size w w') : RB N W w' g :=
  ⟨h.cells.kept (Chg.of_below (F := fun _ => False) hb) (fun f => f), h.nd.kept hb, h.below.trans (hb.mono h.below.size), h.ge⟩

theorem RB.N {N : ND} {W w : World} {g : Nat} (h : RB N W w g) (n : Nat) : RB N W (w.drewN n) g := h.kept (below_drewN (Below.refl _ _) n)

theorem RB.enter {N : ND} {w : World} (h : N.At w) : RB N w (w.alloc (.cells #[.slice N.A1 N.n1 N.c1, .int .u64 N.val, .slice N.A2 N.n2 N.c2, .slice N.A3 N.n3 N.c3] 26)) w.heap.size :=
  have hb := (Below.refl w.heap.size w).alloc (Nat.le_refl _) (.cells N.cells.toArray 26)
  ⟨Cells.new w N.cells _, h.kept hb, hb, Nat.le_refl _⟩


theorem rright_any (N : ND) (w : World) (h : N.At w) (b : Bool) (hb : b = true ↔ RightP N) : Calls Tryd.prog 31 #[N.v] w fun e w' => e = .returned (.bool b) ∧ Below w.heap.size w w' := by
  have HB := Lib.hid hb
  have HE := Lib.hid (RB.enter h)
  have hl2 := h.lab.1
  have hl3 := h.kid.1
  have hm2 := h.lab.2.1
  simp only [maxLen] at hm2
  clear hb h
  unfold ND.v
  go_enter Tryd.func31, Tryd.ntmps31
  go_upto_region 1 with (fail)
  generalize hW : World.alloc w _ = W1 at *
  clear hW
  have hf0 := HE.out.cells.cell 0
  have hf1 := HE.out.cells.cell 1
  have hf2 := HE.out.cells.cell 2
  have hf3 := HE.out.cells.cell 3
  simp only [ND.cells, List.getElem?_cons_zero, List.getElem?_cons_succ] at hf0 hf1 hf2 hf3
  go_wp2_with fail
  refine Calls.mono (rpack_any N.A1 N.n1 N.c1 N.pre W1 HE.out.nd.pre) ?_
  rintro e w1 ⟨q, rfl, rfl⟩
  cases hp : packB N.pre with
  | false =>
    have HF : Hid (b = false) := Lib.hid (by
      cases hq : b with
      | false => rfl
      | true => exact absurd (HB.out.1 hq) (fun h => by rw [h.1] at hp; cases hp))
    clear hp
    go_wp2_with fail
    go_ret
    exact ⟨by rw [HF.out]; rfl, HE.out.below⟩
  | true =>
    have HP := Lib.hid hp
    clear hp
    by_cases hll : N.n2 = N.n3
    · have hlb : ((N.n2 : Int) != (N.n3 : Int)) = false := by simp [hll]
      have HLL := Lib.hid hll
      clear hll
      go_wp2_with fail
      clear hf0 hf1 hf2 hf3
      go_loopw [5] (fun v wr => ∃ i : Nat, i ≤ N.n2 ∧ v = .int .i64 i ∧ Hid (RB N w wr w.heap.size) ∧ Hid (∀ j, j < i → N.lab.getD j 0 < 16 ∧ N.kid.getD j 0 ≠ 0 ∧ (0 < j → N.lab.getD (j - 1) 0 < N.lab.getD j 0))) (fun v _ => N.n2 - (intOf v).toNat)
      case atStart => exact ⟨0, by omega, rfl, HE, Lib.hid (fun j hj => absurd hj (by omega))⟩
      case round =>
        clear HE
        obtain ⟨i, hi, rfl, HE, HI⟩ := hrel
        have hf0 := HE.out.cells.cell 0
        have hf1 := HE.out.cells.cell 1
        have hf2 := HE.out.cells.cell 2
        have hf3 := HE.out.cells.cell 3
        simp only [ND.cells, List.getElem?_cons_zero, List.getElem?_cons_succ] at hf0 hf1 hf2 hf3
        by_cases hin : i < N.n2
        · have hin3 : i < N.n3 := by have := HLL.out; omega
          obtain ⟨b2, o2, hA2, _, hc2⟩ := HE.out.nd.lab.2.2.2 (by omega)
          obtain ⟨b3, o3, hA3, _, hc3⟩ := HE.out.nd.kid.2.2.2 (by omega)
          have hcy := hc2 i hin
          have hck := hc3 i hin3
          obtain ⟨y, hy⟩ : ∃ y, y = N.lab.getD i 0 := ⟨_, rfl⟩
          obtain ⟨k, hk⟩ : ∃ k, k = N.kid.getD i 0 := ⟨_, rfl⟩
          rw [← hy] at hcy
          rw [← hk] at hck
          rw [hA2] at hf2
          rw [hA3] at hf3
          have HY := Lib.hid hy
          have HK := Lib.hid hk
          have HC2 := Lib.hid hc2
          clear hy hk hA2 hA3 hc2 hc3
          by_cases hy15 : 15 < y
          · have hb1 : decide ((15 : Int) < y) = true := decide_eq_true hy15
            have HF : Hid (b = false) := Lib.hid (by
              cases hq : b with
              | false => rfl
              | true => exact absurd (HB.out.1 hq) (fun h => by have := (h.2.2.2 i (by omega)).1; rw [← HY.out] at this; omega))
            go_wp2_with fail
            go_quiet (fail)
            go_wp2_with fail
            go_ret
            exact ⟨by rw [HF.out]; rfl, (HE.out.N _).below⟩
          · have hb1 : decide ((15 : Int) < y) = false := decide_eq_false hy15
            by_cases hk0 : k = 0
            · have hb2 : (k == 0) = true := by simpa using hk0
              have HK0 := Lib.hid hk0
              clear hk0
              have HF : Hid (b = false) := Lib.hid (by
                cases hq : b with
                | false => rfl
                | true => exact absurd (HB.out.1 hq) (fun h => h.2.2.1 (by rw [← HK0.out, HK.out]; exact getD_mem (by omega))))
              go_wp2_with fail
              go_quiet (fail)
              go_wp2_with fail
              go_ret
              exact ⟨by rw [HF.out]; rfl, (HE.out.N _).below⟩
            · have hb2 : (k == 0) = false := by simpa using hk0
              have HK0 := Lib.hid hk0
              clear hk0
              rcases Nat.eq_zero_or_pos i with rfl | hi0
              · have hb3 : decide ((0 : Int) < 0) = false := rfl
                rw [Nat.add_zero] at hcy hck
                have HS : Hid (∀ j, j < 0 + 1 → N.lab.getD j 0 < 16 ∧ N.kid.getD j 0 ≠ 0 ∧ (0 < j → N.lab.getD (j - 1) 0 < N.lab.getD j 0)) := Lib.hid (fun j hj => by
                  obtain rfl : j = 0 := by omega
                  exact ⟨by rw [← HY.out]; omega, by rw [← HK.out]; exact HK0.out, fun h => absurd h (by omega)⟩)
                go_wp2_with fail
                go_quiet (fail)
                go_wp2_with fail
                go_roundw
                case rel => exact ⟨0 + 1, by omega, by go_num, Lib.hid (HE.out.N _), HS⟩
                case measure => simp [intOf]; omega
              · obtain ⟨j, rfl⟩ : ∃ j, i = j + 1 := ⟨i - 1, by omega⟩
                have hcz := HC2.out j (by omega)
                obtain ⟨z, hz⟩ : ∃ z, z = N.lab.getD j 0 := ⟨_, rfl⟩
                rw [← hz] at hcz
                have HZ := Lib.hid hz
                clear hz
                have hb3 : decide ((0 : Int) < (j : Int) + 1) = true := decide_eq_true (by omega)
                have hw1 : IntKind.i64.wrap ((j : Int) + 1 - 1) = (j : Int) := by rw [IntKind.wrap_i64]; omega
                have hw2 : (j : Int) + 1 - 1 = (j : Int) := by omega
                have hw3 : (0 : Int) ≤ (j : Int) + 1 := by omega
                have hw4 : ((j : Int) + 1).toNat = j + 1 := by omega
                have hw5 : (j : Int) + 1 < (N.n2 : Int) := by omega
                have hw6 : (j : Int) + 1 < (N.n3 : Int) := by omega
                have hw7 : (j : Int) < (N.n2 : Int) := by omega
                by_cases hzy : z < y
                · have hb4 : decide (y ≤ z) = false := decide_eq_false (by omega)
                  have HS : Hid (∀ q, q < j + 1 + 1 → N.lab.getD q 0 < 16 ∧ N.kid.getD q 0 ≠ 0 ∧ (0 < q → N.lab.getD (q - 1) 0 < N.lab.getD q 0)) := Lib.hid (fun q hq => by
                    by_cases e : q = j + 1
                    · subst e
                      exact ⟨by rw [← HY.out]; omega, by rw [← HK.out]; exact HK0.out, fun _ => by rw [Nat.add_sub_cancel, ← HY.out, ← HZ.out]; exact hzy⟩
                    · exact HI.out q (by omega))
                  go_wp2_with fail
                  go_quiet (fail)
                  go_wp2_with fail
                  go_roundw
                  case rel => exact ⟨j + 1 + 1, by omega, by go_num, Lib.hid (HE.out.N _), HS⟩
                  case measure => simp [intOf]; omega
                · have hb4 : decide (y ≤ z) = true := decide_eq_true (by omega)
                  have HF : Hid (b = false) := Lib.hid (by
                    cases hq : b with
                    | false => rfl
                    | true => exact absurd (HB.out.1 hq) (fun h => by have := (h.2.2.2 (j + 1) (by omega)).2 (by omega); rw [Nat.add_sub_cancel, ← HY.out, ← HZ.out] at this; omega))
                  go_wp2_with fail
                  go_quiet (fail)
                  go_wp2_with fail
                  go_ret
                  exact ⟨by rw [HF.out]; rfl, (HE.out.N _).below⟩
        · have HF : Hid (b = true) := Lib.hid (HB.out.2 ⟨HP.out, by have := HLL.out; omega, fun h => by
            obtain ⟨j, hj, e⟩ := mem_getD h
            exact (HI.out j (by have := HLL.out; omega)).2.1 e, fun j hj => ⟨(HI.out j (by omega)).1, (HI.out j (by omega)).2.2⟩⟩)
          go_wp2_with fail
          go_ret
          exact ⟨by rw [HF.out]; rfl, HE.out.below⟩
    · have hlb : ((N.n2 : Int) != (N.n3 : Int)) = true := by simp; omega
      have HF : Hid (b = false) := Lib.hid (by
        cases hq : b with
        | false => rfl
        | true => exact absurd (HB.out.1 hq) (fun h => by have := h.2.1; omega))
      go_wp2_with fail
      go_ret
      exact ⟨by rw [HF.out]; rfl, HE.out.below⟩

theorem rclass_any (N : ND) (w : World) : Calls Tryd.prog 32 #[N.v] w fun e w' => e = .returned (.int .i64 (if N.n3 ≤ 4 then 1 else 2)) ∧ Below w.heap.size w w' := by
  unfold ND.v
  by_cases h4 : N.n3 ≤ 4
  · have hb : decide ((N.n3 : Int) ≤ 4) = true := decide_eq_true (by omega)
    rw [if_pos h4]
    go_enter Tryd.func32, Tryd.ntmps32
    go_wp2_with fail
    go_ret
    exact ⟨rfl, (Below.refl _ _).alloc (Nat.le_refl _) _⟩
  · have hb : decide ((N.n3 : Int) ≤ 4) = false := decide_eq_false (by omega)
    rw [if_neg h4]
    go_enter Tryd.func32, Tryd.ntmps32
    go_wp2_with fail
    go_ret
    exact ⟨rfl, (Below.refl _ _).alloc (Nat.le_refl _) _⟩

theorem rfind_at (N : ND) (x : Int) (w : World) (h : N.At w) (hr : RightP N) (j : Nat) (hj : j < N.n2) (hx : N.lab.getD j 0 = x) :
    Calls Tryd.prog 23 #[N.v, .int .u8 x] w fun e w' => e = .returned (.int .i64 j) ∧ Below w.heap.size w w' := by
  have hm := h.lab.2.1
  simp only [maxLen] at hm
  have hl := h.lab.1
  have hb1 := (Below.refl w.heap.size w).alloc (Nat.le_refl _) (.cells N.cells.toArray 26)
  have hc1 := Cells.new w N.cells 26
  have HN := Lib.hid (h.kept hb1)
  have HB1 := Lib.hid hb1
  have HC1 := Lib.hid hc1
  have HR := Lib.hid hr
  have HX := Lib.hid hx
  clear h hb1 hc1 hr hx
  simp only [ND.cells] at HN HB1 HC1
  unfold ND.v
  go_enter Tryd.func23, Tryd.ntmps23
  go_wp2_with fail
  generalize hW : World.alloc w _ = W1 at *
  clear hW
  have hf2 := HC1.out.cell 2
  simp only [List.getElem?_cons_zero, List.getElem?_cons_succ] at hf2
  go_loop [5] (fun v => ∃ i : Nat, i ≤ j ∧ v = .int .i64 i) (fun v => N.n2 - (intOf v).toNat)
  case atStart => exact ⟨0, by omega, rfl⟩
  case round =>
    obtain ⟨i, hi, rfl⟩ := hrel
    have hin : i < N.n2 := by omega
    obtain ⟨b', off, hA, _, hc⟩ := HN.out.lab.2.2.2 (by omega)
    have hc0 := hc i hin
    obtain ⟨y, hy⟩ : ∃ y, y = N.lab.getD i 0 := ⟨_, rfl⟩
    rw [← hy] at hc0
    rw [hA] at hf2
    have HY := Lib.hid hy
    clear hc hy hA
    by_cases hij : i = j
    · subst hij
      have heb : (y == x) = true := by rw [HY.out, HX.out]; simp
      go_wp2_with fail
      go_ret
      exact ⟨rfl, HB1.out⟩
    · have heb : (y == x) = false := by
        have := lab_strict HR.out.2.2.2 (i := i) (j := j) (by omega) (by omega)
        rw [HX.out, ← HY.out] at this
        simp; omega
      go_wp2_with fail
      go_round
      case rel => exact ⟨i + 1, by omega, by go_num⟩
      case measure => simp [intOf]; omega


theorem rkid_yes (N : ND) (x : Int) (j : Nat) (w : World) (h : N.At w) (hr : RightP N) (hj : j < N.n2) (hx : N.lab.getD j 0 = x) :
    Calls Tryd.prog 18 #[N.v, .int .u8 x] w fun e w' => e = .returned (.tuple #[.int .u64 (N.kid.getD j 0), .int .i64 (kidAt N j x), .bool true]) ∧ Below w.heap.size w w' := by
  have h16 : N.n2 ≤ 16 := by have := lab_le hr.2.2.2 h.lab; have := h.lab.1; omega
  have h23 : N.n2 = N.n3 := by have := hr.2.1; have := h.lab.1; have := h.kid.1; omega
  have hx0 : 0 ≤ x ∧ x < 16 := by
    have h1 := (hr.2.2.2 j (by have := h.lab.1; omega)).1
    have h2 := (wf_u8 (h.lab.2.2.1 _ (getD_mem (i := j) (by have := h.lab.1; omega)))).1
    omega
  have HR := Lib.hid hr
  have HX := Lib.hid hx
  have H23 := Lib.hid h23
  have HE := Lib.hid (RB.enter h)
  obtain ⟨k, hk⟩ : ∃ k, k = N.kid.getD j 0 := ⟨_, rfl⟩
  obtain ⟨R, hR⟩ : ∃ R, R = kidAt N j x := ⟨_, rfl⟩
  rw [← hk, ← hR]
  have HK := Lib.hid hk
  have HRR := Lib.hid hR
  clear h hr hx h23 hk hR
  unfold ND.v
  go_enter Tryd.func18, Tryd.ntmps18
  go_wp2_with fail
  generalize hW : World.alloc w _ = W1 at *
  clear hW
  go_wp2_with (refine wpList_load_row rfl 26 _ rfl _ rfl 26 (ND.cells N).toArray (0, 0) _ HE.out.cells Tryd.underlying26 rfl rfl ?_)
  refine Calls.mono (rfind_at N x W1 HE.out.nd HR.out j hj HX.out) ?_
  rintro e1 w1 ⟨rfl, hb1⟩
  have HE1 := Lib.hid (HE.out.kept hb1)
  clear HE hb1
  go_wp2_with (refine wpList_load_row rfl 26 _ rfl _ rfl 26 (ND.cells N).toArray (0, 0) _ HE1.out.cells Tryd.underlying26 rfl rfl ?_)
  refine Calls.mono (rright_any N w1 HE1.out.nd true (by simpa using HR.out)) ?_
  rintro e2 w2 ⟨rfl, hb2⟩
  have HE2 := Lib.hid (HE1.out.kept hb2)
  clear HE1 hb2
  go_wp2_with (refine wpList_load_row rfl 26 _ rfl _ rfl 26 (ND.cells N).toArray (0, 0) _ HE2.out.cells Tryd.underlying26 rfl rfl ?_)
  refine Calls.mono (rclass_any N w2) ?_
  rintro e3 w3 ⟨rfl, hb3⟩
  have HE3 := Lib.hid (HE2.out.kept hb3)
  clear HE2 hb3
  obtain ⟨b3, off3, hA3, _, hck⟩ := HE3.out.nd.kid.2.2.2 (by have := H23.out; omega)
  have hc3 := hck j (by have := H23.out; omega)
  rw [← HK.out] at hc3
  have hf0 := HE3.out.cells.cell 0
  have hf1 := HE3.out.cells.cell 1
  have hf2 := HE3.out.cells.cell 2
  have hf3 := HE3.out.cells.cell 3
  simp only [ND.cells, List.getElem?_cons_zero, List.getElem?_cons_succ] at hf0 hf1 hf2 hf3
  rw [hA3] at hf3
  have hi3 : j < N.n3 := by have := H23.out; omega
  clear hA3 hck
  by_cases h4 : N.n3 ≤ 4
  · have HKA : Hid (R = 4 + j) := Lib.hid (by rw [HRR.out]; unfold kidAt; rw [if_pos h4])
    rw [if_pos h4]
    go_wp2_with fail
    refine bodyPost_ret (results_tmp3 rfl _ _ _) rfl ?_
    exact ⟨by rw [HKA.out]; rfl, HE3.out.below⟩
  · have HKA : Hid (R = 4 + x) := Lib.hid (by rw [HRR.out]; unfold kidAt; rw [if_neg h4])
    rw [if_neg h4]
    go_wp2_with fail
    refine bodyPost_ret (results_tmp3 rfl _ _ _) rfl ?_
    exact ⟨by rw [HKA.out]; rfl, HE3.out.below⟩

theorem rkid_no (N : ND) (x : Int) (w : World) (h : N.At w) (hbad : ¬ RightP N ∨ x ∉ N.lab) :
    Calls Tryd.prog 18 #[N.v, .int .u8 x] w fun e w' => e = .returned (.tuple #[.int .u64 0, .int .i64 0, .bool false]) ∧ Below w.heap.size w w' := by
  have HBAD := Lib.hid hbad
  have HE := Lib.hid (RB.enter h)
  obtain ⟨b, hb⟩ : ∃ b : Bool, b = true ↔ x ∈ N.lab := ⟨decide (x ∈ N.lab), by simp⟩
  have HB := Lib.hid hb
  clear h hbad hb
  unfold ND.v
  go_enter Tryd.func18, Tryd.ntmps18
  go_wp2_with fail
  generalize hW : World.alloc w _ = W1 at *
  clear hW
  go_wp2_with (refine wpList_load_row rfl 26 _ rfl _ rfl 26 (ND.cells N).toArray (0, 0) _ HE.out.cells Tryd.underlying26 rfl rfl ?_)
  refine Calls.mono (find_any N x W1 HE.out.nd b HB.out) ?_
  rintro e1 w1 ⟨r, rfl, hr0, hb1⟩
  have HE1 := Lib.hid (HE.out.kept hb1)
  clear HE hb1
  go_wp2_with (refine wpList_load_row rfl 26 _ rfl _ rfl 26 (ND.cells N).toArray (0, 0) _ HE1.out.cells Tryd.underlying26 rfl rfl ?_)
  by_cases hr : RightP N
  · have HR := Lib.hid hr
    have hbf : b = false := by
      cases hq : b with
      | false => rfl
      | true =>
        rcases HBAD.out with h | h
        · exact absurd HR.out h
        · exact absurd (HB.out.1 hq) h
    clear hr
    have hlt : decide (r < 0) = true := by
      rw [hbf] at hr0
      have := of_decide_eq_false hr0
      exact decide_eq_true (by omega)
    clear hr0 hbf
    refine Calls.mono (rright_any N w1 HE1.out.nd true (by simpa using HR.out)) ?_
    rintro e2 w2 ⟨rfl, hb2⟩
    have HE2 := Lib.hid (HE1.out.kept hb2)
    clear HE1 hb2
    go_wp2_with fail
    refine bodyPost_ret (results_tmp3 rfl _ _ _) rfl ?_
    exact ⟨rfl, HE2.out.below⟩
  · have HR := Lib.hid hr
    clear hr hr0
    refine Calls.mono (rright_any N w1 HE1.out.nd false (by simpa using HR.out)) ?_
    rintro e2 w2 ⟨rfl, hb2⟩
    have HE2 := Lib.hid (HE1.out.kept hb2)
    clear HE1 hb2
    go_wp2_with fail
    refine bodyPost_ret (results_tmp3 rfl _ _ _) rfl ?_
    exact ⟨rfl, HE2.out.below⟩

/-- The code's Kid, where there is none. -/
theorem kid_no (N : ND) (x : Int) (w : World) (h : N.At w) (hn : N.n2 ≤ 1000000) (hbad : ¬ RightP N ∨ x ∉ N.lab) :
    Calls Tryd.prog 17 #[N.v, .int .u8 x] w fun e w' => e = .returned (.tuple #[.int .u64 0, .int .i64 0, .bool false]) ∧ Below w.heap.size w w' := by
  have HBAD := Lib.hid hbad
  have hb := (Below.refl w.heap.size w).alloc (Nat.le_refl _) (.cells N.cells.toArray 31)
  have HC := Lib.hid (Cells.new w N.cells 31)
  have HN := Lib.hid (h.kept hb)
  have HB := Lib.hid hb
  clear h hbad hb
  unfold ND.v
  go_enter Tryd.func17, Tryd.ntmps17
  go_wp2_with fail
  simp only [ND.cells] at HC HN HB
  generalize hW : World.alloc w _ = W1 at *
  clear hW
  have HC : Hid (Cells W1 w.heap.size 31 N.cells) := HC
  by_cases hr : RightP N
  · have HR := Lib.hid hr
    have HNX : Hid (x ∉ N.lab) := Lib.hid (by
      rcases HBAD.out with h | h
      · exact absurd hr h
      · exact h)
    clear hr
    refine Calls.mono (right_any N W1 HN.out true (by simpa using HR.out)) ?_
    rintro e2 w2 ⟨rfl, hb2⟩
    have HC2 := Lib.hid (HC.out.kept (Chg.of_below (F := fun _ => False) hb2) (fun f => f))
    have HN2 := Lib.hid (HN.out.kept hb2)
    have HB2 := Lib.hid (HB.out.trans (hb2.mono HB.out.size))
    clear HC HN HB hb2
    go_wp2_with (refine wpList_load_row rfl 31 _ rfl _ rfl 31 N.cells.toArray (0, 0) _ HC2.out Tryd.underlying31 rfl rfl ?_)
    refine Calls.mono (at_any N x w2 HN2.out hn) ?_
    rintro e3 w3 ⟨i, b, rfl, HS, hb3⟩
    obtain rfl : b = false := by
      cases b with
      | false => rfl
      | true =>
        obtain ⟨h1, h2⟩ := HS.out.is.1 rfl
        exact absurd (h2 ▸ getD_mem (by rw [HN2.out.lab.1]; exact h1)) HNX.out
    have HB3 := Lib.hid (HB2.out.trans (hb3.mono HB2.out.size))
    clear HB2 hb3
    go_wp2_with fail
    refine bodyPost_ret (results_tmp3 rfl _ _ _) rfl ?_
    exact ⟨rfl, HB3.out⟩
  · have HR := Lib.hid hr
    clear hr
    refine Calls.mono (right_any N W1 HN.out false (by simpa using HR.out)) ?_
    rintro e2 w2 ⟨rfl, hb2⟩
    have HB2 := Lib.hid (HB.out.trans (hb2.mono HB.out.size))
    clear HB hb2
    go_wp2_with fail
    refine bodyPost_ret (results_tmp3 rfl _ _ _) rfl ?_
    exact ⟨rfl, HB2.out⟩
end Go.Proofs.YtmfomkmdfddhaaaDoor.Ref9
