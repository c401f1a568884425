/- Layer 9: a kid put in, plain; the document's Find. -/
import Derived.Test.YtmfomkmdfddhaaaDoorWout9
namespace Go.Proofs.YtmfomkmdfddhaaaDoor.Turn9
open Go.RowKit Go.Proofs.YtmfomkmdfddhaaaDoor.Mem Go.Proofs.YtmfomkmdfddhaaaDoor.Read Go.Proofs.YtmfomkmdfddhaaaDoor.Out Go.Proofs.YtmfomkmdfddhaaaDoor.Nib Go.Proofs.YtmfomkmdfddhaaaDoor.Node Go.Proofs.YtmfomkmdfddhaaaDoor.Slc Go.Proofs.YtmfomkmdfddhaaaDoor.Res Go.Proofs.YtmfomkmdfddhaaaDoor.Dec Go.Proofs.YtmfomkmdfddhaaaDoor.Kid Go.Proofs.YtmfomkmdfddhaaaDoor.Words Go.Proofs.YtmfomkmdfddhaaaDoor.DecB Go.Proofs.YtmfomkmdfddhaaaDoor.Same9 Go.Proofs.YtmfomkmdfddhaaaDoor.Open9 Go.Proofs.YtmfomkmdfddhaaaDoor.With9 Go.Proofs.YtmfomkmdfddhaaaDoor.Wout9 Go.Proofs.YtmfomkmdfddhaaaDoor.Alive
set_option maxRecDepth 100000

theorem ins_len {l : List Int} {i : Nat} (x : Int) (h : i ≤ l.length) : (insL l i x).length = l.length + 1 := by
  simp only [insL, List.length_append, List.length_take, List.length_cons, List.length_drop]; omega

theorem ins_lt {l : List Int} {i j : Nat} (x : Int) (h : i ≤ l.length) (hj : j < i) : (insL l i x).getD j 0 = l.getD j 0 := by
  unfold insL
  rw [List.getD_eq_getElem?_getD, List.getElem?_append_left (by rw [List.length_take]; omega), List.getElem?_take, if_pos hj, List.getD_eq_getElem?_getD]

theorem ins_eq {l : List Int} {i : Nat} (x : Int) (h : i ≤ l.length) : (insL l i x).getD i 0 = x := by
  unfold insL
  rw [List.getD_eq_getElem?_getD, List.getElem?_append_right (by rw [List.length_take]; omega), List.length_take, Nat.min_eq_left h, Nat.sub_self]
  rfl

theorem ins_gt {l : List Int} {i j : Nat} (x : Int) (h : i ≤ l.length) (hj : i ≤ j) : (insL l i x).getD (j + 1) 0 = l.getD j 0 := by
  unfold insL
  rw [List.getD_eq_getElem?_getD, List.getElem?_append_right (by rw [List.length_take]; omega), List.length_take, Nat.min_eq_left h, show j + 1 - i = (j - i) + 1 by omega, List.getElem?_cons_succ, List.getElem?_drop, show i + (j - i) = j by omega, List.getD_eq_getElem?_getD]

theorem ins_erase {l : List Int} {i : Nat} (x : Int) (h : i ≤ l.length) : (insL l i x).eraseIdx i = l := by
  unfold insL
  rw [List.eraseIdx_append_of_length_le (by rw [List.length_take]; omega), List.length_take, Nat.min_eq_left h, Nat.sub_self, List.eraseIdx_cons_zero, List.take_append_drop]

/-- What With leaves is a node, that has what is put in and all else. -/
structure Put9 (N M : ND) (x y : Int) (i : Nat) : Prop where
  right : RightP M
  le : i ≤ N.n2
  n2 : M.n2 = N.n2 + 1
  n3 : M.n3 = N.n3 + 1
  lab : M.lab.getD i 0 = x
  kid : M.kid.getD i 0 = y
  pre : M.pre = N.pre
  val : M.val = N.val
  labs : M.lab.eraseIdx i = N.lab
  kids : M.kid.eraseIdx i = N.kid
  all : ∀ j, j < N.n2 → ∃ k, k < M.n2 ∧ M.lab.getD k 0 = N.lab.getD j 0 ∧ M.kid.getD k 0 = N.kid.getD j 0

theorem put9 {N M : ND} {x y : Int} {w w' : World} (hN : N.At w) (hM : M.At w') (hr : RightP N) (hx : x ∉ N.lab) (hx16 : x < 16) (hy : y ≠ 0) (h : WithN N x y M) : ∃ i, Put9 N M x y i := by
  obtain ⟨i, hi, hs, h1, h2, h3, h4, h5⟩ := h
  have l1 := hN.lab.1
  have l2 := hN.kid.1
  have l3 := hr.2.1
  have hil : i ≤ N.lab.length := by omega
  have hik : i ≤ N.kid.length := by omega
  have hp := hs.place hr.2.2.2
  have hn2 : M.n2 = N.n2 + 1 := by have := hM.lab.1; rw [h3, ins_len x hil] at this; omega
  refine ⟨i, ⟨by rw [h1]; exact hr.1, by rw [h3, h4, ins_len x hil, ins_len y hik, l3], fun h0 => ?_, fun j hj => ?_⟩, hi, hn2, h5, by rw [h3, ins_eq x hil], by rw [h4, ins_eq y hik], h1, h2, by rw [h3, ins_erase x hil], by rw [h4, ins_erase y hik], fun j hj => ?_⟩
  · rw [h4] at h0
    rcases mem_ins h0 with h0 | h0
    · exact hr.2.2.1 h0
    · exact hy h0.symm
  · rw [h3] at hj ⊢
    rw [ins_len x hil] at hj
    have hgt : ∀ q, i ≤ q → q < N.lab.length → x < N.lab.getD q 0 := fun q h1 h2 => by
      have := hp.2 q h1 h2
      have hne : x ≠ N.lab.getD q 0 := fun e => hx (e ▸ getD_mem h2)
      omega
    rcases Nat.lt_trichotomy j i with hji | rfl | hji
    · rw [ins_lt x hil hji]
      refine ⟨(hr.2.2.2 j (by omega)).1, fun h0 => ?_⟩
      rw [ins_lt x hil (by omega)]
      exact (hr.2.2.2 j (by omega)).2 h0
    · rw [ins_eq x hil]
      refine ⟨hx16, fun h0 => ?_⟩
      rw [ins_lt x hil (by omega)]
      exact hp.1 _ (by omega)
    · obtain ⟨q, rfl⟩ : ∃ q, j = q + 1 := ⟨j - 1, by omega⟩
      rw [ins_gt x hil (by omega), Nat.add_sub_cancel]
      refine ⟨(hr.2.2.2 q (by omega)).1, fun _ => ?_⟩
      by_cases e : q = i
      · subst e
        rw [ins_eq x hil]
        exact hgt q (Nat.le_refl _) (by omega)
      · obtain ⟨p, rfl⟩ : ∃ p, q = p + 1 := ⟨q - 1, by omega⟩
        rw [ins_gt x hil (by omega)]
        have := (hr.2.2.2 (p + 1) (by omega)).2 (by omega)
        rwa [Nat.add_sub_cancel] at this
  · by_cases hji : j < i
    · exact ⟨j, by omega, by rw [h3, ins_lt x hil hji], by rw [h4, ins_lt y hik hji]⟩
    · exact ⟨j + 1, by omega, by rw [h3, ins_gt x hil (by omega)], by rw [h4, ins_gt y hik (by omega)]⟩

theorem find_any (N : ND) (x : Int) (w : World) (h : N.At w) (b : Bool) (hb : b = true ↔ x ∈ N.lab) :
    Calls Tryd.prog 23 #[N.v, .int .u8 x] w fun e w' => ∃ r : Int, e = .returned (.int .i64 r) ∧ decide (0 ≤ r) = b ∧ Below w.heap.size w w' := by
  have hm := h.lab.2.1
  simp only [maxLen] at hm
  have hl := h.lab.1
  have hb1 := (Below.refl w.heap.size w).alloc (Nat.le_refl _) (.cells N.cells.toArray 26)
  have hc1 := Cells.new w N.cells 26
  have HN := Lib.hid (h.kept hb1)
  have HB1 := Lib.hid hb1
  have HC1 := Lib.hid hc1
  have HB := Lib.hid hb
  clear h hb1 hc1 hb
  simp only [ND.cells] at HN HB1 HC1
  unfold ND.v
  go_enter Tryd.func23, Tryd.ntmps23
  go_wp2_with fail
  generalize hW : World.alloc w _ = W1 at *
  clear hW
  have hf2 := HC1.out.cell 2
  simp only [List.getElem?_cons_zero, List.getElem?_cons_succ] at hf2
  go_loop [5] (fun v => ∃ i : Nat, i ≤ N.n2 ∧ v = .int .i64 i ∧ Hid (∀ j, j < i → N.lab.getD j 0 ≠ x)) (fun v => N.n2 - (intOf v).toNat)
  case atStart => exact ⟨0, by omega, rfl, Lib.hid (fun j hj => absurd hj (by omega))⟩
  case round =>
    obtain ⟨i, hi, rfl, HI⟩ := hrel
    by_cases hin : i < N.n2
    · obtain ⟨b', off, hA, _, hc⟩ := HN.out.lab.2.2.2 (by omega)
      have hc0 := hc i hin
      obtain ⟨y, hy⟩ : ∃ y, y = N.lab.getD i 0 := ⟨_, rfl⟩
      rw [← hy] at hc0
      rw [hA] at hf2
      have HY := Lib.hid hy
      have HAA := Lib.hid hA
      clear hc hy hA
      by_cases he : y = x
      · have heb : (y == x) = true := by simpa using he
        have HR : Hid (decide ((0 : Int) ≤ i) = b) := Lib.hid (by
          rw [decide_eq_true (by omega)]
          exact (HB.out.2 (by rw [← he, HY.out]; exact getD_mem (by omega))).symm)
        clear he
        go_wp2_with fail
        go_ret
        exact ⟨_, rfl, HR.out, HB1.out⟩
      · have heb : (y == x) = false := by simpa using he
        have HS : Hid (∀ j, j < i + 1 → N.lab.getD j 0 ≠ x) := Lib.hid (fun j hj => by
          by_cases e : j = i
          · subst e; rw [← HY.out]; exact he
          · exact HI.out j (by omega))
        clear he
        go_wp2_with fail
        go_round
        case rel => exact ⟨i + 1, by omega, by go_num, HS⟩
        case measure => simp [intOf]; omega
    · have HR : Hid (decide ((0 : Int) ≤ -1) = b) := Lib.hid (by
        cases hb : b with
        | false => rfl
        | true =>
          obtain ⟨j, hj, e⟩ := mem_getD (HB.out.1 hb)
          exact absurd e (HI.out j (by omega)))
      go_wp2_with fail
      go_ret
      exact ⟨_, rfl, HR.out, HB1.out⟩
end Go.Proofs.YtmfomkmdfddhaaaDoor.Turn9
