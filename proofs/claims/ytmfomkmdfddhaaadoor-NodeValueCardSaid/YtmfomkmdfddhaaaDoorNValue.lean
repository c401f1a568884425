/- NodeValue: another value changes one word alone, and no kid. No condition. -/
import Derived.Test.YtmfomkmdfddhaaaDoorRows
import Derived.Test.YtmfomkmdfddhaaaDoorOpen9
import Derived.Test.YtmfomkmdfddhaaaDoorPost
import Derived.Carry
namespace Go.Proofs.YtmfomkmdfddhaaaDoor.nodeValue
open Go.ChangeShapes Go.WideShapes Go.ChangeAt Go.RowKit Go.Proofs.YtmfomkmdfddhaaaDoor.Mem Go.Proofs.YtmfomkmdfddhaaaDoor.Read Go.Proofs.YtmfomkmdfddhaaaDoor.Out Go.Proofs.YtmfomkmdfddhaaaDoor.Nib Go.Proofs.YtmfomkmdfddhaaaDoor.Node Go.Proofs.YtmfomkmdfddhaaaDoor.Slc Go.Proofs.YtmfomkmdfddhaaaDoor.Res Go.Proofs.YtmfomkmdfddhaaaDoor.Dec Go.Proofs.YtmfomkmdfddhaaaDoor.Kid Go.Proofs.YtmfomkmdfddhaaaDoor.Alive Go.Proofs.YtmfomkmdfddhaaaDoor.Open9

theorem size26 : (Tryd.prog.info? 26).map (·.size) = some 4 := by kernel_rfl

/-- A copy of the node in a block of its own. -/
theorem copied {N : ND} {W w : World} {g : Nat} (h : Env9 N W w g) :
    Env9 N W ((w.alloc (.cells #[.slice none 0 0, .int .u64 0, .slice none 0 0, .slice none 0 0] 26)).setRow w.heap.size N.cells.toArray) g ∧
    Env9 N W ((w.alloc (.cells #[.slice none 0 0, .int .u64 0, .slice none 0 0, .slice none 0 0] 26)).setRow w.heap.size N.cells.toArray) w.heap.size ∧ g < w.heap.size ∧
    Below w.heap.size w ((w.alloc (.cells #[.slice none 0 0, .int .u64 0, .slice none 0 0, .slice none 0 0] 26)).setRow w.heap.size N.cells.toArray) := by
  have c0 := Cells.new w ND.nil.cells 26
  have c1 := row_set c0 N.cells
  have b0 := row_below ((Below.refl w.heap.size w).alloc (Nat.le_refl _) (.cells ND.nil.cells.toArray 26)) N.cells.toArray (Nat.le_refl _)
  have e1 := h.kept b0
  exact ⟨e1, ⟨e1.nd, c1, e1.lines, e1.below, h.below.size⟩, h.cells.lt, b0⟩

/-- Another value in the copy. -/
theorem valued {N : ND} {W w : World} {g g2 : Nat} (h : Env9 N W w g) (h2 : Env9 N W w g2) (hg : g < g2) (h0 : N.At W) (hl : LinesAt W) {x : Int} (hx : (Lit.int .u64 x).wf = true) :
    Env9 N W (w.setCell ⟨g2, 1, none⟩ (.int .u64 x)) g ∧ Env9 { N with val := x } W (w.setCell ⟨g2, 1, none⟩ (.int .u64 x)) g2 ∧ ∀ a, Below g2 a w → Below g2 a (w.setCell ⟨g2, 1, none⟩ (.int .u64 x)) := by
  have hb : Below W.heap.size W (w.setCell ⟨g2, 1, none⟩ (.int .u64 x)) := ⟨h.below.os, h.below.tape, h.below.output, by have := h.below.size; simpa [World.setCell] using this, fun k hk => (Below.heap_setCell _ _ _ _ (by have := h2.ge; simp only; omega)).trans (h.below.block k hk)⟩
  have n1 := h0.kept hb
  exact ⟨⟨n1, h.cells.other (by simp only; omega) _, hl.kept hb, hb, h.ge⟩, ⟨⟨n1.pre, n1.lab, n1.kid, hx⟩, h2.cells.set 1 _, hl.kept hb, hb, h2.ge⟩, fun a ha => ⟨ha.os, ha.tape, ha.output, by have := ha.size; simpa [World.setCell] using this, fun k hk => (Below.heap_setCell _ _ _ _ (by simp only; omega)).trans (ha.block k hk)⟩⟩

theorem walk {H : Type} {enc : TypeId × Value → H} (W : World) {base : Nat} {v v1 : Value} {d d1 : DataW H} {p p1 : List MemPlace} (h : DataW.Trod enc Tryd.prog W 0 (fun _ => true) true 26 v d p) (ho : Value.okWide Tryd.prog W .any base 26 v)
    (h1 : DataW.Trod enc Tryd.prog W 0 (fun _ => true) true 23 v1 d1 p1) (ho1 : Value.okWide Tryd.prog W .any base 23 v1) (hl : LinesAt W) :
    Calls Tryd.prog 5 #[v, v1] W fun e W' => e = .returned (.bool true) ∧ Below W.heap.size W W' := by
  obtain ⟨N, rfl, hN⟩ := node_open h ho
  obtain ⟨x, rfl, _, _, hxw⟩ := open_int Tryd.underlying23 ho1 h1
  have HXW := Lib.hid hxw
  have HN := Lib.hid hN
  have HL := Lib.hid hl
  clear h ho h1 ho1 hN hl hxw
  unfold ND.v
  go_enter Tryd.func5, Tryd.ntmps5
  go_wp2_with fail
  have HE := Lib.hid (Env9.enter HN.out HL.out (Below.refl _ W))
  generalize hW : World.alloc W _ = W1 at *
  clear hW
  refine Calls.mono (alive_true W1 HE.out.lines) ?_
  rintro e w2 ⟨rfl, hb2⟩
  have HE2 := Lib.hid (HE.out.kept hb2)
  clear HE hb2
  go_wp2_with (refine wpList_load_row rfl 26 _ rfl _ rfl 26 N.cells.toArray (0, 0) _ HE2.out.cells Tryd.underlying26 rfl rfl ?_)
  refine Calls.mono (few_any N w2) ?_
  rintro e w3 ⟨rfl, hb3⟩
  have HE3 := Lib.hid (HE2.out.kept hb3)
  clear HE2 hb3
  cases hfew : fewB N with
  | false =>
    go_wp2_with fail
    go_ret
    exact ⟨rfl, HE3.out.below⟩
  | true =>
    go_wp2_with (refine wpList_load_row rfl 26 _ rfl _ rfl 26 N.cells.toArray (0, 0) _ HE3.out.cells Tryd.underlying26 rfl rfl ?_)
    by_cases hr : RightP N
    · have HR := Lib.hid hr
      clear hr
      refine Calls.mono (encode_yes N w3 HE3.out.nd HE3.out.lines HR.out) ?_
      rintro e w4 ⟨b, m, rfl, HO, HM⟩
      have HE4 := Lib.hid (HE3.out.kept HO.out.below)
      clear HE3
      go_upto_region 7 with (first | (refine wpList_load_row rfl 26 _ rfl _ rfl 26 N.cells.toArray (0, 0) _ HE4.out.cells Tryd.underlying26 rfl rfl ?_) | (refine wpList_load_row rfl 26 _ rfl _ rfl 26 N.cells.toArray (0, 0) _ (HE4.out.cells.alloc _) Tryd.underlying26 rfl rfl ?_) | (refine wpList_store_row rfl 26 _ _ rfl w4.heap.size N.cells.toArray rfl rfl 26 _ (Cells.new w4 ND.nil.cells _) size26 rfl (cells_one _) ?_))
      obtain ⟨hq1, hq2, hq3, hq4⟩ := copied HE4.out
      have HQ1 := Lib.hid hq1
      have HQ2 := Lib.hid hq2
      have HQ4 := Lib.hid hq4
      clear hq1 hq2 hq4
      generalize hW : World.setRow _ _ _ = W5 at *
      generalize hg2 : w4.heap.size = g2 at *
      have HG2 := Lib.hid hg2
      clear hW hg2
      have hr1 := HQ2.out.cells.cell 1
      have hr2 := HQ2.out.cells.frozen 1
      simp only [ND.cells, List.getElem?_cons_succ, List.getElem?_cons_zero] at hr1
      go_upto_region 8 with (fail)
      obtain ⟨hs1, hs2, hs3⟩ := valued HQ1.out HQ2.out hq3 HN.out HL.out HXW.out
      have HEN := Lib.hid hs1
      have HEO := Lib.hid hs2
      have HBW := Lib.hid (hs3 w4 HQ4.out)
      clear hs1 hs2 hs3 hr1 hr2 HQ1 HQ2 HQ4
      generalize hW : World.setCell _ _ _ = W6 at *
      clear hW
      go_wp2_with (refine wpList_load_row rfl 26 _ rfl _ rfl 26 (ND.cells { N with val := x }).toArray (0, 0) _ HEO.out.cells Tryd.underlying26 rfl rfl ?_)
      refine Calls.mono (encode_yes { N with val := x } W6 HEO.out.nd HEO.out.lines HR.out) ?_
      rintro e w7 ⟨b2, m2, rfl, HO7, HM7⟩
      have HOb := Lib.hid (HO.out.kept (by rw [HG2.out]; exact HBW.out))
      have HOa := Lib.hid (HOb.out.kept HO7.out.below)
      have HEN7 := Lib.hid (HEN.out.kept HO7.out.below)
      have hmm : m2 = m := by rw [HM7.out.1, HM.out.1, words_val, List.length_set]
      subst hmm
      have hmb := HM.out.2
      have hml := HM.out.1
      rw [words_val] at HO7
      obtain ⟨A1, d1, f1, hia⟩ := own_ints HOa.out (by simp only [maxLen]; omega) (wf_words HEN7.out.nd HR.out)
      cases f1
      have hwb : ∀ z ∈ (wordsL N).set 2 x, (Lit.int .u64 z).wf = true := by
        intro z hz
        rcases List.mem_or_eq_of_mem_set hz with hz | rfl
        · exact wf_words HEN7.out.nd HR.out z hz
        · exact HXW.out
      obtain ⟨A2, d2, f2, hib⟩ := own_ints HO7.out (by simp only [maxLen]; omega) hwb
      cases f2
      have HIA := Lib.hid hia
      have HIB := Lib.hid hib
      have HML := Lib.hid hml
      clear HEN HEO HE4 HO HOb HO7 HOa HM HM7 HBW HG2 hia hib hwb hml
      go_wp2_with fail
      go_loopw [41] (fun v wr => ∃ i : Nat, i ≤ m2 ∧ v = .int .i64 i ∧ Hid (Below w7.heap.size w7 wr)) (fun v _ => m2 - (intOf v).toNat)
      case atStart => exact ⟨0, by omega, rfl, Lib.hid (Below.refl _ _)⟩
      case round =>
        obtain ⟨i, hi, rfl, HW⟩ := hrel
        by_cases hin : i < m2
        · have ha := ints_cell (HIA.out.kept HW.out) hin (x := (wordsL N).getD i 0) rfl
          have hb := ints_cell (HIB.out.kept HW.out) hin (x := ((wordsL N).set 2 x).getD i 0) rfl
          rw [Nat.zero_add] at ha hb
          by_cases h2 : i = 2
          · subst h2
            have e1 : ((wordsL N).set 2 x).getD 2 0 = x := by
              rw [List.getD_eq_getElem?_getD, List.getElem?_set_self (by rw [← HML.out]; omega)]
              rfl
            rw [e1] at hb
            clear ha e1
            go_wp2_with fail
            go_quiet (fail)
            go_wp2_with fail
            go_roundw
            case rel => exact ⟨2 + 1, by omega, by go_num, Lib.hid (below_drewN HW.out _)⟩
            case measure => simp [intOf]; omega
          · have e1 : ((wordsL N).set 2 x).getD i 0 = (wordsL N).getD i 0 := by
              rw [List.getD_eq_getElem?_getD, List.getElem?_set_ne (fun e => h2 e.symm), List.getD_eq_getElem?_getD]
            rw [e1] at hb
            obtain ⟨y, hy⟩ : ∃ y, y = (wordsL N).getD i 0 := ⟨_, rfl⟩
            rw [← hy] at ha hb
            have hne : ((i : Int) != 2) = true := by simp; omega
            have heq : ((i : Int) == 2) = false := by simp; omega
            clear e1 hy
            go_wp2_with fail
            go_quiet (fail)
            go_wp2_with fail
            go_roundw
            case rel => exact ⟨i + 1, by omega, by go_num, Lib.hid (below_drewN HW.out _)⟩
            case measure => simp [intOf]; omega
        · go_wp2_with fail
          go_ret
          exact ⟨rfl, HEN7.out.below.trans (HW.out.mono HEN7.out.below.size)⟩
    · have HR := Lib.hid hr
      clear hr
      refine Calls.mono (encode_no N w3 HE3.out.nd HR.out) ?_
      rintro e w4 ⟨rfl, hb4⟩
      have HE4 := Lib.hid (HE3.out.kept hb4)
      clear HE3 hb4
      go_upto_region 7 with (first | (refine wpList_load_row rfl 26 _ rfl _ rfl 26 N.cells.toArray (0, 0) _ HE4.out.cells Tryd.underlying26 rfl rfl ?_) | (refine wpList_load_row rfl 26 _ rfl _ rfl 26 N.cells.toArray (0, 0) _ (HE4.out.cells.alloc _) Tryd.underlying26 rfl rfl ?_) | (refine wpList_store_row rfl 26 _ _ rfl w4.heap.size N.cells.toArray rfl rfl 26 _ (Cells.new w4 ND.nil.cells _) size26 rfl (cells_one _) ?_))
      obtain ⟨hq1, hq2, hq3, hq4⟩ := copied HE4.out
      have HQ1 := Lib.hid hq1
      have HQ2 := Lib.hid hq2
      have HQ4 := Lib.hid hq4
      clear hq1 hq2 hq4
      generalize hW : World.setRow _ _ _ = W5 at *
      generalize hg2 : w4.heap.size = g2 at *
      have HG2 := Lib.hid hg2
      clear hW hg2
      have hr1 := HQ2.out.cells.cell 1
      have hr2 := HQ2.out.cells.frozen 1
      simp only [ND.cells, List.getElem?_cons_succ, List.getElem?_cons_zero] at hr1
      go_upto_region 8 with (fail)
      obtain ⟨hs1, hs2, hs3⟩ := valued HQ1.out HQ2.out hq3 HN.out HL.out HXW.out
      have HEN := Lib.hid hs1
      have HEO := Lib.hid hs2
      have HBW := Lib.hid (hs3 w4 HQ4.out)
      clear hs1 hs2 hs3 hr1 hr2 HQ1 HQ2 HQ4
      generalize hW : World.setCell _ _ _ = W6 at *
      clear hW
      go_wp2_with (refine wpList_load_row rfl 26 _ rfl _ rfl 26 (ND.cells { N with val := x }).toArray (0, 0) _ HEO.out.cells Tryd.underlying26 rfl rfl ?_)
      refine Calls.mono (encode_no { N with val := x } W6 HEO.out.nd HR.out) ?_
      rintro e w7 ⟨rfl, hb7⟩
      have HEN7 := Lib.hid (HEN.out.kept hb7)
      clear HEN HEO HE4 hb7
      go_wp2_with fail
      go_loop [41] (fun v => v = .int .i64 0) (fun _ => 0)
      case atStart => rfl
      case round =>
        obtain rfl := hrel
        go_wp2_with fail
        go_ret
        exact ⟨rfl, HEN7.out.below⟩
end Go.Proofs.YtmfomkmdfddhaaaDoor.nodeValue
