/- NodeBack: nodes come back from their words, and words from their nodes. -/
import Derived.Test.YtmfomkmdfddhaaaDoorRows
import Derived.Test.YtmfomkmdfddhaaaDoorSame9
import Derived.Test.YtmfomkmdfddhaaaDoorPost
import Derived.Carry
namespace Go.Proofs.YtmfomkmdfddhaaaDoor.nodeBack
open Go.ChangeShapes Go.WideShapes Go.ChangeAt Go.RowKit Go.Proofs.YtmfomkmdfddhaaaDoor.Mem Go.Proofs.YtmfomkmdfddhaaaDoor.Read Go.Proofs.YtmfomkmdfddhaaaDoor.Out Go.Proofs.YtmfomkmdfddhaaaDoor.Nib Go.Proofs.YtmfomkmdfddhaaaDoor.Node Go.Proofs.YtmfomkmdfddhaaaDoor.Slc Go.Proofs.YtmfomkmdfddhaaaDoor.Res Go.Proofs.YtmfomkmdfddhaaaDoor.Dec Go.Proofs.YtmfomkmdfddhaaaDoor.Kid Go.Proofs.YtmfomkmdfddhaaaDoor.Alive Go.Proofs.YtmfomkmdfddhaaaDoor.Open9 Go.Proofs.YtmfomkmdfddhaaaDoor.Words Go.Proofs.YtmfomkmdfddhaaaDoor.Back Go.Proofs.YtmfomkmdfddhaaaDoor.DecB Go.Proofs.YtmfomkmdfddhaaaDoor.Same9
set_option maxRecDepth 100000
set_option maxHeartbeats 4000000



theorem walk {H : Type} {enc : TypeId × Value → H} (W : World) {base : Nat} {v v1 : Value} {d d1 : DataW H} {p p1 : List MemPlace} (h : DataW.Trod enc Tryd.prog W 0 (fun _ => true) true 26 v d p) (ho : Value.okWide Tryd.prog W .any base 26 v)
    (h1 : DataW.Trod enc Tryd.prog W 0 (fun _ => true) true 24 v1 d1 p1) (ho1 : Value.okWide Tryd.prog W .any base 24 v1) (hl : LinesAt W) :
    Calls Tryd.prog 3 #[v, v1] W fun e W' => e = .returned (.bool true) ∧ Below W.heap.size W W' := by
  obtain ⟨N, rfl, hN⟩ := node_open h ho
  obtain ⟨A, n, c, L, rfl, hx, hnc⟩ := ints_open' Tryd.underlying24 Tryd.underlying23 (by kernel_rfl) h1 ho1
  have HX := Lib.hid hx
  have HN := Lib.hid hN
  have HL := Lib.hid hl
  have hm := hx.2.1
  simp only [maxLen] at hm
  clear h ho h1 ho1 hN hl hx
  unfold ND.v
  go_enter Tryd.func3, Tryd.ntmps3
  go_wp2_with fail
  have HE := Lib.hid (Env9.enter HN.out HL.out (Below.refl _ W))
  generalize hW : World.alloc W _ = W1 at *
  clear hW
  refine Calls.mono (alive_true W1 HE.out.lines) ?_
  rintro e w2 ⟨rfl, hb2⟩
  have HE2 := Lib.hid (HE.out.kept hb2)
  clear HE hb2
  go_wp2_with (refine wpList_load_row rfl 26 _ rfl _ rfl 26 N.cells.toArray (0, 0) _ HE2.out.cells Tryd.underlying26 rfl rfl ?_)
  refine Calls.mono (few_any N w2) ?_
  rintro e w3 ⟨rfl, hb3⟩
  have HE3 := Lib.hid (HE2.out.kept hb3)
  clear HE2 hb3
  cases hfew : fewB N with
  | false =>
    go_wp2_with fail
    go_ret
    exact ⟨rfl, HE3.out.below⟩
  | true =>
    by_cases h200 : 200 < n
    · have b200 : decide ((200 : Int) < n) = true := decide_eq_true (by omega)
      go_wp2_with fail
      go_ret
      exact ⟨rfl, HE3.out.below⟩
    have b200 : decide ((200 : Int) < n) = false := decide_eq_false (by omega)
    by_cases hr : RightP N
    · have HR := Lib.hid hr
      clear hr
      go_wp2_with (refine wpList_load_row rfl 26 _ rfl _ rfl 26 N.cells.toArray (0, 0) _ HE3.out.cells Tryd.underlying26 rfl rfl ?_)
      refine Calls.mono (encode_yes N w3 HE3.out.nd HE3.out.lines HR.out) ?_
      rintro e w4 ⟨b, m, rfl, HO, HM⟩
      have HE4 := Lib.hid (HE3.out.kept HO.out.below)
      obtain ⟨A1, d1, f1, hia⟩ := own_ints HO.out (by have := HM.out.2.2; simp only [maxLen]; omega) (wf_words HE4.out.nd HR.out)
      cases f1
      have HIA := Lib.hid hia
      have hm32 := HM.out.2.2
      have HM1 := Lib.hid HM.out.1
      clear HE3 HO hia HM
      go_wp2_with fail
      refine Calls.mono (decode_any (some ⟨b, 0, none⟩) m m (wordsL N) w4 HIA.out HE4.out.lines (Nat.le_refl _)) ?_
      rintro e w5 ⟨M, r, rfl, hM, hb5, hD⟩
      have hD2 : r = true ∧ Eqn M N := by
        rcases hD with ⟨h1, h2, h3⟩ | ⟨_, _, h3⟩
        · exact ⟨h1, words_inj (Plain.of hM) (Plain.of HE4.out.nd) h2 HR.out h3⟩
        · exact absurd rfl (h3 N (Plain.of HE4.out.nd) HR.out)
      obtain ⟨rfl, hq⟩ := hD2
      have HQ := Lib.hid hq
      have HE5 := Lib.hid (HE4.out.kept hb5)
      have HMA := Lib.hid hM
      clear hD hq HE4 hM hb5 HIA
      obtain ⟨hb6, hl6⟩ := Beside9.start HE5.out HMA.out 31
      have HB6 := Lib.hid hb6
      clear hb6 hl6
      go_upto_region 8 with (refine wpList_store_row rfl 31 _ _ rfl w5.heap.size M.cells.toArray rfl rfl 31 _ (Cells.new w5 ND.nil.cells _) size31 rfl (cells_one _) ?_)
      generalize hW : World.setRow _ _ _ = W6 at *
      generalize w5.heap.size = g2 at *
      clear hW HE5
      have hf0 := HB6.out.cells.cell 0
      have hf1 := HB6.out.cells.cell 1
      have hf2 := HB6.out.cells.cell 2
      have hf3 := HB6.out.cells.cell 3
      simp only [ND.cells, List.getElem?_cons_zero, List.getElem?_cons_succ] at hf0 hf1 hf2 hf3
      have hg0 := HB6.out.env.cells.cell 0
      have hg1 := HB6.out.env.cells.cell 1
      have hg2 := HB6.out.env.cells.cell 2
      have hg3 := HB6.out.env.cells.cell 3
      simp only [ND.cells, List.getElem?_cons_zero, List.getElem?_cons_succ] at hg0 hg1 hg2 hg3
      go_wp2_with fail
      clear hf0 hf1 hf2 hf3 hg0 hg1 hg2 hg3
      refine Calls.mono (same_yes M N W6 HB6.out.nd HB6.out.env.nd HQ.out) ?_
      rintro e7 w7 ⟨rfl, hb7⟩
      have HE7 := Lib.hid (HB6.out.env.kept hb7)
      clear HB6 hb7
      have hg0 := HE7.out.cells.cell 0
      have hg1 := HE7.out.cells.cell 1
      have hg2 := HE7.out.cells.cell 2
      have hg3 := HE7.out.cells.cell 3
      simp only [ND.cells, List.getElem?_cons_zero, List.getElem?_cons_succ] at hg0 hg1 hg2 hg3
      go_wp2_with fail
      clear hg0 hg1 hg2 hg3
      refine Calls.mono (class_any N w7) ?_
      rintro e8 w8 ⟨rfl, hb8⟩
      have HE8 := Lib.hid (HE7.out.kept hb8)
      clear HE7 hb8
      have hwl := words_len HE8.out.nd
      rw [← HM1.out] at hwl
      by_cases h4 : N.n3 ≤ 4
      · rw [if_pos h4] at hwl ⊢
        subst hwl
        go_wp2_with fail
        refine Calls.mono (words_any 1 8 (.inl ⟨rfl, rfl⟩) w8 HE8.out.lines) ?_
        rintro e9 w9 ⟨rfl, rfl⟩
        go_wp2_with fail
        refine Calls.mono (decode_any A n c L w8 (HX.out.kept HE8.out.below) HE8.out.lines hnc) ?_
        rintro e6 w6 ⟨M, r, rfl, hM, hb6, hD⟩
        have HE6 := Lib.hid (HE8.out.kept hb6)
        have HMA := Lib.hid hM
        obtain ⟨hb7, _⟩ := Beside9.start HE6.out HMA.out 31
        have HB7 := Lib.hid hb7
        clear HE8 hb6 hM hb7
        rcases hD with ⟨rfl, hr, hw⟩ | ⟨rfl, h_1, h_2⟩
        · have HR := Lib.hid hr
          have HW := Lib.hid hw
          clear hr hw
          go_upto_region 12 with (refine wpList_store_row rfl 31 _ _ rfl w6.heap.size M.cells.toArray rfl rfl 31 _ (Cells.new w6 ND.nil.cells _) size31 rfl (cells_one _) ?_)
          generalize hW : World.setRow _ _ _ = W7 at *
          generalize w6.heap.size = g2 at *
          clear hW HE6
          go_wp2_with (refine wpList_load_row rfl 31 _ rfl _ rfl 31 M.cells.toArray (0, 0) _ HB7.out.cells Tryd.underlying31 rfl rfl ?_)
          refine Calls.mono (encode_yes M W7 HB7.out.nd HB7.out.env.lines HR.out) ?_
          rintro e8 w8 ⟨b, m, rfl, HO, HM⟩
          have HB8 := Lib.hid (HB7.out.kept HO.out.below)
          obtain ⟨A1, d1, f1, hia⟩ := own_ints HO.out (by have := HM.out.2.2; simp only [maxLen]; omega) (wf_words HB8.out.nd HR.out)
          cases f1
          have HIA := Lib.hid hia
          clear HB7 HO hia HM
          go_wp2_with fail
          refine Calls.mono (same_words (some ⟨b, 0, none⟩) A m n m c (wordsL M) L w8 HIA.out (HX.out.kept HB8.out.env.below) true (by simpa using HW.out)) ?_
          rintro e9 w9 ⟨rfl, hb9⟩
          have HB9 := Lib.hid (HB8.out.kept hb9)
          clear HB8 hb9 HIA
          have hf0 := HB9.out.cells.cell 0
          have hf1 := HB9.out.cells.cell 1
          have hf2 := HB9.out.cells.cell 2
          have hf3 := HB9.out.cells.cell 3
          simp only [ND.cells, List.getElem?_cons_zero, List.getElem?_cons_succ] at hf0 hf1 hf2 hf3
          go_wp2_with fail
          clear hf0 hf1 hf2 hf3
          refine Calls.mono (right_any M w9 HB9.out.nd true (by simpa using HR.out)) ?_
          rintro e10 w10 ⟨rfl, hb10⟩
          have HB10 := Lib.hid (HB9.out.kept hb10)
          clear HB9 hb10
          go_wp2_with fail
          go_ret
          exact ⟨rfl, HB10.out.env.below⟩
        · clear h_1 h_2
          go_wp2_with (refine wpList_store_row rfl 31 _ _ rfl w6.heap.size M.cells.toArray rfl rfl 31 _ (Cells.new w6 ND.nil.cells _) size31 rfl (cells_one _) ?_)
          go_ret
          exact ⟨rfl, HB7.out.env.below⟩
      · rw [if_neg h4] at hwl ⊢
        subst hwl
        go_wp2_with fail
        refine Calls.mono (words_any 2 32 (.inr ⟨rfl, rfl⟩) w8 HE8.out.lines) ?_
        rintro e9 w9 ⟨rfl, rfl⟩
        go_wp2_with fail
        refine Calls.mono (decode_any A n c L w8 (HX.out.kept HE8.out.below) HE8.out.lines hnc) ?_
        rintro e6 w6 ⟨M, r, rfl, hM, hb6, hD⟩
        have HE6 := Lib.hid (HE8.out.kept hb6)
        have HMA := Lib.hid hM
        obtain ⟨hb7, _⟩ := Beside9.start HE6.out HMA.out 31
        have HB7 := Lib.hid hb7
        clear HE8 hb6 hM hb7
        rcases hD with ⟨rfl, hr, hw⟩ | ⟨rfl, h_1, h_2⟩
        · have HR := Lib.hid hr
          have HW := Lib.hid hw
          clear hr hw
          go_upto_region 12 with (refine wpList_store_row rfl 31 _ _ rfl w6.heap.size M.cells.toArray rfl rfl 31 _ (Cells.new w6 ND.nil.cells _) size31 rfl (cells_one _) ?_)
          generalize hW : World.setRow _ _ _ = W7 at *
          generalize w6.heap.size = g2 at *
          clear hW HE6
          go_wp2_with (refine wpList_load_row rfl 31 _ rfl _ rfl 31 M.cells.toArray (0, 0) _ HB7.out.cells Tryd.underlying31 rfl rfl ?_)
          refine Calls.mono (encode_yes M W7 HB7.out.nd HB7.out.env.lines HR.out) ?_
          rintro e8 w8 ⟨b, m, rfl, HO, HM⟩
          have HB8 := Lib.hid (HB7.out.kept HO.out.below)
          obtain ⟨A1, d1, f1, hia⟩ := own_ints HO.out (by have := HM.out.2.2; simp only [maxLen]; omega) (wf_words HB8.out.nd HR.out)
          cases f1
          have HIA := Lib.hid hia
          clear HB7 HO hia HM
          go_wp2_with fail
          refine Calls.mono (same_words (some ⟨b, 0, none⟩) A m n m c (wordsL M) L w8 HIA.out (HX.out.kept HB8.out.env.below) true (by simpa using HW.out)) ?_
          rintro e9 w9 ⟨rfl, hb9⟩
          have HB9 := Lib.hid (HB8.out.kept hb9)
          clear HB8 hb9 HIA
          have hf0 := HB9.out.cells.cell 0
          have hf1 := HB9.out.cells.cell 1
          have hf2 := HB9.out.cells.cell 2
          have hf3 := HB9.out.cells.cell 3
          simp only [ND.cells, List.getElem?_cons_zero, List.getElem?_cons_succ] at hf0 hf1 hf2 hf3
          go_wp2_with fail
          clear hf0 hf1 hf2 hf3
          refine Calls.mono (right_any M w9 HB9.out.nd true (by simpa using HR.out)) ?_
          rintro e10 w10 ⟨rfl, hb10⟩
          have HB10 := Lib.hid (HB9.out.kept hb10)
          clear HB9 hb10
          go_wp2_with fail
          go_ret
          exact ⟨rfl, HB10.out.env.below⟩
        · clear h_1 h_2
          go_wp2_with (refine wpList_store_row rfl 31 _ _ rfl w6.heap.size M.cells.toArray rfl rfl 31 _ (Cells.new w6 ND.nil.cells _) size31 rfl (cells_one _) ?_)
          go_ret
          exact ⟨rfl, HB7.out.env.below⟩
    · have HR := Lib.hid hr
      clear hr
      go_wp2_with (refine wpList_load_row rfl 26 _ rfl _ rfl 26 N.cells.toArray (0, 0) _ HE3.out.cells Tryd.underlying26 rfl rfl ?_)
      refine Calls.mono (encode_no N w3 HE3.out.nd HR.out) ?_
      rintro e w4 ⟨rfl, hb4⟩
      have HE4 := Lib.hid (HE3.out.kept hb4)
      clear HE3 hb4
      go_wp2_with fail
      refine Calls.mono (decode_any A n c L w4 (HX.out.kept HE4.out.below) HE4.out.lines hnc) ?_
      rintro e6 w6 ⟨M, r, rfl, hM, hb6, hD⟩
      have HE6 := Lib.hid (HE4.out.kept hb6)
      have HMA := Lib.hid hM
      obtain ⟨hb7, _⟩ := Beside9.start HE6.out HMA.out 31
      have HB7 := Lib.hid hb7
      clear HE4 hb6 hM hb7
      rcases hD with ⟨rfl, hr, hw⟩ | ⟨rfl, h_1, h_2⟩
      · have HR := Lib.hid hr
        have HW := Lib.hid hw
        clear hr hw
        go_upto_region 12 with (refine wpList_store_row rfl 31 _ _ rfl w6.heap.size M.cells.toArray rfl rfl 31 _ (Cells.new w6 ND.nil.cells _) size31 rfl (cells_one _) ?_)
        generalize hW : World.setRow _ _ _ = W7 at *
        generalize w6.heap.size = g2 at *
        clear hW HE6
        go_wp2_with (refine wpList_load_row rfl 31 _ rfl _ rfl 31 M.cells.toArray (0, 0) _ HB7.out.cells Tryd.underlying31 rfl rfl ?_)
        refine Calls.mono (encode_yes M W7 HB7.out.nd HB7.out.env.lines HR.out) ?_
        rintro e8 w8 ⟨b, m, rfl, HO, HM⟩
        have HB8 := Lib.hid (HB7.out.kept HO.out.below)
        obtain ⟨A1, d1, f1, hia⟩ := own_ints HO.out (by have := HM.out.2.2; simp only [maxLen]; omega) (wf_words HB8.out.nd HR.out)
        cases f1
        have HIA := Lib.hid hia
        clear HB7 HO hia HM
        go_wp2_with fail
        refine Calls.mono (same_words (some ⟨b, 0, none⟩) A m n m c (wordsL M) L w8 HIA.out (HX.out.kept HB8.out.env.below) true (by simpa using HW.out)) ?_
        rintro e9 w9 ⟨rfl, hb9⟩
        have HB9 := Lib.hid (HB8.out.kept hb9)
        clear HB8 hb9 HIA
        have hf0 := HB9.out.cells.cell 0
        have hf1 := HB9.out.cells.cell 1
        have hf2 := HB9.out.cells.cell 2
        have hf3 := HB9.out.cells.cell 3
        simp only [ND.cells, List.getElem?_cons_zero, List.getElem?_cons_succ] at hf0 hf1 hf2 hf3
        go_wp2_with fail
        clear hf0 hf1 hf2 hf3
        refine Calls.mono (right_any M w9 HB9.out.nd true (by simpa using HR.out)) ?_
        rintro e10 w10 ⟨rfl, hb10⟩
        have HB10 := Lib.hid (HB9.out.kept hb10)
        clear HB9 hb10
        go_wp2_with fail
        go_ret
        exact ⟨rfl, HB10.out.env.below⟩
      · clear h_1 h_2
        go_wp2_with (refine wpList_store_row rfl 31 _ _ rfl w6.heap.size M.cells.toArray rfl rfl 31 _ (Cells.new w6 ND.nil.cells _) size31 rfl (cells_one _) ?_)
        go_ret
        exact ⟨rfl, HB7.out.env.below⟩

end Go.Proofs.YtmfomkmdfddhaaaDoor.nodeBack
