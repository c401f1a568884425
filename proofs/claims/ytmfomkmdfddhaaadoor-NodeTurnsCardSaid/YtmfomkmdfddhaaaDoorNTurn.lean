/- NodeTurns: what is put in is there, at the word that is told; taken out it leaves the node as it was. -/
import Derived.Test.YtmfomkmdfddhaaaDoorRows
import Derived.Test.YtmfomkmdfddhaaaDoorTurn9
import Derived.Test.YtmfomkmdfddhaaaDoorPost
import Derived.Carry
namespace Go.Proofs.YtmfomkmdfddhaaaDoor.nodeTurns
open Go.ChangeShapes Go.WideShapes Go.ChangeAt Go.RowKit Go.Proofs.YtmfomkmdfddhaaaDoor.Mem Go.Proofs.YtmfomkmdfddhaaaDoor.Read Go.Proofs.YtmfomkmdfddhaaaDoor.Out Go.Proofs.YtmfomkmdfddhaaaDoor.Nib Go.Proofs.YtmfomkmdfddhaaaDoor.Node Go.Proofs.YtmfomkmdfddhaaaDoor.Slc Go.Proofs.YtmfomkmdfddhaaaDoor.Res Go.Proofs.YtmfomkmdfddhaaaDoor.Dec Go.Proofs.YtmfomkmdfddhaaaDoor.Kid Go.Proofs.YtmfomkmdfddhaaaDoor.Alive Go.Proofs.YtmfomkmdfddhaaaDoor.Open9 Go.Proofs.YtmfomkmdfddhaaaDoor.Words Go.Proofs.YtmfomkmdfddhaaaDoor.Back Go.Proofs.YtmfomkmdfddhaaaDoor.DecB Go.Proofs.YtmfomkmdfddhaaaDoor.Same9 Go.Proofs.YtmfomkmdfddhaaaDoor.With9 Go.Proofs.YtmfomkmdfddhaaaDoor.Wout9 Go.Proofs.YtmfomkmdfddhaaaDoor.Turn9
set_option maxRecDepth 100000
set_option maxHeartbeats 4000000


/-- A second node beside. -/
structure Two9 (N M K : ND) (W w : World) (g g2 g3 : Nat) : Prop where
  one : Beside9 N M W w g g2 31
  cells : Cells w g3 31 K.cells
  nd : K.At w

theorem Two9.kept {N M K : ND} {W w w' : World} {g g2 g3 : Nat} (h : Two9 N M K W w g g2 g3) (hb : Below w.heap.size w w') : Two9 N M K W w' g g2 g3 :=
  ⟨h.one.kept hb, h.cells.kept (Chg.of_below (F := fun _ => False) hb) (fun f => f), h.nd.kept hb⟩

theorem kid_range {N M : ND} {x y : Int} {i : Nat} {w : World} (h : Put9 N M x y i) (hM : M.At w) : ∃ K : Nat, kidAt M i x = K ∧ K < (wordsL M).length ∧ (wordsL M).getD K 0 = y := by
  obtain ⟨K, h1, _, h3, h4⟩ := words_kid hM h.right (j := i) (by have := h.n2; have := h.le; omega) h.lab
  exact ⟨K, h1, h3, by rw [h4, h.kid]⟩

theorem walk {H : Type} {enc : TypeId × Value → H} (W : World) {base : Nat} {v v1 v2 : Value} {d d1 d2 : DataW H} {p p1 p2 : List MemPlace} (h : DataW.Trod enc Tryd.prog W 0 (fun _ => true) true 26 v d p) (ho : Value.okWide Tryd.prog W .any base 26 v)
    (h1 : DataW.Trod enc Tryd.prog W 0 (fun _ => true) true 5 v1 d1 p1) (ho1 : Value.okWide Tryd.prog W .any base 5 v1)
    (h2 : DataW.Trod enc Tryd.prog W 0 (fun _ => true) true 23 v2 d2 p2) (ho2 : Value.okWide Tryd.prog W .any base 23 v2) (hl : LinesAt W) :
    Calls Tryd.prog 7 #[v, v1, v2] W fun e W' => e = .returned (.bool true) ∧ Below W.heap.size W W' := by
  obtain ⟨N, rfl, hN⟩ := node_open h ho
  obtain ⟨x, rfl, _, _, hxw⟩ := open_int Tryd.underlying5 ho1 h1
  obtain ⟨y, rfl, _, _, hyw⟩ := open_int Tryd.underlying23 ho2 h2
  have hxb := bounds_u8 hxw
  have HYW := Lib.hid hyw
  have HN := Lib.hid hN
  have HL := Lib.hid hl
  clear h ho h1 ho1 h2 ho2 hN hl hxw hyw
  unfold ND.v
  go_enter Tryd.func7, Tryd.ntmps7
  go_wp2_with fail
  have HE := Lib.hid (Env9.enter HN.out HL.out (Below.refl _ W))
  generalize hW : World.alloc W _ = W1 at *
  clear hW
  refine Calls.mono (alive_true W1 HE.out.lines) ?_
  rintro e w2 ⟨rfl, hb2⟩
  have HE2 := Lib.hid (HE.out.kept hb2)
  clear HE hb2
  go_wp2_with (refine wpList_load_row rfl 26 _ rfl _ rfl 26 N.cells.toArray (0, 0) _ HE2.out.cells Tryd.underlying26 rfl rfl ?_)
  refine Calls.mono (few_any N w2) ?_
  rintro e w3 ⟨rfl, hb3⟩
  have HE3 := Lib.hid (HE2.out.kept hb3)
  clear HE2 hb3
  cases hfew : fewB N with
  | false =>
    go_wp2_with fail
    go_ret
    exact ⟨rfl, HE3.out.below⟩
  | true =>
    have hn2 : N.n2 ≤ 1000000 := by
      have := hfew
      unfold fewB at this
      simp at this
      omega
    go_wp2_with (refine wpList_load_row rfl 26 _ rfl _ rfl 26 N.cells.toArray (0, 0) _ HE3.out.cells Tryd.underlying26 rfl rfl ?_)
    by_cases hok : RightP N ∧ x ∉ N.lab ∧ x < 16 ∧ y ≠ 0
    · obtain ⟨hr, hx, hx16, hy⟩ := hok
      have HR := Lib.hid hr
      have HX := Lib.hid hx
      have HYN := Lib.hid hy
      clear hr hx hy
      refine Calls.mono (with_yes N x y w3 HE3.out.nd HR.out HX.out hxb.1 hx16 HYN.out HYW.out) ?_
      rintro e4 w4 ⟨M, rfl, hP, hM, hb4⟩
      have HE4 := Lib.hid (HE3.out.kept hb4)
      have HMA := Lib.hid hM
      obtain ⟨i, hput⟩ := put9 HE4.out.nd hM HR.out HX.out hx16 HYN.out hP
      have HPUT := Lib.hid hput
      obtain ⟨hb5, _⟩ := Beside9.start HE4.out HMA.out 31
      have HB5 := Lib.hid hb5
      clear HE3 hb4 hM hP hput hb5
      go_upto_region 8 with (refine wpList_store_row rfl 31 _ _ rfl w4.heap.size M.cells.toArray rfl rfl 31 _ (Cells.new w4 ND.nil.cells _) size31 rfl (cells_one _) ?_)
      generalize hW : World.setRow _ _ _ = W5 at *
      generalize w4.heap.size = g2 at *
      clear hW HE4 HMA
      go_wp2_with (refine wpList_load_row rfl 31 _ rfl _ rfl 31 M.cells.toArray (0, 0) _ HB5.out.cells Tryd.underlying31 rfl rfl ?_)
      refine Calls.mono (kid_yes M x i W5 HB5.out.nd HB5.out.env.lines HPUT.out.right (by have := HPUT.out.n2; have := HPUT.out.le; omega) HPUT.out.lab) ?_
      rintro e6 w6 ⟨rfl, hb6⟩
      have HB6 := Lib.hid (HB5.out.kept hb6)
      obtain ⟨K, hK1, hK2, hK3⟩ := kid_range HPUT.out HB6.out.nd
      have hky := HPUT.out.kid
      rw [hK1, hky]
      have HK2 := Lib.hid hK2
      have HK3 := Lib.hid hK3
      clear HB5 hb6 hK1 hK2 hK3 hky
      go_wp2_with (refine wpList_load_row rfl 31 _ rfl _ rfl 31 M.cells.toArray (0, 0) _ HB6.out.cells Tryd.underlying31 rfl rfl ?_)
      refine Calls.mono (encode_yes M w6 HB6.out.nd HB6.out.env.lines HPUT.out.right) ?_
      rintro e7 w7 ⟨b, m, rfl, HO, HM⟩
      have HB7 := Lib.hid (HB6.out.kept HO.out.below)
      obtain ⟨A1, d1, f1, hia⟩ := own_ints HO.out (by have := HM.out.2.2; simp only [maxLen]; omega) (wf_words HB7.out.nd HPUT.out.right)
      cases f1
      have HIA := Lib.hid hia
      have hKm : K < m := by have := HM.out.1; have := HK2.out; omega
      clear HB6 HO hia HM HK2
      go_wp2_with (refine wpList_load_row rfl 31 _ rfl _ rfl 31 M.cells.toArray (0, 0) _ HB7.out.cells Tryd.underlying31 rfl rfl ?_)
      refine Calls.mono (without_yes M x i w7 HB7.out.nd HPUT.out.right (by have := HPUT.out.n2; have := HPUT.out.le; omega) HPUT.out.lab) ?_
      rintro e8 w8 ⟨V, rfl, hQ, hV, hb8⟩
      have HB8 := Lib.hid (HB7.out.kept hb8)
      have HIA8 := Lib.hid (HIA.out.kept hb8)
      have HVA := Lib.hid hV
      have HVN : Hid (Eqn V N) := Lib.hid (by
        unfold Eqn
        rw [hQ.1, hQ.2.1, hQ.2.2.1, hQ.2.2.2.1, HPUT.out.pre, HPUT.out.val, HPUT.out.labs, HPUT.out.kids])
      obtain ⟨hb9, hl9⟩ := Beside9.start HB8.out.env HVA.out 31
      have HT9 : Hid (Two9 N M V W _ W.heap.size g2 w8.heap.size) := Lib.hid ⟨HB8.out.kept hl9, hb9.cells, hb9.nd⟩
      have HIA9 := Lib.hid (HIA8.out.kept hl9)
      clear HB7 hb8 hV hQ hb9 hl9 HIA
      go_upto_region 11 with (refine wpList_store_row rfl 31 _ _ rfl w8.heap.size V.cells.toArray rfl rfl 31 _ (Cells.new w8 ND.nil.cells _) size31 rfl (cells_one _) ?_)
      generalize hW : World.setRow _ _ _ = W9 at *
      generalize w8.heap.size = g3 at *
      clear hW HB8 HIA8 HVA
      have hck := ints_cell HIA9.out hKm HK3.out.symm
      rw [Nat.zero_add] at hck
      have hb0 : decide ((K : Int) < 0) = false := decide_eq_false (by omega)
      have hb1 : decide ((m : Int) ≤ (K : Int)) = false := decide_eq_false (by omega)
      have hb1n : decide (m ≤ K) = false := decide_eq_false (by omega)
      have hf0 := HT9.out.cells.cell 0
      have hf1 := HT9.out.cells.cell 1
      have hf2 := HT9.out.cells.cell 2
      have hf3 := HT9.out.cells.cell 3
      simp only [ND.cells, List.getElem?_cons_zero, List.getElem?_cons_succ] at hf0 hf1 hf2 hf3
      have hg0 := HT9.out.one.env.cells.cell 0
      have hg1 := HT9.out.one.env.cells.cell 1
      have hg2 := HT9.out.one.env.cells.cell 2
      have hg3 := HT9.out.one.env.cells.cell 3
      simp only [ND.cells, List.getElem?_cons_zero, List.getElem?_cons_succ] at hg0 hg1 hg2 hg3
      go_wp2_with fail
      clear hf0 hf1 hf2 hf3 hg0 hg1 hg2 hg3 hck
      refine Calls.mono (same_yes V N W9 HT9.out.nd HT9.out.one.env.nd HVN.out) ?_
      rintro e10 w10 ⟨rfl, hb10⟩
      have HB10 := Lib.hid (HT9.out.one.kept hb10)
      clear HT9 hb10 HIA9 HK3
      have hn3 := HPUT.out.n3
      have hm3 : N.n3 ≤ 9223372036854775806 := by have := HB10.out.nd.kid.2.1; simp only [maxLen] at this; omega
      have hf0 := HB10.out.cells.cell 0
      have hf1 := HB10.out.cells.cell 1
      have hf2 := HB10.out.cells.cell 2
      have hf3 := HB10.out.cells.cell 3
      simp only [ND.cells, List.getElem?_cons_zero, List.getElem?_cons_succ] at hf0 hf1 hf2 hf3
      have hg0 := HB10.out.env.cells.cell 0
      have hg1 := HB10.out.env.cells.cell 1
      have hg2 := HB10.out.env.cells.cell 2
      have hg3 := HB10.out.env.cells.cell 3
      simp only [ND.cells, List.getElem?_cons_zero, List.getElem?_cons_succ] at hg0 hg1 hg2 hg3
      rw [hn3] at hf3
      clear hn3
      go_wp2_with fail
      clear hf0 hf1 hf2 hf3 hg0 hg1 hg3
      have hm2 : N.n2 ≤ 1000000 := hn2
      have hll := HB10.out.env.nd.lab.1
      go_loopw [122] (fun v wr => ∃ j : Nat, j ≤ N.n2 ∧ v = .int .i64 j ∧ Hid (Beside9 N M W wr W.heap.size g2 31)) (fun v _ => N.n2 - (intOf v).toNat)
      case atStart => exact ⟨0, by omega, rfl, HB10⟩
      case round =>
        clear HB10 hg2
        obtain ⟨j, hj, rfl, HB⟩ := hrel
        by_cases hjn : j < N.n2
        · obtain ⟨bb, off, hA, _, hc⟩ := HB.out.env.nd.lab.2.2.2 (by omega)
          have hc0 := hc j hjn
          obtain ⟨l, hl⟩ : ∃ l, l = N.lab.getD j 0 := ⟨_, rfl⟩
          rw [← hl] at hc0
          obtain ⟨k, hk, hkl, hkk⟩ := HPUT.out.all j hjn
          rw [← hl] at hkl
          have HKL := Lib.hid hkl
          have HKK := Lib.hid hkk
          rw [hA]
          clear hc hl hkl hkk hA
          go_upto_region 16 with (fail)
          clear hc0
          go_wp2_with (refine wpList_load_row rfl 31 _ rfl _ rfl 31 M.cells.toArray (0, 0) _ HB.out.cells Tryd.underlying31 rfl rfl ?_)
          refine Calls.mono (kid_yes M l k wr HB.out.nd HB.out.env.lines HPUT.out.right hk HKL.out) ?_
          rintro e12 w12 ⟨rfl, hb12⟩
          have HB12 := Lib.hid (HB.out.kept hb12)
          have hn23 : N.n2 = N.n3 := by have := HR.out.2.1; have := HB12.out.env.nd.lab.1; have := HB12.out.env.nd.kid.1; omega
          obtain ⟨b3, o3, hA3, _, hc3⟩ := HB12.out.env.nd.kid.2.2.2 (by omega)
          have hc30 := hc3 j (by omega)
          rw [HKK.out]
          obtain ⟨q, hq⟩ : ∃ q, q = N.kid.getD j 0 := ⟨_, rfl⟩
          rw [← hq] at hc30 ⊢
          have hg0 := HB12.out.env.cells.cell 0
          have hg1 := HB12.out.env.cells.cell 1
          have hg2 := HB12.out.env.cells.cell 2
          have hg3 := HB12.out.env.cells.cell 3
          simp only [ND.cells, List.getElem?_cons_zero, List.getElem?_cons_succ] at hg0 hg1 hg2 hg3
          rw [hA3] at hg3
          have hj3 : j < N.n3 := by omega
          clear HB hb12 hc3 hA3 hq hn23
          go_wp2_with fail
          go_roundw
          case rel => exact ⟨j + 1, by omega, by go_num, HB12⟩
          case measure => simp [intOf]; omega
        · go_wp2_with fail
          go_ret
          exact ⟨rfl, HB.out.env.below⟩
    · have HBAD : Hid (¬ RightP N ∨ x ∈ N.lab ∨ 16 ≤ x ∨ y = 0) := Lib.hid (by
        by_cases h1 : RightP N
        · by_cases h2 : x ∈ N.lab
          · exact .inr (.inl h2)
          · by_cases h3 : x < 16
            · exact .inr (.inr (.inr (Classical.byContradiction fun h4 => hok ⟨h1, h2, h3, h4⟩)))
            · exact .inr (.inr (.inl (by omega)))
        · exact .inl h1)
      clear hok
      refine Calls.mono (with_no N x y w3 HE3.out.nd hn2 HBAD.out) ?_
      rintro e4 w4 ⟨rfl, hb4⟩
      have HE4 := Lib.hid (HE3.out.kept hb4)
      obtain ⟨hb5, _⟩ := Beside9.start HE4.out (M := ND.nil) ⟨ints_nil _ _, ints_nil _ _, ints_nil _ _, rfl⟩ 31
      have HB5 := Lib.hid hb5.env
      clear HE3 hb4 hb5
      go_upto_region 7 with (refine wpList_store_row rfl 31 _ _ rfl w4.heap.size ND.nil.cells.toArray rfl rfl 31 _ (Cells.new w4 ND.nil.cells _) size31 rfl (cells_one _) ?_)
      generalize hW : World.setRow _ _ _ = W5 at *
      generalize w4.heap.size = g2 at *
      clear hW HE4
      go_wp2_with (refine wpList_load_row rfl 26 _ rfl _ rfl 26 N.cells.toArray (0, 0) _ HB5.out.cells Tryd.underlying26 rfl rfl ?_)
      by_cases hr : RightP N
      · have HR := Lib.hid hr
        clear hr
        refine Calls.mono (right_any N W5 HB5.out.nd true (by simpa using HR.out)) ?_
        rintro e6 w6 ⟨rfl, hb6⟩
        have HE6 := Lib.hid (HB5.out.kept hb6)
        clear HB5 hb6
        by_cases hx16 : 15 < x
        · have hb1 : decide ((15 : Int) < x) = true := decide_eq_true hx16
          go_wp2_with fail
          go_ret
          exact ⟨rfl, HE6.out.below⟩
        · have hb1 : decide ((15 : Int) < x) = false := decide_eq_false hx16
          by_cases hy : y = 0
          · have hb2 : (y == 0) = true := by simpa using hy
            have HY0 := Lib.hid hy
            clear hy
            go_wp2_with fail
            go_ret
            exact ⟨rfl, HE6.out.below⟩
          · have hb2 : (y == 0) = false := by simpa using hy
            have HXL : Hid (x ∈ N.lab) := Lib.hid (by
              rcases HBAD.out with h | h | h | h
              · exact absurd HR.out h
              · exact h
              · omega
              · exact absurd h hy)
            clear hy
            have hg0 := HE6.out.cells.cell 0
            have hg1 := HE6.out.cells.cell 1
            have hg2 := HE6.out.cells.cell 2
            have hg3 := HE6.out.cells.cell 3
            simp only [ND.cells, List.getElem?_cons_zero, List.getElem?_cons_succ] at hg0 hg1 hg2 hg3
            go_wp2_with fail
            clear hg0 hg1 hg2 hg3
            refine Calls.mono (find_any N x w6 HE6.out.nd true (by simpa using HXL.out)) ?_
            rintro e7 w7 ⟨r, rfl, hr0, hb7⟩
            have HE7 := Lib.hid (HE6.out.kept hb7)
            clear HE6 hb7
            go_wp2_with fail
            go_ret
            exact ⟨rfl, HE7.out.below⟩
      · have HR := Lib.hid hr
        clear hr
        refine Calls.mono (right_any N W5 HB5.out.nd false (by simpa using HR.out)) ?_
        rintro e6 w6 ⟨rfl, hb6⟩
        have HE6 := Lib.hid (HB5.out.kept hb6)
        clear HB5 hb6
        go_wp2_with fail
        go_ret
        exact ⟨rfl, HE6.out.below⟩
end Go.Proofs.YtmfomkmdfddhaaaDoor.nodeTurns
