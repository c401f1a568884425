/- NodeKids: the one below at any label of any node, and this with another one, or without, are the document's, or there are none. -/
import Derived.Test.YtmfomkmdfddhaaaDoorRows
import Derived.Test.YtmfomkmdfddhaaaDoorRefX9
import Derived.Test.YtmfomkmdfddhaaaDoorPost
import Derived.Carry
namespace Go.Proofs.YtmfomkmdfddhaaaDoor.nodeKids
open Go.ChangeShapes Go.WideShapes Go.ChangeAt Go.RowKit Go.Proofs.YtmfomkmdfddhaaaDoor.Mem Go.Proofs.YtmfomkmdfddhaaaDoor.Read Go.Proofs.YtmfomkmdfddhaaaDoor.Out Go.Proofs.YtmfomkmdfddhaaaDoor.Nib Go.Proofs.YtmfomkmdfddhaaaDoor.Node Go.Proofs.YtmfomkmdfddhaaaDoor.Slc Go.Proofs.YtmfomkmdfddhaaaDoor.Res Go.Proofs.YtmfomkmdfddhaaaDoor.Dec Go.Proofs.YtmfomkmdfddhaaaDoor.Kid Go.Proofs.YtmfomkmdfddhaaaDoor.Alive Go.Proofs.YtmfomkmdfddhaaaDoor.Open9 Go.Proofs.YtmfomkmdfddhaaaDoor.Words Go.Proofs.YtmfomkmdfddhaaaDoor.Back Go.Proofs.YtmfomkmdfddhaaaDoor.DecB Go.Proofs.YtmfomkmdfddhaaaDoor.Same9 Go.Proofs.YtmfomkmdfddhaaaDoor.With9 Go.Proofs.YtmfomkmdfddhaaaDoor.Wout9 Go.Proofs.YtmfomkmdfddhaaaDoor.Turn9 Go.Proofs.YtmfomkmdfddhaaaDoor.Ref9 Go.Proofs.YtmfomkmdfddhaaaDoor.RefW9 Go.Proofs.YtmfomkmdfddhaaaDoor.RefX9
set_option maxRecDepth 100000
set_option maxHeartbeats 4000000

/-- What a node is. -/
def ND.tup (M : ND) : List Int × Int × List Int × List Int := (M.pre, M.val, M.lab, M.kid)
/-- A call answers a node that is t, and b. -/
def TupP (t : List Int × Int × List Int × List Int) (b : Bool) (w : World) (e : Ending) (w' : World) : Prop := ∃ M : ND, e = .returned (.tuple #[M.v, .bool b]) ∧ ND.tup M = t ∧ M.At w' ∧ Below w.heap.size w w'

theorem nil_at (w : World) : ND.nil.At w := ⟨ints_nil _ _, ints_nil _ _, ints_nil _ _, rfl⟩

theorem tup_none {w : World} {e : Ending} {w' : World} (h : e = .returned (.tuple #[ND.nil.v, .bool false]) ∧ Below w.heap.size w w') : TupP (ND.tup ND.nil) false w e w' := ⟨ND.nil, h.1, rfl, nil_at _, h.2⟩

theorem pos_one {l : List Int} (hr : LabOk l) {x : Int} {n i p : Nat} (hl : l.length = n) (hs : Srch l x n i false) (hp : Pos l x p) : i = p := by
  have hq := hs.place hr
  rcases Nat.lt_trichotomy i p with h | h | h
  · have h1 := hp.2.1 i h
    have h2 := hq.2 i (Nat.le_refl _) (by have := hp.1; omega)
    omega
  · exact h
  · have h1 := hq.1 p h
    have h2 := hp.2.2 p (Nat.le_refl _) (by have := hs.le; omega)
    omega

theorem pos_ex {l : List Int} (hr : LabOk l) {x : Int} (hx : x ∉ l) : ∃ p, Pos l x p := by
  have hne : ∀ k, k < l.length → x ≠ l.getD k 0 := fun k hk e => hx (e ▸ getD_mem hk)
  by_cases h : ∃ j, j < l.length ∧ x < l.getD j 0
  · obtain ⟨j, hj⟩ := h
    induction j using Nat.strongRecOn with
    | ind j ih =>
      by_cases hm : ∃ k, k < j ∧ k < l.length ∧ x < l.getD k 0
      · obtain ⟨k, hk1, hk2⟩ := hm
        exact ih k hk1 hk2
      · exact ⟨j, pos_at hr hj.1 (fun k hk => by
          have h1 : ¬ x < l.getD k 0 := fun h => hm ⟨k, hk, by omega, h⟩
          have h2 := hne k (by omega)
          omega) hj.2⟩
  · exact ⟨l.length, Nat.le_refl _, fun j hj => by
      have h1 : ¬ x < l.getD j 0 := fun h2 => h ⟨j, hj, h2⟩
      have h2 := hne j hj
      omega, fun j h1 h2 => by omega⟩

theorem kid_same (N : ND) (x : Int) (hn : N.n2 ≤ 1000000) : ∃ (a t : Int) (b : Bool), (∀ w, N.At w → LinesAt w → Calls Tryd.prog 17 #[N.v, .int .u8 x] w fun e w' => e = .returned (.tuple #[.int .u64 a, .int .i64 t, .bool b]) ∧ Below w.heap.size w w') ∧
    (∀ w, N.At w → Calls Tryd.prog 18 #[N.v, .int .u8 x] w fun e w' => e = .returned (.tuple #[.int .u64 a, .int .i64 t, .bool b]) ∧ Below w.heap.size w w') := by
  by_cases h : RightP N ∧ x ∈ N.lab
  · obtain ⟨hr, hx⟩ := h
    obtain ⟨j, hj, e⟩ := mem_getD hx
    exact ⟨_, _, true, fun w hN hl => kid_yes N x j w hN hl hr (by have := hN.lab.1; omega) e, fun w hN => rkid_yes N x j w hN hr (by have := hN.lab.1; omega) e⟩
  · have hb : ¬ RightP N ∨ x ∉ N.lab := by
      by_cases h1 : RightP N
      · exact .inr (fun h2 => h ⟨h1, h2⟩)
      · exact .inl h1
    exact ⟨0, 0, false, fun w hN _ => kid_no N x w hN hn hb, fun w hN => rkid_no N x w hN hb⟩

theorem with_same (N : ND) (x y : Int) (hn : N.n2 ≤ 1000000) (hx0 : 0 ≤ x) (hyw : (Lit.int .u64 y).wf = true) : ∃ t b, (∀ w, N.At w → Calls Tryd.prog 19 #[N.v, .int .u8 x, .int .u64 y] w (TupP t b w)) ∧ (∀ w, N.At w → Calls Tryd.prog 20 #[N.v, .int .u8 x, .int .u64 y] w (TupP t b w)) := by
  by_cases h : RightP N ∧ x ∉ N.lab ∧ x < 16 ∧ y ≠ 0
  · obtain ⟨hr, hx, hx16, hy⟩ := h
    obtain ⟨p, hp⟩ := pos_ex hr.2.2.2 hx
    refine ⟨(N.pre, N.val, insL N.lab p x, insL N.kid p y), true, fun w hN => (with_yes N x y w hN hr hx hx0 hx16 hy hyw).mono ?_, fun w hN => (rwith_yes N x y w hN hr hx hx0 hx16 hy hyw).mono ?_⟩
    · rintro e w' ⟨M, h1, ⟨i, _, hs, e1, e2, e3, e4, _⟩, h3, h4⟩
      obtain rfl := pos_one hr.2.2.2 hN.lab.1 hs hp
      exact ⟨M, h1, by unfold ND.tup; rw [e1, e2, e3, e4], h3, h4⟩
    · rintro e w' ⟨M, h1, ⟨q, hq, e1, e2, e3, e4⟩, h3, h4⟩
      have : q = p := by
        rcases Nat.lt_trichotomy q p with h | h | h
        · have h1 := hp.2.1 q h
          have h2 := hq.2.2 q (Nat.le_refl _) (by have := hp.1; omega)
          omega
        · exact h
        · have h1 := hq.2.1 p h
          have h2 := hp.2.2 p (Nat.le_refl _) (by have := hq.1; omega)
          omega
      subst this
      exact ⟨M, h1, by unfold ND.tup; rw [e1, e2, e3, e4], h3, h4⟩
  · have hb : ¬ RightP N ∨ x ∈ N.lab ∨ 16 ≤ x ∨ y = 0 := by
      by_cases h1 : RightP N
      · by_cases h2 : x ∈ N.lab
        · exact .inr (.inl h2)
        · by_cases h3 : x < 16
          · exact .inr (.inr (.inr (Classical.byContradiction fun h4 => h ⟨h1, h2, h3, h4⟩)))
          · exact .inr (.inr (.inl (by omega)))
      · exact .inl h1
    exact ⟨_, _, fun w hN => (with_no N x y w hN hn hb).mono fun _ _ h => tup_none h, fun w hN => (rwith_no N x y w hN hb).mono fun _ _ h => tup_none h⟩

theorem without_same (N : ND) (x : Int) (hn : N.n2 ≤ 1000000) : ∃ t b, (∀ w, N.At w → Calls Tryd.prog 21 #[N.v, .int .u8 x] w (TupP t b w)) ∧ (∀ w, N.At w → Calls Tryd.prog 22 #[N.v, .int .u8 x] w (TupP t b w)) := by
  by_cases h : RightP N ∧ x ∈ N.lab
  · obtain ⟨hr, hx⟩ := h
    obtain ⟨j, hj, e⟩ := mem_getD hx
    refine ⟨(N.pre, N.val, N.lab.eraseIdx j, N.kid.eraseIdx j), true, fun w hN => (without_yes N x j w hN hr (by have := hN.lab.1; omega) e).mono ?_, fun w hN => (rwout_yes N x j w hN hr (by have := hN.lab.1; omega) e).mono ?_⟩
    · rintro e w' ⟨M, h1, ⟨e1, e2, e3, e4, _⟩, h3, h4⟩
      exact ⟨M, h1, by unfold ND.tup; rw [e1, e2, e3, e4], h3, h4⟩
    · rintro e w' ⟨M, h1, ⟨e1, e2, e3, e4⟩, h3, h4⟩
      exact ⟨M, h1, by unfold ND.tup; rw [e1, e2, e3, e4], h3, h4⟩
  · have hb : ¬ RightP N ∨ x ∉ N.lab := by
      by_cases h1 : RightP N
      · exact .inr (fun h2 => h ⟨h1, h2⟩)
      · exact .inl h1
    exact ⟨_, _, fun w hN => (without_no N x w hN hn hb).mono fun _ _ h => tup_none h, fun w hN => (rwout_no N x w hN hb).mono fun _ _ h => tup_none h⟩

/-- A node in a block of the call's own. -/
structure NB (M : ND) (T : TypeId) (w : World) (g : Nat) : Prop where
  cells : Cells w g T M.cells
  nd : M.At w

theorem NB.kept {M : ND} {T : TypeId} {w w' : World} {g : Nat} (h : NB M T w g) (hb : Below w.heap.size w w') : NB M T w' g :=
  ⟨h.cells.kept (Chg.of_below (F := fun _ => False) hb) (fun f => f), h.nd.kept hb⟩

theorem NB.start {M : ND} {w : World} (hM : M.At w) (T : TypeId) :
    NB M T ((w.alloc (.cells #[.slice none 0 0, .int .u64 0, .slice none 0 0, .slice none 0 0] T)).setRow w.heap.size M.cells.toArray) w.heap.size ∧ Below w.heap.size w ((w.alloc (.cells #[.slice none 0 0, .int .u64 0, .slice none 0 0, .slice none 0 0] T)).setRow w.heap.size M.cells.toArray) := by
  have c0 := Cells.new w ND.nil.cells T
  have c1 := row_set c0 M.cells
  have b0 := row_below ((Below.refl w.heap.size w).alloc (Nat.le_refl _) (.cells ND.nil.cells.toArray T)) M.cells.toArray (Nat.le_refl _)
  exact ⟨⟨c1, hM.kept b0⟩, b0⟩


theorem walk {H : Type} {enc : TypeId × Value → H} (W : World) {base : Nat} {v v1 v2 : Value} {d d1 d2 : DataW H} {p p1 p2 : List MemPlace} (h : DataW.Trod enc Tryd.prog W 0 (fun _ => true) true 26 v d p) (ho : Value.okWide Tryd.prog W .any base 26 v)
    (h1 : DataW.Trod enc Tryd.prog W 0 (fun _ => true) true 5 v1 d1 p1) (ho1 : Value.okWide Tryd.prog W .any base 5 v1)
    (h2 : DataW.Trod enc Tryd.prog W 0 (fun _ => true) true 23 v2 d2 p2) (ho2 : Value.okWide Tryd.prog W .any base 23 v2) (hl : LinesAt W) :
    Calls Tryd.prog 6 #[v, v1, v2] W fun e W' => e = .returned (.bool true) ∧ Below W.heap.size W W' := by
  obtain ⟨N, rfl, hN⟩ := node_open h ho
  obtain ⟨x, rfl, _, _, hxw⟩ := open_int Tryd.underlying5 ho1 h1
  obtain ⟨y, rfl, _, _, hyw⟩ := open_int Tryd.underlying23 ho2 h2
  have hxb := bounds_u8 hxw
  have HYW := Lib.hid hyw
  have HN := Lib.hid hN
  have HL := Lib.hid hl
  clear h ho h1 ho1 h2 ho2 hN hl hxw hyw
  unfold ND.v
  go_enter Tryd.func6, Tryd.ntmps6
  go_wp2_with fail
  have HE := Lib.hid (Env9.enter HN.out HL.out (Below.refl _ W))
  generalize hW : World.alloc W _ = W1 at *
  clear hW
  refine Calls.mono (alive_true W1 HE.out.lines) ?_
  rintro e w2 ⟨rfl, hb2⟩
  have HE2 := Lib.hid (HE.out.kept hb2)
  clear HE hb2
  go_wp2_with (refine wpList_load_row rfl 26 _ rfl _ rfl 26 N.cells.toArray (0, 0) _ HE2.out.cells Tryd.underlying26 rfl rfl ?_)
  refine Calls.mono (few_any N w2) ?_
  rintro e w3 ⟨rfl, hb3⟩
  have HE3 := Lib.hid (HE2.out.kept hb3)
  clear HE2 hb3
  cases hfew : fewB N with
  | false =>
    go_wp2_with fail
    go_ret
    exact ⟨rfl, HE3.out.below⟩
  | true =>
    have hn2 : N.n2 ≤ 1000000 := by
      have := hfew
      unfold fewB at this
      simp at this
      omega
    obtain ⟨ka, kt, kb, hk1, hk2⟩ := kid_same N x hn2
    obtain ⟨wt, wb, hw1, hw2⟩ := with_same N x y hn2 hxb.1 HYW.out
    obtain ⟨ot, ob, ho1, ho2⟩ := without_same N x hn2
    have HK1 := Lib.hid hk1
    have HK2 := Lib.hid hk2
    have HW1 := Lib.hid hw1
    have HW2 := Lib.hid hw2
    have HO1 := Lib.hid ho1
    have HO2 := Lib.hid ho2
    clear hk1 hk2 hw1 hw2 ho1 ho2
    go_wp2_with (refine wpList_load_row rfl 26 _ rfl _ rfl 26 N.cells.toArray (0, 0) _ HE3.out.cells Tryd.underlying26 rfl rfl ?_)
    refine Calls.mono (HK1.out w3 HE3.out.nd HE3.out.lines) ?_
    rintro e4 w4 ⟨rfl, hb4⟩
    have HE4 := Lib.hid (HE3.out.kept hb4)
    clear HE3 hb4
    go_wp2_with (refine wpList_load_row rfl 26 _ rfl _ rfl 26 N.cells.toArray (0, 0) _ HE4.out.cells Tryd.underlying26 rfl rfl ?_)
    refine Calls.mono (HK2.out w4 HE4.out.nd) ?_
    rintro e5 w5 ⟨rfl, hb5⟩
    have HE5 := Lib.hid (HE4.out.kept hb5)
    clear HE4 hb5
    go_wp2_with (refine wpList_load_row rfl 26 _ rfl _ rfl 26 N.cells.toArray (0, 0) _ HE5.out.cells Tryd.underlying26 rfl rfl ?_)
    refine Calls.mono (HW1.out w5 HE5.out.nd) ?_
    rintro e6 w6 ⟨M1, rfl, hm1, hM1, hb6⟩
    have HM1 := Lib.hid hM1
    have HT1 := Lib.hid hm1
    have HE6 := Lib.hid (HE5.out.kept hb6)
    clear HE5 hb6 hm1 hM1
    obtain ⟨hb1, hl1⟩ := NB.start HM1.out 31
    have HP1 := Lib.hid hb1
    have HLX := Lib.hid hl1
    clear hb1 hl1
    go_upto_region 8 with (refine wpList_store_row rfl 31 _ _ rfl w6.heap.size M1.cells.toArray rfl rfl 31 _ (Cells.new w6 ND.nil.cells _) size31 rfl (cells_one _) ?_)
    generalize hW : World.setRow _ _ _ = W7 at *
    clear hW
    have HE7 := Lib.hid (HE6.out.kept HLX.out)
    clear HE6 HLX HM1
    go_wp2_with (refine wpList_load_row rfl 26 _ rfl _ rfl 26 N.cells.toArray (0, 0) _ HE7.out.cells Tryd.underlying26 rfl rfl ?_)
    refine Calls.mono (HW2.out W7 HE7.out.nd) ?_
    rintro e8 w8 ⟨M2, rfl, hm2, hM2, hb8⟩
    have HM2 := Lib.hid hM2
    have HT2 := Lib.hid hm2
    have HE8 := Lib.hid (HE7.out.kept hb8)
    have HP18 := Lib.hid (HP1.out.kept hb8)
    clear HE7 HP1 hb8 hm2 hM2
    obtain ⟨hb1, hl1⟩ := NB.start HM2.out 26
    have HP2 := Lib.hid hb1
    have HLX := Lib.hid hl1
    clear hb1 hl1
    go_upto_region 9 with (refine wpList_store_row rfl 26 _ _ rfl w8.heap.size M2.cells.toArray rfl rfl 26 _ (Cells.new w8 ND.nil.cells _) size_rn rfl (cells_one _) ?_)
    generalize hW : World.setRow _ _ _ = W9 at *
    clear hW
    have HE9 := Lib.hid (HE8.out.kept HLX.out)
    have HP19 := Lib.hid (HP18.out.kept HLX.out)
    clear HE8 HP18 HLX HM2
    go_wp2_with (refine wpList_load_row rfl 26 _ rfl _ rfl 26 N.cells.toArray (0, 0) _ HE9.out.cells Tryd.underlying26 rfl rfl ?_)
    refine Calls.mono (HO1.out W9 HE9.out.nd) ?_
    rintro e10 w10 ⟨M3, rfl, hm3, hM3, hb10⟩
    have HM3 := Lib.hid hM3
    have HT3 := Lib.hid hm3
    have HE10 := Lib.hid (HE9.out.kept hb10)
    have HP110 := Lib.hid (HP19.out.kept hb10)
    have HP210 := Lib.hid (HP2.out.kept hb10)
    clear HE9 HP19 HP2 hb10 hm3 hM3
    obtain ⟨hb1, hl1⟩ := NB.start HM3.out 31
    have HP3 := Lib.hid hb1
    have HLX := Lib.hid hl1
    clear hb1 hl1
    go_upto_region 10 with (refine wpList_store_row rfl 31 _ _ rfl w10.heap.size M3.cells.toArray rfl rfl 31 _ (Cells.new w10 ND.nil.cells _) size31 rfl (cells_one _) ?_)
    generalize hW : World.setRow _ _ _ = W11 at *
    clear hW
    have HE11 := Lib.hid (HE10.out.kept HLX.out)
    have HP111 := Lib.hid (HP110.out.kept HLX.out)
    have HP211 := Lib.hid (HP210.out.kept HLX.out)
    clear HE10 HP110 HP210 HLX HM3
    go_wp2_with (refine wpList_load_row rfl 26 _ rfl _ rfl 26 N.cells.toArray (0, 0) _ HE11.out.cells Tryd.underlying26 rfl rfl ?_)
    refine Calls.mono (HO2.out W11 HE11.out.nd) ?_
    rintro e12 w12 ⟨M4, rfl, hm4, hM4, hb12⟩
    have HM4 := Lib.hid hM4
    have HT4 := Lib.hid hm4
    have HE12 := Lib.hid (HE11.out.kept hb12)
    have HP112 := Lib.hid (HP111.out.kept hb12)
    have HP212 := Lib.hid (HP211.out.kept hb12)
    have HP312 := Lib.hid (HP3.out.kept hb12)
    clear HE11 HP111 HP211 HP3 hb12 hm4 hM4
    obtain ⟨hb1, hl1⟩ := NB.start HM4.out 26
    have HP4 := Lib.hid hb1
    have HLX := Lib.hid hl1
    clear hb1 hl1
    go_upto_region 11 with (refine wpList_store_row rfl 26 _ _ rfl w12.heap.size M4.cells.toArray rfl rfl 26 _ (Cells.new w12 ND.nil.cells _) size_rn rfl (cells_one _) ?_)
    generalize hW : World.setRow _ _ _ = W13 at *
    clear hW
    have HE13 := Lib.hid (HE12.out.kept HLX.out)
    have HP113 := Lib.hid (HP112.out.kept HLX.out)
    have HP213 := Lib.hid (HP212.out.kept HLX.out)
    have HP313 := Lib.hid (HP312.out.kept HLX.out)
    clear HE12 HP112 HP212 HP312 HLX HM4
    generalize w6.heap.size = g1 at *
    generalize w8.heap.size = g2 at *
    generalize w10.heap.size = g3 at *
    generalize w12.heap.size = g4 at *
    have hf0 := HP113.out.cells.cell 0
    have hf1 := HP113.out.cells.cell 1
    have hf2 := HP113.out.cells.cell 2
    have hf3 := HP113.out.cells.cell 3
    simp only [ND.cells, List.getElem?_cons_zero, List.getElem?_cons_succ] at hf0 hf1 hf2 hf3
    have hg0 := HP213.out.cells.cell 0
    have hg1 := HP213.out.cells.cell 1
    have hg2 := HP213.out.cells.cell 2
    have hg3 := HP213.out.cells.cell 3
    simp only [ND.cells, List.getElem?_cons_zero, List.getElem?_cons_succ] at hg0 hg1 hg2 hg3
    go_wp2_with fail
    clear hf0 hf1 hf2 hf3 hg0 hg1 hg2 hg3
    refine Calls.mono (same_yes M1 M2 W13 HP113.out.nd HP213.out.nd (HT1.out.trans HT2.out.symm)) ?_
    rintro e14 w14 ⟨rfl, hb14⟩
    have HE14 := Lib.hid (HE13.out.kept hb14)
    have HP314 := Lib.hid (HP313.out.kept hb14)
    have HP414 := Lib.hid (HP4.out.kept hb14)
    clear HE13 HP313 HP4 HP113 HP213 hb14
    have hf0 := HP314.out.cells.cell 0
    have hf1 := HP314.out.cells.cell 1
    have hf2 := HP314.out.cells.cell 2
    have hf3 := HP314.out.cells.cell 3
    simp only [ND.cells, List.getElem?_cons_zero, List.getElem?_cons_succ] at hf0 hf1 hf2 hf3
    have hg0 := HP414.out.cells.cell 0
    have hg1 := HP414.out.cells.cell 1
    have hg2 := HP414.out.cells.cell 2
    have hg3 := HP414.out.cells.cell 3
    simp only [ND.cells, List.getElem?_cons_zero, List.getElem?_cons_succ] at hg0 hg1 hg2 hg3
    go_wp2_with fail
    clear hf0 hf1 hf2 hf3 hg0 hg1 hg2 hg3
    refine Calls.mono (same_yes M3 M4 w14 HP314.out.nd HP414.out.nd (HT3.out.trans HT4.out.symm)) ?_
    rintro e15 w15 ⟨rfl, hb15⟩
    have HE15 := Lib.hid (HE14.out.kept hb15)
    clear HE14 hb15
    go_wp2_with fail
    go_ret
    exact ⟨rfl, HE15.out.below⟩
end Go.Proofs.YtmfomkmdfddhaaaDoor.nodeKids
