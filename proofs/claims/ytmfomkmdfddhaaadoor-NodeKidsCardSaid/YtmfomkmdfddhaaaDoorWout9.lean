/- Layer 9's node: With of what may not be; Without. -/
import Derived.Test.YtmfomkmdfddhaaaDoorWith9
namespace Go.Proofs.YtmfomkmdfddhaaaDoor.Wout9
open Go.RowKit Go.Proofs.YtmfomkmdfddhaaaDoor.Mem Go.Proofs.YtmfomkmdfddhaaaDoor.Read Go.Proofs.YtmfomkmdfddhaaaDoor.Out Go.Proofs.YtmfomkmdfddhaaaDoor.Nib Go.Proofs.YtmfomkmdfddhaaaDoor.Node Go.Proofs.YtmfomkmdfddhaaaDoor.Slc Go.Proofs.YtmfomkmdfddhaaaDoor.Res Go.Proofs.YtmfomkmdfddhaaaDoor.Dec Go.Proofs.YtmfomkmdfddhaaaDoor.Kid Go.Proofs.YtmfomkmdfddhaaaDoor.Words Go.Proofs.YtmfomkmdfddhaaaDoor.DecB Go.Proofs.YtmfomkmdfddhaaaDoor.Same9 Go.Proofs.YtmfomkmdfddhaaaDoor.Open9 Go.Proofs.YtmfomkmdfddhaaaDoor.Own9 Go.Proofs.YtmfomkmdfddhaaaDoor.Ins9 Go.Proofs.YtmfomkmdfddhaaaDoor.With9
set_option maxRecDepth 100000


set_option maxHeartbeats 4000000 in
theorem with_no (N : ND) (x y : Int) (w : World) (h : N.At w) (hn : N.n2 ≤ 1000000) (hbad : ¬ RightP N ∨ x ∈ N.lab ∨ 16 ≤ x ∨ y = 0) :
    Calls Tryd.prog 19 #[N.v, .int .u8 x, .int .u64 y] w fun e w' => e = .returned (.tuple #[ND.nil.v, .bool false]) ∧ Below w.heap.size w w' := by
  have HS := Lib.hid (WS.enter h)
  have HN := Lib.hid h
  have HB := Lib.hid hbad
  clear h hbad
  unfold ND.v
  go_enter Tryd.func19, Tryd.ntmps19
  go_upto_region 1 with (fail)
  generalize hW : World.alloc (World.alloc w _) _ = W1 at *
  clear hW
  go_wp2_with (refine wpList_load_row rfl 31 _ rfl _ rfl 31 (ND.cells N).toArray (0, 0) _ HS.out.box Tryd.underlying31 rfl rfl ?_)
  refine Calls.mono (at_any N x W1 HS.out.nd hn) ?_
  rintro e2 w2 ⟨i, b, rfl, HSR, hb2'⟩
  have HS2 := Lib.hid (HS.out.kept hb2')
  clear HS hb2'
  go_wp2_with (refine wpList_load_row rfl 31 _ rfl _ rfl 31 (ND.cells N).toArray (0, 0) _ HS2.out.box Tryd.underlying31 rfl rfl ?_)
  by_cases hr : RightP N
  · have HR := Lib.hid hr
    have HBB : Hid (b = true ∨ 16 ≤ x ∨ y = 0) := Lib.hid (by
      rcases HB.out with h | h | h
      · exact absurd HR.out h
      · obtain ⟨j, hj, e⟩ := mem_getD h
        exact .inl (srch_at HR.out.2.2.2 HSR.out HN.out.lab.1 (by have := HN.out.lab.1; omega) e).2
      · exact .inr h)
    clear hr
    refine Calls.mono (right_any N w2 HS2.out.nd true (by simpa using HR.out)) ?_
    rintro e3 w3 ⟨rfl, hb3⟩
    have HS3 := Lib.hid (HS2.out.kept hb3)
    clear HS2 hb3
    cases b with
    | true =>
      have HF := Lib.hid HS3.out.none
      go_wp2_with (refine wpList_store_row rfl 31 _ _ rfl (w.heap.size + 1) ND.nil.cells.toArray rfl rfl 31 _ HS3.out.res size31 rfl (cells_one _) ?_)
      refine bodyPost_ret (res_one rfl _ _ (w.heap.size + 1) 31 ND.nil.cells.toArray (0, 0) _ rfl HF.out.1 Tryd.underlying31 rfl size31) rfl ?_
      exact ⟨rfl, HF.out.2⟩
    | false =>
      by_cases h16 : 16 ≤ x
      · have hb1 : decide ((16 : Int) ≤ x) = true := decide_eq_true h16
        have HF := Lib.hid HS3.out.none
        go_wp2_with (refine wpList_store_row rfl 31 _ _ rfl (w.heap.size + 1) ND.nil.cells.toArray rfl rfl 31 _ HS3.out.res size31 rfl (cells_one _) ?_)
        refine bodyPost_ret (res_one rfl _ _ (w.heap.size + 1) 31 ND.nil.cells.toArray (0, 0) _ rfl HF.out.1 Tryd.underlying31 rfl size31) rfl ?_
        exact ⟨rfl, HF.out.2⟩
      · have hb1 : decide ((16 : Int) ≤ x) = false := decide_eq_false h16
        have hb2 : (y == 0) = true := by
          rcases HBB.out with h | h | h
          · cases h
          · exact absurd h h16
          · simpa using h
        have HF := Lib.hid HS3.out.none
        go_wp2_with (refine wpList_store_row rfl 31 _ _ rfl (w.heap.size + 1) ND.nil.cells.toArray rfl rfl 31 _ HS3.out.res size31 rfl (cells_one _) ?_)
        refine bodyPost_ret (res_one rfl _ _ (w.heap.size + 1) 31 ND.nil.cells.toArray (0, 0) _ rfl HF.out.1 Tryd.underlying31 rfl size31) rfl ?_
        exact ⟨rfl, HF.out.2⟩
  · have HR := Lib.hid hr
    clear hr
    refine Calls.mono (right_any N w2 HS2.out.nd false (by simpa using HR.out)) ?_
    rintro e3 w3 ⟨rfl, hb3⟩
    have HS3 := Lib.hid (HS2.out.kept hb3)
    clear HS2 hb3
    have HF := Lib.hid HS3.out.none
    go_wp2_with (refine wpList_store_row rfl 31 _ _ rfl (w.heap.size + 1) ND.nil.cells.toArray rfl rfl 31 _ HS3.out.res size31 rfl (cells_one _) ?_)
    refine bodyPost_ret (res_one rfl _ _ (w.heap.size + 1) 31 ND.nil.cells.toArray (0, 0) _ rfl HF.out.1 Tryd.underlying31 rfl size31) rfl ?_
    exact ⟨rfl, HF.out.2⟩

set_option maxHeartbeats 4000000 in
theorem without_no (N : ND) (x : Int) (w : World) (h : N.At w) (hn : N.n2 ≤ 1000000) (hbad : ¬ RightP N ∨ x ∉ N.lab) :
    Calls Tryd.prog 21 #[N.v, .int .u8 x] w fun e w' => e = .returned (.tuple #[ND.nil.v, .bool false]) ∧ Below w.heap.size w w' := by
  have HS := Lib.hid (WS.enter h)
  have HN := Lib.hid h
  have HB := Lib.hid hbad
  clear h hbad
  unfold ND.v
  go_enter Tryd.func21, Tryd.ntmps21
  go_upto_region 1 with (fail)
  generalize hW : World.alloc (World.alloc w _) _ = W1 at *
  clear hW
  go_wp2_with (refine wpList_load_row rfl 31 _ rfl _ rfl 31 (ND.cells N).toArray (0, 0) _ HS.out.box Tryd.underlying31 rfl rfl ?_)
  refine Calls.mono (at_any N x W1 HS.out.nd hn) ?_
  rintro e2 w2 ⟨i, b, rfl, HSR, hb2'⟩
  have HS2 := Lib.hid (HS.out.kept hb2')
  clear HS hb2'
  go_wp2_with (refine wpList_load_row rfl 31 _ rfl _ rfl 31 (ND.cells N).toArray (0, 0) _ HS2.out.box Tryd.underlying31 rfl rfl ?_)
  by_cases hr : RightP N
  · have HR := Lib.hid hr
    obtain rfl : b = false := by
      cases b with
      | false => rfl
      | true =>
        obtain ⟨h1, h2⟩ := HSR.out.is.1 rfl
        rcases HB.out with h | h
        · exact absurd HR.out h
        · exact absurd (h2 ▸ getD_mem (by rw [HN.out.lab.1]; exact h1)) h
    clear hr
    refine Calls.mono (right_any N w2 HS2.out.nd true (by simpa using HR.out)) ?_
    rintro e3 w3 ⟨rfl, hb3⟩
    have HS3 := Lib.hid (HS2.out.kept hb3)
    clear HS2 hb3
    have HF := Lib.hid HS3.out.none
    go_wp2_with (refine wpList_store_row rfl 31 _ _ rfl (w.heap.size + 1) ND.nil.cells.toArray rfl rfl 31 _ HS3.out.res size31 rfl (cells_one _) ?_)
    refine bodyPost_ret (res_one rfl _ _ (w.heap.size + 1) 31 ND.nil.cells.toArray (0, 0) _ rfl HF.out.1 Tryd.underlying31 rfl size31) rfl ?_
    exact ⟨rfl, HF.out.2⟩
  · have HR := Lib.hid hr
    clear hr
    refine Calls.mono (right_any N w2 HS2.out.nd false (by simpa using HR.out)) ?_
    rintro e3 w3 ⟨rfl, hb3⟩
    have HS3 := Lib.hid (HS2.out.kept hb3)
    clear HS2 hb3
    have HF := Lib.hid HS3.out.none
    go_wp2_with (refine wpList_store_row rfl 31 _ _ rfl (w.heap.size + 1) ND.nil.cells.toArray rfl rfl 31 _ HS3.out.res size31 rfl (cells_one _) ?_)
    refine bodyPost_ret (res_one rfl _ _ (w.heap.size + 1) 31 ND.nil.cells.toArray (0, 0) _ rfl HF.out.1 Tryd.underlying31 rfl size31) rfl ?_
    exact ⟨rfl, HF.out.2⟩

/-- What Without leaves: N without its kid at place i. -/
def WoutN (N : ND) (i : Nat) (M : ND) : Prop := M.pre = N.pre ∧ M.val = N.val ∧ M.lab = N.lab.eraseIdx i ∧ M.kid = N.kid.eraseIdx i ∧ M.n3 = N.n3 - 1

def WoutP (N : ND) (i : Nat) (w : World) (e : Ending) (w' : World) : Prop := ∃ M : ND, e = .returned (.tuple #[M.v, .bool true]) ∧ WoutN N i M ∧ M.At w' ∧ Below w.heap.size w w'

theorem de2 {W w : World} {g r n m : Nat} {N : ND} {v2 v3 : Value} {xs ys : List Int} (h : Hid (WT W w g r N v2 n xs v3 m ys)) (ha : Hid (∀ b, (Value.slice N.A1 N.n1 N.c1).ownBlock = some b → v2.ownBlock ≠ some b)) (i : Nat) (hi : i < n) (hn : n ≤ 1000) :
    Calls Tryd.prog 36 #[v2, .int .i64 i, .int .i64 (i + 1)] w (In2 W g r N (n - 1) (xs.eraseIdx i) v2 v3 m ys w) := by
  refine Calls.mono (del8_any W w v2 n i xs h.out.out2 hi hn) ?_
  rintro e w' ⟨v', rfl, HO, HC⟩
  obtain ⟨A, c, rfl⟩ := HO.out.slice
  exact ⟨A, c, rfl, Lib.hid (h.out.turn2 ha.out HO.out HC.out), Lib.hid (fun b T cs hb hne => hb.kept HC.out hne)⟩

theorem de3 {W w : World} {g r n m : Nat} {N : ND} {v2 v3 : Value} {xs ys : List Int} (h : Hid (WT W w g r N v2 n xs v3 m ys)) (i : Nat) (hi : i < m) (hn : m ≤ 1000) :
    Calls Tryd.prog 37 #[v3, .int .i64 i, .int .i64 (i + 1)] w (In3 W g r N (m - 1) (ys.eraseIdx i) v2 v3 n xs w) := by
  refine Calls.mono (del64_any W w v3 m i ys h.out.out3 hi hn) ?_
  rintro e w' ⟨v', rfl, HO, HC⟩
  obtain ⟨A, c, rfl⟩ := HO.out.slice
  exact ⟨A, c, rfl, Lib.hid (h.out.turn3 HO.out HC.out), Lib.hid (fun b T cs hb hne => hb.kept HC.out hne)⟩

theorem wout_is {N M : ND} {i : Nat} {A2 A3 : Option Addr} {c2 c3 : Nat} (h : Eqn M N) (h3 : M.n3 = N.n3) :
    WoutN N i { M with A2 := A2, n2 := M.n2 - 1, c2 := c2, lab := M.lab.eraseIdx i, A3 := A3, n3 := M.n3 - 1, c3 := c3, kid := M.kid.eraseIdx i } := by
  unfold Eqn at h
  simp only [Prod.mk.injEq] at h
  exact ⟨h.1, h.2.1, by rw [← h.2.2.1], by rw [← h.2.2.2], by rw [← h3]⟩

theorem erase_wf {k : IntKind} {l : List Int} {i : Nat} (h : ∀ y ∈ l, (Lit.int k y).wf = true) : ∀ y ∈ l.eraseIdx i, (Lit.int k y).wf = true := fun y hy => h y (List.mem_of_mem_eraseIdx hy)

set_option maxHeartbeats 4000000 in
theorem without_yes (N : ND) (x : Int) (j : Nat) (w : World) (h : N.At w) (hr : RightP N) (hj : j < N.n2) (hx : N.lab.getD j 0 = x) :
    Calls Tryd.prog 21 #[N.v, .int .u8 x] w (WoutP N j w) := by
  have h16 : N.n2 ≤ 16 := by have := lab_le hr.2.2.2 h.lab; have := h.lab.1; omega
  have h23 : N.n2 = N.n3 := by have := hr.2.1; have := h.lab.1; have := h.kid.1; omega
  have h15 : N.n1 ≤ 1000 := by have := (packB_take hr.1).1; have := h.pre.1; omega
  have HS := Lib.hid (WS.enter h)
  have HR := Lib.hid hr
  have HX := Lib.hid hx
  have HN := Lib.hid h
  have H23 := Lib.hid h23
  clear h hr hx h23
  unfold ND.v
  go_enter Tryd.func21, Tryd.ntmps21
  go_upto_region 1 with (fail)
  generalize hW : World.alloc (World.alloc w _) _ = W1 at *
  clear hW
  go_wp2_with (refine wpList_load_row rfl 31 _ rfl _ rfl 31 (ND.cells N).toArray (0, 0) _ HS.out.box Tryd.underlying31 rfl rfl ?_)
  refine Calls.mono (at_any N x W1 HS.out.nd (by omega)) ?_
  rintro e2 w2 ⟨i, b, rfl, HSR, hb2'⟩
  have HS2 := Lib.hid (HS.out.kept hb2')
  obtain ⟨rfl, rfl⟩ := srch_at HR.out.2.2.2 HSR.out HN.out.lab.1 hj HX.out
  clear HS hb2'
  go_wp2_with (refine wpList_load_row rfl 31 _ rfl _ rfl 31 (ND.cells N).toArray (0, 0) _ HS2.out.box Tryd.underlying31 rfl rfl ?_)
  refine Calls.mono (right_any N w2 HS2.out.nd true (by simpa using HR.out)) ?_
  rintro e3 w3 ⟨rfl, hb3⟩
  have HS3 := Lib.hid (HS2.out.kept hb3)
  clear HS2 hb3
  go_wp2_with (refine wpList_load_row rfl 31 _ rfl _ rfl 31 (ND.cells N).toArray (0, 0) _ HS3.out.box Tryd.underlying31 rfl rfl ?_)
  refine Calls.mono (own_any N w3 HS3.out.nd h15 (by omega) (by have := H23.out; omega)) ?_
  rintro e4 w4 ⟨M, rfl, HQ, HO⟩
  have HBX := Lib.hid (HS3.out.kept HO.out.below)
  obtain ⟨ht, ha⟩ := HS3.out.own HO.out
  have HT := Lib.hid ht
  have HA := Lib.hid ha
  clear ht ha
  go_upto_region 5 with (refine wpList_store_row rfl 31 _ _ rfl w.heap.size M.cells.toArray rfl rfl 31 _ HBX.out.box size31 rfl (cells_one _) ?_)
  generalize hW : World.setRow _ _ _ = W5 at *
  clear hW HBX HS3
  have hq0 := HT.out.S.1
  have hq00 := HT.out.S.2
  have HM := Lib.hid HO.out.at_
  have hm2 : M.n2 = N.n2 := by
    have h1 := HM.out.lab.1
    have h2 := HN.out.lab.1
    have h3 := HQ.out
    unfold Eqn at h3
    simp only [Prod.mk.injEq] at h3
    rw [h3.2.2.1] at h1
    omega
  have hm3 : M.n3 = N.n3 := by
    have h1 := HM.out.kid.1
    have h2 := HN.out.kid.1
    have h3 := HQ.out
    unfold Eqn at h3
    simp only [Prod.mk.injEq] at h3
    rw [h3.2.2.2] at h1
    omega
  have HI : Hid (i < M.n2 ∧ i < M.n3 ∧ M.n2 ≤ 1000 ∧ M.n3 ≤ 1000) := Lib.hid (by have := H23.out; omega)
  have HM3 := Lib.hid hm3
  have hwi : IntKind.i64.wrap ((i : Int) + 1) = (i : Int) + 1 := by rw [IntKind.wrap_i64]; omega
  clear hm2 hm3 HO h15
  go_region_law (first | (go_simp; go_at_call 36; refine Calls.mono (de2 (W := w) (g := w.heap.size) (r := w.heap.size + 1) (N := M) (n := M.n2) (m := M.n3) (v3 := .slice M.A3 M.n3 M.c3) (xs := M.lab) (ys := M.kid) (by first | with_reducible exact Lib.hid HT.out.drew | with_reducible exact HT) HA i HI.out.1 HI.out.2.2.1) ?_; rintro e6 w6 ⟨A6, c6, rfl, HT6, HK6⟩; have hk1 := HT6.out.S.1; have hk2 := HT6.out.S.2) | (go_simp; go_at_call 37; refine Calls.mono (de3 (W := w) (g := w.heap.size) (r := w.heap.size + 1) (N := M) (n := M.n2 - 1) (m := M.n3) (v2 := .slice A6 (M.n2 - 1) c6) (xs := M.lab.eraseIdx i) (ys := M.kid) HT6 i HI.out.2.1 HI.out.2.2.2) ?_; rintro e7 w7 ⟨A7, c7, rfl, HT7, HK7⟩; have hs2 := HT7.out.S.1; have hs3 := HT7.out.S.2; have hz2 := HT7.out.Z.1; have hz3 := HT7.out.Z.2))
  all_goals
    have HW := Lib.hid (HT7.out.stored HM.out.valw HM.out.pre.2.2.1 (erase_wf HM.out.lab.2.2.1) (erase_wf HM.out.kid.2.2.1) (by have := HM.out.pre.2.1; exact this) (by have := HI.out; simp only [maxLen]; omega) (by have := HI.out; simp only [maxLen]; omega))
    clear hq0 hq00 hk1 hk2 hs2 hs3 hz2 hz3 HT HT6 HT7 HK6 HK7
    generalize hW : World.setCell (World.setCell w7 _ _) _ _ = W8 at *
    clear hW
    have HF := Lib.hid HW.out.out
    go_wp2_with (first | (refine wpList_load_row rfl 31 _ rfl _ rfl 31 (ND.cells _).toArray (0, 0) _ HW.out.box Tryd.underlying31 rfl size31 ?_) | (refine wpList_store_row rfl 31 _ _ rfl (w.heap.size + 1) (ND.cells _).toArray rfl rfl 31 _ HW.out.res size31 rfl (cells_one _) ?_))
    refine bodyPost_ret (res_one rfl _ _ (w.heap.size + 1) 31 (ND.cells _).toArray (0, 0) _ rfl HF.out.1 Tryd.underlying31 rfl size31) rfl ?_
    exact ⟨_, rfl, wout_is HQ.out HM3.out, HF.out.2.1, HF.out.2.2⟩
end Go.Proofs.YtmfomkmdfddhaaaDoor.Wout9
