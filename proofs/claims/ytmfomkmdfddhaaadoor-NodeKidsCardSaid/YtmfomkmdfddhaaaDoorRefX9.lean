/- Layer 9's document: With of what may not be; Without. -/
import Derived.Test.YtmfomkmdfddhaaaDoorRefW9
namespace Go.Proofs.YtmfomkmdfddhaaaDoor.RefX9
open Go.RowKit Go.Proofs.YtmfomkmdfddhaaaDoor.Mem Go.Proofs.YtmfomkmdfddhaaaDoor.Read Go.Proofs.YtmfomkmdfddhaaaDoor.Out Go.Proofs.YtmfomkmdfddhaaaDoor.Nib Go.Proofs.YtmfomkmdfddhaaaDoor.Node Go.Proofs.YtmfomkmdfddhaaaDoor.Slc Go.Proofs.YtmfomkmdfddhaaaDoor.Res Go.Proofs.YtmfomkmdfddhaaaDoor.Dec Go.Proofs.YtmfomkmdfddhaaaDoor.Kid Go.Proofs.YtmfomkmdfddhaaaDoor.Words Go.Proofs.YtmfomkmdfddhaaaDoor.DecB Go.Proofs.YtmfomkmdfddhaaaDoor.Same9 Go.Proofs.YtmfomkmdfddhaaaDoor.Open9 Go.Proofs.YtmfomkmdfddhaaaDoor.With9 Go.Proofs.YtmfomkmdfddhaaaDoor.Wout9 Go.Proofs.YtmfomkmdfddhaaaDoor.Turn9 Go.Proofs.YtmfomkmdfddhaaaDoor.Ref9 Go.Proofs.YtmfomkmdfddhaaaDoor.RefW9
set_option maxRecDepth 100000
set_option maxHeartbeats 4000000


theorem rwith_no (N : ND) (x y : Int) (w : World) (h : N.At w) (hbad : ¬ RightP N ∨ x ∈ N.lab ∨ 16 ≤ x ∨ y = 0) :
    Calls Tryd.prog 20 #[N.v, .int .u8 x, .int .u64 y] w fun e w' => e = .returned (.tuple #[ND.nil.v, .bool false]) ∧ Below w.heap.size w w' := by
  have HS := Lib.hid (RS.enter h)
  have HBAD := Lib.hid hbad
  clear h hbad
  unfold ND.v
  go_enter Tryd.func20, Tryd.ntmps20
  go_upto_region 1 with (fail)
  generalize hW : World.alloc (World.alloc w _) _ = W1 at *
  clear hW
  go_wp2_with (refine wpList_load_row rfl 26 _ rfl _ rfl 26 (ND.cells N).toArray (0, 0) _ HS.out.box Tryd.underlying26 rfl rfl ?_)
  by_cases hr : RightP N
  · have HR := Lib.hid hr
    clear hr
    refine Calls.mono (rright_any N W1 HS.out.nd true (by simpa using HR.out)) ?_
    rintro e2 w2 ⟨rfl, hb⟩
    have HS2 := Lib.hid (HS.out.kept hb)
    clear HS hb
    by_cases hx16 : 15 < x
    · have hb1 : decide ((15 : Int) < x) = true := decide_eq_true hx16
      have HF := Lib.hid HS2.out.empty
      go_wp2_with (refine wpList_store_row rfl 26 _ _ rfl (w.heap.size + 1) ND.nil.cells.toArray rfl rfl 26 _ HS2.out.res size_rn rfl (cells_one _) ?_)
      refine bodyPost_ret (res_one rfl _ _ (w.heap.size + 1) 26 ND.nil.cells.toArray (0, 0) _ rfl HF.out.1 Tryd.underlying26 rfl size_rn) rfl ?_
      exact ⟨rfl, HF.out.2⟩
    · have hb1 : decide ((15 : Int) < x) = false := decide_eq_false hx16
      by_cases hy : y = 0
      · have hb2 : (y == 0) = true := by simpa using hy
        clear hy
        have HF := Lib.hid HS2.out.empty
        go_wp2_with (refine wpList_store_row rfl 26 _ _ rfl (w.heap.size + 1) ND.nil.cells.toArray rfl rfl 26 _ HS2.out.res size_rn rfl (cells_one _) ?_)
        refine bodyPost_ret (res_one rfl _ _ (w.heap.size + 1) 26 ND.nil.cells.toArray (0, 0) _ rfl HF.out.1 Tryd.underlying26 rfl size_rn) rfl ?_
        exact ⟨rfl, HF.out.2⟩
      · have hb2 : (y == 0) = false := by simpa using hy
        have HXL : Hid (x ∈ N.lab) := Lib.hid (by
          rcases HBAD.out with h | h | h | h
          · exact absurd HR.out h
          · exact h
          · omega
          · exact absurd h hy)
        clear hy
        have hf0 := HS2.out.box.cell 0
        have hf1 := HS2.out.box.cell 1
        have hf2 := HS2.out.box.cell 2
        have hf3 := HS2.out.box.cell 3
        simp only [ND.cells, List.getElem?_cons_zero, List.getElem?_cons_succ] at hf0 hf1 hf2 hf3
        go_wp2_with fail
        clear hf0 hf1 hf2 hf3
        refine Calls.mono (find_any N x w2 HS2.out.nd true (by simpa using HXL.out)) ?_
        rintro e3 w3 ⟨rr, rfl, hr0, hb⟩
        have HS3 := Lib.hid (HS2.out.kept hb)
        clear HS2 hb
        have HF := Lib.hid HS3.out.empty
        go_wp2_with (refine wpList_store_row rfl 26 _ _ rfl (w.heap.size + 1) ND.nil.cells.toArray rfl rfl 26 _ HS3.out.res size_rn rfl (cells_one _) ?_)
        refine bodyPost_ret (res_one rfl _ _ (w.heap.size + 1) 26 ND.nil.cells.toArray (0, 0) _ rfl HF.out.1 Tryd.underlying26 rfl size_rn) rfl ?_
        exact ⟨rfl, HF.out.2⟩
  · have HR := Lib.hid hr
    clear hr
    refine Calls.mono (rright_any N W1 HS.out.nd false (by simpa using HR.out)) ?_
    rintro e2 w2 ⟨rfl, hb⟩
    have HS2 := Lib.hid (HS.out.kept hb)
    clear HS hb
    have HF := Lib.hid HS2.out.empty
    go_wp2_with (refine wpList_store_row rfl 26 _ _ rfl (w.heap.size + 1) ND.nil.cells.toArray rfl rfl 26 _ HS2.out.res size_rn rfl (cells_one _) ?_)
    refine bodyPost_ret (res_one rfl _ _ (w.heap.size + 1) 26 ND.nil.cells.toArray (0, 0) _ rfl HF.out.1 Tryd.underlying26 rfl size_rn) rfl ?_
    exact ⟨rfl, HF.out.2⟩

theorem rwout_no (N : ND) (x : Int) (w : World) (h : N.At w) (hbad : ¬ RightP N ∨ x ∉ N.lab) :
    Calls Tryd.prog 22 #[N.v, .int .u8 x] w fun e w' => e = .returned (.tuple #[ND.nil.v, .bool false]) ∧ Below w.heap.size w w' := by
  have HS := Lib.hid (RS.enter h)
  have HBAD := Lib.hid hbad
  clear h hbad
  unfold ND.v
  go_enter Tryd.func22, Tryd.ntmps22
  go_upto_region 1 with (fail)
  generalize hW : World.alloc (World.alloc w _) _ = W1 at *
  clear hW
  go_wp2_with (refine wpList_load_row rfl 26 _ rfl _ rfl 26 (ND.cells N).toArray (0, 0) _ HS.out.box Tryd.underlying26 rfl rfl ?_)
  by_cases hr : RightP N
  · have HR := Lib.hid hr
    have HXL : Hid (x ∉ N.lab) := Lib.hid (by
      rcases HBAD.out with h | h
      · exact absurd hr h
      · exact h)
    clear hr
    refine Calls.mono (rright_any N W1 HS.out.nd true (by simpa using HR.out)) ?_
    rintro e2 w2 ⟨rfl, hb⟩
    have HS2 := Lib.hid (HS.out.kept hb)
    clear HS hb
    have hf0 := HS2.out.box.cell 0
    have hf1 := HS2.out.box.cell 1
    have hf2 := HS2.out.box.cell 2
    have hf3 := HS2.out.box.cell 3
    simp only [ND.cells, List.getElem?_cons_zero, List.getElem?_cons_succ] at hf0 hf1 hf2 hf3
    go_wp2_with fail
    clear hf0 hf1 hf2 hf3
    refine Calls.mono (find_any N x w2 HS2.out.nd false (by simpa using HXL.out)) ?_
    rintro e3 w3 ⟨rr, rfl, hr0, hb⟩
    have HS3 := Lib.hid (HS2.out.kept hb)
    have hlt : decide (rr < 0) = true := by
      have := of_decide_eq_false hr0
      exact decide_eq_true (by omega)
    clear HS2 hb hr0
    have HF := Lib.hid HS3.out.empty
    go_wp2_with (refine wpList_store_row rfl 26 _ _ rfl (w.heap.size + 1) ND.nil.cells.toArray rfl rfl 26 _ HS3.out.res size_rn rfl (cells_one _) ?_)
    refine bodyPost_ret (res_one rfl _ _ (w.heap.size + 1) 26 ND.nil.cells.toArray (0, 0) _ rfl HF.out.1 Tryd.underlying26 rfl size_rn) rfl ?_
    exact ⟨rfl, HF.out.2⟩
  · have HR := Lib.hid hr
    clear hr
    refine Calls.mono (rright_any N W1 HS.out.nd false (by simpa using HR.out)) ?_
    rintro e2 w2 ⟨rfl, hb⟩
    have HS2 := Lib.hid (HS.out.kept hb)
    clear HS hb
    have HF := Lib.hid HS2.out.empty
    go_wp2_with (refine wpList_store_row rfl 26 _ _ rfl (w.heap.size + 1) ND.nil.cells.toArray rfl rfl 26 _ HS2.out.res size_rn rfl (cells_one _) ?_)
    refine bodyPost_ret (res_one rfl _ _ (w.heap.size + 1) 26 ND.nil.cells.toArray (0, 0) _ rfl HF.out.1 Tryd.underlying26 rfl size_rn) rfl ?_
    exact ⟨rfl, HF.out.2⟩

theorem erase_skip {l : List Int} {i j : Nat} (h : i < l.length) (e : i = j) : (l.take (i + 1)).eraseIdx j = (l.take i).eraseIdx j := by
  subst e
  rw [take_snoc h, List.eraseIdx_append_of_length_le (by rw [List.length_take]; omega), List.length_take, Nat.min_eq_left (by omega), Nat.sub_self, List.eraseIdx_cons_zero, List.append_nil]
  exact (List.eraseIdx_of_length_le (by rw [List.length_take]; omega)).symm

theorem erase_take {l : List Int} {i j : Nat} (h : i < l.length) (e : i ≠ j) : (l.take (i + 1)).eraseIdx j = (l.take i).eraseIdx j ++ [l.getD i 0] := by
  rw [take_snoc h]
  by_cases hj : j < i
  · rw [List.eraseIdx_append_of_lt_length (by rw [List.length_take]; omega)]
  · rw [List.eraseIdx_of_length_le (by rw [List.length_append, List.length_take]; simp; omega), List.eraseIdx_of_length_le (by rw [List.length_take]; omega)]

theorem erase_le (l : List Int) (i j : Nat) : ((l.take i).eraseIdx j).length ≤ i := by
  have := List.length_eraseIdx_le (l.take i) j
  rw [List.length_take] at this
  omega

/-- So far: the first i, but that at place j. -/
def WI9 (N : ND) (j i : Nat) (O : ND) : Prop := O.lab = (N.lab.take i).eraseIdx j ∧ O.kid = (N.kid.take i).eraseIdx j

def RWoutN (N : ND) (j : Nat) (M : ND) : Prop := M.pre = N.pre ∧ M.val = N.val ∧ M.lab = N.lab.eraseIdx j ∧ M.kid = N.kid.eraseIdx j
def RWoutP (N : ND) (j : Nat) (w : World) (e : Ending) (w' : World) : Prop := ∃ M : ND, e = .returned (.tuple #[M.v, .bool true]) ∧ RWoutN N j M ∧ M.At w' ∧ Below w.heap.size w w'

theorem rwout_yes (N : ND) (x : Int) (j : Nat) (w : World) (h : N.At w) (hr : RightP N) (hj : j < N.n2) (hx : N.lab.getD j 0 = x) :
    Calls Tryd.prog 22 #[N.v, .int .u8 x] w (RWoutP N j w) := by
  have h16 : N.n2 ≤ 16 := by have := lab_le hr.2.2.2 h.lab; have := h.lab.1; omega
  have h23 : N.n2 = N.n3 := by have := hr.2.1; have := h.lab.1; have := h.kid.1; omega
  have hl2 := h.lab.1
  have hxl : x ∈ N.lab := by rw [← hx]; exact getD_mem (by omega)
  have HS := Lib.hid (RS.enter h)
  have HR := Lib.hid hr
  have HX := Lib.hid hx
  have HXL := Lib.hid hxl
  have H23 := Lib.hid h23
  have HL2 := Lib.hid hl2
  clear h hr hx h23 hl2 hxl
  unfold ND.v
  go_enter Tryd.func22, Tryd.ntmps22
  go_upto_region 1 with (fail)
  generalize hW : World.alloc (World.alloc w _) _ = W1 at *
  clear hW
  go_wp2_with (refine wpList_load_row rfl 26 _ rfl _ rfl 26 (ND.cells N).toArray (0, 0) _ HS.out.box Tryd.underlying26 rfl rfl ?_)
  refine Calls.mono (rright_any N W1 HS.out.nd true (by simpa using HR.out)) ?_
  rintro e2 w2 ⟨rfl, hb⟩
  have HS2 := Lib.hid (HS.out.kept hb)
  clear HS hb
  have hf0 := HS2.out.box.cell 0
  have hf1 := HS2.out.box.cell 1
  have hf2 := HS2.out.box.cell 2
  have hf3 := HS2.out.box.cell 3
  simp only [ND.cells, List.getElem?_cons_zero, List.getElem?_cons_succ] at hf0 hf1 hf2 hf3
  go_wp2_with fail
  clear hf0 hf1 hf2 hf3
  refine Calls.mono (find_any N x w2 HS2.out.nd true (by simpa using HXL.out)) ?_
  rintro e3 w3 ⟨rr, rfl, hr0, hb⟩
  have HS3 := Lib.hid (HS2.out.kept hb)
  have hlt : decide (rr < 0) = false := by
    have := of_decide_eq_true hr0
    exact decide_eq_false (by omega)
  clear HS2 hb hr0
  have hf0 := HS3.out.box.cell 0
  have hf1 := HS3.out.box.cell 1
  have hf2 := HS3.out.box.cell 2
  have hf3 := HS3.out.box.cell 3
  simp only [ND.cells, List.getElem?_cons_zero, List.getElem?_cons_succ] at hf0 hf1 hf2 hf3
  have HK0 := Lib.hid HS3.out.start
  go_upto_region 4 with (refine wpList_store_row rfl 26 _ _ rfl w3.heap.size (outN N).cells.toArray rfl rfl 26 _ (Cells.new w3 ND.nil.cells _) size_rn rfl (cells_one _) ?_)
  generalize hW : World.setRow _ _ _ = W4
  have HK : Hid (KO w W4 w.heap.size (w.heap.size + 1) w3.heap.size N (outN N)) := by rw [← hW]; exact HK0
  clear HK0 hW hf0 hf1 hf2 hf3 HS3
  generalize w3.heap.size = qb at *
  go_wp2_with fail
  have HWI : Hid (WI9 N j 0 (outN N)) := Lib.hid ⟨by simp [outN, ND.nil], by simp [outN, ND.nil]⟩
  go_loopw [7] (fun v7 wr => ∃ (i : Nat) (O : ND), i ≤ N.n2 ∧ v7 = .int .i64 i ∧ Hid (KO w wr w.heap.size (w.heap.size + 1) qb N O) ∧ Hid (WI9 N j i O)) (fun v7 _ => N.n2 - (intOf v7).toNat)
  case atStart => exact ⟨0, _, by omega, rfl, HK, HWI⟩
  case round =>
    clear HK HWI
    obtain ⟨i, O, hi, rfl, HK, HWI⟩ := hrel
    have hf2 := HK.out.B.1
    by_cases hin : i < N.n2
    · obtain ⟨b2, o2, hA2, _, hc2⟩ := HK.out.nd.lab.2.2.2 (by omega)
      have hcy := hc2 i hin
      obtain ⟨l, hl⟩ : ∃ l, l = N.lab.getD i 0 := ⟨_, rfl⟩
      rw [← hl] at hcy
      have HLI := Lib.hid hl
      have HSZ : Hid (O.n2 ≤ 20 ∧ O.n3 ≤ 20) := Lib.hid (by
        have h1 := erase_le N.lab i j
        have h1' := erase_le N.kid i j
        have h2 := HK.out.own2.1
        have h3 := HK.out.own3.1
        simp only [List.length_map, Nat.mul_one] at h2 h3
        rw [HWI.out.1] at h2
        rw [HWI.out.2] at h3
        omega)
      rw [hA2] at hf2
      clear hc2 hl hA2
      by_cases hij : i = j
      · have hne : (l != x) = false := by rw [HLI.out, hij, HX.out]; simp
        have HIJ := Lib.hid hij
        clear hij
        go_wp2_with fail
        go_roundw
        case rel => exact ⟨i + 1, O, by omega, by go_num, HK, Lib.hid ⟨by rw [erase_skip (by have := HL2.out; omega) HIJ.out]; exact HWI.out.1, by rw [erase_skip (by have := HL2.out; have := HR.out.2.1; omega) HIJ.out]; exact HWI.out.2⟩⟩
        case measure => simp [intOf]; omega
      · have hne : (l != x) = true := by
          have hlx : l ≠ x := fun e => hij (by
            rw [HLI.out, ← HX.out] at e
            rcases Nat.lt_trichotomy i j with h | h | h
            · have := lab_strict HR.out.2.2.2 h (by have := HL2.out; omega); omega
            · exact h
            · have := lab_strict HR.out.2.2.2 h (by have := HL2.out; omega); omega)
          simpa using hlx
        have HIJ := Lib.hid hij
        clear hij
        go_upto_region 8 with (fail)
        have hq1 := HK.out.S.1
        have hq2 := fun o => (HK.out.alloc o).S.1
        go_cut [] (fun wx => ∃ A c, Hid (KO w wx w.heap.size (w.heap.size + 1) qb N { O with A2 := A, n2 := O.n2 + 1, c2 := c, lab := O.lab ++ [l] }))
        case first =>
          go_region_law (refine step2K rfl _ _ (by rfl) (W := w) (g := w.heap.size) (r := w.heap.size + 1) (q := qb) (N := N) (O := O) (n := O.n2) (m := O.n3) (v2 := .slice O.A2 O.n2 O.c2) (v3 := .slice O.A3 O.n3 O.c3) (xs := O.lab) (ys := O.kid) (by first | with_reducible exact Lib.hid (HK.out.alloc _).drew | with_reducible exact Lib.hid (HK.out.alloc _)) (by rfl) ⟨_, 0, none⟩ (by rfl) l (by first | exact (new1 _ _ _).cell 0 | exact (new4 _ _ _).cell 0) (by have := HSZ.out; omega) ?_; intro g5 c5 w5 HT5; have hs2 := HT5.out.S.1; have hs3 := HT5.out.S.2; have hz2 := HT5.out.Z.1; have hz3 := HT5.out.Z.2)
          all_goals
            have HN5 := Lib.hid HT5.out.set2
            clear hs2 hs3 hz2 hz3 hq1 hq2 HT5
            generalize hW : World.setCell _ _ _ = W6 at *
            clear hW
            go_wp2_with fail
            go_meet
            case rel => exact ⟨_, _, HN5⟩
        case rest =>
          obtain ⟨A5, c5, HN5⟩ := hcut
          obtain ⟨O5, hO5⟩ : ∃ O5 : ND, O5 = { O with A2 := A5, n2 := O.n2 + 1, c2 := c5, lab := O.lab ++ [l] } := ⟨_, rfl⟩
          rw [← hO5] at HN5
          have HO5 := Lib.hid hO5
          clear hO5 hq1 hq2 hf2 hcy
          obtain ⟨b3, o3, hA3, _, hc3⟩ := HN5.out.nd.kid.2.2.2 (by have := H23.out; omega)
          have hck := hc3 i (by have := H23.out; omega)
          obtain ⟨k, hk⟩ : ∃ k, k = N.kid.getD i 0 := ⟨_, rfl⟩
          rw [← hk] at hck
          have HKI := Lib.hid hk
          have hf3 := HN5.out.B.2
          rw [hA3] at hf3
          have hq3 := HN5.out.S.2
          have hq4 := fun o => (HN5.out.alloc o).S.2
          have hin3 : i < N.n3 := by have := H23.out; omega
          have HSZ5 : Hid (O5.n2 ≤ 21 ∧ O5.n3 ≤ 20) := Lib.hid (by rw [HO5.out]; have := HSZ.out; exact ⟨by show O.n2 + 1 ≤ 21; omega, by show O.n3 ≤ 20; omega⟩)
          clear hc3 hk hA3 HSZ
          have HSZ := HSZ5
          go_upto_region 9 with (fail)
          go_region_law (refine step3K rfl _ _ (by rfl) (W := w) (g := w.heap.size) (r := w.heap.size + 1) (q := qb) (N := N) (O := O5) (n := O5.n2) (m := O5.n3) (v2 := .slice O5.A2 O5.n2 O5.c2) (v3 := .slice O5.A3 O5.n3 O5.c3) (xs := O5.lab) (ys := O5.kid) (by first | with_reducible exact Lib.hid (HN5.out.alloc _).drew | with_reducible exact Lib.hid (HN5.out.alloc _)) (by rfl) ⟨_, 0, none⟩ (by rfl) k (by first | exact (new1 _ _ _).cell 0 | exact (new4 _ _ _).cell 0) (by have := HSZ.out; omega) ?_; intro g5 c5 w6 HT6; have hs2 := HT6.out.S.1; have hs3 := HT6.out.S.2; have hz2 := HT6.out.Z.1; have hz3 := HT6.out.Z.2)
          all_goals
            have HN8 := Lib.hid HT6.out.set3
            obtain ⟨O8, hO8⟩ : ∃ O8 : ND, O8 = { O5 with A3 := some ⟨g5, 0, none⟩, n3 := O5.n3 + 1, c3 := c5, kid := O5.kid ++ [k] } := ⟨_, rfl⟩
            have HN8 : Hid (KO w (w6.setCell ⟨qb, 3, none⟩ (.slice (some ⟨g5, 0, none⟩) (O5.n3 + 1) c5)) w.heap.size (w.heap.size + 1) qb N O8) := by rw [hO8]; exact HN8
            have HO8 : Hid (O8.lab = O.lab ++ [l] ∧ O8.kid = O.kid ++ [k]) := Lib.hid (by rw [hO8, HO5.out]; exact ⟨rfl, rfl⟩)
            clear hs2 hs3 hz2 hz3 hq3 hq4 hf3 hck HT6 hO8 HN5 HO5 HSZ5
            generalize hW : World.setCell _ _ _ = W9 at *
            clear hW
            go_wp2_with fail
            go_roundw
            case rel => exact ⟨i + 1, O8, by omega, by go_num, HN8, Lib.hid ⟨by rw [HO8.out.1, HWI.out.1, HLI.out, erase_take (by have := HL2.out; omega) HIJ.out], by rw [HO8.out.2, HWI.out.2, HKI.out, erase_take (by have := HL2.out; have := HR.out.2.1; omega) HIJ.out]⟩⟩
            case measure => simp [intOf]; omega
    · obtain rfl : i = N.n2 := by omega
      have HIS : Hid (RWoutN N j O) := Lib.hid (by
        have hp := HK.out.pre
        refine ⟨hp.2.2.2.1, hp.2.2.2.2, ?_, ?_⟩
        · rw [HWI.out.1, List.take_of_length_le (by have := HL2.out; omega)]
        · rw [HWI.out.2, List.take_of_length_le (by have := HL2.out; have := HR.out.2.1; omega)])
      have HWF : Hid ((∀ z ∈ O.lab, (Lit.int .u8 z).wf = true) ∧ (∀ z ∈ O.kid, (Lit.int .u64 z).wf = true) ∧ O.n2 ≤ 1000 ∧ O.n3 ≤ 1000) := Lib.hid (by
        have h1 := erase_le N.lab N.n2 j
        have h1' := erase_le N.kid N.n2 j
        have h2 := HK.out.own2.1
        have h3 := HK.out.own3.1
        simp only [List.length_map, Nat.mul_one] at h2 h3
        rw [HWI.out.1] at h2
        rw [HWI.out.2] at h3
        rw [HIS.out.2.2.1, HIS.out.2.2.2]
        exact ⟨erase_wf HK.out.old.lab.2.2.1, erase_wf HK.out.old.kid.2.2.1, by omega, by omega⟩)
      have HF := Lib.hid (HK.out.fin HWF.out.1 HWF.out.2.1 HWF.out.2.2.1 HWF.out.2.2.2)
      go_wp2_with (first | (refine wpList_load_row rfl 26 _ rfl _ rfl 26 (ND.cells _).toArray (0, 0) _ HK.out.out Tryd.underlying26 rfl size_rn ?_) | (refine wpList_store_row rfl 26 _ _ rfl (w.heap.size + 1) (ND.cells _).toArray rfl rfl 26 _ HK.out.res size_rn rfl (cells_one _) ?_))
      refine bodyPost_ret (res_one rfl _ _ (w.heap.size + 1) 26 (ND.cells _).toArray (0, 0) _ rfl HF.out.1 Tryd.underlying26 rfl size_rn) rfl ?_
      exact ⟨_, rfl, HIS.out, HF.out.2.1, HF.out.2.2⟩
end Go.Proofs.YtmfomkmdfddhaaaDoor.RefX9
