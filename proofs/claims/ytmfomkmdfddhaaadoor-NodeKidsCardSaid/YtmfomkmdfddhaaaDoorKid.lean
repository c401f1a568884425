/- Layer 9's node: Kid. -/
import Derived.Test.YtmfomkmdfddhaaaDoorDec
namespace Go.Proofs.YtmfomkmdfddhaaaDoor.Kid
open Go.RowKit Go.Proofs.YtmfomkmdfddhaaaDoor.Mem Go.Proofs.YtmfomkmdfddhaaaDoor.Read Go.Proofs.YtmfomkmdfddhaaaDoor.Out Go.Proofs.YtmfomkmdfddhaaaDoor.Nib Go.Proofs.YtmfomkmdfddhaaaDoor.Node Go.Proofs.YtmfomkmdfddhaaaDoor.Slc Go.Proofs.YtmfomkmdfddhaaaDoor.Res Go.Proofs.YtmfomkmdfddhaaaDoor.Dec

theorem at_any (N : ND) (x : Int) (w : World) (h : N.At w) (hn : N.n2 ≤ 1000000) :
    Calls Tryd.prog 30 #[N.v, .int .u8 x] w fun e w' => ∃ (i : Nat) (b : Bool), e = .returned (.tuple #[.int .i64 i, .bool b]) ∧ Hid (Srch N.lab x N.n2 i b) ∧ Below w.heap.size w w' := by
  have HN := Lib.hid (h.enter 31)
  have HB := Lib.hid ((Below.refl w.heap.size w).alloc (Nat.le_refl _) (.cells N.cells.toArray 31))
  clear h
  unfold ND.v
  go_enter Tryd.func30, Tryd.ntmps30
  go_wp2_with fail
  refine Calls.mono (search_any N.A2 N.n2 N.c2 N.lab x _ HN.out.lab hn) ?_
  rintro e w1 ⟨i, b, rfl, HS, rfl⟩
  go_wp2_with fail
  go_ret2
  exact ⟨i, b, rfl, HS, HB.out⟩

theorem lab_strict {l : List Int} (h : LabOk l) {i j : Nat} (hij : i < j) (hj : j < l.length) : l.getD i 0 < l.getD j 0 := by
  obtain ⟨k, rfl⟩ : ∃ k, j = k + 1 := ⟨j - 1, by omega⟩
  have h1 := lab_mono h (i := i) (j := k) (by omega) (by omega)
  have h2 := (h (k + 1) hj).2 (by omega)
  rw [Nat.add_sub_cancel] at h2
  omega

theorem srch_at {l : List Int} (h : LabOk l) {x : Int} {n i j : Nat} {b : Bool} (hs : Srch l x n i b) (hl : l.length = n) (hj : j < n) (hx : l.getD j 0 = x) : i = j ∧ b = true := by
  have hp := hs.place h
  have h1 : i ≤ j := by
    by_cases hij : i ≤ j
    · exact hij
    · have := hp.1 j (by omega)
      omega
  have h2 : i = j := by
    by_cases hij : i = j
    · exact hij
    · have h3 := hp.2 i (Nat.le_refl _) (by omega)
      have h4 := lab_strict h (i := i) (j := j) (by omega) (by omega)
      omega
  subst h2
  exact ⟨rfl, hs.is.2 ⟨hj, hx⟩⟩

/-- The word of a node that has its i-th kid. -/
def kidAt (N : ND) (i : Nat) (x : Int) : Int := if N.n3 ≤ 4 then 4 + i else 4 + x

theorem kid_yes (N : ND) (x : Int) (j : Nat) (w : World) (h : N.At w) (hl : LinesAt w) (hr : RightP N) (hj : j < N.n2) (hx : N.lab.getD j 0 = x) :
    Calls Tryd.prog 17 #[N.v, .int .u8 x] w fun e w' => e = .returned (.tuple #[.int .u64 (N.kid.getD j 0), .int .i64 (kidAt N j x), .bool true]) ∧ Below w.heap.size w w' := by
  have h16 : N.n2 ≤ 16 := by have := lab_le hr.2.2.2 h.lab; have := h.lab.1; omega
  have h23 : N.n2 = N.n3 := by have := hr.2.1; have := h.lab.1; have := h.kid.1; omega
  have hx0 : 0 ≤ x ∧ x < 16 := by
    have h1 := (hr.2.2.2 j (by have := h.lab.1; omega)).1
    have h2 := (wf_u8 (h.lab.2.2.1 _ (getD_mem (i := j) (by have := h.lab.1; omega)))).1
    omega
  have hll := h.lab.1
  have HR := Lib.hid hr
  have HJ := Lib.hid hx
  have H23 := Lib.hid h23
  have HE := Lib.hid (Env.enter h hl (Below.refl _ w))
  obtain ⟨k, hk⟩ : ∃ k, k = N.kid.getD j 0 := ⟨_, rfl⟩
  obtain ⟨R, hR⟩ : ∃ R, R = kidAt N j x := ⟨_, rfl⟩
  rw [← hk, ← hR]
  have HK := Lib.hid hk
  have HRR := Lib.hid hR
  clear h hl hr hx h23 hk hR
  unfold ND.v
  go_enter Tryd.func17, Tryd.ntmps17
  go_wp2_with fail
  generalize hW : World.alloc w _ = W1 at *
  clear hW
  refine Calls.mono (right_any N W1 HE.out.nd true (by simpa using HR.out)) ?_
  rintro e w1 ⟨rfl, hb1⟩
  have HE1 := Lib.hid (HE.out.kept hb1)
  clear HE hb1
  go_wp2_with (refine wpList_load_row rfl 31 _ rfl _ rfl 31 N.cells.toArray (0, 0) _ HE1.out.cells Tryd.underlying31 rfl rfl ?_)
  refine Calls.mono (at_any N x w1 HE1.out.nd (by omega)) ?_
  rintro e w2 ⟨i, b, rfl, HS, hb2⟩
  obtain ⟨rfl, rfl⟩ := srch_at HR.out.2.2.2 HS.out hll hj HJ.out
  have HE2 := Lib.hid (HE1.out.kept hb2)
  clear HE1 hb2 HS
  go_wp2_with (refine wpList_load_row rfl 31 _ rfl _ rfl 31 N.cells.toArray (0, 0) _ HE2.out.cells Tryd.underlying31 rfl rfl ?_)
  refine Calls.mono (class_any N w2) ?_
  rintro e w3 ⟨rfl, hb3⟩
  have HE3 := Lib.hid (HE2.out.kept hb3)
  clear HE2 hb3
  obtain ⟨b3, off3, hA3, _, hck⟩ := HE3.out.nd.kid.2.2.2 (by have := H23.out; omega)
  have hc3 := hck i (by have := H23.out; omega)
  rw [← HK.out] at hc3
  have hf0 := HE3.out.cells.cell 0
  have hf1 := HE3.out.cells.cell 1
  have hf2 := HE3.out.cells.cell 2
  have hf3 := HE3.out.cells.cell 3
  simp only [ND.cells, List.getElem?_cons_zero, List.getElem?_cons_succ] at hf0 hf1 hf2 hf3
  rw [hA3] at hf3 ⊢
  have HA3 := Lib.hid hA3
  have hi3 : i < N.n3 := by have := H23.out; omega
  clear hA3 hck
  by_cases h4 : N.n3 ≤ 4
  · have hka : R = 4 + i := by rw [HRR.out]; unfold kidAt; rw [if_pos h4]
    have HKA := Lib.hid hka
    clear hka
    rw [if_pos h4]
    go_wp2_with fail
    refine bodyPost_ret (results_tmp3 rfl _ _ _) rfl ?_
    exact ⟨by rw [HKA.out]; rfl, HE3.out.below⟩
  · have hka : R = 4 + x := by rw [HRR.out]; unfold kidAt; rw [if_neg h4]
    have HKA := Lib.hid hka
    clear hka
    rw [if_neg h4]
    go_wp2_with fail
    refine bodyPost_ret (results_tmp3 rfl _ _ _) rfl ?_
    exact ⟨by rw [HKA.out]; rfl, HE3.out.below⟩
end Go.Proofs.YtmfomkmdfddhaaaDoor.Kid
