/- Layer 9: the document's Same, of two nodes that are the same; a node beside. -/
import Derived.Test.YtmfomkmdfddhaaaDoorDecB
namespace Go.Proofs.YtmfomkmdfddhaaaDoor.Same9
open Go.ChangeShapes Go.WideShapes Go.ChangeAt Go.RowKit Go.Proofs.YtmfomkmdfddhaaaDoor.Mem Go.Proofs.YtmfomkmdfddhaaaDoor.Read Go.Proofs.YtmfomkmdfddhaaaDoor.Out Go.Proofs.YtmfomkmdfddhaaaDoor.Nib Go.Proofs.YtmfomkmdfddhaaaDoor.Node Go.Proofs.YtmfomkmdfddhaaaDoor.Slc Go.Proofs.YtmfomkmdfddhaaaDoor.Res Go.Proofs.YtmfomkmdfddhaaaDoor.Dec Go.Proofs.YtmfomkmdfddhaaaDoor.Kid Go.Proofs.YtmfomkmdfddhaaaDoor.Words Go.Proofs.YtmfomkmdfddhaaaDoor.Alive Go.Proofs.YtmfomkmdfddhaaaDoor.Open9

/-- The same nodes, wherever they lie. -/
def Eqn (M N : ND) : Prop := (M.pre, M.val, M.lab, M.kid) = (N.pre, N.val, N.lab, N.kid)

theorem ints_open' {H : Type} {enc : TypeId × Value → H} {P : Program} {W : World} {base : Nat} {t e : TypeId} {k : IntKind} {v : Value} {d : DataW H} {p : List MemPlace} (ht : P.underlying t = some (.slice e)) (he : P.underlying e = some (.int k)) (hc : P.cellsOf e = 1)
    (h : DataW.Trod enc P W 0 (fun _ => true) true t v d p) (ho : Value.okWide P W .any base t v) : ∃ A n c xs, v = .slice A n c ∧ Ints W k A n xs ∧ n ≤ c := by
  obtain ⟨A, n, c, rfl⟩ := okWide_slice ht ho
  obtain ⟨fuel, hf⟩ := h
  obtain ⟨A', n', c', xs, e, hi, hn⟩ := ints_field (v := .slice A n c) ht he hc (by simpa [Value.cells] using hf)
  cases e
  exact ⟨A, n, c, xs, rfl, hi, hn⟩

theorem size_rn : (Tryd.prog.info? 26).map (·.size) = some 4 := by kernel_rfl


set_option maxRecDepth 100000 in
theorem same_yes (M N : ND) (w : World) (hM : M.At w) (hN : N.At w) (h : Eqn M N) :
    Calls Tryd.prog 12 #[M.v, N.v] w fun e w' => e = .returned (.bool true) ∧ Below w.heap.size w w' := by
  unfold Eqn at h
  simp only [Prod.mk.injEq] at h
  obtain ⟨h1, h2, h3, h4⟩ := h
  have b1 := (Below.refl w.heap.size w).alloc (Nat.le_refl _) (.cells M.cells.toArray 26)
  have b2 := b1.alloc (by simp) (.cells N.cells.toArray 26)
  have c1 := (Cells.new w M.cells 26).alloc (.cells N.cells.toArray 26)
  have c2 := Cells.new (w.alloc (.cells M.cells.toArray 26)) N.cells 26
  have e2 : (w.alloc (.cells M.cells.toArray 26)).heap.size = w.heap.size + 1 := by simp
  rw [e2] at c2
  have m1 := hM.kept b2
  have m2 := hN.kept b2
  have v1 := conv_ints (c := M.c1) m1.pre
  have v2 := conv_ints (c := N.c1) m2.pre
  have v3 := conv_ints (c := M.c2) m1.lab
  have v4 := conv_ints (c := N.c2) m2.lab
  rw [h1] at v1
  rw [h3] at v3
  have hf0 := c1.cell 0
  have hf1 := c1.cell 1
  have hf2 := c1.cell 2
  have hf3 := c1.cell 3
  simp only [ND.cells, List.getElem?_cons_zero, List.getElem?_cons_succ] at hf0 hf1 hf2 hf3
  have HM1 := Lib.hid m1
  have HM2 := Lib.hid m2
  have HB := Lib.hid b2
  have H4 := Lib.hid h4
  rw [h2] at hf1
  have hg0 := c2.cell 0
  have hg1 := c2.cell 1
  have hg2 := c2.cell 2
  have hg3 := c2.cell 3
  simp only [ND.cells, List.getElem?_cons_zero, List.getElem?_cons_succ] at hg0 hg1 hg2 hg3
  have H1 := Lib.hid h2
  clear h1 h3 h4 b1 b2 c1 c2 m1 m2 e2 hM hN h2
  unfold ND.v
  go_enter Tryd.func12, Tryd.ntmps12
  go_upto_region 1 with (fail)
  rw [H1.out]
  simp only [ND.cells, H1.out] at hf0 hf1 hf2 hf3 hg0 hg1 hg2 hg3 v1 v2 v3 v4 HM1 HM2 HB
  generalize hW : World.alloc (World.alloc w _) _ = W1 at *
  clear hW
  go_wp2_with fail
  refine Calls.mono (same_words M.A3 N.A3 M.n3 N.n3 M.c3 N.c3 M.kid N.kid _ HM1.out.kid HM2.out.kid true (by simpa using H4.out)) ?_
  rintro e w9 ⟨rfl, hb9⟩
  have HB9 := Lib.hid (HB.out.trans (hb9.mono HB.out.size))
  clear hb9
  go_wp2_with fail
  go_ret
  exact ⟨rfl, HB9.out⟩

/-- A node in a block of the call's own, beside the parameter. -/
structure Beside9 (N M : ND) (W w : World) (g g2 : Nat) (T : TypeId) : Prop where
  env : Env9 N W w g
  cells : Cells w g2 T M.cells
  nd : M.At w
  ge : W.heap.size ≤ g2

theorem Beside9.kept {N M : ND} {W w w' : World} {g g2 : Nat} {T : TypeId} (h : Beside9 N M W w g g2 T) (hb : Below w.heap.size w w') : Beside9 N M W w' g g2 T :=
  ⟨h.env.kept hb, h.cells.kept (Chg.of_below (F := fun _ => False) hb) (fun f => f), h.nd.kept hb, h.ge⟩

theorem Beside9.start {N M : ND} {W w : World} {g : Nat} (h : Env9 N W w g) (hM : M.At w) (T : TypeId) :
    Beside9 N M W ((w.alloc (.cells #[.slice none 0 0, .int .u64 0, .slice none 0 0, .slice none 0 0] T)).setRow w.heap.size M.cells.toArray) g w.heap.size T ∧ Below w.heap.size w ((w.alloc (.cells #[.slice none 0 0, .int .u64 0, .slice none 0 0, .slice none 0 0] T)).setRow w.heap.size M.cells.toArray) := by
  have c0 := Cells.new w ND.nil.cells T
  have c1 := row_set c0 M.cells
  have b0 := row_below ((Below.refl w.heap.size w).alloc (Nat.le_refl _) (.cells ND.nil.cells.toArray T)) M.cells.toArray (Nat.le_refl _)
  exact ⟨⟨h.kept b0, c1, hM.kept b0, h.below.size⟩, b0⟩
end Go.Proofs.YtmfomkmdfddhaaaDoor.Same9
