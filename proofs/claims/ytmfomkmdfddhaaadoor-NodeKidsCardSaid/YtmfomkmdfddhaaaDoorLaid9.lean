/- The listed variable slab.lines: what the row's condition gives. -/
import Derived.Test.YtmfomkmdfddhaaaDoorRows
import Derived.Test.YtmfomkmdfddhaaaDoorNode
import Derived.ProofKit
import Derived.LaidMore
import Derived.OpenShut
import Derived.Stop.Joined
namespace Go.Proofs.YtmfomkmdfddhaaaDoor.Laid9
open Go.ChangeShapes Go.WideShapes Go.ChangeAt Go.WideMaps Go.WideElems Go.RowKit Go.Proofs.YtmfomkmdfddhaaaDoor.Node

theorem gLines : Tryd.prog.globalNamed "stillroom/slab.lines" = some 0 := by kernel_rfl
theorem tLines : (Tryd.prog.globals[0]?).map (·.type) = some 69 := by kernel_rfl
abbrev laidAll {H : Type} : List (String × DataW H) := [("stillroom/slab.lines", Rows.laid_stillroom_slab_lines)]

theorem door_met (os : Os) (args : Array Value) : laidMetH Tryd.prog laidAll ((World.doorLaid Tryd.prog 400 os).forCall (fun _ _ => 0) ⟨#[], args, []⟩).memory :=
  laidMetH_of_parts3 (fuel := 8) (laidMet_of_run' 8 (by kernel_rfl) (by kernel_rfl)) (by kernel_rfl) (by kernel_rfl)

theorem of_laid {W : World} (h : laidMetH Tryd.prog laidAll W) : LinesAt W := by
  rw [MakeChecks.laidMetH_plain _ _ _ (by kernel_rfl)] at h
  obtain ⟨ps, ⟨g0, t0, cs0, f0, p0, q0, hg0, ht0, hv0, hd0, _⟩, _⟩ := h
  obtain rfl := Option.some.inj (gLines.symm.trans hg0)
  obtain rfl := Option.some.inj (tLines.symm.trans ht0)
  obtain ⟨xs, m1, rfl, hx1, hlen, hn3, hel⟩ := DataW.trod_array Tryd.underlying69 hd0
  have c3 : Tryd.prog.cellsOf 3 = 1 := by kernel_rfl
  have c3a : Tryd.prog.cellsOf 69 = 3 := by kernel_rfl
  have h0 := hel 0 (by decide)
  have h1 := hel 1 (by decide)
  have h2 := hel 2 (by decide)
  have q0 := World.var?_cell hg0 hv0 0
  have q1 := World.var?_cell hg0 hv0 1
  have q2 := World.var?_cell hg0 hv0 2
  unfold Rows.laid_stillroom_slab_lines at hx1
  simp only [Prod.mk.injEq, DataW.agg.injEq] at hx1
  rw [c3a] at hlen
  obtain ⟨l⟩ := cs0
  rw [c3] at h0 h1 h2
  obtain ⟨a, b, c, rfl⟩ : ∃ a b c, l = [a, b, c] := by
    match l, hlen with
    | [a, b, c], _ => exact ⟨a, b, c, rfl⟩
  obtain ⟨x0, x1, x2, rfl⟩ : ∃ a b c, xs = [a, b, c] := by
    match xs, hn3 with
    | [a, b, c], _ => exact ⟨a, b, c, rfl⟩
  simp only [List.map_cons, List.map_nil, List.cons.injEq] at hx1
  simp only [Nat.mul_one, List.drop_zero, List.drop_succ_cons, List.take_succ_cons, List.take_zero, List.getElem?_cons_zero, List.getElem?_cons_succ] at h0 h1 h2
  obtain ⟨k0, e0, f0', _⟩ := DataW.trod_int Tryd.underlying3 h0
  obtain ⟨k1, e1, f1', _⟩ := DataW.trod_int Tryd.underlying3 h1
  obtain ⟨k2, e2, f2', _⟩ := DataW.trod_int Tryd.underlying3 h2
  rw [f0', f1', f2'] at hx1
  simp at hx1 e0 e1 e2
  obtain ⟨⟨r0, r1, r2⟩, _⟩ := hx1
  subst e0 e1 e2
  refine ⟨?_, ?_, ?_⟩
  · simpa [r0] using q0
  · simpa [r1] using q1
  · simpa [r2] using q2
end Go.Proofs.YtmfomkmdfddhaaaDoor.Laid9
