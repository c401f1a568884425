/- Layer 17's laws: a run of writes. -/
import Derived.Test.YtfbldpppjnnblaaLiv17
import Derived.Test.YtfbldpppjnnblaaOpen17
namespace Go.Proofs.Ytfbldpppjnnblaa.Liv
open Go.Proofs.Ytfbldpppjnnblaa.Key Go.Proofs.Ytfbldpppjnnblaa.Set Go.Proofs.Ytfbldpppjnnblaa.Rows3 Go.Proofs.Ytfbldpppjnnblaa.Get15 Go.Proofs.Ytfbldpppjnnblaa.Put15 Go.Proofs.Ytfbldpppjnnblaa.Tab

/-- All written, those that are let. -/
def putsL (l : List W3) : List W3 := l.foldl (fun s x => (putL s x).1) []

theorem putsL_snoc (l : List W3) (x : W3) : putsL (l ++ [x]) = (putL (putsL l) x).1 := by simp [putsL]

theorem write_next {ss : List (List W3)} {i : Nat} (h : i < ss.length) (l : List W3) (x : W3) (t : List W3) (ht : t = l ++ [x] := by rfl) : (ss.set i (putsL l)).set i (putL ((ss.set i (putsL l)).getD i []) x).1 = ss.set i (putsL t) := by
  subst ht
  rw [putsL_snoc, List.set_set]
  congr 2
  rw [List.getD_eq_getElem?_getD, List.getElem?_set, if_pos rfl, if_pos h]
  rfl
end Go.Proofs.Ytfbldpppjnnblaa.Liv
