/- The queue's methods (stamp), walked. -/
import Derived.Test.YtfbldpppjnnblaaChecked
import Derived.Test.YtfbldpppjnnblaaMem
namespace Go.Proofs.Ytfbldpppjnnblaa.Q
open Go.RowKit Go.Proofs.Ytfbldpppjnnblaa.Mem

abbrev ptr (i : Nat) : Value := .pointer (some ⟨i, 0, none⟩)

set_option maxHeartbeats 400000 in
theorem len_any (A : Option Addr) (n c : Nat) (w : World) :
    Calls Try.prog 90 #[.slice A n c] w fun e w' => e = .returned (.int .i64 n) ∧ w = w' := by
  go_enter Try.func90, Try.ntmps90
  go_wp2
  go_ret
  exact ⟨rfl, rfl⟩

set_option maxHeartbeats 400000 in
theorem less_any (g n c i k a b : Nat) (x y I J : Int) (r : Bool) (w : World) (hI : I = i) (hJ : J = k) (hr : decide (x < y) = r) (hi : i < n) (hk : k < n)
    (h1 : w.cell? ⟨g, i, none⟩ = some (ptr a)) (h2 : w.cell? ⟨g, k, none⟩ = some (ptr b))
    (h3 : w.cell? ⟨a, 0, none⟩ = some (.int .u64 x)) (h4 : w.cell? ⟨b, 0, none⟩ = some (.int .u64 y)) :
    Calls Try.prog 91 #[.slice (some ⟨g, 0, none⟩) n c, .int .i64 I, .int .i64 J] w fun e w' => e = .returned (.bool r) ∧ ∃ q, w' = w.drewN q := by
  subst hI hJ hr
  go_enter Try.func91, Try.ntmps91
  go_wp2
  go_quiet (fail)
  go_wp2
  go_ret
  exact ⟨rfl, _, rfl⟩

set_option maxHeartbeats 400000 in
theorem swap_any (g n c i k : Nat) (I J : Int) (a b : Option Addr) (w : World) (hI : I = i) (hJ : J = k) (hi : i < n) (hk : k < n)
    (h1 : w.cell? ⟨g, i, none⟩ = some (.pointer a)) (h2 : w.cell? ⟨g, k, none⟩ = some (.pointer b)) (f1 : w.frozen? ⟨g, i, none⟩ = false) (f2 : w.frozen? ⟨g, k, none⟩ = false):
    Calls Try.prog 92 #[.slice (some ⟨g, 0, none⟩) n c, .int .i64 I, .int .i64 J] w fun e w' => e = .returned (.tuple #[]) ∧ ∃ q, w' = ((w.setCell ⟨g, i, none⟩ (.pointer b)).setCell ⟨g, k, none⟩ (.pointer a)).drewN q := by
  subst hI hJ
  obtain ⟨v', hy'⟩ := cell?_setCell_some (w := w) (p := ⟨g, i, none⟩) (x := .pointer b) (q := ⟨g, k, none⟩) (v := .pointer b) h2
  go_enter Try.func92, Try.ntmps92
  go_wp2
  go_region
  all_goals go_end0
  all_goals exact ⟨rfl, 1, rfl⟩
end Go.Proofs.Ytfbldpppjnnblaa.Q
