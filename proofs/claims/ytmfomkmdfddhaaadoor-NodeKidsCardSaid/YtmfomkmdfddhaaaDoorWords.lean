/- Layer 9: where a node's words have what. -/
import Derived.Test.YtmfomkmdfddhaaaDoorOpen9
namespace Go.Proofs.YtmfomkmdfddhaaaDoor.Words
open Go.RowKit Go.Proofs.YtmfomkmdfddhaaaDoor.Mem Go.Proofs.YtmfomkmdfddhaaaDoor.Read Go.Proofs.YtmfomkmdfddhaaaDoor.Out Go.Proofs.YtmfomkmdfddhaaaDoor.Nib Go.Proofs.YtmfomkmdfddhaaaDoor.Node Go.Proofs.YtmfomkmdfddhaaaDoor.Slc Go.Proofs.YtmfomkmdfddhaaaDoor.Res Go.Proofs.YtmfomkmdfddhaaaDoor.Dec Go.Proofs.YtmfomkmdfddhaaaDoor.Kid Go.Proofs.YtmfomkmdfddhaaaDoor.Alive Go.Proofs.YtmfomkmdfddhaaaDoor.Open9

theorem lab_nat {N : ND} {w : World} (h : N.At w) {i : Nat} (hi : i < N.lab.length) (hr : LabOk N.lab) : ∃ y : Nat, N.lab.getD i 0 = y ∧ y < 16 := by
  have h1 := (hr i hi).1
  have h2 := (wf_u8 (h.lab.2.2.1 _ (getD_mem hi))).1
  exact ⟨(N.lab.getD i 0).toNat, by omega, by omega⟩

theorem getD_set {l : List Int} {i j : Nat} {v : Int} (hi : i < l.length) : (l.set i v).getD j 0 = if i = j then v else l.getD j 0 := by
  rw [List.getD_eq_getElem?_getD, List.getElem?_set]
  by_cases e : i = j
  · subst e; simp [hi]
  · simp [e, List.getD_eq_getElem?_getD]

/-- A kid of a big node stands at its label. -/
theorem big_at {N : ND} {w : World} (h : N.At w) (hr : RightP N) : ∀ i, i ≤ N.n3 → ∀ j, j < i → (bigTo N i).getD (4 + (N.lab.getD j 0).toNat) 0 = N.kid.getD j 0
  | 0, _, j, hj => absurd hj (by omega)
  | i + 1, hi, j, hj => by
    have hl := hr.2.1
    have hk := h.kid.1
    obtain ⟨y, hy, hy16⟩ := lab_nat h (i := i) (by omega) hr.2.2.2
    simp only [bigTo]
    rw [getD_set (by rw [bigTo_len, hy, Int.toNat_natCast]; omega)]
    by_cases e : i = j
    · subst e; simp
    · have hs := lab_strict hr.2.2.2 (i := j) (j := i) (by omega) (by omega)
      obtain ⟨z, hz, _⟩ := lab_nat h (i := j) (by omega) hr.2.2.2
      rw [hy, hz] at hs
      rw [if_neg (by rw [hy, hz, Int.toNat_natCast, Int.toNat_natCast]; omega)]
      exact big_at h hr i (by omega) j (by omega)

/-- What a big node has ahead of its kids. -/
theorem big_head {N : ND} {k : Nat} (hk : k < 4) : ∀ i, (bigTo N i).getD k 0 = (bigTo N 0).getD k 0
  | 0 => rfl
  | i + 1 => by
    rw [← big_head hk i]
    simp only [bigTo]
    rw [List.getD_eq_getElem?_getD, List.getElem?_set_ne (by omega), List.getD_eq_getElem?_getD]

/-- The word at a kid's place is the kid. -/
theorem words_kid {N : ND} {w : World} (h : N.At w) (hr : RightP N) {j : Nat} (hj : j < N.n2) {x : Int} (hx : N.lab.getD j 0 = x) :
    ∃ m : Nat, kidAt N j x = m ∧ 4 ≤ m ∧ m < (wordsL N).length ∧ (wordsL N).getD m 0 = N.kid.getD j 0 := by
  have hl := hr.2.1
  have hk := h.kid.1
  have hll := h.lab.1
  unfold kidAt wordsL
  split
  · rename_i h4
    refine ⟨4 + j, rfl, by omega, by rw [small_len hk h4]; omega, ?_⟩
    unfold smallL
    rw [List.getD_eq_getElem?_getD, List.append_assoc, List.getElem?_append_right (by simp)]
    simp only [List.length_cons, List.length_nil]
    rw [show 4 + j - (0 + 1 + 1 + 1 + 1) = j by omega, List.getElem?_append_left (by omega), List.getD_eq_getElem?_getD]
  · rename_i h4
    obtain ⟨y, hy, hy16⟩ := lab_nat h (i := j) (by omega) hr.2.2.2
    refine ⟨4 + y, by rw [← hx, hy]; rfl, by omega, by rw [show (bigL N).length = 32 from bigTo_len N _]; omega, ?_⟩
    have := big_at h hr N.n3 (Nat.le_refl _) j (by omega)
    rw [hy, Int.toNat_natCast] at this
    exact this

/-- The class of a node. -/
def classI (N : ND) : Int := if N.n3 ≤ 4 then 1 else 2

theorem words_head (N : ND) : (wordsL N).getD 0 0 = classI N + 256 * N.n3 ∧ (wordsL N).getD 2 0 = N.val := by
  unfold wordsL classI
  split
  · exact ⟨rfl, rfl⟩
  · exact ⟨big_head (by decide) _, big_head (by decide) _⟩

theorem words_len {N : ND} {w : World} (h : N.At w) : (wordsL N).length = if N.n3 ≤ 4 then 8 else 32 := by
  unfold wordsL
  split
  · rename_i h4; exact small_len h.kid.1 h4
  · exact bigTo_len N _

/-- Places of unlike kids are unlike. -/
theorem kid_apart {N : ND} {w : World} (h : N.At w) (hr : RightP N) {i j : Nat} (hij : i < j) (hj : j < N.n2) : kidAt N i (N.lab.getD i 0) ≠ kidAt N j (N.lab.getD j 0) := by
  have hll := h.lab.1
  have hs := lab_strict hr.2.2.2 hij (by omega)
  unfold kidAt
  split <;> omega
end Go.Proofs.YtmfomkmdfddhaaaDoor.Words
