/- Layer 17's plain laws of notes. -/
import Derived.Test.YtfbldpppjnnblaaPutsL
namespace Go.Proofs.Ytfbldpppjnnblaa.Liv
open Go.Proofs.Ytfbldpppjnnblaa.Key Go.Proofs.Ytfbldpppjnnblaa.Set Go.Proofs.Ytfbldpppjnnblaa.Rows3 Go.Proofs.Ytfbldpppjnnblaa.Get15 Go.Proofs.Ytfbldpppjnnblaa.Put15 Go.Proofs.Ytfbldpppjnnblaa.Tab Go.Proofs.Ytfbldpppjnnblaa.Map

/-- What is noted of a key. -/
def gotN (m : List (ByteArray × Int)) (k : ByteArray) : Int := (Map.get m k).getD 0

theorem got_note1 (m : List (ByteArray × Int)) (x : Int) (y : W3) (k : ByteArray) : gotN (note1 m x y) k = if y.k = k then (if gotN m k < x then x else gotN m k) else gotN m k := by
  unfold note1 gotN
  rw [Map.get_put]
  by_cases e : y.k = k
  · rw [if_pos e, if_pos e, e]; rfl
  · rw [if_neg e, if_neg e]

theorem got_noteL (x : Int) (k : ByteArray) : ∀ (l : List W3) (m : List (ByteArray × Int)), gotN (noteL m l x) k = if (∃ y ∈ l, y.k = k) then (if gotN m k < x then x else gotN m k) else gotN m k
  | [], m => by simp [noteL]
  | y :: l, m => by
    show gotN (noteL (note1 m x y) l x) k = _
    rw [got_noteL x k l, got_note1]
    by_cases e : y.k = k
    · rw [if_pos e, if_pos (⟨y, List.mem_cons_self, e⟩ : ∃ z ∈ y :: l, z.k = k)]
      by_cases e2 : ∃ z ∈ l, z.k = k
      · rw [if_pos e2]
        by_cases h : gotN m k < x
        · rw [if_pos h, if_neg (by omega)]
        · rw [if_neg h, if_neg h]
      · rw [if_neg e2]
    · rw [if_neg e]
      by_cases e2 : ∃ z ∈ l, z.k = k
      · have e3 : ∃ z ∈ y :: l, z.k = k := by obtain ⟨z, h1, h2⟩ := e2; exact ⟨z, List.mem_cons_of_mem _ h1, h2⟩
        rw [if_pos e2, if_pos e3]
      · have e3 : ¬ ∃ z ∈ y :: l, z.k = k := by
          rintro ⟨z, h1, h2⟩
          rcases List.mem_cons.1 h1 with rfl | h1
          · exact e h2
          · exact e2 ⟨z, h1, h2⟩
        rw [if_neg e2, if_neg e3]

theorem over_got (m : List (ByteArray × Int)) (x : Int) (l : List W3) : overL m x l = l.any fun y => decide (x < gotN m y.k) := rfl

theorem over_const {m : List (ByteArray × Int)} {x q : Int} {l : List W3} (h : ∀ y ∈ l, gotN m y.k = q) : overL m x l = (decide (0 < l.length) && decide (x < q)) := by
  rw [over_got]
  cases l with
  | nil => rfl
  | cons y l =>
    rw [Bool.eq_iff_iff, List.any_eq_true]
    simp only [List.length_cons, Nat.zero_lt_succ, decide_true, Bool.true_and, decide_eq_true_eq]
    constructor
    · rintro ⟨z, hz, h2⟩; rw [← h z hz]; exact h2
    · intro h2; exact ⟨y, List.mem_cons_self, by rw [h y List.mem_cons_self]; exact h2⟩

theorem foldl_right {s l : List W3} (hs : ∀ y ∈ s, rightB y = true) : ∀ y ∈ l.foldl (fun s x => (putL s x).1) s, rightB y = true := by
  induction l generalizing s with
  | nil => exact hs
  | cons x l ih =>
    refine ih ?_
    intro y hy
    have hy : y ∈ (putL s x).1 := hy
    unfold putL at hy
    split at hy
    · rename_i hr
      split at hy
      · rcases mem_put hy with rfl | h
        · exact hr
        · exact hs y h
      · split at hy
        · exact hs y hy
        · rcases mem_put hy with rfl | h
          · exact hr
          · exact hs y h
    · exact hs y hy

theorem putsL_right {l : List W3} : ∀ y ∈ putsL l, rightB y = true := foldl_right (fun _ h => by cases h)
theorem right_size {y : W3} (h : rightB y = true) : y.k.size ≤ 16 := by
  unfold rightB at h
  simp only [Bool.and_eq_true, decide_eq_true_eq] at h
  exact h.1

theorem foldl_rs {s l : List W3} (hs : Rs W3.k s) (hl : s.length ≤ 16) : Rs W3.k (l.foldl (fun s x => (putL s x).1) s) ∧ (l.foldl (fun s x => (putL s x).1) s).length ≤ 16 := by
  induction l generalizing s with
  | nil => exact ⟨hs, hl⟩
  | cons x l ih => exact ih (putL_ok hs hl).1 (putL_ok hs hl).2.1
theorem putsL_rs (l : List W3) : Rs W3.k (putsL l) ∧ (putsL l).length ≤ 16 := foldl_rs Rs.nil (by simp)
end Go.Proofs.Ytfbldpppjnnblaa.Liv
