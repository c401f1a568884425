/- Plain law of binary heaps in a list: what 'up' and 'down' do, step by step. -/
namespace Go.Proofs.Ytfbldpppjnnblaa.HeapLaw

def swp (q : List Nat) (i j : Nat) : List Nat := (q.set i (q.getD j 0)).set j (q.getD i 0)

theorem swp_length (q : List Nat) (i j : Nat) : (swp q i j).length = q.length := by simp [swp]

theorem swp_perm (q : List Nat) (i j : Nat) (hi : i < q.length) (hj : j < q.length) : (swp q i j).Perm q := by
  have := List.set_set_perm hi hj
  simpa [swp, List.getD_eq_getElem?_getD, List.getElem?_eq_getElem, hi, hj] using this

theorem swp_getD (q : List Nat) (i j k : Nat) (hi : i < q.length) (hj : j < q.length) :
    (swp q i j).getD k 0 = if k = j then q.getD i 0 else if k = i then q.getD j 0 else q.getD k 0 := by
  simp only [swp, List.getD_eq_getElem?_getD, List.getElem?_set, List.length_set]
  by_cases h1 : j = k
  · subst h1; simp [hj]
  · rw [if_neg h1, if_neg (Ne.symm h1)]
    by_cases h2 : i = k
    · subst h2; simp [hi]
    · rw [if_neg h2, if_neg (Ne.symm h2)]

/-- The first n of a list are a heap. -/
def HeapN (key : Nat → Int) (q : List Nat) (n : Nat) : Prop := ∀ k, 0 < k → k < n → key (q.getD ((k - 1) / 2) 0) ≤ key (q.getD k 0)

/-- A heap but for place j, which may be too small. -/
def UpInv (key : Nat → Int) (q : List Nat) (j : Nat) : Prop :=
  (∀ k, 0 < k → k < q.length → k ≠ j → key (q.getD ((k - 1) / 2) 0) ≤ key (q.getD k 0)) ∧
  (∀ k, 0 < k → k < q.length → (k - 1) / 2 = j → 0 < j → key (q.getD ((j - 1) / 2) 0) ≤ key (q.getD k 0))

theorem UpInv.start (key : Nat → Int) (q : List Nat) (x : Nat) (h : HeapN key q q.length) : UpInv key (q ++ [x]) q.length := by
  have hg : ∀ k, k < q.length → (q ++ [x]).getD k 0 = q.getD k 0 := fun k hk => by
    simp [List.getD_eq_getElem?_getD, List.getElem?_append_left hk]
  refine ⟨fun k h0 hk hne => ?_, fun k h0 hk he hq => ?_⟩
  · simp at hk
    rw [hg k (by omega), hg _ (by omega)]
    exact h k h0 (by omega)
  · simp at hk; omega

theorem UpInv.done {key : Nat → Int} {q : List Nat} {j : Nat} (h : UpInv key q j) (hs : j = 0 ∨ ¬ key (q.getD j 0) < key (q.getD ((j - 1) / 2) 0)) : HeapN key q q.length := by
  intro k h0 hk
  by_cases e : k = j
  · subst e
    rcases hs with hs | hs <;> omega
  · exact h.1 k h0 hk e

theorem UpInv.step {key : Nat → Int} {q : List Nat} {j : Nat} (h : UpInv key q j) (hj : j < q.length) (h0 : 0 < j) (hlt : key (q.getD j 0) < key (q.getD ((j - 1) / 2) 0)) :
    UpInv key (swp q ((j - 1) / 2) j) ((j - 1) / 2) := by
  have hp : (j - 1) / 2 < j := by omega
  generalize hP : (j - 1) / 2 = p at *
  have hG := fun k => swp_getD q p j k (by omega) hj
  refine ⟨fun k k0 hk hne => ?_, fun k k0 hk he hq => ?_⟩
  · rw [swp_length] at hk
    rw [hG, hG]
    by_cases e : k = j
    · subst e
      rw [if_neg (by omega), if_pos hP, if_pos rfl]
      omega
    · rw [if_neg e, if_neg hne]
      by_cases e1 : (k - 1) / 2 = j
      · rw [if_pos e1]
        have := h.2 k k0 hk e1 h0
        rw [hP] at this
        exact this
      · rw [if_neg e1]
        by_cases e2 : (k - 1) / 2 = p
        · rw [if_pos e2]
          have := h.1 k k0 hk e
          rw [e2] at this
          omega
        · rw [if_neg e2]
          exact h.1 k k0 hk e
  · rw [swp_length] at hk
    rw [hG, hG]
    rw [if_neg (by omega), if_neg (by omega)]
    have hpp := h.1 p (by omega) (by omega) (by omega)
    by_cases e : k = j
    · subst e
      rw [if_pos rfl]
      exact hpp
    · rw [if_neg e, if_neg (by omega)]
      have := h.1 k k0 hk e
      rw [he] at this
      omega

/-- The first n a heap but for place i, which may be too great. -/
def DownInv (key : Nat → Int) (q : List Nat) (i n : Nat) : Prop :=
  (∀ k, 0 < k → k < n → (k - 1) / 2 ≠ i → key (q.getD ((k - 1) / 2) 0) ≤ key (q.getD k 0)) ∧
  (∀ k, 0 < k → k < n → (k - 1) / 2 = i → 0 < i → key (q.getD ((i - 1) / 2) 0) ≤ key (q.getD k 0))

theorem DownInv.leaf {key : Nat → Int} {q : List Nat} {i n : Nat} (h : DownInv key q i n) (hn : n ≤ 2 * i + 1) : HeapN key q n := by
  intro k h0 hk
  exact h.1 k h0 hk (by omega)

/-- j is the lesser one of i's kids. -/
def LessKid (key : Nat → Int) (q : List Nat) (i j n : Nat) : Prop :=
  (j = 2 * i + 1 ∨ j = 2 * i + 2) ∧ j < n ∧ ∀ k, (k = 2 * i + 1 ∨ k = 2 * i + 2) → k < n → key (q.getD j 0) ≤ key (q.getD k 0)

theorem DownInv.done {key : Nat → Int} {q : List Nat} {i j n : Nat} (h : DownInv key q i n) (hj : LessKid key q i j n) (hs : ¬ key (q.getD j 0) < key (q.getD i 0)) : HeapN key q n := by
  intro k h0 hk
  by_cases e : (k - 1) / 2 = i
  · have := hj.2.2 k (by omega) hk
    rw [e]
    omega
  · exact h.1 k h0 hk e

theorem DownInv.step {key : Nat → Int} {q : List Nat} {i j n : Nat} (h : DownInv key q i n) (hj : LessKid key q i j n) (hn : n ≤ q.length) (hs : key (q.getD j 0) < key (q.getD i 0)) :
    DownInv key (swp q i j) j n := by
  obtain ⟨hk1, hjn, hle⟩ := hj
  have hij : i < j := by omega
  have hpj : (j - 1) / 2 = i := by omega
  have hG := fun k => swp_getD q i j k (by omega) (by omega)
  refine ⟨fun k k0 hk hne => ?_, fun k k0 hk he hq => ?_⟩
  · rw [hG, hG]
    rw [if_neg hne]
    by_cases e : k = j
    · subst e
      rw [if_pos hpj, if_pos rfl]
      omega
    · rw [if_neg e]
      by_cases e1 : (k - 1) / 2 = i
      · rw [if_pos e1, if_neg (by omega)]
        exact hle k (by omega) hk
      · rw [if_neg e1]
        by_cases e2 : k = i
        · rw [if_pos e2]
          subst e2
          exact h.2 j (by omega) hjn hpj k0
        · rw [if_neg e2]
          exact h.1 k k0 hk e1
  · rw [hG, hG]
    rw [hpj, if_neg (by omega), if_pos rfl, if_neg (by omega), if_neg (by omega)]
    have := h.1 k k0 hk (by omega)
    rw [he] at this
    exact this

theorem HeapN.least {key : Nat → Int} {q : List Nat} {n : Nat} (h : HeapN key q n) : ∀ k, k < n → key (q.getD 0 0) ≤ key (q.getD k 0) := by
  intro k
  induction k using Nat.strongRecOn with
  | ind k ih =>
    intro hk
    by_cases h0 : k = 0
    · subst h0; exact Int.le_refl _
    · have h1 := h k (by omega) hk
      have h2 := ih ((k - 1) / 2) (by omega) (by omega)
      omega

/-- Ahead of Pop's 'down': the first one and the last one were swapped. -/
theorem DownInv.start {key : Nat → Int} {q : List Nat} {n : Nat} (h : HeapN key q (n + 1)) (hn : n < q.length) : DownInv key (swp q 0 n) 0 n := by
  have hG := fun k => swp_getD q 0 n k (by omega) (by omega)
  refine ⟨fun k k0 hk hne => ?_, fun k k0 hk he hq => absurd hq (by omega)⟩
  rw [hG, hG, if_neg (by omega), if_neg hne, if_neg (by omega), if_neg (by omega)]
  exact h k k0 (by omega)

theorem HeapN.congr {key : Nat → Int} {q q' : List Nat} {n : Nat} (h : HeapN key q n) (e : ∀ k, k < n → q'.getD k 0 = q.getD k 0) : HeapN key q' n := by
  intro k k0 hk
  rw [e k hk, e _ (by omega)]
  exact h k k0 hk

end Go.Proofs.Ytfbldpppjnnblaa.HeapLaw
