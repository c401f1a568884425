/- Lists with rising keys: what is looked up, put, laid over. Plain Lean. -/
import Derived.Test.YtfbldpppjnnblaaKey
namespace Go.Proofs.Ytfbldpppjnnblaa.Set
open Go.Proofs.Ytfbldpppjnnblaa.Key

section
variable {α : Type} {key : α → ByteArray}

/-- Do keys rise? -/
def Rs (key : α → ByteArray) (l : List α) : Prop := l.Pairwise fun a b => kl (key a) (key b) = true

/-- That of a key. -/
def lk (key : α → ByteArray) : List α → ByteArray → Option α
  | [], _ => none
  | a :: l, k => if key a = k then some a else lk key l k

/-- One more, or in the place of that of its key. -/
def put (key : α → ByteArray) : List α → α → List α
  | [], x => [x]
  | a :: l, x => if key a = key x then x :: l else if kl (key a) (key x) = true then a :: put key l x else x :: a :: l

/-- The place of a key. -/
def idx (key : α → ByteArray) : List α → ByteArray → Nat
  | [], _ => 0
  | a :: l, k => if kl (key a) k = true then idx key l k + 1 else 0

theorem Rs.nil : Rs key [] := List.Pairwise.nil
theorem Rs.tail {a : α} {l : List α} (h : Rs key (a :: l)) : Rs key l := (List.pairwise_cons.1 h).2
theorem Rs.head {a b : α} {l : List α} (h : Rs key (a :: l)) (hb : b ∈ l) : kl (key a) (key b) = true := (List.pairwise_cons.1 h).1 b hb
theorem Rs.cons {a : α} {l : List α} (h : ∀ b ∈ l, kl (key a) (key b) = true) (hl : Rs key l) : Rs key (a :: l) := List.pairwise_cons.2 ⟨h, hl⟩

theorem lk_cons (a : α) (l : List α) {k : ByteArray} : lk key (a :: l) k = if key a = k then some a else lk key l k := rfl

theorem lk_mem {l : List α} {k : ByteArray} {x : α} (h : lk key l k = some x) : x ∈ l ∧ key x = k := by
  induction l with
  | nil => cases h
  | cons a l ih =>
    simp only [lk] at h
    split at h
    · rename_i e
      cases h
      exact ⟨List.mem_cons_self, e⟩
    · obtain ⟨h1, h2⟩ := ih h
      exact ⟨List.mem_cons_of_mem _ h1, h2⟩

theorem lk_none {l : List α} {k : ByteArray} (h : ∀ x ∈ l, key x ≠ k) : lk key l k = none := by
  induction l with
  | nil => rfl
  | cons a l ih =>
    simp only [lk]
    rw [if_neg (h a List.mem_cons_self)]
    exact ih (fun x hx => h x (List.mem_cons_of_mem _ hx))

theorem lk_none_iff {l : List α} {k : ByteArray} : lk key l k = none ↔ ∀ x ∈ l, key x ≠ k := by
  refine ⟨fun h x hx e => ?_, lk_none⟩
  induction l with
  | nil => cases hx
  | cons a l ih =>
    simp only [lk] at h
    split at h
    · cases h
    · rename_i hne
      rcases List.mem_cons.1 hx with rfl | hx
      · exact hne e
      · exact ih h hx

theorem lk_of_mem {l : List α} (h : Rs key l) {x : α} (hx : x ∈ l) : lk key l (key x) = some x := by
  induction l with
  | nil => cases hx
  | cons a l ih =>
    simp only [lk]
    rcases List.mem_cons.1 hx with rfl | hx
    · rw [if_pos rfl]
    · rw [if_neg (kl_ne (h.head hx))]
      exact ih h.tail hx

theorem lk_below {a : α} {l : List α} {k : ByteArray} (h : Rs key (a :: l)) (hk : kl k (key a) = true) : lk key (a :: l) k = none := by
  refine lk_none (fun x hx e => ?_)
  rcases List.mem_cons.1 hx with rfl | hx
  · exact kl_ne hk e.symm
  · have := kl_trans hk (h.head hx)
    exact kl_ne this e.symm

/-- Lists that rise, and have the same of each key, are one. -/
theorem rs_ext : ∀ {l m : List α}, Rs key l → Rs key m → (∀ k, lk key l k = lk key m k) → l = m
  | [], [], _, _, _ => rfl
  | [], b :: m, _, _, h => by have := h (key b); simp [lk] at this
  | a :: l, [], _, _, h => by have := h (key a); simp [lk] at this
  | a :: l, b :: m, hl, hm, h => by
    have hab : key a = key b := by
      rcases kl_tri (key a) (key b) with hlt | e | hlt
      · have h1 := h (key a)
        rw [lk_below hm hlt] at h1
        simp [lk] at h1
      · exact e
      · have h1 := h (key b)
        rw [lk_below hl hlt] at h1
        simp [lk] at h1
    have e : a = b := by
      have h1 := h (key a)
      simp only [lk, if_true] at h1
      rw [if_pos hab.symm] at h1
      exact Option.some.inj h1
    subst e
    rw [rs_ext hl.tail hm.tail (fun k => ?_)]
    have h1 := h k
    simp only [lk] at h1
    by_cases hk : key a = k
    · subst hk
      rw [lk_none (fun x hx e => kl_ne (hl.head hx) e.symm), lk_none (fun x hx e => kl_ne (hm.head hx) e.symm)]
    · simpa [hk] using h1

theorem mem_put {l : List α} {x y : α} (h : y ∈ put key l x) : y = x ∨ y ∈ l := by
  induction l with
  | nil => simpa [put] using h
  | cons a l ih =>
    simp only [put] at h
    split at h
    · rcases List.mem_cons.1 h with h | h
      · exact .inl h
      · exact .inr (List.mem_cons_of_mem _ h)
    · split at h
      · rcases List.mem_cons.1 h with h | h
        · exact .inr (h ▸ List.mem_cons_self)
        · rcases ih h with h | h
          · exact .inl h
          · exact .inr (List.mem_cons_of_mem _ h)
      · rcases List.mem_cons.1 h with h | h
        · exact .inl h
        · exact .inr h

theorem put_rs {l : List α} (h : Rs key l) (x : α) : Rs key (put key l x) := by
  induction l with
  | nil => exact Rs.cons (fun _ h => by cases h) Rs.nil
  | cons a l ih =>
    simp only [put]
    split
    · rename_i e
      exact Rs.cons (fun b hb => e ▸ h.head hb) h.tail
    · rename_i hne
      split
      · rename_i hlt
        exact Rs.cons (fun b hb => by
          rcases mem_put hb with rfl | hb
          · exact hlt
          · exact h.head hb) (ih h.tail)
      · rename_i hnl
        have hlt : kl (key x) (key a) = true := by
          rcases kl_tri (key x) (key a) with h1 | h1 | h1
          · exact h1
          · exact absurd h1.symm hne
          · exact absurd h1 hnl
        exact Rs.cons (fun b hb => by
          rcases List.mem_cons.1 hb with rfl | hb
          · exact hlt
          · exact kl_trans hlt (h.head hb)) h

theorem lk_put {l : List α} (h : Rs key l) (x : α) (k : ByteArray) : lk key (put key l x) k = if key x = k then some x else lk key l k := by
  induction l with
  | nil => simp [put, lk]
  | cons a l ih =>
    simp only [put]
    split
    · rename_i e
      simp only [lk, e]
      split <;> rfl
    · rename_i hne
      split
      · simp only [lk, ih h.tail]
        by_cases h1 : key a = k
        · rw [if_pos h1, if_neg (fun e => hne (h1.trans e.symm)), if_pos h1]
        · rw [if_neg h1, if_neg h1]
      · simp only [lk]

theorem put_yes {l : List α} (h : Rs key l) {x y : α} (hx : lk key l (key x) = some y) : put key l x = l.set (idx key l (key x)) x ∧ idx key l (key x) < l.length ∧ l[idx key l (key x)]? = some y := by
  induction l with
  | nil => cases hx
  | cons a l ih =>
    simp only [lk] at hx
    by_cases e : key a = key x
    · rw [if_pos e] at hx
      cases hx
      simp [put, idx, e, kl_irrefl]
    · rw [if_neg e] at hx
      have hlt : kl (key a) (key x) = true := by
        obtain ⟨h1, h2⟩ := lk_mem hx
        have := h.head h1
        rwa [h2] at this
      obtain ⟨h1, h2, h3⟩ := ih h.tail hx
      simp only [put, idx, if_neg e, if_pos hlt, List.set_cons_succ, h1]
      exact ⟨trivial, by simpa using h2, by simpa using h3⟩

theorem put_no {l : List α} (h : Rs key l) {x : α} (hx : lk key l (key x) = none) : put key l x = l.take (idx key l (key x)) ++ x :: l.drop (idx key l (key x)) ∧ idx key l (key x) ≤ l.length := by
  induction l with
  | nil => simp [put, idx]
  | cons a l ih =>
    simp only [lk] at hx
    split at hx
    · cases hx
    · rename_i e
      simp only [put, idx, if_neg e]
      split
      · obtain ⟨h1, h2⟩ := ih h.tail hx
        rw [h1]
        simpa using h2
      · simp

theorem length_put {l : List α} (h : Rs key l) (x : α) : (put key l x).length = if (lk key l (key x)).isSome then l.length else l.length + 1 := by
  cases hx : lk key l (key x) with
  | some y => rw [(put_yes h hx).1]; simp
  | none =>
    obtain ⟨h1, h2⟩ := put_no h hx
    rw [h1]
    simp
    omega

/-- The place is found: what stands ahead is less, what stands there or behind is not. -/
theorem idx_spec {l : List α} (h : Rs key l) (k : ByteArray) : idx key l k ≤ l.length ∧ (∀ j (hj : j < l.length), j < idx key l k → kl (key l[j]) k = true) ∧ ∀ j (hj : j < l.length), idx key l k ≤ j → kl (key l[j]) k = false := by
  induction l with
  | nil => simp [idx]
  | cons a l ih =>
    obtain ⟨h1, h2, h3⟩ := ih h.tail
    simp only [idx]
    split
    · rename_i hlt
      refine ⟨by simpa using h1, fun j hj hji => ?_, fun j hj hji => ?_⟩
      · cases j with
        | zero => exact hlt
        | succ j => exact h2 j (by simpa using hj) (by omega)
      · cases j with
        | zero => omega
        | succ j => exact h3 j (by simpa using hj) (by omega)
    · rename_i hnl
      have hf : kl (key a) k = false := by simpa using hnl
      refine ⟨Nat.zero_le _, fun j _ hj => absurd hj (by omega), fun j hj _ => ?_⟩
      cases j with
      | zero => exact hf
      | succ j =>
        have hjl : j < l.length := by simpa using hj
        have h4 := h.head (List.getElem_mem hjl)
        cases hq : kl (key (l[j]'hjl)) k with
        | false => exact hq
        | true => exact absurd (kl_trans h4 hq) (by simp [hf])

theorem idx_unique {l : List α} (h : Rs key l) {k : ByteArray} {i : Nat} (hi : i ≤ l.length) (h1 : ∀ j (hj : j < l.length), j < i → kl (key l[j]) k = true) (h2 : ∀ j (hj : j < l.length), i ≤ j → kl (key l[j]) k = false) : i = idx key l k := by
  obtain ⟨g0, g1, g2⟩ := idx_spec h k
  rcases Nat.lt_trichotomy i (idx key l k) with hlt | e | hlt
  · have a := g1 i (by omega) hlt
    rw [h2 i (by omega) (Nat.le_refl _)] at a
    cases a
  · exact e
  · have a := h1 (idx key l k) (by omega) hlt
    rw [g2 _ (by omega) (Nat.le_refl _)] at a
    cases a

theorem lk_idx {l : List α} (h : Rs key l) (k : ByteArray) : lk key l k = match l[idx key l k]? with | some x => if key x = k then some x else none | none => none := by
  induction l with
  | nil => rfl
  | cons a l ih =>
    simp only [lk, idx]
    by_cases e : key a = k
    · subst e
      simp [kl_irrefl]
    · rw [if_neg e]
      by_cases hlt : kl (key a) k = true
      · rw [if_pos hlt, ih h.tail]
        simp
      · rw [if_neg hlt]
        simp only [List.getElem?_cons_zero, if_neg e]
        refine lk_none (fun x hx e2 => ?_)
        have := h.head hx
        rw [e2] at this
        exact hlt this
end

section
variable {α β : Type} {kp : α → ByteArray} {kw : β → ByteArray} {gone : β → Bool} {mk : β → α}

/-- What a set makes of pairs. -/
def ov (kp : α → ByteArray) (kw : β → ByteArray) (gone : β → Bool) (mk : β → α) : List α → List β → List α
  | l, [] => l
  | [], w :: s => if gone w = true then ov kp kw gone mk [] s else mk w :: ov kp kw gone mk [] s
  | p :: l, w :: s =>
    if kl (kp p) (kw w) = true then p :: ov kp kw gone mk l (w :: s)
    else if kp p = kw w then (if gone w = true then ov kp kw gone mk l s else mk w :: ov kp kw gone mk l s)
    else (if gone w = true then ov kp kw gone mk (p :: l) s else mk w :: ov kp kw gone mk (p :: l) s)
termination_by l s => l.length + s.length

theorem ov_nil (l : List α) : ov kp kw gone mk l [] = l := by
  cases l <;> simp [ov]

theorem mem_ov (hk : ∀ w, kp (mk w) = kw w) : ∀ (n : Nat) (l : List α) (s : List β), l.length + s.length = n → ∀ x ∈ ov kp kw gone mk l s, x ∈ l ∨ ∃ w ∈ s, kw w = kp x := by
  intro n
  induction n using Nat.strongRecOn with
  | _ n ih =>
    intro l s hn x hx
    match l, s with
    | l, [] => rw [ov_nil] at hx; exact .inl hx
    | [], w :: s =>
      have h1 := ih s.length (by simp at hn; omega) [] s (by simp) x
      rw [ov] at hx
      split at hx
      · rcases h1 hx with h | ⟨u, h, e⟩
        · exact .inl h
        · exact .inr ⟨u, List.mem_cons_of_mem _ h, e⟩
      · rcases List.mem_cons.1 hx with rfl | hx
        · exact .inr ⟨w, List.mem_cons_self, (hk w).symm⟩
        · rcases h1 hx with h | ⟨u, h, e⟩
          · exact .inl h
          · exact .inr ⟨u, List.mem_cons_of_mem _ h, e⟩
    | p :: l, w :: s =>
      have h1 := ih (l.length + (w :: s).length) (by simp at hn ⊢; omega) l (w :: s) rfl x
      have h2 := ih (l.length + s.length) (by simp at hn ⊢; omega) l s rfl x
      have h3 := ih ((p :: l).length + s.length) (by simp at hn ⊢; omega) (p :: l) s rfl x
      have back : ∀ {m : List α}, (∀ y ∈ m, y ∈ p :: l) → (x ∈ m ∨ ∃ u ∈ s, kw u = kp x) → x ∈ p :: l ∨ ∃ u ∈ w :: s, kw u = kp x := fun hm h => by
        rcases h with h | ⟨u, h, e⟩
        · exact .inl (hm x h)
        · exact .inr ⟨u, List.mem_cons_of_mem _ h, e⟩
      rw [ov] at hx
      split at hx
      · rcases List.mem_cons.1 hx with rfl | hx
        · exact .inl List.mem_cons_self
        · rcases h1 hx with h | h
          · exact .inl (List.mem_cons_of_mem _ h)
          · exact .inr h
      · split at hx
        · split at hx
          · exact back (fun y hy => List.mem_cons_of_mem _ hy) (h2 hx)
          · rcases List.mem_cons.1 hx with rfl | hx
            · exact .inr ⟨w, List.mem_cons_self, (hk w).symm⟩
            · exact back (fun y hy => List.mem_cons_of_mem _ hy) (h2 hx)
        · split at hx
          · exact back (fun y hy => hy) (h3 hx)
          · rcases List.mem_cons.1 hx with rfl | hx
            · exact .inr ⟨w, List.mem_cons_self, (hk w).symm⟩
            · exact back (fun y hy => hy) (h3 hx)

/-- What Over tells of a key. -/
def ovk (gone : β → Bool) (mk : β → α) (a : Option α) (b : Option β) : Option α :=
  match b with
  | some w => if gone w = true then none else some (mk w)
  | none => a

theorem ov_rs (hk : ∀ w, kp (mk w) = kw w) : ∀ (n : Nat) (l : List α) (s : List β), l.length + s.length = n → Rs kp l → Rs kw s → Rs kp (ov kp kw gone mk l s) ∧ ∀ k, lk kp (ov kp kw gone mk l s) k = ovk gone mk (lk kp l k) (lk kw s k) := by
  intro n
  induction n using Nat.strongRecOn with
  | _ n ih =>
    intro l s hn hl hs
    match l, s with
    | l, [] => rw [ov_nil]; exact ⟨hl, fun k => rfl⟩
    | [], w :: s =>
      obtain ⟨r1, r2⟩ := ih s.length (by simp at hn; omega) [] s (by simp) hl hs.tail
      have hab : ∀ b ∈ ov kp kw gone mk [] s, kl (kw w) (kp b) = true := fun b hb => by
        rcases mem_ov hk _ [] s rfl b hb with h | ⟨u, h, e⟩
        · cases h
        · rw [← e]; exact hs.head h
      rw [ov]
      split
      · rename_i hg
        refine ⟨r1, fun k => ?_⟩
        simp only [lk]
        by_cases e : kw w = k
        · rw [if_pos e, lk_none (fun x hx e2 => kl_ne (hab x hx) (e.trans e2.symm))]
          simp [ovk, hg]
        · rw [if_neg e, r2]; rfl
      · rename_i hg
        refine ⟨Rs.cons (fun b hb => by rw [hk]; exact hab b hb) r1, fun k => ?_⟩
        simp only [lk, hk]
        by_cases e : kw w = k
        · rw [if_pos e, if_pos e]; simp [ovk, hg]
        · rw [if_neg e, if_neg e, r2]; rfl
    | p :: l, w :: s =>
      obtain ⟨a1, a2⟩ := ih (l.length + (w :: s).length) (by simp at hn ⊢; omega) l (w :: s) rfl hl.tail hs
      obtain ⟨b1, b2⟩ := ih (l.length + s.length) (by simp at hn ⊢; omega) l s rfl hl.tail hs.tail
      obtain ⟨c1, c2⟩ := ih ((p :: l).length + s.length) (by simp at hn ⊢; omega) (p :: l) s rfl hl hs.tail
      rw [ov]
      split
      · rename_i hlt
        refine ⟨Rs.cons (fun b hb => ?_) a1, fun k => ?_⟩
        · rcases mem_ov hk _ l (w :: s) rfl b hb with h | ⟨u, h, e⟩
          · exact hl.head h
          · rw [← e]
            rcases List.mem_cons.1 h with rfl | h
            · exact hlt
            · exact kl_trans hlt (hs.head h)
        · simp only [lk]
          by_cases e : kp p = k
          · rw [if_pos e, if_pos e]
            have hn : lk kw (w :: s) k = none := lk_below hs (by rw [← e]; exact hlt)
            simp only [lk] at hn
            rw [hn]
            rfl
          · rw [if_neg e, if_neg e, a2]
            simp only [lk]
      · rename_i hnl
        split
        · rename_i he
          have hab : ∀ b ∈ ov kp kw gone mk l s, kl (kw w) (kp b) = true := fun b hb => by
            rcases mem_ov hk _ l s rfl b hb with h | ⟨u, h, e⟩
            · rw [← he]; exact hl.head h
            · rw [← e]; exact hs.head h
          split
          · rename_i hg
            refine ⟨b1, fun k => ?_⟩
            simp only [lk]
            by_cases e : kw w = k
            · rw [if_pos e, lk_none (fun x hx e2 => kl_ne (hab x hx) (e.trans e2.symm))]
              simp [ovk, hg]
            · rw [if_neg e, if_neg (fun e2 => e (he.symm.trans e2)), b2]
          · rename_i hg
            refine ⟨Rs.cons (fun b hb => by rw [hk]; exact hab b hb) b1, fun k => ?_⟩
            simp only [lk, hk]
            by_cases e : kw w = k
            · rw [if_pos e, if_pos e]; simp [ovk, hg]
            · rw [if_neg e, if_neg e, if_neg (fun e2 => e (he.symm.trans e2)), b2]
        · rename_i hne
          have hlt : kl (kw w) (kp p) = true := by
            rcases kl_tri (kw w) (kp p) with h1 | h1 | h1
            · exact h1
            · exact absurd h1.symm hne
            · exact absurd h1 hnl
          have hab : ∀ b ∈ ov kp kw gone mk (p :: l) s, kl (kw w) (kp b) = true := fun b hb => by
            rcases mem_ov hk _ (p :: l) s rfl b hb with h | ⟨u, h, e⟩
            · rcases List.mem_cons.1 h with rfl | h
              · exact hlt
              · exact kl_trans hlt (hl.head h)
            · rw [← e]; exact hs.head h
          split
          · rename_i hg
            refine ⟨c1, fun k => ?_⟩
            rw [lk_cons w s]
            by_cases e : kw w = k
            · rw [if_pos e, lk_none (fun x hx e2 => kl_ne (hab x hx) (e.trans e2.symm))]
              simp [ovk, hg]
            · rw [if_neg e, c2]
          · rename_i hg
            refine ⟨Rs.cons (fun b hb => by rw [hk]; exact hab b hb) c1, fun k => ?_⟩
            rw [lk_cons w s, lk_cons (mk w), hk]
            by_cases e : kw w = k
            · rw [if_pos e, if_pos e]; simp [ovk, hg]
            · rw [if_neg e, if_neg e, c2]
end
end Go.Proofs.Ytfbldpppjnnblaa.Set
