/- Layer 17: numbers that are open, beside a map of them. (Out of XNumbers and XGone.) -/
import Derived.Test.YtfbldpppjnnblaaLiv17
namespace Go.Proofs.Ytfbldpppjnnblaa.Link17
open Go.RowKit Go.Proofs.Ytfbldpppjnnblaa.Mem Go.Proofs.Ytfbldpppjnnblaa.Q Go.Proofs.Ytfbldpppjnnblaa.Watch Go.Proofs.Ytfbldpppjnnblaa.Map Go.Proofs.Ytfbldpppjnnblaa.Tab Go.Proofs.Ytfbldpppjnnblaa.Liv

/-- The map that goes with a watch: each number that is open, with what f makes of its stamp. -/
structure Link (f : Int → Int) (st : List (Option Int)) (l : List (Int × Int)) : Prop where
  len8 : st.length = 8
  nodup : (l.map (·.1)).Nodup
  len : l.length = cntB st
  got : ∀ I : Int, Map.get l I = if hasB st I then (st.getD I.toNat none).map f else none

theorem Link.nil (f : Int → Int) : Link f (List.replicate 8 none) [] where
  len8 := rfl
  nodup := List.nodup_nil
  len := rfl
  got I := by
    have : hasB (List.replicate 8 none) I = false := by
      unfold hasB
      have : ((List.replicate 8 (none : Option Int)).getD I.toNat none) = none := by
        rw [List.getD_eq_getElem?_getD, List.getElem?_replicate]; split <;> rfl
      rw [this]; simp
    rw [this]; rfl

theorem cnt_set_yes (st : List (Option Int)) : ∀ (i : Nat) (x : Int), st[i]? = some none → cntB (st.set i (some x)) = cntB st + 1 := by
  induction st with
  | nil => intro i x h; simp at h
  | cons o st ih =>
    intro i x h
    cases i with
    | zero =>
      obtain rfl : o = none := by simpa using h
      simp [cntB]
    | succ i =>
      have := ih i x (by simpa using h)
      simp only [List.set_cons_succ]
      unfold cntB at *
      simp only [List.filter_cons]
      split
      · simp only [List.length_cons]; omega
      · omega

theorem cnt_set_no (st : List (Option Int)) : ∀ (i : Nat) (x : Int), st[i]? = some (some x) → cntB (st.set i none) + 1 = cntB st := by
  induction st with
  | nil => intro i x h; simp at h
  | cons o st ih =>
    intro i x h
    cases i with
    | zero =>
      obtain rfl : o = some x := by simpa using h
      simp [cntB]
    | succ i =>
      have := ih i x (by simpa using h)
      simp only [List.set_cons_succ]
      unfold cntB at *
      simp only [List.filter_cons]
      split
      · simp only [List.length_cons]; omega
      · omega

theorem hasB_set {st : List (Option Int)} (hl : st.length = 8) (i : Nat) (o : Option Int) (I : Int) (hi : i < 8) : hasB (st.set i o) I = if (i : Int) = I then o.isSome else hasB st I := by
  unfold hasB
  simp only [List.getD_eq_getElem?_getD, List.getElem?_set]
  by_cases h0 : 0 ≤ I
  · obtain ⟨k, rfl⟩ : ∃ k : Nat, I = k := ⟨I.toNat, by omega⟩
    simp only [Int.toNat_natCast]
    by_cases e : i = k
    · subst e
      simp [hl, hi]
      intro _
      omega
    · have : ¬ (i : Int) = k := by omega
      simp only [if_neg this, if_neg e]
  · have e2 : ¬ ((i : Int) = I) := by omega
    simp [h0, e2]

theorem Link.set {f : Int → Int} {st : List (Option Int)} {l : List (Int × Int)} (h : Link f st l) {i : Nat} (hi : st[i]? = some none) (x : Int) : Link f (st.set i (some x)) (put l (i : Int) (f x)) where
  len8 := by rw [List.length_set]; exact h.len8
  nodup := nodup_put h.nodup _ _
  len := by
    have i8 : i < 8 := by have := (List.getElem?_eq_some_iff.1 hi).1; rw [h.len8] at this; exact this
    have hg : Map.get l (i : Int) = none := by
      rw [h.got, hasB_at i8]
      simp [List.getD_eq_getElem?_getD, hi]
    rw [length_put, hg, cnt_set_yes st i x hi, h.len]
    rfl
  got I := by
    have i8 : i < 8 := by have := (List.getElem?_eq_some_iff.1 hi).1; rw [h.len8] at this; exact this
    rw [get_put, hasB_set h.len8 i _ I i8, h.got]
    by_cases e : (i : Int) = I
    · subst e
      simp [List.getD_eq_getElem?_getD, h.len8, i8]
    · simp only [e, if_false]
      by_cases hb : hasB st I = true
      · have h0 : 0 ≤ I := by unfold hasB at hb; simp at hb; exact hb.1
        have : ¬ i = I.toNat := by omega
        simp [hb, List.getD_eq_getElem?_getD, this]
      · simp [hb]

theorem Link.del_yes {f : Int → Int} {st : List (Option Int)} {l : List (Int × Int)} (h : Link f st l) {I : Int} (hI : hasB st I = true) : Link f (st.set I.toNat none) (del l I) := by
  have h0 : 0 ≤ I ∧ I < 8 ∧ (st.getD I.toNat none).isSome = true := by
    have := hI
    unfold hasB at this
    simpa using this
  obtain ⟨k, rfl⟩ : ∃ k : Nat, I = k := ⟨I.toNat, by omega⟩
  have i8 : k < 8 := by omega
  have hs := h0.2.2
  simp only [Int.toNat_natCast] at hs ⊢
  obtain ⟨x, hx⟩ := Option.isSome_iff_exists.1 hs
  have hat : st[k]? = some (some x) := by
    rw [List.getD_eq_getElem?_getD, List.getElem?_eq_getElem (show k < st.length by rw [h.len8]; exact i8)] at hx
    rw [List.getElem?_eq_getElem (show k < st.length by rw [h.len8]; exact i8)]
    simpa using hx
  refine ⟨by rw [List.length_set]; exact h.len8, nodup_del h.nodup _, ?_, fun J => ?_⟩
  · have h1 := length_del l (k : Int)
    have h2 := cnt_set_no st k x hat
    rw [h.got, if_pos hI, Int.toNat_natCast, hx] at h1
    simp at h1
    have := h.len
    omega
  · rw [get_del h.nodup, hasB_set h.len8 k _ J i8, h.got]
    by_cases e : (k : Int) = J
    · simp [e]
    · simp only [e, if_false]
      by_cases hb : hasB st J = true
      · have h0 : 0 ≤ J := by unfold hasB at hb; simp at hb; exact hb.1
        have : ¬ k = J.toNat := by omega
        simp [hb, List.getD_eq_getElem?_getD, this]
      · simp [hb]

theorem Link.del_no {f : Int → Int} {st : List (Option Int)} {l : List (Int × Int)} (h : Link f st l) {I : Int} (hI : hasB st I = false) : del l I = l := by
  refine del_none ?_
  have := h.got I
  rw [hI, get_idx] at this
  simpa using this

theorem Link.one {st : List (Option Int)} {l : List (Int × Int)} (h : Link (fun _ => 1) st l) {I : Int} (hI : hasB st I = true) : Map.get l I = some 1 := by
  have h0 : (st.getD I.toNat none).isSome = true := by
    unfold hasB at hI
    simp only [Bool.and_eq_true] at hI
    exact hI.2.2
  rw [h.got, hI]
  obtain ⟨y, hy⟩ := Option.isSome_iff_exists.1 h0
  rw [hy]
  rfl

/-- The first number that is free, or 8. -/
theorem first_free {st : List (Option Int)} (h : st.length = 8) : (∃ i : Nat, i < 8 ∧ st[i]? = some none ∧ (∀ j, j < i → st[j]? ≠ some none) ∧ (∀ j : Nat, j < i → hasB st j = true) ∧ hasB st i = false) ∨
    ((∀ i : Nat, st[i]? ≠ some none) ∧ (∀ j : Nat, j < 8 → hasB st j = true) ∧ hasB st 8 = false) := by
  have key : ∀ j : Nat, j < 8 → st[j]? ≠ some none → hasB st j = true := by
    intro j hj hn
    rw [hasB_at hj]
    rw [List.getD_eq_getElem?_getD]
    rw [List.getElem?_eq_getElem (by omega)] at hn ⊢
    cases hx : st[j]'(by omega) with
    | none => exact absurd (by rw [hx]) hn
    | some x => rfl
  by_cases hx : ∃ i : Nat, st[i]? = some none
  · left
    obtain ⟨i, hi⟩ := hx
    induction i using Nat.strongRecOn with
    | ind i ih =>
      by_cases hm : ∃ j, j < i ∧ st[j]? = some none
      · obtain ⟨j, hj, hs⟩ := hm
        exact ih j hj hs
      · have i8 : i < 8 := by have := (List.getElem?_eq_some_iff.1 hi).1; omega
        refine ⟨i, i8, hi, fun j hj hs => hm ⟨j, hj, hs⟩, fun j hj => key j (by omega) (fun hs => hm ⟨j, hj, hs⟩), ?_⟩
        rw [hasB_at i8, List.getD_eq_getElem?_getD, hi]; rfl
  · right
    refine ⟨fun i hi => hx ⟨i, hi⟩, fun j hj => key j hj (fun hs => hx ⟨j, hs⟩), ?_⟩
    unfold hasB; simp

theorem mem_get {l : List (Int × Int)} (hn : (l.map (·.1)).Nodup) : ∀ {k v : Int}, (k, v) ∈ l → Map.get l k = some v := by
  induction l with
  | nil => intro k v h; cases h
  | cons p l ih =>
    obtain ⟨a, u⟩ := p
    intro k v h
    simp only [List.map_cons, List.nodup_cons] at hn
    rcases List.mem_cons.1 h with h | h
    · cases h; simp [Map.get]
    · have : a ≠ k := fun e => hn.1 (e ▸ List.mem_map.2 ⟨_, h, rfl⟩)
      simp [Map.get, this, ih hn.2 h]

theorem get_mem {l : List (Int × Int)} {k v : Int} (h : Map.get l k = some v) : (k, v) ∈ l := by
  induction l with
  | nil => cases h
  | cons p l ih =>
    obtain ⟨a, u⟩ := p
    simp only [Map.get] at h
    split at h
    · rename_i e; cases h; subst e; exact List.mem_cons_self
    · exact List.mem_cons_of_mem _ (ih h)

theorem perm_step {x y seen l : List (Int × Int)} {p : Int × Int} (h : (seen ++ (x ++ p :: y)).Perm l) : ((p :: seen) ++ (x ++ y)).Perm l := by
  refine List.Perm.trans (List.Perm.symm ?_) h
  refine (List.Perm.append_left seen List.perm_middle).trans ?_
  exact List.perm_middle


/-- The least one so far, or 1000. -/
def Lmin (seen : List (Int × Int)) (m : Int) : Prop := (∀ p ∈ seen, m ≤ p.2) ∧ ((m = 1000 ∧ seen = []) ∨ ∃ k, (k, m) ∈ seen)

theorem Lmin.nil : Lmin [] 1000 := ⟨fun _ h => by simp at h, .inl ⟨rfl, rfl⟩⟩

theorem Lmin.step {seen : List (Int × Int)} {m : Int} (h : Lmin seen m) (p : Int × Int) (hp : p.2 < 1000) : Lmin (p :: seen) (if m ≤ p.2 then m else p.2) := by
  obtain ⟨h1, h2⟩ := h
  by_cases e : m ≤ p.2
  · rw [if_pos e]
    refine ⟨fun q hq => ?_, .inr ?_⟩
    · rcases List.mem_cons.1 hq with rfl | hq
      · exact e
      · exact h1 q hq
    · rcases h2 with ⟨rfl, _⟩ | ⟨k, hk⟩
      · omega
      · exact ⟨k, List.mem_cons_of_mem _ hk⟩
  · rw [if_neg e]
    refine ⟨fun q hq => ?_, .inr ⟨p.1, List.mem_cons_self⟩⟩
    rcases List.mem_cons.1 hq with rfl | hq
    · exact Int.le_refl _
    · have := h1 q hq; omega

theorem Lmin.least {m : Int} {st : List (Option Int)} {l seen : List (Int × Int)} (h : Lmin seen m) (hp : seen.Perm l) (hl : Link id st l) : IsLeast st 1000 m := by
  have at8 : ∀ (i : Nat) (x : Int), st[i]? = some (some x) → ((i : Int), x) ∈ seen := by
    intro i x hx
    have i8 : i < 8 := by have := (List.getElem?_eq_some_iff.1 hx).1; rw [hl.len8] at this; exact this
    have hb : hasB st i = true := by rw [hasB_at i8, List.getD_eq_getElem?_getD, hx]; rfl
    refine hp.mem_iff.2 (get_mem ?_)
    rw [hl.got, hb]
    simp [List.getD_eq_getElem?_getD, hx]
  obtain ⟨h1, h2⟩ := h
  rcases h2 with ⟨rfl, rfl⟩ | ⟨k, hk⟩
  · exact .inr ⟨fun i x hx => by have := at8 i x hx; simp at this, rfl⟩
  · refine .inl ⟨?_, fun i x hx => h1 _ (at8 i x hx)⟩
    have hg := mem_get hl.nodup (hp.mem_iff.1 hk)
    rw [hl.got] at hg
    split at hg
    · refine ⟨k.toNat, ?_⟩
      rw [Option.map_id] at hg
      rw [List.getD_eq_getElem?_getD] at hg
      cases hq : st[k.toNat]? with
      | none => rw [hq] at hg; simp at hg
      | some o => rw [hq] at hg; simp at hg; rw [hg]
    · cases hg
end Go.Proofs.Ytfbldpppjnnblaa.Link17
