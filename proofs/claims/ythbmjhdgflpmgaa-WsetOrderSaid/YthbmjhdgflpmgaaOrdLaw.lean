/- WsetOrder's plain law: a fold of puts of unlike keys, no more than may be, is told by what was put. -/
import Derived.Test.YthbmjhdgflpmgaaRowMap
namespace Go.Proofs.Ythbmjhdgflpmgaa.wsetOrder
open Go.Proofs.Ythbmjhdgflpmgaa.Key Go.Proofs.Ythbmjhdgflpmgaa.Set Go.Proofs.Ythbmjhdgflpmgaa.Rows3 Go.Proofs.Ythbmjhdgflpmgaa.Put15 Go.Proofs.Ythbmjhdgflpmgaa.Get15 Go.Proofs.Ythbmjhdgflpmgaa.RowMap

/-- A set made of those of P, each put once. -/
def Good (P : W3 → Prop) (c : Nat) (s : List W3) : Prop := Rs W3.k s ∧ s.length ≤ c ∧ ∀ k x, lk W3.k s k = some x ↔ P x ∧ rightB x = true ∧ x.k = k

theorem Good.nil {P : W3 → Prop} (h : ∀ x, ¬ P x) : Good P 0 [] := ⟨Rs.nil, Nat.le_refl _, fun k x => ⟨fun h => by simp [lk] at h, fun h2 => absurd h2.1 (h x)⟩⟩

theorem Good.step {P Q : W3 → Prop} {c : Nat} {s : List W3} {x : W3} (h : Good P c s) (hc : c < 16) (hn : ∀ y, P y → y.k ≠ x.k) (hQ : ∀ y, Q y ↔ P y ∨ y = x) : Good Q (c + 1) (putL s x).1 := by
  obtain ⟨h1, h2, h3⟩ := h
  have hno : lk W3.k s x.k = none := by
    cases hl : lk W3.k s x.k with
    | none => rfl
    | some y => exact absurd ((h3 _ _).1 hl).2.2 (hn y ((h3 _ _).1 hl).1)
  by_cases hr : rightB x = true
  · have hp : (putL s x).1 = Set.put W3.k s x := by
      unfold putL
      rw [if_pos hr, hno]
      simp only [Option.isSome_none, Bool.false_eq_true, if_false]
      rw [if_neg (by omega)]
    rw [hp]
    refine ⟨put_rs h1 x, by rw [Set.length_put h1, hno]; simp; exact h2, fun k y => ?_⟩
    rw [lk_put h1]
    by_cases e : x.k = k
    · rw [if_pos e, hQ]
      constructor
      · intro h; cases h; exact ⟨.inr rfl, hr, e⟩
      · rintro ⟨hy | rfl, h5, h6⟩
        · exact absurd (h6.trans e.symm) (hn y hy)
        · rfl
    · rw [if_neg e, h3, hQ]
      constructor
      · rintro ⟨a, b⟩; exact ⟨.inl a, b⟩
      · rintro ⟨a | rfl, b, d⟩
        · exact ⟨a, b, d⟩
        · exact absurd d e
  · have hp : (putL s x).1 = s := by unfold putL; rw [if_neg hr]
    rw [hp]
    refine ⟨h1, by omega, fun k y => ?_⟩
    rw [h3, hQ]
    constructor
    · rintro ⟨a, b⟩; exact ⟨.inl a, b⟩
    · rintro ⟨a | rfl, b, d⟩
      · exact ⟨a, b, d⟩
      · exact absurd b hr

theorem Good.same {P Q : W3 → Prop} {c d : Nat} {s t : List W3} (h : Good P c s) (k : Good Q d t) (e : ∀ x, P x ↔ Q x) : s = t := by
  refine rs_ext h.1 k.1 fun key => ?_
  cases hs : lk W3.k s key with
  | some x => exact ((k.2.2 key x).2 (by rw [← e]; exact (h.2.2 key x).1 hs)).symm
  | none =>
    cases ht : lk W3.k t key with
    | none => rfl
    | some x =>
      have := (h.2.2 key x).2 (by rw [e]; exact (k.2.2 key x).1 ht)
      rw [hs] at this
      cases this

/-- No two of the first i have one key. -/
def Apart (l : List W3) (i : Nat) : Prop := ∀ a b x y, a < i → b < i → l[a]? = some x → l[b]? = some y → x.k = y.k → a = b

theorem Apart.nil (l : List W3) : Apart l 0 := fun a _ _ _ ha => absurd ha (by omega)

/-- What the law counts: each key of the first i, once. -/
def Seen (l : List W3) (i : Nat) (m : List (ByteArray × Int)) : Prop := Apart l i ∧ ∀ k v, Map.get m k = some v ↔ v = 1 ∧ ∃ a x, a < i ∧ l[a]? = some x ∧ x.k = k

theorem Seen.nil (l : List W3) : Seen l 0 [] := ⟨Apart.nil l, fun k v => ⟨fun h => by simp [Map.get] at h, fun ⟨_, a, x, h, _⟩ => absurd h (by omega)⟩⟩

theorem Seen.one {l : List W3} {i : Nat} {m : List (ByteArray × Int)} (h : Seen l i m) {k : ByteArray} : Map.get m k = none ∨ Map.get m k = some 1 := by
  cases hg : Map.get m k with
  | none => exact .inl rfl
  | some v => rw [((h.2 k v).1 hg).1]; exact .inr rfl

theorem Seen.step {l : List W3} {i : Nat} {m : List (ByteArray × Int)} {x : W3} (h : Seen l i m) (hx : l[i]? = some x) (hg : Map.get m x.k = none) : Seen l (i + 1) (Map.put m x.k 1) := by
  have hno : ∀ a y, a < i → l[a]? = some y → y.k ≠ x.k := by
    intro a y ha hy e
    have := (h.2 x.k 1).2 ⟨rfl, a, y, ha, hy, e⟩
    rw [hg] at this
    cases this
  refine ⟨fun a b y z ha hb hy hz e => ?_, fun k v => ?_⟩
  · by_cases e1 : a = i
    · by_cases e2 : b = i
      · omega
      · subst e1
        rw [hx] at hy
        cases hy
        exact absurd e.symm (hno b z (by omega) hz)
    · by_cases e2 : b = i
      · subst e2
        rw [hx] at hz
        cases hz
        exact absurd e (hno a y (by omega) hy)
      · exact h.1 a b y z (by omega) (by omega) hy hz e
  · rw [Map.get_put]
    by_cases e : x.k = k
    · rw [if_pos e]
      constructor
      · intro hh; cases hh; exact ⟨rfl, i, x, by omega, hx, e⟩
      · rintro ⟨rfl, _⟩; rfl
    · rw [if_neg e, h.2]
      constructor
      · rintro ⟨hv, a, y, ha, hy, ek⟩; exact ⟨hv, a, y, by omega, hy, ek⟩
      · rintro ⟨hv, a, y, ha, hy, ek⟩
        refine ⟨hv, a, y, ?_, hy, ek⟩
        by_cases e2 : a = i
        · subst e2
          rw [hx] at hy
          cases hy
          exact absurd ek e
        · omega

/-- The first i of those that come from k on, round. -/
def Of (l : List W3) (n k i : Nat) (x : W3) : Prop := ∃ a, a < i ∧ l[(a + k) % n]? = some x

theorem of_zero (l : List W3) (n k : Nat) : ∀ x, ¬ Of l n k 0 x := fun _ ⟨_, h, _⟩ => absurd h (by omega)

theorem mod_inj {n k a b : Nat} (ha : a < n) (hb : b < n) (h : (a + k) % n = (b + k) % n) : a = b := by
  have h1 : (a + k + (n - k % n)) % n = (b + k + (n - k % n)) % n := by rw [Nat.add_mod, h, ← Nat.add_mod]
  have hk := Nat.mod_lt k (show 0 < n by omega)
  have hd := Nat.div_add_mod k n
  have e : ∀ c, c < n → (c + k + (n - k % n)) % n = c := by
    intro c hc
    have e2 : c + k + (n - k % n) = c + n * (k / n + 1) := by rw [Nat.mul_add, Nat.mul_one]; omega
    rw [e2, Nat.add_mul_mod_self_left, Nat.mod_eq_of_lt hc]
  rw [e a ha, e b hb] at h1
  exact h1

theorem of_step {l : List W3} {n k i : Nat} {x : W3} (hx : l[(i + k) % n]? = some x) : ∀ y, Of l n k (i + 1) y ↔ Of l n k i y ∨ y = x := by
  intro y
  constructor
  · rintro ⟨a, ha, hy⟩
    by_cases e : a = i
    · subst e; rw [hx] at hy; cases hy; exact .inr rfl
    · exact .inl ⟨a, by omega, hy⟩
  · rintro (⟨a, ha, hy⟩ | rfl)
    · exact ⟨a, by omega, hy⟩
    · exact ⟨i, by omega, hx⟩

theorem of_new {l : List W3} {n k i : Nat} {x : W3} (h : Apart l n) (hn : i < n) (hx : l[(i + k) % n]? = some x) : ∀ y, Of l n k i y → y.k ≠ x.k := by
  rintro y ⟨a, ha, hy⟩ e
  have := mod_inj (by omega) hn (h _ _ y x (Nat.mod_lt _ (by omega)) (Nat.mod_lt _ (by omega)) hy hx e)
  omega

theorem of_all {l : List W3} {n k : Nat} (hn : l.length = n) : ∀ x, Of l n 0 n x ↔ Of l n k n x := by
  have h1 : ∀ k x, Of l n k n x ↔ x ∈ l := by
    intro k x
    constructor
    · rintro ⟨a, _, h⟩; exact List.mem_of_getElem? h
    · intro h
      obtain ⟨a, ha, e⟩ := List.getElem_of_mem h
      rw [hn] at ha
      have hk := Nat.mod_lt k (show 0 < n by omega)
      have hd := Nat.div_add_mod k n
      refine ⟨(a + (n - k % n)) % n, Nat.mod_lt _ (by omega), ?_⟩
      have e2 : ((a + (n - k % n)) % n + k) % n = a := by
        rw [Nat.mod_add_mod]
        have e3 : a + (n - k % n) + k = a + n * (k / n + 1) := by rw [Nat.mul_add, Nat.mul_one]; omega
        rw [e3, Nat.add_mul_mod_self_left, Nat.mod_eq_of_lt ha]
      rw [e2, List.getElem?_eq_getElem (by omega), e]
  intro x
  rw [h1, h1]

theorem good_step {l : List W3} {n k i : Nat} {s : List W3} {x : W3} (h : Good (Of l n k i) i s) (ha : Apart l n) (hn : i < n) (h16 : n ≤ 16) (hx : l[(i + k) % n]? = some x) : Good (Of l n k (i + 1)) (i + 1) (putL s x).1 :=
  h.step (by omega) (of_new ha hn hx) (of_step hx)
end Go.Proofs.Ythbmjhdgflpmgaa.wsetOrder
