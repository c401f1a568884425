/- A map in memory, as a list of its keys and values: what a lookup, a store, a delete and len do. -/
import Derived.Test.YtfbldpppjnnblaaMem
import Derived.MapKept
namespace Go.Proofs.Ytfbldpppjnnblaa.Map
open Go.RowKit Go.Proofs.Ytfbldpppjnnblaa.Mem

section
variable {K V : Type} [DecidableEq K]

def get : List (K × V) → K → Option V
  | [], _ => none
  | (a, v) :: l, k => if a = k then some v else get l k

def put : List (K × V) → K → V → List (K × V)
  | [], k, v => [(k, v)]
  | (a, u) :: l, k, v => if a = k then (k, v) :: l else (a, u) :: put l k v

def del : List (K × V) → K → List (K × V)
  | [], _ => []
  | (a, u) :: l, k => if a = k then l else (a, u) :: del l k

/-- The place of a key. -/
def idx : List (K × V) → K → Option (Nat × V)
  | [], _ => none
  | (a, v) :: l, k => if a = k then some (0, v) else (idx l k).map fun p => (p.1 + 1, p.2)

theorem get_idx (l : List (K × V)) (k : K) : get l k = (idx l k).map (·.2) := by
  induction l with
  | nil => rfl
  | cons p l ih =>
    obtain ⟨a, v⟩ := p
    simp only [get, idx]
    split
    · rfl
    · rw [ih]; cases idx l k <;> rfl

theorem put_none {l : List (K × V)} {k : K} (h : idx l k = none) (v : V) : put l k v = l ++ [(k, v)] := by
  induction l with
  | nil => rfl
  | cons p l ih =>
    obtain ⟨a, u⟩ := p
    simp only [idx] at h
    split at h
    · cases h
    · rename_i hne
      simp only [put, if_neg hne, List.cons_append]
      rw [ih (by simpa using h)]

theorem put_some {l : List (K × V)} {k : K} {j : Nat} {u : V} (h : idx l k = some (j, u)) (v : V) : put l k v = l.set j (k, v) ∧ j < l.length ∧ l[j]? = some (k, u) := by
  induction l generalizing j with
  | nil => cases h
  | cons p l ih =>
    obtain ⟨a, x⟩ := p
    simp only [idx] at h
    split at h
    · rename_i e
      cases h
      subst e
      simp [put]
    · rename_i hne
      cases hi : idx l k with
      | none => rw [hi] at h; cases h
      | some q =>
        rw [hi] at h
        obtain ⟨j', u'⟩ := q
        obtain ⟨rfl, rfl⟩ : j' + 1 = j ∧ u' = u := by simpa using h
        obtain ⟨h1, h2, h3⟩ := ih hi
        simp only [put, if_neg hne, List.set_cons_succ, h1]
        exact ⟨trivial, by simpa using h2, by simpa using h3⟩

theorem del_none {l : List (K × V)} {k : K} (h : idx l k = none) : del l k = l := by
  induction l with
  | nil => rfl
  | cons p l ih =>
    obtain ⟨a, u⟩ := p
    simp only [idx] at h
    split at h
    · cases h
    · rename_i hne
      simp only [del, if_neg hne]
      rw [ih (by simpa using h)]

theorem del_some {l : List (K × V)} {k : K} {j : Nat} {u : V} (h : idx l k = some (j, u)) : del l k = l.eraseIdx j := by
  induction l generalizing j with
  | nil => cases h
  | cons p l ih =>
    obtain ⟨a, x⟩ := p
    simp only [idx] at h
    split at h
    · rename_i e
      cases h
      subst e
      simp [del]
    · rename_i hne
      cases hi : idx l k with
      | none => rw [hi] at h; cases h
      | some q =>
        rw [hi] at h
        obtain ⟨j', u'⟩ := q
        obtain ⟨rfl, rfl⟩ : j' + 1 = j ∧ u' = u := by simpa using h
        simp only [del, if_neg hne, List.eraseIdx_cons_succ, ih hi]

theorem get_put (l : List (K × V)) (k : K) (v : V) (x : K) : get (put l k v) x = if k = x then some v else get l x := by
  induction l with
  | nil => simp [put, get]
  | cons p l ih =>
    obtain ⟨a, u⟩ := p
    simp only [put]
    by_cases h : a = k
    · rw [if_pos h]
      subst h
      simp only [get]
      split <;> rfl
    · rw [if_neg h]
      simp only [get, ih]
      by_cases hx : a = x
      · rw [if_pos hx, if_neg (fun e => h (hx.trans e.symm)), if_pos hx]
      · rw [if_neg hx, if_neg hx]

theorem get_none_of_notin {l : List (K × V)} {k : K} (h : k ∉ l.map (·.1)) : get l k = none := by
  induction l with
  | nil => rfl
  | cons p l ih =>
    obtain ⟨a, u⟩ := p
    simp only [List.map_cons, List.mem_cons, not_or] at h
    simp only [get, if_neg (fun e => h.1 (Eq.symm e))]
    exact ih h.2

theorem get_del {l : List (K × V)} (hn : (l.map (·.1)).Nodup) (k x : K) : get (del l k) x = if k = x then none else get l x := by
  induction l with
  | nil => simp [del, get]
  | cons p l ih =>
    obtain ⟨a, u⟩ := p
    simp only [List.map_cons, List.nodup_cons] at hn
    simp only [del]
    by_cases h : a = k
    · subst h
      rw [if_pos rfl]
      by_cases hx : a = x
      · subst hx
        rw [if_pos rfl]
        exact get_none_of_notin hn.1
      · rw [if_neg hx]
        simp only [get, if_neg hx]
    · rw [if_neg h]
      simp only [get, ih hn.2]
      by_cases hx : a = x
      · rw [if_pos hx, if_neg (fun e => h (hx.trans e.symm)), if_pos hx]
      · rw [if_neg hx, if_neg hx]

theorem mem_keys {l : List (K × V)} {k : K} : k ∈ l.map (·.1) ↔ (get l k).isSome = true := by
  induction l with
  | nil => simp [get]
  | cons p l ih =>
    obtain ⟨a, u⟩ := p
    simp only [List.map_cons, List.mem_cons, get, ih]
    by_cases h : a = k
    · subst h; simp
    · rw [if_neg h]
      constructor
      · rintro (e | e)
        · exact absurd e.symm h
        · exact e
      · exact .inr

theorem keys_put (l : List (K × V)) (k : K) (v : V) : (put l k v).map (·.1) = if (get l k).isSome then l.map (·.1) else l.map (·.1) ++ [k] := by
  induction l with
  | nil => simp [put, get]
  | cons p l ih =>
    obtain ⟨a, u⟩ := p
    simp only [put, get]
    by_cases h : a = k
    · subst h; simp
    · simp only [if_neg h, List.map_cons, ih]
      split <;> simp

theorem nodup_put {l : List (K × V)} (hn : (l.map (·.1)).Nodup) (k : K) (v : V) : ((put l k v).map (·.1)).Nodup := by
  rw [keys_put]
  split
  · exact hn
  · rename_i h
    rw [List.nodup_append]
    refine ⟨hn, by simp, fun a ha c hc e => ?_⟩
    obtain rfl : c = k := by simpa using hc
    subst e
    exact h (mem_keys.1 ha)

theorem del_sub (l : List (K × V)) (k : K) : ((del l k).map (·.1)).Sublist (l.map (·.1)) := by
  induction l with
  | nil => exact List.Sublist.refl _
  | cons p l ih =>
    obtain ⟨a, u⟩ := p
    simp only [del]
    split
    · exact List.sublist_cons_self _ _
    · simpa using ih

theorem nodup_del {l : List (K × V)} (hn : (l.map (·.1)).Nodup) (k : K) : ((del l k).map (·.1)).Nodup := hn.sublist (del_sub l k)

theorem length_put (l : List (K × V)) (k : K) (v : V) : (put l k v).length = if (get l k).isSome then l.length else l.length + 1 := by
  have := congrArg List.length (keys_put l k v)
  rw [List.length_map] at this
  rw [this]
  split <;> simp

theorem length_del (l : List (K × V)) (k : K) : (del l k).length + (if (get l k).isSome then 1 else 0) = l.length := by
  induction l with
  | nil => simp [del, get]
  | cons p l ih =>
    obtain ⟨a, u⟩ := p
    by_cases h : a = k
    · simp [del, get, h]
    · simp only [del, get, h, if_false, List.length_cons]
      omega

/-- A key's value: the model tells two of them apart at once. -/
structure Keyed (D : TypeDesc) (kf : K → Value) : Prop where
  same : ∀ x y, Instr.sameNow D (kf x) (kf y) = some (decide (x = y))
  bits : ∀ n x, Instr.sameBits n (kf x) (kf x) = true
  check : ∀ (P : Program) (w : World) (t : TypeId) (b : Bool) (n : Nat) (x : K), P.underlying t = some D → (Instr.checkKey b (n + 1) t (kf x)).run P w = .ok () w

theorem keyed_int (k : IntKind) : Keyed (.int k) (fun n : Int => Value.int k n) where
  same x y := by simp only [Instr.sameNow, if_true]; congr 1
  bits n x := by cases n <;> simp [Instr.sameBits]
  check P w t b n x h := by simp [Instr.checkKey, run_underlying h]

theorem keyed_string : Keyed .string (fun s : ByteArray => Value.string s) where
  same x y := by simp only [Instr.sameNow]; congr 1; rw [Bool.eq_iff_iff, MapKept.bytes_beq]; simp
  bits n x := by cases n <;> simp [Instr.sameBits] <;> exact (MapKept.bytes_beq x x).2 rfl
  check P w t b n x h := by simp [Instr.checkKey, run_underlying h]

/-- Block b is a map of these keys and values. -/
def MapOf {K V : Type} (kf : K → Value) (vf : V → Value) (w : World) (b : Nat) (l : List (K × V)) : Prop :=
  ∃ E clock, w.heap[b]? = some (.map E clock) ∧ E.toList.map (fun e => (e.key, e.val)) = l.map (fun p => (kf p.1, vf p.2)) ∧ (E.toList.map (·.born)).Nodup ∧ ∀ e ∈ E.toList, e.born < clock

variable {kf : K → Value} {vf : V → Value} {w : World} {b : Nat} {l : List (K × V)} {D : TypeDesc}

theorem MapOf.lt {K V : Type} {kf : K → Value} {vf : V → Value} {w : World} {b : Nat} {l : List (K × V)} (h : MapOf kf vf w b l) : b < w.heap.size := by
  obtain ⟨E, c, h, _⟩ := h
  exact (Array.getElem?_eq_some_iff.1 h).1

theorem MapOf.kept {K V : Type} {kf : K → Value} {vf : V → Value} {w : World} {b : Nat} {l : List (K × V)} {F : Nat → Prop} {w' : World} (h : MapOf kf vf w b l) (hc : Chg F w w') (hb : ¬ F b) : MapOf kf vf w' b l := by
  have hl := h.lt
  obtain ⟨E, c, h, r⟩ := h
  exact ⟨E, c, (hc.block b hl hb).trans h, r⟩

theorem MapOf.new {K V : Type} (kf : K → Value) (vf : V → Value) (w : World) : MapOf kf vf (w.alloc (.map #[] 0)) w.heap.size [] := ⟨#[], 0, heap_alloc_new w _, rfl, by simp, by simp⟩

theorem findNow_of (hk : Keyed D kf) (k : K) : ∀ (es : List MapEntry) (l : List (K × V)) (i : Nat), es.map (fun e => (e.key, e.val)) = l.map (fun p => (kf p.1, vf p.2)) →
    Instr.findNow D (kf k) es i = some ((idx l k).map fun p => (i + p.1, vf p.2))
  | [], [], i, _ => rfl
  | e :: es, (a, v) :: l, i, h => by
    simp only [List.map_cons, List.cons.injEq, Prod.mk.injEq] at h
    obtain ⟨⟨h1, h2⟩, h3⟩ := h
    simp only [Instr.findNow, h1, hk.same, idx]
    by_cases e' : a = k
    · subst e'
      simp [h2]
    · have hd : decide (k = a) = false := decide_eq_false (fun x => e' x.symm)
      rw [hd, if_neg e']
      simp only
      rw [findNow_of hk k es l (i + 1) h3]
      cases idx l k with
      | none => rfl
      | some p => simp; omega
  | [], _ :: _, _, h => by simp at h
  | _ :: _, [], _, h => by simp at h

theorem run_findKey {P : Program} {kt : TypeId} (hkt : P.underlying kt = some D) (hk : Keyed D kf) (k : K) {es : List MapEntry} (h : es.map (fun e => (e.key, e.val)) = l.map (fun p => (kf p.1, vf p.2))) (w : World) :
    (Instr.findKey kt (kf k) es).run P w = .ok ((idx l k).map fun p => (p.1, vf p.2)) w := by
  unfold Instr.findKey
  simp only [Sem.run_bind, run_underlying hkt, Result.andThen_ok, findNow_of hk k es l 0 h]
  simp

theorem run_lookup {P : Program} {t kt vt : TypeId} (ht : P.underlying t = some (.map kt vt)) (hkt : P.underlying kt = some D) (hk : Keyed D kf) (h : MapOf kf vf w b l) (k : K) {z : Value} (hz : (zeroValue vt).run P w = .ok z w) :
    (Instr.lookup t (.map (some b)) (kf k) false).run P w = .ok (((get l k).map vf).getD z) w := by
  obtain ⟨E, c, hE, hm, _⟩ := h
  unfold Instr.lookup
  simp only [Sem.run_bind, run_underlying ht, Result.andThen_ok, MapKept.run_getObj_map hE, Sem.run_pure, hk.check P w kt _ 9999 k hkt, run_findKey hkt hk k hm, get_idx]
  cases idx l k with
  | none => simp [hz]
  | some p => simp

theorem run_lookup_ok {P : Program} {t kt vt : TypeId} (ht : P.underlying t = some (.map kt vt)) (hkt : P.underlying kt = some D) (hk : Keyed D kf) (h : MapOf kf vf w b l) (k : K) {z : Value} (hz : (zeroValue vt).run P w = .ok z w) :
    (Instr.lookup t (.map (some b)) (kf k) true).run P w = .ok (.tuple #[((get l k).map vf).getD z, .bool (get l k).isSome]) w := by
  obtain ⟨E, c, hE, hm, _⟩ := h
  unfold Instr.lookup
  simp only [Sem.run_bind, run_underlying ht, Result.andThen_ok, MapKept.run_getObj_map hE, Sem.run_pure, hk.check P w kt _ 9999 k hkt, run_findKey hkt hk k hm, get_idx]
  cases idx l k with
  | none => simp [hz]
  | some p => simp

theorem run_len {K V : Type} {kf : K → Value} {vf : V → Value} {w : World} {b : Nat} {l : List (K × V)} {P : Program} {t kt vt : TypeId} (ht : P.underlying t = some (.map kt vt)) (h : MapOf kf vf w b l) (ty : TypeId) : (Builtin.len_ #[t] ty #[.map (some b)]).run P w = .ok (.int .i64 l.length) w := by
  obtain ⟨E, c, hE, hm, _⟩ := h
  have hl := congrArg List.length hm
  simp only [List.length_map, Array.length_toList] at hl
  unfold Builtin.len_
  simp [run_underlying ht, MapKept.run_getObj_map hE, goInt, hl]

theorem chg_set (w : World) (b : Nat) (o : Obj) : Chg (· = b) w { w with heap := w.heap.setIfInBounds b o } :=
  ⟨rfl, rfl, rfl, by simp, fun k _ hne => by simp only; rw [Array.getElem?_setIfInBounds_ne (fun e => hne e.symm)]⟩

theorem run_put {P : Program} {t kt vt : TypeId} (ht : P.underlying t = some (.map kt vt)) (hkt : P.underlying kt = some D) (hk : Keyed D kf) (h : MapOf kf vf w b l) (k : K) (v : V) : ∃ w', (Instr.mapUpdate t (.map (some b)) (kf k) (vf v)).run P w = .ok () w' ∧ MapOf kf vf w' b (put l k v) ∧ Chg (· = b) w w' := by
  have hlt := h.lt
  obtain ⟨E, c, hE, hm, hnd, hcl⟩ := h
  have hl := congrArg List.length hm
  simp only [List.length_map, Array.length_toList] at hl
  unfold Instr.mapUpdate
  simp only [Sem.run_bind, run_underlying ht, Result.andThen_ok, MapKept.run_getObj_map hE, hk.check P w kt _ 9999 k hkt, run_findKey hkt hk k hm]
  cases hi : idx l k with
  | none =>
    simp only [Option.map_none, MapKept.run_setObj_map _ hE]
    refine ⟨_, rfl, ⟨E.push { key := kf k, val := vf v, born := c }, c + 1, by simp [hlt], ?_, ?_, ?_⟩, chg_set w b _⟩
    · rw [put_none hi]
      simp [hm]
    · simp only [Array.toList_push, List.map_append, List.map_cons, List.map_nil]
      rw [List.nodup_append]
      refine ⟨hnd, by simp, fun a ha x hx e => ?_⟩
      obtain rfl : x = c := by simpa using hx
      obtain ⟨y, hy, rfl⟩ := List.mem_map.1 ha
      have := hcl y hy
      omega
    · intro e he
      simp only [Array.toList_push, List.mem_append, List.mem_singleton] at he
      rcases he with he | rfl
      · have := hcl e he; omega
      · simp
  | some q =>
    obtain ⟨j, u⟩ := q
    obtain ⟨h1, h2, h3⟩ := put_some hi v
    have hj : j < E.size := by omega
    have hkey : E[j].key = kf k := by
      have := congrArg (fun z => z[j]?) hm
      simp only [List.getElem?_map, h3, Option.map_some] at this
      rw [Array.getElem?_toList, Array.getElem?_eq_getElem hj] at this
      simpa using (Prod.mk.inj (Option.some.inj this)).1
    have hks : (Instr.keyThatStays (((E[j]?).map (·.key)).getD (kf k)) (kf k)).run P w = .ok (kf k) w := by
      rw [Array.getElem?_eq_getElem hj]
      simp only [Option.map_some, Option.getD_some, hkey, Instr.keyThatStays, hk.bits, if_true]
      rfl
    simp only [Option.map_some, Sem.run_bind, hks, Result.andThen_ok, MapKept.run_setObj_map _ hE]
    refine ⟨_, rfl, ⟨E.modify j fun e => { e with key := kf k, val := vf v }, c, by simp [hlt], ?_, ?_, ?_⟩, chg_set w b _⟩
    · rw [h1, Array.toList_modify]
      apply List.ext_getElem?
      intro m
      simp only [List.getElem?_map, List.getElem?_set, List.getElem?_modify]
      by_cases e : j = m
      · subst e
        simp [h2, hj]
      · have := congrArg (fun z => z[m]?) hm
        simp only [List.getElem?_map] at this
        simp only [e, if_false]
        simpa using this
    · rw [Array.toList_modify]
      have : (E.toList.modify j fun e => { e with key := kf k, val := vf v }).map (·.born) = E.toList.map (·.born) := by
        apply List.ext_getElem?
        intro m
        simp only [List.getElem?_map, List.getElem?_modify]
        by_cases e : j = m
        · subst e; cases E.toList[j]? <;> simp
        · simp [e]
      rw [this]; exact hnd
    · intro e he
      rw [Array.toList_modify] at he
      obtain ⟨m, hm2, rfl⟩ := List.getElem_of_mem he
      rw [List.length_modify] at hm2
      rw [List.getElem_modify]
      have := hcl (E.toList[m]'hm2) (List.getElem_mem _)
      split
      · exact this
      · exact this

theorem map_erase {A B : Type} (f : A → B) : ∀ (l : List A) (j : Nat), (l.map f).eraseIdx j = (l.eraseIdx j).map f
  | [], _ => rfl
  | _ :: _, 0 => rfl
  | a :: l, j + 1 => by simp [map_erase f l j]

theorem run_del {P : Program} {t kt vt : TypeId} (ht : P.underlying t = some (.map kt vt)) (hkt : P.underlying kt = some D) (hk : Keyed D kf) (h : MapOf kf vf w b l) (k : K) (ty : TypeId) (t2 : TypeId) : ∃ w', (Builtin.delete_ #[t, t2] ty #[.map (some b), kf k]).run P w = .ok (.tuple #[]) w' ∧ MapOf kf vf w' b (del l k) ∧ Chg (· = b) w w' := by
  have hlt := h.lt
  obtain ⟨E, c, hE, hm, hnd, hcl⟩ := h
  have hl := congrArg List.length hm
  simp only [List.length_map, Array.length_toList] at hl
  unfold Builtin.delete_
  simp only [Sem.run_bind, run_underlying ht, Result.andThen_ok, MapKept.run_getObj_map hE, hk.check P w kt _ 9999 k hkt, run_findKey hkt hk k hm, List.getElem?_toArray, List.getElem?_cons_zero, List.getElem?_cons_succ]
  cases hi : idx l k with
  | none =>
    simp only [Option.map_none, Sem.run_bind, MapKept.run_setObj_map _ hE, Sem.run_pure, Result.andThen_ok]
    refine ⟨_, rfl, ⟨E, c, by simp [hlt], ?_, hnd, hcl⟩, chg_set w b _⟩
    rw [del_none hi, hm]
  | some q =>
    obtain ⟨j, u⟩ := q
    simp only [Option.map_some, Sem.run_bind, MapKept.run_setObj_map _ hE, Sem.run_pure, Result.andThen_ok]
    have hsub : (E.eraseIdxIfInBounds j).toList.Sublist E.toList := by
      rw [Array.toList_eraseIdxIfInBounds]; exact List.eraseIdx_sublist _ _
    refine ⟨_, rfl, ⟨E.eraseIdxIfInBounds j, c, by simp [hlt], ?_, hnd.sublist (hsub.map _), fun e he => hcl e (hsub.subset he)⟩, chg_set w b _⟩
    rw [del_some hi, Array.toList_eraseIdxIfInBounds, ← map_erase, hm, map_erase]
end
end Go.Proofs.Ytfbldpppjnnblaa.Map
