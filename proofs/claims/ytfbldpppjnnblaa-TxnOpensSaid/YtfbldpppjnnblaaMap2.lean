/- A map in memory, at the walk's operations: lookup, store, delete, len, and the range over one. -/
import Derived.Test.YtfbldpppjnnblaaMap
import Derived.Maps.RangeRun
namespace Go.Proofs.Ytfbldpppjnnblaa.Map
open Go.RowKit Go.Proofs.Ytfbldpppjnnblaa.Mem Go.ChangeMaps

section
variable {K V : Type} {D : TypeDesc} {kf : K → Value} {vf : V → Value} {b : Nat} {l : List (K × V)}
variable {P : Program} {w : World} {ops : Array Oper} {rest : List Oper} {o : Oper} {a : Act} {Q : Exit → Act → World → Prop}

theorem wpList_mlook [DecidableEq K] (hg : o.guard = none) (m x : Operand) (t : TypeId) (hop : o.op = Op.lookup t m x false) (kt vt : TypeId) (ht : P.underlying t = some (.map kt vt)) (hkt : P.underlying kt = some D) (hk : Keyed D kf)
    (h : MapOf kf vf w b l) (k : K) (z : Value) (hz : (zeroValue vt).run P w = .ok z w) (hm : a.eval m = .map (some b)) (hx : a.eval x = kf k) (r : Value) (hr : ((get l k).map vf).getD z = r)
    (hK : wpList P ops Q rest (a.put o.dst r) w) : wpList P ops Q (o :: rest) a w := by
  refine wpList_plain hg fun K' hK' => ?_
  have := run_lookup (P := P) ht hkt hk h k hz
  unfold Oper.wp
  simp only [execOp, hop, hm, hx, Sem.run_bind, this, hr, Result.andThen_ok, Sem.run_pure]
  exact hK' _ _ hK

theorem wpList_mlook_ok [DecidableEq K] (hg : o.guard = none) (m x : Operand) (t : TypeId) (hop : o.op = Op.lookup t m x true) (kt vt : TypeId) (ht : P.underlying t = some (.map kt vt)) (hkt : P.underlying kt = some D) (hk : Keyed D kf)
    (h : MapOf kf vf w b l) (k : K) (z : Value) (hz : (zeroValue vt).run P w = .ok z w) (hm : a.eval m = .map (some b)) (hx : a.eval x = kf k) (r : Value) (hr : ((get l k).map vf).getD z = r) (s : Bool) (hs : (get l k).isSome = s)
    (hK : wpList P ops Q rest (a.put o.dst (.tuple #[r, .bool s])) w) : wpList P ops Q (o :: rest) a w := by
  refine wpList_plain hg fun K' hK' => ?_
  have := run_lookup_ok (P := P) ht hkt hk h k hz
  unfold Oper.wp
  simp only [execOp, hop, hm, hx, Sem.run_bind, this, hr, hs, Result.andThen_ok, Sem.run_pure]
  exact hK' _ _ hK

theorem wpList_mput [DecidableEq K] (hg : o.guard = none) (m x v : Operand) (t : TypeId) (hop : o.op = Op.mapUpdate t m x v) (kt vt : TypeId) (ht : P.underlying t = some (.map kt vt)) (hkt : P.underlying kt = some D) (hk : Keyed D kf)
    (h : MapOf kf vf w b l) (k : K) (u : V) (hm : a.eval m = .map (some b)) (hx : a.eval x = kf k) (hv : a.eval v = vf u)
    (hK : ∀ w', Hid (MapOf kf vf w' b (put l k u)) → Hid (Chg (· = b) w w') → wpList P ops Q rest (a.put o.dst undef) w') : wpList P ops Q (o :: rest) a w := by
  refine wpList_plain hg fun K' hK' => ?_
  obtain ⟨w', hrun, h1, h2⟩ := run_put (P := P) ht hkt hk h k u
  unfold Oper.wp
  simp only [execOp, hop, hm, hx, hv, Sem.run_bind, hrun, Result.andThen_ok, Sem.run_pure]
  exact hK' _ _ (hK w' h1 h2)

theorem wpList_mdel [DecidableEq K] (hg : o.guard = none) (m x : Operand) (t t2 : TypeId) (hop : o.op = Op.call { callee := Callee.builtin Builtin.delete, args := #[m, x], argTypes := #[t, t2] }) (kt vt : TypeId) (ht : P.underlying t = some (.map kt vt)) (hkt : P.underlying kt = some D) (hk : Keyed D kf)
    (h : MapOf kf vf w b l) (k : K) (hm : a.eval m = .map (some b)) (hx : a.eval x = kf k)
    (hK : ∀ w', Hid (MapOf kf vf w' b (del l k)) → Hid (Chg (· = b) w w') → wpList P ops Q rest (a.put o.dst (.tuple #[])) w') : wpList P ops Q (o :: rest) a w := by
  refine wpList_plain hg fun K' hK' => ?_
  obtain ⟨w', hrun, h1, h2⟩ := run_del (P := P) ht hkt hk h k o.type t2
  unfold Oper.wp execOp
  simp only [hop, resolve, invoke, builtin, Sem.run_bind, Sem.run_pure, Result.andThen_ok, List.map_toArray, List.map_cons, List.map_nil, hm, hx, hrun]
  exact hK' _ _ (hK w' h1 h2)

theorem wpList_mlen (hg : o.guard = none) (m : Operand) (t : TypeId) (hop : o.op = Op.call { callee := Callee.builtin Builtin.len, args := #[m], argTypes := #[t] }) (kt vt : TypeId) (ht : P.underlying t = some (.map kt vt))
    (h : MapOf kf vf w b l) (hm : a.eval m = .map (some b))
    (hK : wpList P ops Q rest (a.put o.dst (.int .i64 l.length)) w) : wpList P ops Q (o :: rest) a w := by
  refine wpList_plain hg fun K' hK' => ?_
  have := run_len (P := P) ht h o.type
  unfold Oper.wp execOp
  simp only [hop, resolve, invoke, builtin, Sem.run_bind, Sem.run_pure, Result.andThen_ok, List.map_toArray, List.map_cons, List.map_nil, hm, this]
  exact hK' _ _ hK

/-- A range over the map in block b, at work in block r: 'left' is still to come. -/
def IterOf (kf : K → Value) (vf : V → Value) (w : World) (b r : Nat) (l left : List (K × V)) : Prop :=
  ∃ (E : Array MapEntry) (c since c0 : Nat) (seen : Array Nat), w.heap[b]? = some (.map E c) ∧ E.toList.map (fun e => (e.key, e.val)) = l.map (fun p => (kf p.1, vf p.2)) ∧ (E.toList.map (·.born)).Nodup ∧ (∀ e ∈ E.toList, e.born < c) ∧
    w.heap[r]? = some (.mapIter (some b) since seen c0) ∧ (∀ e ∈ E.toList, e.born < since) ∧ since ≤ c0 ∧ (leftOf E seen).toList.map (fun e => (e.key, e.val)) = left.map (fun p => (kf p.1, vf p.2)) ∧ since ≤ c

theorem IterOf.map {w : World} {r : Nat} {left : List (K × V)} (h : IterOf kf vf w b r l left) : MapOf kf vf w b l := by
  obtain ⟨E, c, since, c0, seen, h1, h2, h3, h4, _⟩ := h
  exact ⟨E, c, h1, h2, h3, h4⟩

theorem IterOf.kept {w w' : World} {r : Nat} {left : List (K × V)} {F : Nat → Prop} (h : IterOf kf vf w b r l left) (hc : Chg F w w') (hb : ¬ F b) (hr : ¬ F r) : IterOf kf vf w' b r l left := by
  obtain ⟨E, c, since, c0, seen, h1, h2, h3, h4, h5, h6⟩ := h
  have lt1 : b < w.heap.size := (Array.getElem?_eq_some_iff.1 h1).1
  have lt2 : r < w.heap.size := (Array.getElem?_eq_some_iff.1 h5).1
  exact ⟨E, c, since, c0, seen, (hc.block b lt1 hb).trans h1, h2, h3, h4, (hc.block r lt2 hr).trans h5, h6⟩

theorem IterOf.lt {w : World} {r : Nat} {left : List (K × V)} (h : IterOf kf vf w b r l left) : r < w.heap.size := by
  obtain ⟨E, c, since, c0, seen, h1, h2, h3, h4, h5, h6⟩ := h
  exact (Array.getElem?_eq_some_iff.1 h5).1

theorem wpList_mrange (hg : o.guard = none) (m : Operand) (t : TypeId) (hop : o.op = Op.range t m) (kt vt : TypeId) (ht : P.underlying t = some (.map kt vt))
    (h : MapOf kf vf w b l) (hm : a.eval m = .map (some b))
    (hK : ∀ w', Hid (IterOf kf vf w' b w.heap.size l l) → Hid (Below w.heap.size w w') → wpList P ops Q rest (a.put o.dst (.pointer (some ⟨w.heap.size, 0, none⟩))) w') : wpList P ops Q (o :: rest) a w := by
  refine wpList_plain hg fun K' hK' => ?_
  obtain ⟨E, c, h1, h2, h3, h4⟩ := h
  have lt1 : b < w.heap.size := (Array.getElem?_eq_some_iff.1 h1).1
  have hrun := run_range_map w t kt vt b E c ht h1
  unfold Oper.wp
  simp only [execOp, hop, hm, Sem.run_bind, hrun, Result.andThen_ok, Sem.run_pure]
  refine hK' _ _ (hK _ ⟨E, c, c, c, #[], (heap_alloc_old w _ lt1).trans h1, h2, h3, h4, heap_alloc_new w _, h4, Nat.le_refl _, ?_, Nat.le_refl _⟩ ((Below.refl _ _).alloc (Nat.le_refl _) _))
  rw [← h2]
  congr 1
  unfold leftOf
  rw [Array.toList_filter]
  exact List.filter_eq_self.2 (fun z _ => by simp)

theorem left_push {E : Array MapEntry} {seen : Array Nat} {x y : List MapEntry} {e : MapEntry} (hnd : (E.toList.map (·.born)).Nodup) (h : (leftOf E seen).toList = x ++ e :: y) : (leftOf E (seen.push e.born)).toList = x ++ y := by
  unfold leftOf at h ⊢
  rw [Array.toList_filter] at h ⊢
  have hsub : (x ++ e :: y).Sublist E.toList := h ▸ List.filter_sublist
  have hnd2 : ((x ++ e :: y).map (·.born)).Nodup := hnd.sublist (hsub.map _)
  have e1 : E.toList.filter (fun z => !(seen.push e.born).contains z.born) = (E.toList.filter (fun z => !seen.contains z.born)).filter (fun z => !(z.born == e.born)) := by
    rw [List.filter_filter]
    congr 1
    funext z
    rw [contains_push]
    cases seen.contains z.born <;> cases (z.born == e.born) <;> rfl
  rw [e1, h, List.filter_append, List.filter_cons]
  simp only [beq_self_eq_true, Bool.not_true, Bool.false_eq_true, if_false]
  rw [List.map_append, List.map_cons, List.nodup_append] at hnd2
  obtain ⟨n1, n2, n3⟩ := hnd2
  congr 1
  · refine List.filter_eq_self.2 fun z hz => ?_
    have := n3 z.born (List.mem_map.2 ⟨z, hz, rfl⟩) e.born List.mem_cons_self
    simpa using this
  · refine List.filter_eq_self.2 fun z hz => ?_
    rw [List.nodup_cons] at n2
    have hne : z.born ≠ e.born := fun hh => n2.1 (List.mem_map.2 ⟨z, hz, hh⟩)
    simpa using hne

/-- The step, as a run: none is left, or one of those that are left comes, and is no longer left. -/
theorem IterOf.next {r : Nat} {left : List (K × V)} (h : IterOf kf vf w b r l left) (ty : TypeId) :
    (left = [] ∧ (Instr.next (.pointer (some ⟨r, 0, none⟩)) false ty).run P w = .ok (.tuple #[.bool false]) w) ∨
    ∃ (x y : List (K × V)) (p : K × V) (w' : World), left = x ++ p :: y ∧ (Instr.next (.pointer (some ⟨r, 0, none⟩)) false ty).run P w = .ok (.tuple #[.bool true, kf p.1, vf p.2]) w' ∧ IterOf kf vf w' b r l (x ++ y) ∧
      Chg (· = r) w w' ∧ (Instr.entry (.pointer (some ⟨r, 0, none⟩))).run P w' = .ok (.tuple #[kf p.1, vf p.2]) w' := by
  obtain ⟨E, c, since, c0, seen, h1, h2, h3, h4, h5, h6, h7, h8, h9⟩ := h
  rcases run_next_at (P := P) w ty r b since c0 seen E c h5 h1 h6 h7 with ⟨hs, hrun⟩ | ⟨e, he, w1, hw1, hrun⟩
  · refine .inl ⟨?_, hrun⟩
    have : (leftOf E seen).toList = [] := by
      apply List.eq_nil_of_length_eq_zero
      simpa using hs
    rw [this] at h8
    simpa using h8.symm
  · refine .inr ?_
    obtain ⟨x0, y0, hxy⟩ := List.append_of_mem he
    have heE := mem_left he
    rw [hxy, List.map_append, List.map_cons] at h8
    obtain ⟨x, y', hl, hx, hy⟩ := List.map_eq_append_iff.1 h8.symm
    obtain ⟨p, y, rfl, hp, hy⟩ := List.map_eq_cons_iff.1 hy
    have hpk : kf p.1 = e.key := (Prod.mk.inj hp).1
    have hpv : vf p.2 = e.val := (Prod.mk.inj hp).2
    have hne : b ≠ r := by intro hh; subst hh; rw [h1] at h5; cases h5
    have hrl : r < w.heap.size := (Array.getElem?_eq_some_iff.1 h5).1
    have hd : w1.heap = w.heap := by rcases hw1 with rfl | rfl <;> rfl
    have g1 : (setBlock w1 r (.mapIter (some b) since (seen.push e.born) c)).heap[b]? = some (.map E c) := by
      rw [← h1, ← hd]
      exact Array.getElem?_setIfInBounds_ne (fun e => hne e.symm)
    have g2 : (setBlock w1 r (.mapIter (some b) since (seen.push e.born) c)).heap[r]? = some (.mapIter (some b) since (seen.push e.born) c) := by
      show (w1.heap.setIfInBounds r _)[r]? = _
      rw [Array.getElem?_setIfInBounds_self_of_lt (by rw [hd]; exact hrl)]
    refine ⟨x, y, p, _, hl, by rw [hpk, hpv]; exact hrun, ⟨E, c, since, c, _, g1, h2, h3, h4, g2, h6, h9, ?_, h9⟩, ?_, ?_⟩
    · rw [left_push h3 hxy, List.map_append, List.map_append, hx, hy]
    · have hc : Chg (· = r) w1 (setBlock w1 r (.mapIter (some b) since (seen.push e.born) c)) := chg_set w1 r _
      rcases hw1 with rfl | rfl
      · exact hc
      · exact ((Chg.refl (· = r) w).drew).trans hc (fun _ _ h => h)
    · rw [hpk, hpv]
      exact run_entry_at (P := P) _ r b since seen E c e g2 g1 heE.1 h3

theorem wpList_mnext (hg : o.guard = none) (it : Operand) (hop : o.op = Op.next it false) {r : Nat} {left : List (K × V)} (h : IterOf kf vf w b r l left) (hit : a.eval it = .pointer (some ⟨r, 0, none⟩))
    (hDone : left = [] → wpList P ops Q rest (a.put o.dst (.tuple #[.bool false])) w)
    (hMore : ∀ (x y : List (K × V)) (p : K × V) (w' : World), Hid (left = x ++ p :: y) → Hid (IterOf kf vf w' b r l (x ++ y)) → Hid (Chg (· = r) w w') → (Instr.entry (.pointer (some ⟨r, 0, none⟩))).run P w' = .ok (.tuple #[kf p.1, vf p.2]) w' →
      wpList P ops Q rest (a.put o.dst (.tuple #[.bool true, kf p.1, vf p.2])) w') : wpList P ops Q (o :: rest) a w := by
  refine wpList_plain hg fun K' hK' => ?_
  unfold Oper.wp
  rcases h.next (P := P) o.type with ⟨h0, hrun⟩ | ⟨x, y, p, w', hl, hrun, h1, h2, h3⟩
  · simp only [execOp, hop, hit, Sem.run_bind, hrun, Result.andThen_ok, Sem.run_pure]
    exact hK' _ _ (hDone h0)
  · simp only [execOp, hop, hit, Sem.run_bind, hrun, Result.andThen_ok, Sem.run_pure]
    exact hK' _ _ (hMore x y p w' hl h1 h2 h3)
end
end Go.Proofs.Ytfbldpppjnnblaa.Map
