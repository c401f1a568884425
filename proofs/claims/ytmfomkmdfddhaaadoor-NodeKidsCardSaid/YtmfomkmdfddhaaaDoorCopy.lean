/- copy of elements of several cells, and append of zeros, as laws at the walk's operations. -/
import Derived.Test.YtmfomkmdfddhaaaDoorOut
import Derived.Laws.CopyRow
import Derived.Laws.CopyOwn
import Derived.Lib.AppendZerosOnto
import Derived.Lib.Overlaps
import Derived.Laws.Externs
import Derived.Laws.NewBlocks
import Derived.Lib.SliceRun
namespace Go.Proofs.YtmfomkmdfddhaaaDoor.Copy
open Go.RowKit Go.Joins Go.Proofs.YtmfomkmdfddhaaaDoor.Mem Go.Proofs.YtmfomkmdfddhaaaDoor.Read Go.Proofs.YtmfomkmdfddhaaaDoor.Out

section
variable {P : Program}

theorem run_copy_rowN (w : World) (dT sT ty elem : TypeId) (g o dLen dCap : Nat) (a : Addr) (sLen sCap : Nat) (cur : Array Value) (t : TypeId) (cs : List Value) (sz m : Nat)
    (hu : P.underlying dT = some (.slice elem)) (hs : (P.info? elem).map (·.size) = some sz)
    (hg : w.heap[g]? = some (.cells cur t (0, 0))) (hm : Nat.min sLen dLen = m) (hn : cs.length = m * sz)
    (hsrc : ∀ j v, cs[j]? = some v → w.cell? (a.add j) = some v) (hfit : o + cs.length ≤ cur.size) (h1 : ∀ v ∈ cs, v.oneCell' = true) :
    (Builtin.copy_ #[dT, sT] ty #[.slice (some ⟨g, o, none⟩) dLen dCap, .slice (some a) sLen sCap]).run P w =
      .ok (goInt m) (w.setRow g (cur.toList.take o ++ cs ++ cur.toList.drop (o + cs.length)).toArray) := by
  have hl := run_loadCells_list (P := P) w a cs hsrc
  have hst := run_storeCells_at P g o t cs 0 cur w hg (by simpa using hfit) h1
  rw [hn] at hl
  cases hq : P.info? elem with
  | none => simp [hq] at hs
  | some i =>
    have hi : i.size = sz := by simpa [hq] using hs
    simp [Builtin.copy_, run_underlying hu, Builtin.lenOf, Builtin.firstCells, sizeOf, typeInfo, hq, hi, hm, hl, hst]

theorem setRow_chg (w : World) (g : Nat) (cs : Array Value) : Chg (· = g) w (w.setRow g cs) := ⟨rfl, rfl, rfl, by simp [World.setRow], fun k _ hne => setRow_other w g k cs hne⟩

theorem wpList_copyN {w : World} {ops : Array Oper} {rest : List Oper} {o : Oper} {a : Act} {Q : Exit → Act → World → Prop} (hgd : o.guard = none) (d s : Operand) (dT sT : TypeId)
    (ho : o.op = .call { callee := .builtin .copy, args := #[d, s], argTypes := #[dT, sT] }) (elem : TypeId) (hu : P.underlying dT = some (.slice elem)) (sz : Nat) (hsz : (P.info? elem).map (·.size) = some sz)
    (ad sd : Addr) (dLen dCap sLen sCap : Nat) (hd : a.eval d = .slice (some ad) dLen dCap) (hs : a.eval s = .slice (some sd) sLen sCap)
    (g off b2 o2 : Nat) (had : ad = ⟨g, off, none⟩) (hsd : sd = ⟨b2, o2, none⟩) (cur : List Value) (t : TypeId) (hg : Cells w g t cur) (m : Nat) (hm : Nat.min sLen dLen = m) (cs : List Value) (hn : cs.length = m * sz)
    (hsrc : ∀ j v, cs[j]? = some v → w.cell? ⟨b2, o2 + j, none⟩ = some v) (hfit : off + cs.length ≤ cur.length) (h1 : ∀ v ∈ cs, v.oneCell' = true)
    (h : ∀ w', Hid (Cells w' g t (splice cur off cs)) → Hid (Chg (· = g) w w') → wpList P ops Q rest (a.put o.dst (goInt m)) w') : wpList P ops Q (o :: rest) a w := by
  subst had hsd
  refine wpList_plain hgd fun K hK => ?_
  have hrun := run_copy_rowN (P := P) w dT sT o.type elem g off dLen dCap ⟨b2, o2, none⟩ sLen sCap cur.toArray t cs sz m hu hsz hg hm hn (fun j v hj => by rw [Addr.add_lit]; exact hsrc j v hj) (by simpa using hfit) h1
  unfold Oper.wp
  simp [execOp, ho, resolve, invoke, builtin, hd, hs, hrun, Result.andThen]
  exact hK _ _ (h _ (show _ = _ by simpa [splice] using setRow_heap w g _ _ t _ hg) (setRow_chg w g _))

/-- The same as one step of a region that draws its order. -/
theorem step_copyN {ops : Array Oper} {o : Oper} {a : Act} {w : World} {K : Act → World → Prop} {Q : Exit → Act → World → Prop} {E : Prop} (hgd : o.guard = none) (d s : Operand) (dT sT : TypeId)
    (ho : o.op = .call { callee := .builtin .copy, args := #[d, s], argTypes := #[dT, sT] }) (elem : TypeId) (hu : P.underlying dT = some (.slice elem)) (sz : Nat) (hsz : (P.info? elem).map (·.size) = some sz)
    (ad sd : Addr) (dLen dCap sLen sCap : Nat) (hd : a.eval d = .slice (some ad) dLen dCap) (hs : a.eval s = .slice (some sd) sLen sCap)
    (g off b2 o2 : Nat) (had : ad = ⟨g, off, none⟩) (hsd : sd = ⟨b2, o2, none⟩) (cur : List Value) (t : TypeId) (hg : Cells w g t cur) (m : Nat) (hm : Nat.min sLen dLen = m) (cs : List Value) (hn : cs.length = m * sz)
    (hsrc : ∀ j v, cs[j]? = some v → w.cell? ⟨b2, o2 + j, none⟩ = some v) (hfit : off + cs.length ≤ cur.length) (h1 : ∀ v ∈ cs, v.oneCell' = true)
    (h : ∀ w', Hid (Cells w' g t (splice cur off cs)) → Hid (Chg (· = g) w w') → K (a.put o.dst (goInt m)) w') : if Region.wanted o (yielded ops a.tmps) = true then Oper.wp P o a w K Q else E := by
  subst had hsd
  have hw : Region.wanted o (yielded ops a.tmps) = true := by simp [Region.wanted, hgd]
  rw [if_pos hw]
  have hrun := run_copy_rowN (P := P) w dT sT o.type elem g off dLen dCap ⟨b2, o2, none⟩ sLen sCap cur.toArray t cs sz m hu hsz hg hm hn (fun j v hj => by rw [Addr.add_lit]; exact hsrc j v hj) (by simpa using hfit) h1
  unfold Oper.wp
  simp [execOp, ho, resolve, invoke, builtin, hd, hs, hrun, Result.andThen]
  exact h _ (show _ = _ by simpa [splice] using setRow_heap w g _ _ t _ hg) (setRow_chg w g _)

theorem append_two {t t2 ty e e2 : TypeId} {i : TypeInfo} (ht : P.underlying t = some (.slice e)) (ht2 : P.underlying t2 = some (.slice e2)) (hi : P.info? e = some i) (b : Option Addr) (l c : Nat) (x : Value) (w : World) :
    (Builtin.append_ #[t, t2] ty #[.slice b l c, x]).run P w = (Builtin.append_ #[t, t] ty #[.slice b l c, x]).run P w := by
  unfold Builtin.append_
  simp [run_underlying ht, run_underlying ht2, sizeOf, typeInfo, hi]

/-- append, as the walk meets it. -/
theorem wpList_app2 {w : World} {ops : Array Oper} {rest : List Oper} {o : Oper} {a : Act} {Q : Exit → Act → World → Prop} (hgd : o.guard = none) (s x : Operand) (t t2 : TypeId)
    (ho : o.op = .call { callee := .builtin .append, args := #[s, x], argTypes := #[t, t2] })
    (e : TypeId) (z : Value) (size bytes : Nat) (ht : P.underlying t = some (.slice e)) (ht2 : P.underlying t2 = some (.slice e)) (hinfo : (P.info? e).map (fun i => (i.zero, i.size, i.bytes)) = some (some z, size, bytes))
    (hzs : z.cells.size = size) (hsz : 0 < size)
    (v : Value) (n : Nat) (xs : List Value) (hs : a.eval s = v) (hown : w.ownsRow 0 e size v n xs)
    (ad : Addr) (m c : Nat) (news : List Value) (hx : a.eval x = .slice (some ad) m c) (hl : news.length = m * size) (hnews : ∀ j u, news[j]? = some u → w.cell? (ad.add j) = some u) (h1 : ∀ u ∈ news, u.oneCell' = true)
    (h63 : n + m ≤ maxLen) (hbytes : (n + m) * bytes ≤ 140737488355328) (hm : 0 < m)
    (h : ∀ g k w', Hid (w'.ownsRow 0 e size (.slice (some ⟨g, 0, none⟩) (n + m) k) (n + m) (xs ++ news)) → Hid (w.grownBy w' v.ownBlock) → Hid (some g = v.ownBlock ∨ g = w.heap.size) →
      wpList P ops Q rest (a.put o.dst (.slice (some ⟨g, 0, none⟩) (n + m) k)) w') : wpList P ops Q (o :: rest) a w := by
  obtain ⟨i, hi, hz0, hz1, hz2⟩ := info_parts hinfo
  obtain ⟨v', w', hr, h2, h3, h4⟩ := append_where (P := P) w t o.type e i z size bytes ht hi hz0 hz1 hz2 hzs hsz v n xs hown ad m c news hl hnews h1 h63 hbytes hm
  refine wpList_plain hgd fun K hK => ?_
  obtain ⟨vb, vl, vc, rfl⟩ : ∃ vb vl vc, v = .slice vb vl vc := by
    rcases hown.2 with ⟨rfl, _⟩ | ⟨g, cap, cur, rfl, _⟩
    · exact ⟨_, _, _, rfl⟩
    · exact ⟨_, _, _, rfl⟩
  unfold Oper.wp execOp
  simp only [ho, resolve, invoke, builtin, Sem.run_bind, Sem.run_pure, Result.andThen_ok, List.map_toArray, List.map_cons, List.map_nil, hs, hx, append_two ht ht2 hi, hr]
  obtain ⟨g, k, e1, _, _⟩ := h2.form (by omega)
  subst e1
  exact hK _ _ (h g k w' h2 h3 (h4.imp id (fun e => by simpa [Value.ownBlock] using e)))

/-- append, as the walk meets it. -/
theorem wpList_out2 {w : World} {ops : Array Oper} {rest : List Oper} {o : Oper} {a : Act} {Q : Exit → Act → World → Prop} (hgd : o.guard = none) (s x : Operand) (t t2 : TypeId)
    (ho : o.op = .call { callee := .builtin .append, args := #[s, x], argTypes := #[t, t2] })
    (e : TypeId) (z : Value) (size bytes : Nat) (ht : P.underlying t = some (.slice e)) (ht2 : P.underlying t2 = some (.slice e)) (hinfo : (P.info? e).map (fun i => (i.zero, i.size, i.bytes)) = some (some z, size, bytes))
    (hzs : z.cells.size = size) (hsz : 0 < size)
    {w0 : World} (v : Value) (n : Nat) (xs : List Value) (hs : a.eval s = v) (hown : Out w0 w e size v n xs)
    (ad : Addr) (m c : Nat) (news : List Value) (hx : a.eval x = .slice (some ad) m c) (hl : news.length = m * size) (hnews : ∀ j u, news[j]? = some u → w.cell? (ad.add j) = some u) (h1 : ∀ u ∈ news, u.oneCell' = true)
    (h63 : n + m ≤ maxLen) (hbytes : (n + m) * bytes ≤ 140737488355328) (hm : 0 < m)
    (h : ∀ g k w', Hid (Out w0 w' e size (.slice (some ⟨g, 0, none⟩) (n + m) k) (n + m) (xs ++ news)) → Hid (w.grownBy w' v.ownBlock) → Hid (some g = v.ownBlock ∨ g = w.heap.size) →
      wpList P ops Q rest (a.put o.dst (.slice (some ⟨g, 0, none⟩) (n + m) k)) w') : wpList P ops Q (o :: rest) a w := by
  refine wpList_app2 hgd s x t t2 ho e z size bytes ht ht2 hinfo hzs hsz v n xs hs (ownsRow_le hown.1 (Nat.zero_le _)) ad m c news hx hl hnews h1 h63 hbytes hm ?_
  intro g k w' h2 h3 h4
  refine h g k w' ⟨?_, hown.2.grown h3.out hown.2.size (fun j hj => hown.ge j hj)⟩ h3 h4
  have hge : w0.heap.size ≤ g := by
    rcases h4.out with e | e
    · exact hown.ge g e.symm
    · have := hown.2.size; omega
  refine ⟨h2.out.1, ?_⟩
  rcases h2.out.2 with ⟨hn, _⟩ | ⟨g', cap, cur, hv, hb, rest⟩
  · cases hn
  · refine .inr ⟨g', cap, cur, hv, ?_, rest⟩
    injection hv with hv1 _ _
    injection hv1 with hv1
    injection hv1 with hv1 _ _
    omega
/-- append of as many as there are, none too: what comes is left opaque. -/
theorem wpList_outs {w : World} {ops : Array Oper} {rest : List Oper} {o : Oper} {a : Act} {Q : Exit → Act → World → Prop} (hgd : o.guard = none) (s x : Operand) (t : TypeId)
    (ho : o.op = .call { callee := .builtin .append, args := #[s, x], argTypes := #[t, t] })
    (e : TypeId) (z : Value) (size bytes : Nat) (ht : P.underlying t = some (.slice e)) (hinfo : (P.info? e).map (fun i => (i.zero, i.size, i.bytes)) = some (some z, size, bytes))
    (hzs : z.cells.size = size) (hsz : 0 < size)
    {w0 : World} (v : Value) (n : Nat) (xs : List Value) (hs : a.eval s = v) (hown : Out w0 w e size v n xs)
    (ad : Addr) (m c : Nat) (news : List Value) (hx : a.eval x = .slice (some ad) m c) (hl : news.length = m * size) (hnews : ∀ j u, news[j]? = some u → w.cell? (ad.add j) = some u) (h1 : ∀ u ∈ news, u.oneCell' = true)
    (h63 : n + m ≤ maxLen) (hbytes : (n + m) * bytes ≤ 140737488355328)
    (h : ∀ v' w', Hid (Out w0 w' e size v' (n + m) (xs ++ news)) → Hid (w.grownBy w' v.ownBlock) → wpList P ops Q rest (a.put o.dst v') w') : wpList P ops Q (o :: rest) a w := by
  obtain ⟨i, hi, hz0, hz1, hz2⟩ := info_parts hinfo
  obtain ⟨v', w', hr, h2, h3, h4⟩ := run_append_own (P := P) w w0.heap.size t o.type e i z size bytes ht hi hz0 hz1 hz2 hzs hsz v n xs hown.1 ad m c news hl hnews h1 h63 hbytes hown.2.size
  refine wpList_plain hgd fun K hK => ?_
  unfold Oper.wp execOp
  simp only [ho, resolve, invoke, builtin, Sem.run_bind, Sem.run_pure, Result.andThen_ok, List.map_toArray, List.map_cons, List.map_nil, hs, hx, hr]
  exact hK _ _ (h v' w' ⟨h2, hown.2.grown h3 hown.2.size (fun j hj => hown.ge j hj)⟩ h3)

theorem out_empty {w0 w : World} (hb : Below w0.heap.size w0 w) (e : TypeId) (size : Nat) : Out w0 (w.alloc (.cells #[] e)) e size (.slice (some ⟨w.heap.size, 0, none⟩) 0 0) 0 [] :=
  ⟨⟨by simp, .inr ⟨w.heap.size, 0, #[], rfl, hb.size, heap_alloc_new w _, Nat.le_refl _, by decide, by simp, by simp⟩⟩, hb.alloc hb.size _⟩

theorem zeros_len (z : Value) (k : Nat) : (Builtin.zeroCells z.cells k).toList.length = k * z.cells.size := by
  simp [Builtin.zeroCells]

/-- append(s[:i], make(S, k)...) where there is no room: a new block: the first ones, and zeros. -/
theorem wpList_zerosN {w : World} {ops : Array Oper} {rest : List Oper} {o : Oper} {a : Act} {Q : Exit → Act → World → Prop} (hgd : o.guard = none) (s x : Operand) (t tn : TypeId)
    (ho : o.op = .call { callee := .builtin .append, args := #[s, x], argTypes := #[t, tn] }) (e : TypeId) (z : Value) (sz bytes : Nat) (kn : IntKind)
    (ht : P.underlying t = some (.slice e)) (htn : P.underlying tn = some (.int kn)) (hinfo : (P.info? e).map (fun i => (i.zero, i.size, i.bytes)) = some (some z, sz, bytes)) (hzs : z.cells.size = sz) (hsz : 0 < sz)
    (ad : Addr) (i c k : Nat) (hs : a.eval s = .slice (some ad) i c) (kx : IntKind) (K : Int) (hx : a.eval x = .int kx K) (hK : K = k) (g : Nat) (had : ad = ⟨g, 0, none⟩) (cur : List Value) (t2 : TypeId) (hg : Cells w g t2 cur) (hl : i * sz ≤ cur.length)
    (h0 : 0 < k) (hroom : c < i + k) (hbig : (i + k) * bytes ≤ 140737488355328) (h63 : i + k ≤ maxLen)
    (h : ∀ G zs w', Hid (Cells w' w.heap.size e (cur.take (i * sz) ++ zs)) → Hid (zs.length = (G - i) * sz) → Hid (i + k ≤ G ∧ G ≤ maxLen) → Hid (Below w.heap.size w w') → wpList P ops Q rest (a.put o.dst (.slice (some ⟨w.heap.size, 0, none⟩) (i + k) G)) w') : wpList P ops Q (o :: rest) a w := by
  subst had hK
  obtain ⟨i0, hi, hz0, hz1, hz2⟩ := info_parts hinfo
  subst hz1 hz2
  have hold : (Builtin.firstCells i0.size i (.slice (some ⟨g, 0, none⟩) i c)).run P w.drew = .ok (cur.take (i * i0.size)).toArray w.drew :=
    run_firstCells_some w.drew i0.size i ⟨g, 0, none⟩ i c (cur.take (i * i0.size)) (by rw [List.length_take]; omega) (fun j v hj => by
      rw [Addr.add_lit, Nat.zero_add]
      rw [List.getElem?_take] at hj
      split at hj
      · exact (hg.cell j).trans hj
      · cases hj)
  have hb : k * i0.bytes ≤ 140737488355328 := Nat.le_trans (Nat.mul_le_mul_right _ (Nat.le_add_left k i)) hbig
  have h63' := h63
  simp only [maxLen] at h63'
  have hr := Lib.run_append_grow_zeros w t tn o.type e i0 z kx kn ht htn hi hz0 (some ⟨g, 0, none⟩) i c (cur.take (i * i0.size)) hold k h0 hsz hroom (by omega) (by omega) (growslice_fits hroom hbig)
  refine wpList_plain hgd fun K' hK' => ?_
  unfold Oper.wp execOp
  simp only [ho, resolve, invoke, builtin, Sem.run_bind, Sem.run_pure, Result.andThen_ok, List.map_toArray, List.map_cons, List.map_nil, hs, hx, hr]
  have hge := grownCap_ge w (i + k) c e
  have hcm := grownCap_le_maxLen w (i + k) c e h63
  refine hK' _ _ (h (grownCap w (i + k) c e) ((Builtin.zeroCells z.cells k).toList ++ (Builtin.zeroCells z.cells (grownCap w (i + k) c e - (i + k))).toList) _ ?_ ?_ ⟨hge, hcm⟩ (((Below.refl w.heap.size w).drew).alloc (Nat.le_refl _) _))
  · have := heap_alloc_new w.drew (.cells ((cur.take (i * i0.size)).toArray ++ Builtin.zeroCells z.cells k ++ Builtin.zeroCells z.cells (grownCap w (i + k) c e - (i + k))) e)
    show _ = _
    rw [show w.heap.size = w.drew.heap.size from rfl, this]
    congr 2
    apply Array.ext'
    simp
  · show _ = _
    rw [List.length_append, zeros_len, zeros_len, hzs, ← Nat.add_mul]
    congr 1
    omega
end

theorem drop_at {w : World} {g : Nat} {E : TypeId} {cur xs : List Value} {m i : Nat} (h : Cells w g E cur) (hx : cur.take m = xs) : ∀ j v, (xs.drop i)[j]? = some v → w.cell? ⟨g, i + j, none⟩ = some v := by
  intro j v hj
  subst hx
  rw [h.cell]
  rw [List.getElem?_drop, List.getElem?_take] at hj
  split at hj
  · exact hj
  · cases hj

theorem cat_len {α : Type} {xs zs : List α} {i G sz : Nat} (h1 : xs.length = i * sz) (h2 : zs.length = (G - i) * sz) (h : i ≤ G) : (xs ++ zs).length = G * sz := by
  rw [List.length_append, h1, h2, ← Nat.add_mul]
  congr 1
  omega

/-- One put in at its place: what stands in the block behind the moves. -/
theorem splice_in {α : Type} (L : List α) (n m : Nat) (xs news : List α) (i : Nat) (hx : L.take n = xs) (hn : xs.length = n) (hm : news.length = m) (hi : i ≤ n) (hL : i + m ≤ L.length) :
    (splice (splice L (i + m) (xs.drop i)) i news).take (n + m) = xs.take i ++ (news ++ xs.drop i) := by
  obtain ⟨B, hB⟩ : ∃ B, splice L (i + m) (xs.drop i) = L.take (i + m) ++ (xs.drop i ++ B) := ⟨_, rfl⟩
  have hl : (L.take (i + m)).length = i + m := by rw [List.length_take]; exact Nat.min_eq_left hL
  have e1 : (L.take (i + m) ++ (xs.drop i ++ B)).take i = xs.take i := by
    rw [List.take_append_of_le_length (by omega), List.take_take, ← hx, List.take_take]
    congr 1
    omega
  have e2 : (L.take (i + m) ++ (xs.drop i ++ B)).drop (i + m) = xs.drop i ++ B := List.drop_left' hl
  rw [hB]
  unfold splice
  rw [hm, e1, e2]
  have h3 : xs.take i ++ (news ++ (xs.drop i ++ B)) = (xs.take i ++ (news ++ xs.drop i)) ++ B := by simp
  rw [h3]
  exact List.take_left' (by simp only [List.length_append, List.length_take, List.length_drop]; omega)

/-- The same in a new block: the first ones, then what is put in, then the others. -/
theorem splice_grown {α : Type} (n m : Nat) (xs news zs : List α) (i : Nat) (hn : xs.length = n) (hm : news.length = m) (hi : i ≤ n) :
    (splice (splice (xs.take i ++ zs) i news) (i + m) (xs.drop i)).take (n + m) = xs.take i ++ (news ++ xs.drop i) := by
  have hl : (xs.take i).length = i := by rw [List.length_take]; omega
  obtain ⟨B, hB⟩ : ∃ B, splice (xs.take i ++ zs) i news = (xs.take i ++ news) ++ B := ⟨_, by
    unfold splice
    rw [List.take_left' hl, List.append_assoc]⟩
  rw [hB]
  unfold splice
  rw [List.take_left' (show (xs.take i ++ news).length = i + m by rw [List.length_append, hl, hm])]
  have h3 : ∀ D : List α, xs.take i ++ news ++ (xs.drop i ++ D) = (xs.take i ++ (news ++ xs.drop i)) ++ D := fun D => by simp
  rw [h3]
  exact List.take_left' (by simp only [List.length_append, List.length_take, List.length_drop]; omega)
end Go.Proofs.YtmfomkmdfddhaaaDoor.Copy
