/- A list that a call builds in memory of its own: what append, a store, a read and the end of the call do with it. -/
import Derived.Test.YtmfomkmdfddhaaaDoorRead
import Derived.Lib.SmallJoins
import Derived.Laws.OwnMore
namespace Go.Proofs.YtmfomkmdfddhaaaDoor.Out
open Go.RowKit Go.Proofs.YtmfomkmdfddhaaaDoor.Mem Go.Proofs.YtmfomkmdfddhaaaDoor.Read Go.Joins

/-- v is a slice of n elements, of the call's own that began in w0 (or nil); the cells are xs; nothing that was there has turned. -/
def Out (w0 w : World) (e : TypeId) (size : Nat) (v : Value) (n : Nat) (xs : List Value) : Prop := w.ownsRow w0.heap.size e size v n xs ∧ Below w0.heap.size w0 w

section
variable {w0 w w' : World} {e : TypeId} {size : Nat} {v : Value} {n : Nat} {xs : List Value}

theorem Out.own (h : Out w0 w e size v n xs) : w.ownsRow w0.heap.size e size v n xs := h.1
theorem Out.below (h : Out w0 w e size v n xs) : Below w0.heap.size w0 w := h.2
theorem Out.nil (h : Below w0.heap.size w0 w) (e : TypeId) (size : Nat) : Out w0 w e size (.slice none 0 0) 0 [] := ⟨World.ownsRow_nil _ _ _ _, h⟩
theorem Out.drew (h : Out w0 w e size v n xs) : Out w0 w.drew e size v n xs := ⟨h.1, h.2.drew⟩
theorem Out.alloc (h : Out w0 w e size v n xs) (o : Obj) : Out w0 (w.alloc o) e size v n xs := ⟨h.1.alloc o, h.2.alloc h.2.size o⟩
theorem Out.kept (h : Out w0 w e size v n xs) (hb : Below w.heap.size w w') : Out w0 w' e size v n xs :=
  ⟨own_kept h.1 (Chg.of_below (F := fun _ => False) hb) (fun _ _ f => f), h.2.trans (hb.mono h.2.size)⟩
theorem Out.mono {W : World} (h : Out w0 w e size v n xs) (hb : Below W.heap.size W w0) : Out W w e size v n xs := ⟨ownsRow_le h.1 hb.size, hb.trans (h.2.mono hb.size)⟩
theorem Out.len (h : Out w0 w e size v n xs) : xs.length = n * size := h.1.1
theorem Out.form (h : Out w0 w e size v n xs) : (v = .slice none 0 0 ∧ n = 0) ∨ ∃ g cap, v = .slice (some ⟨g, 0, none⟩) n cap := ownsRow_forms h.1
theorem Out.slice (h : Out w0 w e size v n xs) : ∃ A c, v = .slice A n c := by
  rcases h.form with ⟨rfl, rfl⟩ | ⟨g, c, rfl⟩
  · exact ⟨_, _, rfl⟩
  · exact ⟨_, _, rfl⟩
/-- Beside another one's row that has turned. -/
theorem Out.beside {row : Option Nat} (h : Out w0 w e size v n xs) (hg : w.grownBy w' row) (hr : ∀ k, row = some k → w0.heap.size ≤ k) (hne : v.ownBlock = none ∨ v.ownBlock ≠ row) : Out w0 w' e size v n xs :=
  ⟨h.1.kept hg hne, h.2.grown hg h.2.size hr⟩
theorem Out.ge (h : Out w0 w e size v n xs) : ∀ k, v.ownBlock = some k → w0.heap.size ≤ k := fun k hk => (h.1.lt k hk).1
end

theorem own_ints {w0 w : World} {e : TypeId} {v : Value} {n : Nat} {k : IntKind} {xs : List Int} (h : Out w0 w e 1 v n (xs.map (.int k))) (hn : n ≤ maxLen) (hw : ∀ x ∈ xs, (Lit.int k x).wf = true) : ∃ A c, v = .slice A n c ∧ Ints w k A n xs := by
  have hl := h.len
  simp only [List.length_map, Nat.mul_one] at hl
  rcases h.form with ⟨rfl, rfl⟩ | ⟨g, c, rfl⟩
  · exact ⟨_, _, rfl, hl, hn, hw, fun h0 => absurd h0 (by omega)⟩
  · refine ⟨_, _, rfl, hl, hn, hw, fun h0 => ⟨g, 0, rfl, (h.1.lt g rfl).2, fun i hi => ?_⟩⟩
    rw [Nat.zero_add]
    rw [h.1.cellAt i (by omega), List.getElem?_map, List.getElem?_eq_getElem (show i < xs.length by omega), List.getD_eq_getElem?_getD, List.getElem?_eq_getElem (show i < xs.length by omega)]
    rfl

/-- append, as the walk meets it. -/
theorem wpList_out {P : Program} {w : World} {ops : Array Oper} {rest : List Oper} {o : Oper} {a : Act} {Q : Exit → Act → World → Prop} (hgd : o.guard = none) (s x : Operand) (t : TypeId)
    (ho : o.op = .call { callee := .builtin .append, args := #[s, x], argTypes := #[t, t] })
    (e : TypeId) (z : Value) (size bytes : Nat) (ht : P.underlying t = some (.slice e)) (hinfo : (P.info? e).map (fun i => (i.zero, i.size, i.bytes)) = some (some z, size, bytes))
    (hzs : z.cells.size = size) (hsz : 0 < size)
    {w0 : World} (v : Value) (n : Nat) (xs : List Value) (hs : a.eval s = v) (hown : Out w0 w e size v n xs)
    (ad : Addr) (m c : Nat) (news : List Value) (hx : a.eval x = .slice (some ad) m c) (hl : news.length = m * size) (hnews : ∀ j u, news[j]? = some u → w.cell? (ad.add j) = some u) (h1 : ∀ u ∈ news, u.oneCell' = true)
    (h63 : n + m ≤ maxLen) (hbytes : (n + m) * bytes ≤ 140737488355328) (hm : 0 < m)
    (h : ∀ g k w', Hid (Out w0 w' e size (.slice (some ⟨g, 0, none⟩) (n + m) k) (n + m) (xs ++ news)) → Hid (w.grownBy w' v.ownBlock) → Hid (some g = v.ownBlock ∨ g = w.heap.size) →
      wpList P ops Q rest (a.put o.dst (.slice (some ⟨g, 0, none⟩) (n + m) k)) w') : wpList P ops Q (o :: rest) a w := by
  refine wpList_app hgd s x t ho e z size bytes ht hinfo hzs hsz v n xs hs (ownsRow_le hown.1 (Nat.zero_le _)) ad m c news hx hl hnews h1 h63 hbytes hm ?_
  intro g k w' h2 h3 h4
  refine h g k w' ⟨?_, hown.2.grown h3.out hown.2.size (fun j hj => hown.ge j hj)⟩ h3 h4
  have hge : w0.heap.size ≤ g := by
    rcases h4.out with e | e
    · exact hown.ge g e.symm
    · have := hown.2.size; omega
  refine ⟨h2.out.1, ?_⟩
  rcases h2.out.2 with ⟨hn, _⟩ | ⟨g', cap, cur, hv, hb, rest⟩
  · cases hn
  · refine .inr ⟨g', cap, cur, hv, ?_, rest⟩
    injection hv with hv1 _ _
    injection hv1 with hv1
    injection hv1 with hv1 _ _
    omega
end Go.Proofs.YtmfomkmdfddhaaaDoor.Out
