/- Layer 9's document: With, Without. -/
import Derived.Test.YtmfomkmdfddhaaaDoorRef9
namespace Go.Proofs.YtmfomkmdfddhaaaDoor.RefW9
open Go.RowKit Go.Proofs.YtmfomkmdfddhaaaDoor.Mem Go.Proofs.YtmfomkmdfddhaaaDoor.Read Go.Proofs.YtmfomkmdfddhaaaDoor.Out Go.Proofs.YtmfomkmdfddhaaaDoor.Nib Go.Proofs.YtmfomkmdfddhaaaDoor.Node Go.Proofs.YtmfomkmdfddhaaaDoor.Slc Go.Proofs.YtmfomkmdfddhaaaDoor.Res Go.Proofs.YtmfomkmdfddhaaaDoor.Dec Go.Proofs.YtmfomkmdfddhaaaDoor.Kid Go.Proofs.YtmfomkmdfddhaaaDoor.Words Go.Proofs.YtmfomkmdfddhaaaDoor.DecB Go.Proofs.YtmfomkmdfddhaaaDoor.Same9 Go.Proofs.YtmfomkmdfddhaaaDoor.Open9 Go.Proofs.YtmfomkmdfddhaaaDoor.With9 Go.Proofs.YtmfomkmdfddhaaaDoor.Turn9 Go.Proofs.YtmfomkmdfddhaaaDoor.Ref9
set_option maxRecDepth 100000
set_option maxHeartbeats 4000000

/-- A node that is being built in block q out of the parameter in block g: its labels are v2, its kids v3. -/
structure KT (W w : World) (g r q : Nat) (N O : ND) (v2 : Value) (n : Nat) (xs : List Int) (v3 : Value) (m : Nat) (ys : List Int) : Prop where
  box : Cells w g 26 N.cells
  res : Cells w r 26 ND.nil.cells
  out : Cells w q 26 O.cells
  ne : r ≠ g ∧ q ≠ g ∧ q ≠ r ∧ W.heap.size ≤ g ∧ W.heap.size ≤ r ∧ W.heap.size ≤ q
  old : N.At W
  own2 : w.ownsRow W.heap.size 5 1 v2 n (xs.map (.int .u8))
  own3 : w.ownsRow W.heap.size 23 1 v3 m (ys.map (.int .u64))
  pre : O.A1 = N.A1 ∧ O.n1 = N.n1 ∧ O.c1 = N.c1 ∧ O.pre = N.pre ∧ O.val = N.val
  below : Below W.heap.size W w

/-- The same, where the block has them. -/
abbrev KO (W w : World) (g r q : Nat) (N O : ND) : Prop := KT W w g r q N O (.slice O.A2 O.n2 O.c2) O.n2 O.lab (.slice O.A3 O.n3 O.c3) O.n3 O.kid

section
variable {W w w' : World} {g r q n m : Nat} {N O : ND} {v2 v3 : Value} {xs ys : List Int}

theorem KT.nd (h : KT W w g r q N O v2 n xs v3 m ys) : N.At w := h.old.kept h.below
theorem KT.alloc (h : KT W w g r q N O v2 n xs v3 m ys) (o : Obj) : KT W (w.alloc o) g r q N O v2 n xs v3 m ys :=
  ⟨h.box.alloc o, h.res.alloc o, h.out.alloc o, h.ne, h.old, h.own2.alloc o, h.own3.alloc o, h.pre, h.below.alloc h.below.size o⟩
theorem KT.drew (h : KT W w g r q N O v2 n xs v3 m ys) : KT W w.drew g r q N O v2 n xs v3 m ys :=
  ⟨h.box, h.res, h.out, h.ne, h.old, h.own2, h.own3, h.pre, h.below.drew⟩
theorem KT.drewN (h : KT W w g r q N O v2 n xs v3 m ys) (k : Nat) : KT W (w.drewN k) g r q N O v2 n xs v3 m ys :=
  ⟨h.box, h.res, h.out, h.ne, h.old, h.own2, h.own3, h.pre, below_drewN h.below k⟩

theorem KT.turn2 (h : KT W w g r q N O v2 n xs v3 m ys) {v : Value} {k : Nat} {zs : List Int} (ho : Out W w' 5 1 v k (zs.map (.int .u8))) (hc : Chg (fun b => v2.ownBlock = some b) w w') :
    KT W w' g r q N O v k zs v3 m ys :=
  ⟨h.box.kept hc (cells_apart h.box h.own2 (by decide)), h.res.kept hc (cells_apart h.res h.own2 (by decide)), h.out.kept hc (cells_apart h.out h.own2 (by decide)), h.ne, h.old, ho.1, own_kept h.own3 hc (rows_apart h.own3 h.own2 (by decide)), h.pre, ho.below⟩
theorem KT.turn3 (h : KT W w g r q N O v2 n xs v3 m ys) {v : Value} {k : Nat} {zs : List Int} (ho : Out W w' 23 1 v k (zs.map (.int .u64))) (hc : Chg (fun b => v3.ownBlock = some b) w w') :
    KT W w' g r q N O v2 n xs v k zs :=
  ⟨h.box.kept hc (cells_apart h.box h.own3 (by decide)), h.res.kept hc (cells_apart h.res h.own3 (by decide)), h.out.kept hc (cells_apart h.out h.own3 (by decide)), h.ne, h.old, own_kept h.own2 hc (rows_apart h.own2 h.own3 (by decide)), ho.1, h.pre, ho.below⟩

theorem KT.S (h : KT W w g r q N O v2 n xs v3 m ys) : w.cell? ⟨q, 2, none⟩ = some (.slice O.A2 O.n2 O.c2) ∧ w.cell? ⟨q, 3, none⟩ = some (.slice O.A3 O.n3 O.c3) := ⟨h.out.cell 2, h.out.cell 3⟩
theorem KT.B (h : KT W w g r q N O v2 n xs v3 m ys) : w.cell? ⟨g, 2, none⟩ = some (.slice N.A2 N.n2 N.c2) ∧ w.cell? ⟨g, 3, none⟩ = some (.slice N.A3 N.n3 N.c3) := ⟨h.box.cell 2, h.box.cell 3⟩
theorem KT.Z (h : KT W w g r q N O v2 n xs v3 m ys) : w.frozen? ⟨q, 2, none⟩ = false ∧ w.frozen? ⟨q, 3, none⟩ = false := ⟨h.out.frozen 2, h.out.frozen 3⟩

theorem KT.set (h : KT W w g r q N O v2 n xs v3 m ys) {O' : ND} (i : Nat) (v : Value) (hO : O'.cells = O.cells.set i v) (hp : O'.A1 = O.A1 ∧ O'.n1 = O.n1 ∧ O'.c1 = O.c1 ∧ O'.pre = O.pre ∧ O'.val = O.val) : KT W (w.setCell ⟨q, i, none⟩ v) g r q N O' v2 n xs v3 m ys := by
  have hc : Chg (· = q) w (w.setCell ⟨q, i, none⟩ v) := (Chg.refl (· = q) w).setCell (fun _ => rfl) _
  have hne := h.ne
  have hbl : Below W.heap.size W (w.setCell ⟨q, i, none⟩ v) := ⟨hc.os.trans h.below.os, hc.tape.trans h.below.tape, hc.output.trans h.below.output, Nat.le_trans h.below.size hc.size, fun k hk => (hc.block k (Nat.lt_of_lt_of_le hk h.below.size) (by omega)).trans (h.below.block k hk)⟩
  refine ⟨h.box.kept hc (fun e => hne.2.1 e.symm), h.res.kept hc (fun e => hne.2.2.1 e.symm), ?_, h.ne, h.old, own_kept h.own2 hc (fun k hk e => cells_apart h.out h.own2 (by decide) (e ▸ hk)), own_kept h.own3 hc (fun k hk e => cells_apart h.out h.own3 (by decide) (e ▸ hk)), ?_, hbl⟩
  · have := h.out.set i v
    rw [← hO] at this
    exact this
  · have := h.pre
    rw [hp.1, hp.2.1, hp.2.2.1, hp.2.2.2.1, hp.2.2.2.2]
    exact this

theorem KT.set2 {A : Option Addr} {c : Nat} (h : KT W w g r q N O (.slice A n c) n xs v3 m ys) : KT W (w.setCell ⟨q, 2, none⟩ (.slice A n c)) g r q N { O with A2 := A, n2 := n, c2 := c, lab := xs } (.slice A n c) n xs v3 m ys := h.set 2 _ rfl ⟨rfl, rfl, rfl, rfl, rfl⟩
theorem KT.set3 {A : Option Addr} {c : Nat} (h : KT W w g r q N O v2 n xs (.slice A m c) m ys) : KT W (w.setCell ⟨q, 3, none⟩ (.slice A m c)) g r q N { O with A3 := A, n3 := m, c3 := c, kid := ys } v2 n xs (.slice A m c) m ys := h.set 3 _ rfl ⟨rfl, rfl, rfl, rfl, rfl⟩

/-- The end: the node is a node in memory, and goes to the result. -/
theorem KT.fin (h : KO W w g r q N O) (h2 : ∀ x ∈ O.lab, (Lit.int .u8 x).wf = true) (h3 : ∀ x ∈ O.kid, (Lit.int .u64 x).wf = true) (m2 : O.n2 ≤ 1000) (m3 : O.n3 ≤ 1000) :
    Cells (w.setRow r O.cells.toArray) r 26 O.cells ∧ O.At (w.setRow r O.cells.toArray) ∧ Below W.heap.size W (w.setRow r O.cells.toArray) := by
  have hbl := row_below h.below O.cells.toArray h.ne.2.2.2.2.1
  have hc := row_chg w r O.cells.toArray
  have k2 := own_kept h.own2 hc (fun k hk e => cells_apart h.res h.own2 (by decide) (e ▸ hk))
  have k3 := own_kept h.own3 hc (fun k hk e => cells_apart h.res h.own3 (by decide) (e ▸ hk))
  obtain ⟨_, _, f2, i2⟩ := own_ints (k := .u8) ⟨k2, hbl⟩ (by simp only [maxLen]; omega) h2
  cases f2
  obtain ⟨_, _, f3, i3⟩ := own_ints (k := .u64) ⟨k3, hbl⟩ (by simp only [maxLen]; omega) h3
  cases f3
  have hp := h.pre
  have i1 := h.old.pre.kept hbl
  rw [← hp.1, ← hp.2.1, ← hp.2.2.2.1] at i1
  exact ⟨row_set h.res _, ⟨i1, i2, i3, by rw [hp.2.2.2.2]; exact h.old.valw⟩, hbl⟩
end

/-- append of one label (kid), as a step of a region that draws its order, and at a plain list. -/
theorem step2K {ops : Array Oper} {o : Oper} {a : Act} {W w : World} {g r q n m : Nat} {N O : ND} {v2 v3 : Value} {xs ys : List Int} {K : Act → World → Prop} {Q : Exit → Act → World → Prop} {E : Prop} (hgd : o.guard = none) (s x : Operand)
    (ho : o.op = .call { callee := .builtin .append, args := #[s, x], argTypes := #[22, 22] })
    (h : Hid (KT W w g r q N O v2 n xs v3 m ys)) (hs : a.eval s = v2) (ad : Addr) (hx : a.eval x = .slice (some ad) 1 1) (u : Int) (hu : w.cell? ad = some (.int .u8 u)) (hn : n ≤ 1000)
    (k : ∀ g' c' w', Hid (KT W w' g r q N O (.slice (some ⟨g', 0, none⟩) (n + 1) c') (n + 1) (xs ++ [u]) v3 m ys) → K (a.put o.dst (.slice (some ⟨g', 0, none⟩) (n + 1) c')) w') :
    if Region.wanted o (yielded ops a.tmps) = true then Oper.wp Tryd.prog o a w K Q else E := by
  obtain ⟨i, hi, hz0, hz1, hz2⟩ := info_parts info_u8
  refine step_append_lies w hgd s x _ ho W.heap.size 5 i (.int .u8 0) 1 1 Tryd.underlying22 hi hz0 hz1 hz2 rfl (by decide) v2 n (xs.map (.int .u8)) hs h.out.own2 ad 1 1 [.int .u8 u] hx rfl (fun j v hj => ?_) (by simp [Value.oneCell']) (by decide) (by simp only [maxLen]; omega) (by omega) h.out.below.size w.heap.size rfl ?_
  · match j, hj with
    | 0, hj =>
      obtain rfl : Value.int .u8 u = v := by simpa using hj
      rw [show ad.add 0 = ad from by unfold Addr.add; split <;> simp_all]
      exact hu
  · intro g' c' w' h1 h2 _ _
    refine k g' c' w' (Lib.hid (h.out.turn2 ⟨by rw [List.map_append]; exact h1, h.out.below.grown h2 h.out.below.size (fun b hb => ?_)⟩ (Chg.grown (Chg.refl _ _) h2 (fun b e _ => e))))
    obtain ⟨_, _, _, hge⟩ := own_block h.out.own2 hb
    exact hge

theorem step3K {ops : Array Oper} {o : Oper} {a : Act} {W w : World} {g r q n m : Nat} {N O : ND} {v2 v3 : Value} {xs ys : List Int} {K : Act → World → Prop} {Q : Exit → Act → World → Prop} {E : Prop} (hgd : o.guard = none) (s x : Operand)
    (ho : o.op = .call { callee := .builtin .append, args := #[s, x], argTypes := #[24, 24] })
    (h : Hid (KT W w g r q N O v2 n xs v3 m ys)) (hs : a.eval s = v3) (ad : Addr) (hx : a.eval x = .slice (some ad) 1 1) (u : Int) (hu : w.cell? ad = some (.int .u64 u)) (hn : m ≤ 1000)
    (k : ∀ g' c' w', Hid (KT W w' g r q N O v2 n xs (.slice (some ⟨g', 0, none⟩) (m + 1) c') (m + 1) (ys ++ [u])) → K (a.put o.dst (.slice (some ⟨g', 0, none⟩) (m + 1) c')) w') :
    if Region.wanted o (yielded ops a.tmps) = true then Oper.wp Tryd.prog o a w K Q else E := by
  obtain ⟨i, hi, hz0, hz1, hz2⟩ := info_parts info_u64
  refine step_append_lies w hgd s x _ ho W.heap.size 23 i (.int .u64 0) 1 8 Tryd.underlying24 hi hz0 hz1 hz2 rfl (by decide) v3 m (ys.map (.int .u64)) hs h.out.own3 ad 1 1 [.int .u64 u] hx rfl (fun j v hj => ?_) (by simp [Value.oneCell']) (by decide) (by simp only [maxLen]; omega) (by omega) h.out.below.size w.heap.size rfl ?_
  · match j, hj with
    | 0, hj =>
      obtain rfl : Value.int .u64 u = v := by simpa using hj
      rw [show ad.add 0 = ad from by unfold Addr.add; split <;> simp_all]
      exact hu
  · intro g' c' w' h1 h2 _ _
    refine k g' c' w' (Lib.hid (h.out.turn3 ⟨by rw [List.map_append]; exact h1, h.out.below.grown h2 h.out.below.size (fun b hb => ?_)⟩ (Chg.grown (Chg.refl _ _) h2 (fun b e _ => e))))
    obtain ⟨_, _, _, hge⟩ := own_block h.out.own3 hb
    exact hge

theorem list2K {w : World} {ops : Array Oper} {rest : List Oper} {o : Oper} {a : Act} {Q : Exit → Act → World → Prop} {W : World} {g r q n m : Nat} {N O : ND} {v2 v3 : Value} {xs ys : List Int} (hgd : o.guard = none) (s x : Operand)
    (ho : o.op = .call { callee := .builtin .append, args := #[s, x], argTypes := #[22, 22] })
    (h : Hid (KT W w g r q N O v2 n xs v3 m ys)) (hs : a.eval s = v2) (ad : Addr) (hx : a.eval x = .slice (some ad) 1 1) (u : Int) (hu : w.cell? ad = some (.int .u8 u)) (hn : n ≤ 1000)
    (k : ∀ g' c' w', Hid (KT W w' g r q N O (.slice (some ⟨g', 0, none⟩) (n + 1) c') (n + 1) (xs ++ [u]) v3 m ys) → wpList Tryd.prog ops Q rest (a.put o.dst (.slice (some ⟨g', 0, none⟩) (n + 1) c')) w') : wpList Tryd.prog ops Q (o :: rest) a w := by
  refine wpList_out hgd s x 22 ho 5 (.int .u8 0) 1 1 Tryd.underlying22 info_u8 rfl (by decide) v2 n (xs.map (.int .u8)) hs ⟨h.out.own2, h.out.below⟩ ad 1 1 [.int .u8 u] hx rfl (fun j v hj => ?_) (by simp [Value.oneCell']) (by simp only [maxLen]; omega) (by omega) (by decide) ?_
  · match j, hj with
    | 0, hj =>
      obtain rfl : Value.int .u8 u = v := by simpa using hj
      rw [show ad.add 0 = ad from by unfold Addr.add; split <;> simp_all]
      exact hu
  · intro g' c' w' h1 h2 _
    exact k g' c' w' (Lib.hid (h.out.turn2 (by rw [List.map_append]; exact h1.out) (Chg.grown (Chg.refl _ _) h2.out (fun b e _ => e))))

theorem list3K {w : World} {ops : Array Oper} {rest : List Oper} {o : Oper} {a : Act} {Q : Exit → Act → World → Prop} {W : World} {g r q n m : Nat} {N O : ND} {v2 v3 : Value} {xs ys : List Int} (hgd : o.guard = none) (s x : Operand)
    (ho : o.op = .call { callee := .builtin .append, args := #[s, x], argTypes := #[24, 24] })
    (h : Hid (KT W w g r q N O v2 n xs v3 m ys)) (hs : a.eval s = v3) (ad : Addr) (hx : a.eval x = .slice (some ad) 1 1) (u : Int) (hu : w.cell? ad = some (.int .u64 u)) (hn : m ≤ 1000)
    (k : ∀ g' c' w', Hid (KT W w' g r q N O v2 n xs (.slice (some ⟨g', 0, none⟩) (m + 1) c') (m + 1) (ys ++ [u])) → wpList Tryd.prog ops Q rest (a.put o.dst (.slice (some ⟨g', 0, none⟩) (m + 1) c')) w') : wpList Tryd.prog ops Q (o :: rest) a w := by
  refine wpList_out hgd s x 24 ho 23 (.int .u64 0) 1 8 Tryd.underlying24 info_u64 rfl (by decide) v3 m (ys.map (.int .u64)) hs ⟨h.out.own3, h.out.below⟩ ad 1 1 [.int .u64 u] hx rfl (fun j v hj => ?_) (by simp [Value.oneCell']) (by simp only [maxLen]; omega) (by omega) (by decide) ?_
  · match j, hj with
    | 0, hj =>
      obtain rfl : Value.int .u64 u = v := by simpa using hj
      rw [show ad.add 0 = ad from by unfold Addr.add; split <;> simp_all]
      exact hu
  · intro g' c' w' h1 h2 _
    exact k g' c' w' (Lib.hid (h.out.turn3 (by rw [List.map_append]; exact h1.out) (Chg.grown (Chg.refl _ _) h2.out (fun b e _ => e))))

/-- Where a label belongs that is not there. -/
def Pos (l : List Int) (x : Int) (p : Nat) : Prop := p ≤ l.length ∧ (∀ j, j < p → l.getD j 0 < x) ∧ ∀ j, p ≤ j → j < l.length → x < l.getD j 0

/-- So far: nothing is put in yet, or it is. -/
def PI9 (N : ND) (x y : Int) (i : Nat) (done : Bool) (O : ND) : Prop :=
  (done = false ∧ O.lab = N.lab.take i ∧ O.kid = N.kid.take i ∧ ∀ j, j < i → N.lab.getD j 0 < x) ∨
  (done = true ∧ ∃ p, p ≤ i ∧ Pos N.lab x p ∧ O.lab = insL (N.lab.take i) p x ∧ O.kid = insL (N.kid.take i) p y)

theorem take_snoc {l : List Int} {i : Nat} (h : i < l.length) : l.take (i + 1) = l.take i ++ [l.getD i 0] := by
  rw [List.take_add_one, List.getD_eq_getElem?_getD, List.getElem?_eq_getElem h]
  rfl

theorem ins_snoc {l : List Int} {i p : Nat} {x : Int} (h : i < l.length) (hp : p ≤ i) : insL (l.take (i + 1)) p x = insL (l.take i) p x ++ [l.getD i 0] := by
  unfold insL
  rw [take_snoc h, List.take_append_of_le_length (by rw [List.length_take]; omega), List.drop_append_of_le_length (by rw [List.length_take]; omega)]
  simp

theorem ins_end {l : List Int} {x : Int} {i : Nat} (h : l.length = i) : insL l i x = l ++ [x] := by
  unfold insL
  rw [List.take_of_length_le (by omega), List.drop_of_length_le (by omega)]

theorem pos_at {l : List Int} (h : LabOk l) {x : Int} {i : Nat} (hi : i < l.length) (h1 : ∀ j, j < i → l.getD j 0 < x) (h2 : x < l.getD i 0) : Pos l x i :=
  ⟨by omega, h1, fun j hj hjl => by have := lab_mono h hj hjl; omega⟩

theorem PI9.len {N O : ND} {x y : Int} {i : Nat} {done : Bool} (h : PI9 N x y i done O) : O.lab.length ≤ i + 1 ∧ O.kid.length ≤ i + 1 := by
  rcases h with ⟨_, h1, h2, _⟩ | ⟨_, p, hp, _, h1, h2⟩
  · rw [h1, h2]; simp only [List.length_take]; omega
  · rw [h1, h2]
    unfold insL
    simp only [List.length_append, List.length_take, List.length_cons, List.length_drop]
    omega

theorem PI9.done {N O O' : ND} {x y l k : Int} {i : Nat} (h : PI9 N x y i true O) (hi : i < N.lab.length) (hl : l = N.lab.getD i 0) (hk : k = N.kid.getD i 0) (h1 : O'.lab = O.lab ++ [l]) (h2 : O'.kid = O.kid ++ [k]) (hlen : N.lab.length = N.kid.length) : PI9 N x y (i + 1) true O' := by
  rcases h with ⟨h, _⟩ | ⟨_, p, hp, hP, h3, h4⟩
  · cases h
  · exact .inr ⟨rfl, p, by omega, hP, by rw [h1, h3, hl, ins_snoc hi hp], by rw [h2, h4, hk, ins_snoc (by omega) hp]⟩

theorem PI9.less {N O O' : ND} {x y l k : Int} {i : Nat} (h : PI9 N x y i false O) (hi : i < N.lab.length) (hl : l = N.lab.getD i 0) (hk : k = N.kid.getD i 0) (hlx : l < x) (h1 : O'.lab = O.lab ++ [l]) (h2 : O'.kid = O.kid ++ [k]) (hlen : N.lab.length = N.kid.length) : PI9 N x y (i + 1) false O' := by
  rcases h with ⟨_, h3, h4, h5⟩ | ⟨h, _⟩
  · refine .inl ⟨rfl, by rw [h1, h3, hl, take_snoc hi], by rw [h2, h4, hk, take_snoc (by omega)], fun j hj => ?_⟩
    by_cases e : j = i
    · subst e; rw [← hl]; exact hlx
    · exact h5 j (by omega)
  · cases h

theorem PI9.put {N O O' : ND} {x y l : Int} {i : Nat} (h : PI9 N x y i false O) (hr : LabOk N.lab) (hi : i < N.lab.length) (hl : l = N.lab.getD i 0) (hlx : x < l) (h1 : O'.lab = O.lab ++ [x]) (h2 : O'.kid = O.kid ++ [y]) (hlen : N.lab.length = N.kid.length) : PI9 N x y i true O' := by
  rcases h with ⟨_, h3, h4, h5⟩ | ⟨h, _⟩
  · refine .inr ⟨rfl, i, Nat.le_refl _, pos_at hr hi h5 (by rw [← hl]; exact hlx), ?_, ?_⟩
    · rw [h1, h3, ins_end (by rw [List.length_take]; omega)]
    · rw [h2, h4, ins_end (by rw [List.length_take]; omega)]
  · cases h

/-- What With leaves. -/
def RWithN (N : ND) (x y : Int) (M : ND) : Prop := ∃ p, Pos N.lab x p ∧ M.pre = N.pre ∧ M.val = N.val ∧ M.lab = insL N.lab p x ∧ M.kid = insL N.kid p y
def RWithP (N : ND) (x y : Int) (w : World) (e : Ending) (w' : World) : Prop := ∃ M : ND, e = .returned (.tuple #[M.v, .bool true]) ∧ RWithN N x y M ∧ M.At w' ∧ Below w.heap.size w w'

theorem PI9.fin {N O : ND} {x y : Int} {i : Nat} (h : PI9 N x y i true O) (hp : O.A1 = N.A1 ∧ O.n1 = N.n1 ∧ O.c1 = N.c1 ∧ O.pre = N.pre ∧ O.val = N.val) (hl : N.lab.length = i) (hlen : N.lab.length = N.kid.length) : RWithN N x y O := by
  rcases h with ⟨h, _⟩ | ⟨_, p, _, hP, h3, h4⟩
  · cases h
  · rw [List.take_of_length_le (by omega)] at h3 h4
    exact ⟨p, hP, hp.2.2.2.1, hp.2.2.2.2, h3, h4⟩

theorem PI9.last {N O O' : ND} {x y : Int} {i : Nat} (h : PI9 N x y i false O) (hp : O'.A1 = N.A1 ∧ O'.n1 = N.n1 ∧ O'.c1 = N.c1 ∧ O'.pre = N.pre ∧ O'.val = N.val) (hl : N.lab.length = i) (hlen : N.lab.length = N.kid.length) (h1 : O'.lab = O.lab ++ [x]) (h2 : O'.kid = O.kid ++ [y]) : RWithN N x y O' := by
  rcases h with ⟨_, h3, h4, h5⟩ | ⟨h, _⟩
  · rw [List.take_of_length_le (by omega)] at h3 h4
    exact ⟨i, ⟨by omega, h5, fun j h1 h2 => by omega⟩, hp.2.2.2.1, hp.2.2.2.2, by rw [h1, h3, ins_end hl], by rw [h2, h4, ins_end (by omega)]⟩
  · cases h

/-- The parameter's block and the result's. -/
structure RS (N : ND) (W w : World) (g r : Nat) : Prop where
  box : Cells w g 26 N.cells
  res : Cells w r 26 ND.nil.cells
  ne : r ≠ g ∧ W.heap.size ≤ g ∧ W.heap.size ≤ r
  old : N.At W
  below : Below W.heap.size W w

theorem RS.kept {N : ND} {W w w' : World} {g r : Nat} (h : RS N W w g r) (hb : Below w.heap.size w w') : RS N W w' g r :=
  ⟨h.box.kept (Chg.of_below (F := fun _ => False) hb) (fun f => f), h.res.kept (Chg.of_below (F := fun _ => False) hb) (fun f => f), h.ne, h.old, h.below.trans (hb.mono h.below.size)⟩
theorem RS.nd {N : ND} {W w : World} {g r : Nat} (h : RS N W w g r) : N.At w := h.old.kept h.below

theorem RS.enter {w : World} {N : ND} (h : N.At w) : RS N w ((w.alloc (.cells #[.slice N.A1 N.n1 N.c1, .int .u64 N.val, .slice N.A2 N.n2 N.c2, .slice N.A3 N.n3 N.c3] 26)).alloc (.cells #[.slice none 0 0, .int .u64 0, .slice none 0 0, .slice none 0 0] 26)) w.heap.size (w.heap.size + 1) := by
  have b1 := (Below.refl w.heap.size w).alloc (Nat.le_refl _) (.cells N.cells.toArray 26)
  have b2 := b1.alloc (by simp) (.cells ND.nil.cells.toArray 26)
  have c1 := (Cells.new w N.cells 26).alloc (.cells ND.nil.cells.toArray 26)
  have c2 := Cells.new (w.alloc (.cells N.cells.toArray 26)) ND.nil.cells 26
  have e2 : (w.alloc (.cells N.cells.toArray 26)).heap.size = w.heap.size + 1 := by simp
  rw [e2] at c2
  exact ⟨c1, c2, ⟨by omega, Nat.le_refl _, by omega⟩, h, b2⟩

theorem RS.empty {W w : World} {g r : Nat} {N : ND} (h : RS N W w g r) : Cells (w.setRow r ND.nil.cells.toArray) r 26 ND.nil.cells ∧ Below W.heap.size W (w.setRow r ND.nil.cells.toArray) :=
  ⟨row_set h.res _, row_below h.below _ h.ne.2.2⟩

def outN (N : ND) : ND := { ND.nil with A1 := N.A1, n1 := N.n1, c1 := N.c1, pre := N.pre, val := N.val }

theorem RS.start {W w : World} {g r : Nat} {N : ND} (h : RS N W w g r) : KO W ((w.alloc (.cells #[.slice none 0 0, .int .u64 0, .slice none 0 0, .slice none 0 0] 26)).setRow w.heap.size (outN N).cells.toArray) g r w.heap.size N (outN N) := by
  have c0 := Cells.new w ND.nil.cells 26
  have c1 := row_set c0 (outN N).cells
  have b0 := row_below ((Below.refl w.heap.size w).alloc (Nat.le_refl _) (.cells ND.nil.cells.toArray 26)) (outN N).cells.toArray (Nat.le_refl _)
  have hk := h.kept b0
  have h1 := h.box.lt
  have h2 := h.res.lt
  exact ⟨hk.box, hk.res, c1, ⟨h.ne.1, by omega, by omega, h.ne.2.1, h.ne.2.2, h.below.size⟩, h.old, World.ownsRow_nil _ _ _ _, World.ownsRow_nil _ _ _ _, ⟨rfl, rfl, rfl, rfl, rfl⟩, hk.below⟩




theorem rwith_yes (N : ND) (x y : Int) (w : World) (h : N.At w) (hr : RightP N) (hx : x ∉ N.lab) (hx0 : 0 ≤ x) (hx16 : x < 16) (hy : y ≠ 0) (hyw : (Lit.int .u64 y).wf = true) :
    Calls Tryd.prog 20 #[N.v, .int .u8 x, .int .u64 y] w (RWithP N x y w) := by
  have h16 : N.n2 ≤ 16 := by have := lab_le hr.2.2.2 h.lab; have := h.lab.1; omega
  have h23 : N.n2 = N.n3 := by have := hr.2.1; have := h.lab.1; have := h.kid.1; omega
  have hl2 := h.lab.1
  have HS := Lib.hid (RS.enter h)
  have HR := Lib.hid hr
  have HNX := Lib.hid hx
  have HYW := Lib.hid hyw
  have H23 := Lib.hid h23
  have HL2 := Lib.hid hl2
  have hb1 : decide ((15 : Int) < x) = false := decide_eq_false (by omega)
  have hb2 : (y == 0) = false := by simpa using hy
  clear h hr hx hyw h23 hy hl2
  unfold ND.v
  go_enter Tryd.func20, Tryd.ntmps20
  go_upto_region 1 with (fail)
  generalize hW : World.alloc (World.alloc w _) _ = W1 at *
  clear hW
  go_wp2_with (refine wpList_load_row rfl 26 _ rfl _ rfl 26 (ND.cells N).toArray (0, 0) _ HS.out.box Tryd.underlying26 rfl rfl ?_)
  refine Calls.mono (rright_any N W1 HS.out.nd true (by simpa using HR.out)) ?_
  rintro e2 w2 ⟨rfl, hb⟩
  have HS2 := Lib.hid (HS.out.kept hb)
  clear HS hb
  have hf0 := HS2.out.box.cell 0
  have hf1 := HS2.out.box.cell 1
  have hf2 := HS2.out.box.cell 2
  have hf3 := HS2.out.box.cell 3
  simp only [ND.cells, List.getElem?_cons_zero, List.getElem?_cons_succ] at hf0 hf1 hf2 hf3
  go_wp2_with fail
  clear hf0 hf1 hf2 hf3
  refine Calls.mono (find_any N x w2 HS2.out.nd false (by simpa using HNX.out)) ?_
  rintro e3 w3 ⟨rr, rfl, hr0, hb⟩
  have HS3 := Lib.hid (HS2.out.kept hb)
  clear HS2 hb
  have hf0 := HS3.out.box.cell 0
  have hf1 := HS3.out.box.cell 1
  have hf2 := HS3.out.box.cell 2
  have hf3 := HS3.out.box.cell 3
  simp only [ND.cells, List.getElem?_cons_zero, List.getElem?_cons_succ] at hf0 hf1 hf2 hf3
  have HK0 := Lib.hid HS3.out.start
  go_upto_region 5 with (refine wpList_store_row rfl 26 _ _ rfl w3.heap.size (outN N).cells.toArray rfl rfl 26 _ (Cells.new w3 ND.nil.cells _) size_rn rfl (cells_one _) ?_)
  generalize hW : World.setRow _ _ _ = W4
  have HK : Hid (KO w W4 w.heap.size (w.heap.size + 1) w3.heap.size N (outN N)) := by rw [← hW]; exact HK0
  clear HK0 hW hf0 hf1 hf2 hf3 HS3
  generalize w3.heap.size = qb at *
  go_wp2_with fail
  have HPI : Hid (PI9 N x y 0 false (outN N)) := Lib.hid (.inl ⟨rfl, by simp [outN, ND.nil], by simp [outN, ND.nil], fun j hj => absurd hj (by omega)⟩)
  go_loopw [9, 10] (fun v9 v10 wr => ∃ (i : Nat) (done : Bool) (O : ND), i ≤ N.n2 ∧ v10 = .int .i64 i ∧ v9 = .bool done ∧ Hid (KO w wr w.heap.size (w.heap.size + 1) qb N O) ∧ Hid (PI9 N x y i done O)) (fun _ v10 _ => N.n2 - (intOf v10).toNat)
  case atStart => exact ⟨0, false, _, by omega, rfl, rfl, HK, HPI⟩
  case round =>
    clear HK HPI
    obtain ⟨i, done, O, hi, rfl, rfl, HK, HPI⟩ := hrel
    by_cases hin : i < N.n2
    · obtain ⟨b2, o2, hA2, _, hc2⟩ := HK.out.nd.lab.2.2.2 (by omega)
      have hcy := hc2 i hin
      obtain ⟨l, hl⟩ : ∃ l, l = N.lab.getD i 0 := ⟨_, rfl⟩
      rw [← hl] at hcy
      have HLI := Lib.hid hl
      have HSZ : Hid (O.n2 ≤ 18 ∧ O.n3 ≤ 18) := Lib.hid (by have h1 := HPI.out.len; have h2 := HK.out.own2.1; have h3 := HK.out.own3.1; simp only [List.length_map, Nat.mul_one] at h2 h3; omega)
      have hf2 := HK.out.B.1
      have hf3 := HK.out.B.2
      rw [hA2] at hf2
      have HAA := Lib.hid hA2
      clear hc2 hl hA2
      cases done with
      | true =>
        go_upto_region 12 with (fail)
        have hq1 := HK.out.S.1
        have hq2 := fun o => (HK.out.alloc o).S.1
        go_cut [] (fun wx => ∃ A c, Hid (KO w wx w.heap.size (w.heap.size + 1) qb N { O with A2 := A, n2 := O.n2 + 1, c2 := c, lab := O.lab ++ [l] }))
        case first =>
          go_region_law (refine step2K rfl _ _ (by rfl) (W := w) (g := w.heap.size) (r := w.heap.size + 1) (q := qb) (N := N) (O := O) (n := O.n2) (m := O.n3) (v2 := .slice O.A2 O.n2 O.c2) (v3 := .slice O.A3 O.n3 O.c3) (xs := O.lab) (ys := O.kid) (by first | with_reducible exact Lib.hid (HK.out.alloc _).drew | with_reducible exact Lib.hid (HK.out.alloc _)) (by rfl) ⟨_, 0, none⟩ (by rfl) l (by first | exact (new1 _ _ _).cell 0 | exact (new4 _ _ _).cell 0) (by have := HSZ.out; omega) ?_; intro g5 c5 w5 HT5; have hs2 := HT5.out.S.1; have hs3 := HT5.out.S.2; have hz2 := HT5.out.Z.1; have hz3 := HT5.out.Z.2)
          all_goals
            have HN5 := Lib.hid HT5.out.set2
            clear hs2 hs3 hz2 hz3 hq1 hq2 HT5
            generalize hW : World.setCell _ _ _ = W6 at *
            clear hW
            go_wp2_with fail
            go_meet
            case rel => exact ⟨_, _, HN5⟩
        case rest =>
          obtain ⟨A5, c5, HN5⟩ := hcut
          obtain ⟨O5, hO5⟩ : ∃ O5 : ND, O5 = { O with A2 := A5, n2 := O.n2 + 1, c2 := c5, lab := O.lab ++ [l] } := ⟨_, rfl⟩
          rw [← hO5] at HN5
          have HO5 := Lib.hid hO5
          clear hO5 hq1 hq2 hf2 hf3 hcy
          obtain ⟨b3, o3, hA3, _, hc3⟩ := HN5.out.nd.kid.2.2.2 (by have := H23.out; omega)
          have hck := hc3 i (by have := H23.out; omega)
          obtain ⟨k, hk⟩ : ∃ k, k = N.kid.getD i 0 := ⟨_, rfl⟩
          rw [← hk] at hck
          have HKI := Lib.hid hk
          have hf3 := HN5.out.B.2
          rw [hA3] at hf3
          have hq3 := HN5.out.S.2
          have hq4 := fun o => (HN5.out.alloc o).S.2
          have hin3 : i < N.n3 := by have := H23.out; omega
          have HSZ5 : Hid (O5.n2 ≤ 21 ∧ O5.n3 ≤ 20) := Lib.hid (by rw [HO5.out]; have := HSZ.out; exact ⟨by show O.n2 + 1 ≤ 21; omega, by show O.n3 ≤ 20; omega⟩)
          clear hc3 hk hA3 HSZ
          have HSZ := HSZ5
          go_upto_region 13 with (fail)
          go_region_law (refine step3K rfl _ _ (by rfl) (W := w) (g := w.heap.size) (r := w.heap.size + 1) (q := qb) (N := N) (O := O5) (n := O5.n2) (m := O5.n3) (v2 := .slice O5.A2 O5.n2 O5.c2) (v3 := .slice O5.A3 O5.n3 O5.c3) (xs := O5.lab) (ys := O5.kid) (by first | with_reducible exact Lib.hid (HN5.out.alloc _).drew | with_reducible exact Lib.hid (HN5.out.alloc _)) (by rfl) ⟨_, 0, none⟩ (by rfl) k (by first | exact (new1 _ _ _).cell 0 | exact (new4 _ _ _).cell 0) (by have := HSZ.out; omega) ?_; intro g5 c5 w6 HT6; have hs2 := HT6.out.S.1; have hs3 := HT6.out.S.2; have hz2 := HT6.out.Z.1; have hz3 := HT6.out.Z.2)
          all_goals
            have HN8 := Lib.hid HT6.out.set3
            obtain ⟨O8, hO8⟩ : ∃ O8 : ND, O8 = { O5 with A3 := some ⟨g5, 0, none⟩, n3 := O5.n3 + 1, c3 := c5, kid := O5.kid ++ [k] } := ⟨_, rfl⟩
            have HN8 : Hid (KO w (w6.setCell ⟨qb, 3, none⟩ (.slice (some ⟨g5, 0, none⟩) (O5.n3 + 1) c5)) w.heap.size (w.heap.size + 1) qb N O8) := by rw [hO8]; exact HN8
            have HO8 : Hid (O8.lab = O.lab ++ [l] ∧ O8.kid = O.kid ++ [k]) := Lib.hid (by rw [hO8, HO5.out]; exact ⟨rfl, rfl⟩)
            clear hs2 hs3 hz2 hz3 hq3 hq4 hf3 hck HT6 hO8 HN5 HO5 HSZ5
            generalize hW : World.setCell _ _ _ = W9 at *
            clear hW
            go_wp2_with fail
            go_roundw
            case rel => exact ⟨i + 1, true, O8, by omega, by go_num, rfl, HN8, Lib.hid (HPI.out.done (by have := HL2.out; omega) HLI.out HKI.out HO8.out.1 HO8.out.2 HR.out.2.1)⟩
            case measure => simp [intOf]; omega
      | false =>
        by_cases hlx : x < l
        · have hbl : decide (x < l) = true := decide_eq_true hlx
          have HLX := Lib.hid hlx
          clear hlx
          have hq1 := HK.out.S.1
          go_upto_region 10 with (at_builtin; refine list2K rfl _ _ rfl (Lib.hid (HK.out.alloc _)) rfl ⟨wr.heap.size, 0, none⟩ rfl x ((new4 _ _ _).cell 0) (by have := HSZ.out; omega) ?_; intro g5 c5 w5 HT5; have hs2 := HT5.out.S.1; have hz2 := HT5.out.Z.1)
          have HN5 := Lib.hid HT5.out.set2
          obtain ⟨O5, hO5⟩ : ∃ O5 : ND, O5 = { O with A2 := some ⟨g5, 0, none⟩, n2 := O.n2 + 1, c2 := c5, lab := O.lab ++ [x] } := ⟨_, rfl⟩
          have HN5 : Hid (KO w (w5.setCell ⟨qb, 2, none⟩ (.slice (some ⟨g5, 0, none⟩) (O.n2 + 1) c5)) w.heap.size (w.heap.size + 1) qb N O5) := by rw [hO5]; exact HN5
          have HO5 := Lib.hid hO5
          clear hs2 hz2 hq1 HT5 hO5
          generalize hW : World.setCell _ _ _ = W6 at *
          clear hW
          have hq1 := HN5.out.S.2
          have H53 : Hid (O5.n3 ≤ 18) := Lib.hid (by rw [HO5.out]; exact HSZ.out.2)
          go_upto_region 11 with (at_builtin; refine list3K rfl _ _ rfl (Lib.hid (HN5.out.alloc _)) rfl ⟨W6.heap.size, 0, none⟩ rfl y ((new4 _ _ _).cell 0) (by have := H53.out; omega) ?_; intro g7 c7 w7 HT7; have hs3 := HT7.out.S.2; have hz3 := HT7.out.Z.2)
          have HN7 := Lib.hid HT7.out.set3
          obtain ⟨O7, hO7⟩ : ∃ O7 : ND, O7 = { O5 with A3 := some ⟨g7, 0, none⟩, n3 := O5.n3 + 1, c3 := c7, kid := O5.kid ++ [y] } := ⟨_, rfl⟩
          have HN7 : Hid (KO w (w7.setCell ⟨qb, 3, none⟩ (.slice (some ⟨g7, 0, none⟩) (O5.n3 + 1) c7)) w.heap.size (w.heap.size + 1) qb N O7) := by rw [hO7]; exact HN7
          have HPI7 : Hid (PI9 N x y i true O7) := Lib.hid (HPI.out.put HR.out.2.2.2 (by have := HL2.out; omega) HLI.out HLX.out (by rw [hO7, HO5.out]) (by rw [hO7, HO5.out]) HR.out.2.1)
          have HSZ7 : Hid (O7.n2 ≤ 19 ∧ O7.n3 ≤ 19) := Lib.hid (by rw [hO7, HO5.out]; have := HSZ.out; exact ⟨by show O.n2 + 1 ≤ 19; omega, by show O.n3 + 1 ≤ 19; omega⟩)
          clear hs3 hz3 hq1 HT7 hO7 HO5 HN5 H53 hf2 hf3 hcy HSZ HK
          generalize hW : World.setCell _ _ _ = W8 at *
          clear hW
          have HSZ := HSZ7
          obtain ⟨b2', o2', hA2', _, hc2'⟩ := HN7.out.nd.lab.2.2.2 (by omega)
          have hcy := hc2' i hin
          rw [← HLI.out] at hcy
          have hf2 := HN7.out.B.1
          have hf3 := HN7.out.B.2
          rw [hA2'] at hf2
          clear hc2' hA2'
          go_upto_region 12 with (fail)
          have hq1 := HN7.out.S.1
          have hq2 := fun o => (HN7.out.alloc o).S.1
          go_cut [] (fun wx => ∃ A c, Hid (KO w wx w.heap.size (w.heap.size + 1) qb N { O7 with A2 := A, n2 := O7.n2 + 1, c2 := c, lab := O7.lab ++ [l] }))
          case first =>
            go_region_law (refine step2K rfl _ _ (by rfl) (W := w) (g := w.heap.size) (r := w.heap.size + 1) (q := qb) (N := N) (O := O7) (n := O7.n2) (m := O7.n3) (v2 := .slice O7.A2 O7.n2 O7.c2) (v3 := .slice O7.A3 O7.n3 O7.c3) (xs := O7.lab) (ys := O7.kid) (by first | with_reducible exact Lib.hid (HN7.out.alloc _).drew | with_reducible exact Lib.hid (HN7.out.alloc _)) (by rfl) ⟨_, 0, none⟩ (by rfl) l (by first | exact (new1 _ _ _).cell 0 | exact (new4 _ _ _).cell 0) (by have := HSZ.out; omega) ?_; intro g5 c5 w5 HT5; have hs2 := HT5.out.S.1; have hs3 := HT5.out.S.2; have hz2 := HT5.out.Z.1; have hz3 := HT5.out.Z.2)
            all_goals
              have HN5 := Lib.hid HT5.out.set2
              clear hs2 hs3 hz2 hz3 hq1 hq2 HT5
              generalize hW : World.setCell _ _ _ = W6 at *
              clear hW
              go_wp2_with fail
              go_meet
              case rel => exact ⟨_, _, HN5⟩
          case rest =>
            obtain ⟨A5, c5, HN5⟩ := hcut
            obtain ⟨O5, hO5⟩ : ∃ O5 : ND, O5 = { O7 with A2 := A5, n2 := O7.n2 + 1, c2 := c5, lab := O7.lab ++ [l] } := ⟨_, rfl⟩
            rw [← hO5] at HN5
            have HO5 := Lib.hid hO5
            clear hO5 hq1 hq2 hf2 hf3 hcy
            obtain ⟨b3, o3, hA3, _, hc3⟩ := HN5.out.nd.kid.2.2.2 (by have := H23.out; omega)
            have hck := hc3 i (by have := H23.out; omega)
            obtain ⟨k, hk⟩ : ∃ k, k = N.kid.getD i 0 := ⟨_, rfl⟩
            rw [← hk] at hck
            have HKI := Lib.hid hk
            have hf3 := HN5.out.B.2
            rw [hA3] at hf3
            have hq3 := HN5.out.S.2
            have hq4 := fun o => (HN5.out.alloc o).S.2
            have hin3 : i < N.n3 := by have := H23.out; omega
            have HSZ5 : Hid (O5.n2 ≤ 21 ∧ O5.n3 ≤ 20) := Lib.hid (by rw [HO5.out]; have := HSZ.out; exact ⟨by show O7.n2 + 1 ≤ 21; omega, by show O7.n3 ≤ 20; omega⟩)
            clear hc3 hk hA3 HSZ
            have HSZ := HSZ5
            go_upto_region 13 with (fail)
            go_region_law (refine step3K rfl _ _ (by rfl) (W := w) (g := w.heap.size) (r := w.heap.size + 1) (q := qb) (N := N) (O := O5) (n := O5.n2) (m := O5.n3) (v2 := .slice O5.A2 O5.n2 O5.c2) (v3 := .slice O5.A3 O5.n3 O5.c3) (xs := O5.lab) (ys := O5.kid) (by first | with_reducible exact Lib.hid (HN5.out.alloc _).drew | with_reducible exact Lib.hid (HN5.out.alloc _)) (by rfl) ⟨_, 0, none⟩ (by rfl) k (by first | exact (new1 _ _ _).cell 0 | exact (new4 _ _ _).cell 0) (by have := HSZ.out; omega) ?_; intro g5 c5 w6 HT6; have hs2 := HT6.out.S.1; have hs3 := HT6.out.S.2; have hz2 := HT6.out.Z.1; have hz3 := HT6.out.Z.2)
            all_goals
              have HN8 := Lib.hid HT6.out.set3
              obtain ⟨O8, hO8⟩ : ∃ O8 : ND, O8 = { O5 with A3 := some ⟨g5, 0, none⟩, n3 := O5.n3 + 1, c3 := c5, kid := O5.kid ++ [k] } := ⟨_, rfl⟩
              have HN8 : Hid (KO w (w6.setCell ⟨qb, 3, none⟩ (.slice (some ⟨g5, 0, none⟩) (O5.n3 + 1) c5)) w.heap.size (w.heap.size + 1) qb N O8) := by rw [hO8]; exact HN8
              have HO8 : Hid (O8.lab = O7.lab ++ [l] ∧ O8.kid = O7.kid ++ [k]) := Lib.hid (by rw [hO8, HO5.out]; exact ⟨rfl, rfl⟩)
              clear hs2 hs3 hz2 hz3 hq3 hq4 hf3 hck HT6 hO8 HN5 HO5 HSZ5
              generalize hW : World.setCell _ _ _ = W9 at *
              clear hW
              go_wp2_with fail
              go_roundw
              case rel => exact ⟨i + 1, true, O8, by omega, by go_num, rfl, HN8, Lib.hid (HPI7.out.done (by have := HL2.out; omega) HLI.out HKI.out HO8.out.1 HO8.out.2 HR.out.2.1)⟩
              case measure => simp [intOf]; omega
        · have hbl : decide (x < l) = false := decide_eq_false hlx
          have HLX : Hid (l < x) := Lib.hid (by
            have : l ≠ x := fun e => HNX.out (by rw [← e, HLI.out]; exact getD_mem (by have := HL2.out; omega))
            omega)
          clear hlx
          go_upto_region 12 with (fail)
          have hq1 := HK.out.S.1
          have hq2 := fun o => (HK.out.alloc o).S.1
          go_cut [] (fun wx => ∃ A c, Hid (KO w wx w.heap.size (w.heap.size + 1) qb N { O with A2 := A, n2 := O.n2 + 1, c2 := c, lab := O.lab ++ [l] }))
          case first =>
            go_region_law (refine step2K rfl _ _ (by rfl) (W := w) (g := w.heap.size) (r := w.heap.size + 1) (q := qb) (N := N) (O := O) (n := O.n2) (m := O.n3) (v2 := .slice O.A2 O.n2 O.c2) (v3 := .slice O.A3 O.n3 O.c3) (xs := O.lab) (ys := O.kid) (by first | with_reducible exact Lib.hid (HK.out.alloc _).drew | with_reducible exact Lib.hid (HK.out.alloc _)) (by rfl) ⟨_, 0, none⟩ (by rfl) l (by first | exact (new1 _ _ _).cell 0 | exact (new4 _ _ _).cell 0) (by have := HSZ.out; omega) ?_; intro g5 c5 w5 HT5; have hs2 := HT5.out.S.1; have hs3 := HT5.out.S.2; have hz2 := HT5.out.Z.1; have hz3 := HT5.out.Z.2)
            all_goals
              have HN5 := Lib.hid HT5.out.set2
              clear hs2 hs3 hz2 hz3 hq1 hq2 HT5
              generalize hW : World.setCell _ _ _ = W6 at *
              clear hW
              go_wp2_with fail
              go_meet
              case rel => exact ⟨_, _, HN5⟩
          case rest =>
            obtain ⟨A5, c5, HN5⟩ := hcut
            obtain ⟨O5, hO5⟩ : ∃ O5 : ND, O5 = { O with A2 := A5, n2 := O.n2 + 1, c2 := c5, lab := O.lab ++ [l] } := ⟨_, rfl⟩
            rw [← hO5] at HN5
            have HO5 := Lib.hid hO5
            clear hO5 hq1 hq2 hf2 hf3 hcy
            obtain ⟨b3, o3, hA3, _, hc3⟩ := HN5.out.nd.kid.2.2.2 (by have := H23.out; omega)
            have hck := hc3 i (by have := H23.out; omega)
            obtain ⟨k, hk⟩ : ∃ k, k = N.kid.getD i 0 := ⟨_, rfl⟩
            rw [← hk] at hck
            have HKI := Lib.hid hk
            have hf3 := HN5.out.B.2
            rw [hA3] at hf3
            have hq3 := HN5.out.S.2
            have hq4 := fun o => (HN5.out.alloc o).S.2
            have hin3 : i < N.n3 := by have := H23.out; omega
            have HSZ5 : Hid (O5.n2 ≤ 21 ∧ O5.n3 ≤ 20) := Lib.hid (by rw [HO5.out]; have := HSZ.out; exact ⟨by show O.n2 + 1 ≤ 21; omega, by show O.n3 ≤ 20; omega⟩)
            clear hc3 hk hA3 HSZ
            have HSZ := HSZ5
            go_upto_region 13 with (fail)
            go_region_law (refine step3K rfl _ _ (by rfl) (W := w) (g := w.heap.size) (r := w.heap.size + 1) (q := qb) (N := N) (O := O5) (n := O5.n2) (m := O5.n3) (v2 := .slice O5.A2 O5.n2 O5.c2) (v3 := .slice O5.A3 O5.n3 O5.c3) (xs := O5.lab) (ys := O5.kid) (by first | with_reducible exact Lib.hid (HN5.out.alloc _).drew | with_reducible exact Lib.hid (HN5.out.alloc _)) (by rfl) ⟨_, 0, none⟩ (by rfl) k (by first | exact (new1 _ _ _).cell 0 | exact (new4 _ _ _).cell 0) (by have := HSZ.out; omega) ?_; intro g5 c5 w6 HT6; have hs2 := HT6.out.S.1; have hs3 := HT6.out.S.2; have hz2 := HT6.out.Z.1; have hz3 := HT6.out.Z.2)
            all_goals
              have HN8 := Lib.hid HT6.out.set3
              obtain ⟨O8, hO8⟩ : ∃ O8 : ND, O8 = { O5 with A3 := some ⟨g5, 0, none⟩, n3 := O5.n3 + 1, c3 := c5, kid := O5.kid ++ [k] } := ⟨_, rfl⟩
              have HN8 : Hid (KO w (w6.setCell ⟨qb, 3, none⟩ (.slice (some ⟨g5, 0, none⟩) (O5.n3 + 1) c5)) w.heap.size (w.heap.size + 1) qb N O8) := by rw [hO8]; exact HN8
              have HO8 : Hid (O8.lab = O.lab ++ [l] ∧ O8.kid = O.kid ++ [k]) := Lib.hid (by rw [hO8, HO5.out]; exact ⟨rfl, rfl⟩)
              clear hs2 hs3 hz2 hz3 hq3 hq4 hf3 hck HT6 hO8 HN5 HO5 HSZ5
              generalize hW : World.setCell _ _ _ = W9 at *
              clear hW
              go_wp2_with fail
              go_roundw
              case rel => exact ⟨i + 1, false, O8, by omega, by go_num, rfl, HN8, Lib.hid (HPI.out.less (by have := HL2.out; omega) HLI.out HKI.out HLX.out HO8.out.1 HO8.out.2 HR.out.2.1)⟩
              case measure => simp [intOf]; omega
    · obtain rfl : i = N.n2 := by omega
      have hf2 := HK.out.B.1
      cases done with
      | true =>
        have HIS : Hid (RWithN N x y O) := Lib.hid (HPI.out.fin HK.out.pre HL2.out HR.out.2.1)
        have HWF : Hid ((∀ z ∈ O.lab, (Lit.int .u8 z).wf = true) ∧ (∀ z ∈ O.kid, (Lit.int .u64 z).wf = true) ∧ O.n2 ≤ 1000 ∧ O.n3 ≤ 1000) := Lib.hid (by
          obtain ⟨p, hp, _, _, e1, e2⟩ := HIS.out
          have hp1 := hp.1
          have h23' := HR.out.2.1
          have hl' := HL2.out
          have h2 := HK.out.own2.1
          have h3 := HK.out.own3.1
          simp only [List.length_map, Nat.mul_one] at h2 h3
          rw [e1, ins_len x hp1] at h2
          rw [e2, ins_len y (by omega)] at h3
          rw [e1, e2]
          exact ⟨ins_wf HK.out.old.lab.2.2.1 (u8_wf hx0 hx16), ins_wf HK.out.old.kid.2.2.1 HYW.out, by omega, by omega⟩)
        have HF := Lib.hid (HK.out.fin HWF.out.1 HWF.out.2.1 HWF.out.2.2.1 HWF.out.2.2.2)
        go_wp2_with (first | (refine wpList_load_row rfl 26 _ rfl _ rfl 26 (ND.cells _).toArray (0, 0) _ HK.out.out Tryd.underlying26 rfl size_rn ?_) | (refine wpList_store_row rfl 26 _ _ rfl (w.heap.size + 1) (ND.cells _).toArray rfl rfl 26 _ HK.out.res size_rn rfl (cells_one _) ?_))
        refine bodyPost_ret (res_one rfl _ _ (w.heap.size + 1) 26 (ND.cells _).toArray (0, 0) _ rfl HF.out.1 Tryd.underlying26 rfl size_rn) rfl ?_
        exact ⟨_, rfl, HIS.out, HF.out.2.1, HF.out.2.2⟩
      | false =>
        have hq1 := HK.out.S.1
        have HSZ : Hid (O.n2 ≤ 17 ∧ O.n3 ≤ 17) := Lib.hid (by have h1 := HPI.out.len; have h2 := HK.out.own2.1; have h3 := HK.out.own3.1; simp only [List.length_map, Nat.mul_one] at h2 h3; omega)
        go_upto_region 16 with (at_builtin; refine list2K rfl _ _ rfl (Lib.hid (HK.out.alloc _)) rfl ⟨wr.heap.size, 0, none⟩ rfl x ((new4 _ _ _).cell 0) (by have := HSZ.out; omega) ?_; intro g5 c5 w5 HT5; have hs2 := HT5.out.S.1; have hz2 := HT5.out.Z.1)
        have HN5 := Lib.hid HT5.out.set2
        obtain ⟨O5, hO5⟩ : ∃ O5 : ND, O5 = { O with A2 := some ⟨g5, 0, none⟩, n2 := O.n2 + 1, c2 := c5, lab := O.lab ++ [x] } := ⟨_, rfl⟩
        have HN5 : Hid (KO w (w5.setCell ⟨qb, 2, none⟩ (.slice (some ⟨g5, 0, none⟩) (O.n2 + 1) c5)) w.heap.size (w.heap.size + 1) qb N O5) := by rw [hO5]; exact HN5
        have HO5 := Lib.hid hO5
        clear hs2 hz2 hq1 HT5 hO5
        generalize hW : World.setCell _ _ _ = W6 at *
        clear hW
        have hq1 := HN5.out.S.2
        have H53 : Hid (O5.n3 ≤ 18) := Lib.hid (by rw [HO5.out]; have := HSZ.out.2; show O.n3 ≤ 18; omega)
        go_upto_region 17 with (at_builtin; refine list3K rfl _ _ rfl (Lib.hid (HN5.out.alloc _)) rfl ⟨W6.heap.size, 0, none⟩ rfl y ((new4 _ _ _).cell 0) (by have := H53.out; omega) ?_; intro g7 c7 w7 HT7; have hs3 := HT7.out.S.2; have hz3 := HT7.out.Z.2)
        have HN7 := Lib.hid HT7.out.set3
        obtain ⟨O7, hO7⟩ : ∃ O7 : ND, O7 = { O5 with A3 := some ⟨g7, 0, none⟩, n3 := O5.n3 + 1, c3 := c7, kid := O5.kid ++ [y] } := ⟨_, rfl⟩
        have HN7 : Hid (KO w (w7.setCell ⟨qb, 3, none⟩ (.slice (some ⟨g7, 0, none⟩) (O5.n3 + 1) c7)) w.heap.size (w.heap.size + 1) qb N O7) := by rw [hO7]; exact HN7
        have HIS : Hid (RWithN N x y O7) := Lib.hid (HPI.out.last HN7.out.pre HL2.out HR.out.2.1 (by rw [hO7, HO5.out]) (by rw [hO7, HO5.out]))
        clear hs3 hz3 hq1 HT7 hO7 HO5 HN5 H53 HSZ HK hf2
        generalize hW : World.setCell _ _ _ = W8 at *
        clear hW
        have HWF : Hid ((∀ z ∈ O7.lab, (Lit.int .u8 z).wf = true) ∧ (∀ z ∈ O7.kid, (Lit.int .u64 z).wf = true) ∧ O7.n2 ≤ 1000 ∧ O7.n3 ≤ 1000) := Lib.hid (by
          obtain ⟨p, hp, _, _, e1, e2⟩ := HIS.out
          have hp1 := hp.1
          have h23' := HR.out.2.1
          have hl' := HL2.out
          have h2 := HN7.out.own2.1
          have h3 := HN7.out.own3.1
          simp only [List.length_map, Nat.mul_one] at h2 h3
          rw [e1, ins_len x hp1] at h2
          rw [e2, ins_len y (by omega)] at h3
          rw [e1, e2]
          exact ⟨ins_wf HN7.out.old.lab.2.2.1 (u8_wf hx0 hx16), ins_wf HN7.out.old.kid.2.2.1 HYW.out, by omega, by omega⟩)
        have HF := Lib.hid (HN7.out.fin HWF.out.1 HWF.out.2.1 HWF.out.2.2.1 HWF.out.2.2.2)
        go_wp2_with (first | (refine wpList_load_row rfl 26 _ rfl _ rfl 26 (ND.cells _).toArray (0, 0) _ HN7.out.out Tryd.underlying26 rfl size_rn ?_) | (refine wpList_store_row rfl 26 _ _ rfl (w.heap.size + 1) (ND.cells _).toArray rfl rfl 26 _ HN7.out.res size_rn rfl (cells_one _) ?_))
        refine bodyPost_ret (res_one rfl _ _ (w.heap.size + 1) 26 (ND.cells _).toArray (0, 0) _ rfl HF.out.1 Tryd.underlying26 rfl size_rn) rfl ?_
        exact ⟨_, rfl, HIS.out, HF.out.2.1, HF.out.2.2⟩
end Go.Proofs.YtmfomkmdfddhaaaDoor.RefW9
