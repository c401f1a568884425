/- Layer 9's node: With. -/
import Derived.Test.YtmfomkmdfddhaaaDoorOwn9
namespace Go.Proofs.YtmfomkmdfddhaaaDoor.With9
open Go.RowKit Go.Proofs.YtmfomkmdfddhaaaDoor.Mem Go.Proofs.YtmfomkmdfddhaaaDoor.Read Go.Proofs.YtmfomkmdfddhaaaDoor.Out Go.Proofs.YtmfomkmdfddhaaaDoor.Nib Go.Proofs.YtmfomkmdfddhaaaDoor.Node Go.Proofs.YtmfomkmdfddhaaaDoor.Slc Go.Proofs.YtmfomkmdfddhaaaDoor.Res Go.Proofs.YtmfomkmdfddhaaaDoor.Dec Go.Proofs.YtmfomkmdfddhaaaDoor.Kid Go.Proofs.YtmfomkmdfddhaaaDoor.Words Go.Proofs.YtmfomkmdfddhaaaDoor.DecB Go.Proofs.YtmfomkmdfddhaaaDoor.Same9 Go.Proofs.YtmfomkmdfddhaaaDoor.Open9 Go.Proofs.YtmfomkmdfddhaaaDoor.Own9 Go.Proofs.YtmfomkmdfddhaaaDoor.Ins9
set_option maxRecDepth 100000

/-- A node of the call's own in block g, the result's block r, while its labels v2 and its kids v3 turn. -/
structure WT (W w : World) (g r : Nat) (N : ND) (v2 : Value) (n : Nat) (xs : List Int) (v3 : Value) (m : Nat) (ys : List Int) : Prop where
  box : Cells w g 31 N.cells
  res : Cells w r 31 ND.nil.cells
  ne : r ≠ g ∧ W.heap.size ≤ g ∧ W.heap.size ≤ r
  own1 : w.ownsRow W.heap.size 5 1 (.slice N.A1 N.n1 N.c1) N.n1 (N.pre.map (.int .u8))
  own2 : w.ownsRow W.heap.size 5 1 v2 n (xs.map (.int .u8))
  own3 : w.ownsRow W.heap.size 23 1 v3 m (ys.map (.int .u64))
  below : Below W.heap.size W w

section
variable {W w w' : World} {g r n m : Nat} {N : ND} {v2 v3 : Value} {xs ys : List Int}

theorem cells_apart {b base k : Nat} {T e : TypeId} {cs zs : List Value} {v : Value} (h : Cells w b T cs) (ho : w.ownsRow base e 1 v k zs) (hne : e ≠ T) : v.ownBlock ≠ some b := by
  intro hb
  obtain ⟨cur, fr, h1, _⟩ := own_block ho hb
  unfold Cells at h
  rw [h] at h1
  cases h1
  exact hne rfl

theorem rows_apart {e1 e2 : TypeId} {b1 b2 n m : Nat} {u v : Value} {xs ys : List Value} (h : w.ownsRow b1 e1 1 u n xs) (k : w.ownsRow b2 e2 1 v m ys) (hne : e1 ≠ e2) : ∀ b, u.ownBlock = some b → ¬ v.ownBlock = some b := fun b hb e => own_apart h k hne (by rw [hb]; simp) (by rw [hb, e])

theorem WT.alloc (h : WT W w g r N v2 n xs v3 m ys) (o : Obj) : WT W (w.alloc o) g r N v2 n xs v3 m ys :=
  ⟨h.box.alloc o, h.res.alloc o, h.ne, h.own1.alloc o, h.own2.alloc o, h.own3.alloc o, h.below.alloc h.below.size o⟩

theorem WT.drew (h : WT W w g r N v2 n xs v3 m ys) : WT W w.drew g r N v2 n xs v3 m ys :=
  ⟨h.box, h.res, h.ne, h.own1, h.own2, h.own3, h.below.drew⟩

theorem WT.out2 (h : WT W w g r N v2 n xs v3 m ys) : Out W w 5 1 v2 n (xs.map (.int .u8)) := ⟨h.own2, h.below⟩
theorem WT.out3 (h : WT W w g r N v2 n xs v3 m ys) : Out W w 23 1 v3 m (ys.map (.int .u64)) := ⟨h.own3, h.below⟩

theorem WT.turn2 (h : WT W w g r N v2 n xs v3 m ys) (ha : ∀ b, (Value.slice N.A1 N.n1 N.c1).ownBlock = some b → v2.ownBlock ≠ some b) {v : Value} {k : Nat} {zs : List Int} (ho : Out W w' 5 1 v k (zs.map (.int .u8))) (hc : Chg (fun b => v2.ownBlock = some b) w w') :
    WT W w' g r N v k zs v3 m ys :=
  ⟨h.box.kept hc (cells_apart h.box h.own2 (by decide)), h.res.kept hc (cells_apart h.res h.own2 (by decide)), h.ne, own_kept h.own1 hc ha, ho.1, own_kept h.own3 hc (rows_apart h.own3 h.own2 (by decide)), ho.below⟩

theorem WT.turn3 (h : WT W w g r N v2 n xs v3 m ys) {v : Value} {k : Nat} {zs : List Int} (ho : Out W w' 23 1 v k (zs.map (.int .u64))) (hc : Chg (fun b => v3.ownBlock = some b) w w') :
    WT W w' g r N v2 n xs v k zs :=
  ⟨h.box.kept hc (cells_apart h.box h.own3 (by decide)), h.res.kept hc (cells_apart h.res h.own3 (by decide)), h.ne, own_kept h.own1 hc (rows_apart h.own1 h.own3 (by decide)), own_kept h.own2 hc (rows_apart h.own2 h.own3 (by decide)), ho.1, ho.below⟩

theorem WT.S (h : WT W w g r N v2 n xs v3 m ys) : w.cell? ⟨g, 2, none⟩ = some (.slice N.A2 N.n2 N.c2) ∧ w.cell? ⟨g, 3, none⟩ = some (.slice N.A3 N.n3 N.c3) := ⟨h.box.cell 2, h.box.cell 3⟩
theorem WT.Z (h : WT W w g r N v2 n xs v3 m ys) : w.frozen? ⟨g, 2, none⟩ = false ∧ w.frozen? ⟨g, 3, none⟩ = false := ⟨h.box.frozen 2, h.box.frozen 3⟩

/-- The node as it is then. -/
structure WE (W w : World) (g r : Nat) (M : ND) : Prop where
  box : Cells w g 31 M.cells
  res : Cells w r 31 ND.nil.cells
  ne : r ≠ g ∧ W.heap.size ≤ r
  nd : M.At w
  away : Away r M.A1 ∧ Away r M.A2 ∧ Away r M.A3
  below : Below W.heap.size W w

theorem WT.stored {A2 A3 : Option Addr} {c2 c3 : Nat} (h : WT W w g r N (.slice A2 n c2) n xs (.slice A3 m c3) m ys) (hv : (Lit.int .u64 N.val).wf = true) (h1 : ∀ x ∈ N.pre, (Lit.int .u8 x).wf = true) (h2 : ∀ x ∈ xs, (Lit.int .u8 x).wf = true) (h3 : ∀ x ∈ ys, (Lit.int .u64 x).wf = true) (m1 : N.n1 ≤ maxLen) (m2 : n ≤ maxLen) (m3 : m ≤ maxLen) :
    WE W ((w.setCell ⟨g, 2, none⟩ (.slice A2 n c2)).setCell ⟨g, 3, none⟩ (.slice A3 m c3)) g r { N with A2 := A2, n2 := n, c2 := c2, lab := xs, A3 := A3, n3 := m, c3 := c3, kid := ys } := by
  have hc : Chg (· = g) w ((w.setCell ⟨g, 2, none⟩ (.slice A2 n c2)).setCell ⟨g, 3, none⟩ (.slice A3 m c3)) := ((Chg.refl (· = g) w).setCell (fun _ => rfl) _).setCell (fun _ => rfl) _
  have hbl : Below W.heap.size W ((w.setCell ⟨g, 2, none⟩ (.slice A2 n c2)).setCell ⟨g, 3, none⟩ (.slice A3 m c3)) := ⟨hc.os.trans h.below.os, hc.tape.trans h.below.tape, hc.output.trans h.below.output, Nat.le_trans h.below.size hc.size, fun k hk => (hc.block k (Nat.lt_of_lt_of_le hk h.below.size) (by have := h.ne; omega)).trans (h.below.block k hk)⟩
  have k1 := own_kept h.own1 hc (fun k hk e => cells_apart h.box h.own1 (by decide) (e ▸ hk))
  have k2 := own_kept h.own2 hc (fun k hk e => cells_apart h.box h.own2 (by decide) (e ▸ hk))
  have k3 := own_kept h.own3 hc (fun k hk e => cells_apart h.box h.own3 (by decide) (e ▸ hk))
  obtain ⟨_, _, f1, i1⟩ := own_ints (k := .u8) ⟨k1, hbl⟩ m1 h1
  cases f1
  obtain ⟨_, _, f2, i2⟩ := own_ints (k := .u8) ⟨k2, hbl⟩ m2 h2
  cases f2
  obtain ⟨_, _, f3, i3⟩ := own_ints (k := .u64) ⟨k3, hbl⟩ m3 h3
  cases f3
  have aw : ∀ {A : Option Addr} {l c k : Nat} {e : TypeId} {zs : List Value}, w.ownsRow W.heap.size e 1 (.slice A l c) k zs → e ≠ 31 → Away r A := fun ho hne a ha e => by
    subst ha
    exact cells_apart h.res ho hne (by simp [Value.ownBlock, e])
  exact ⟨(h.box.set 2 _).set 3 _, h.res.kept hc h.ne.1, ⟨h.ne.1, h.ne.2.2⟩, ⟨i1, i2, i3, hv⟩, ⟨aw h.own1 (by decide), aw h.own2 (by decide), aw h.own3 (by decide)⟩, hbl⟩

theorem WE.out {M : ND} (h : WE W w g r M) : Cells (w.setRow r M.cells.toArray) r 31 M.cells ∧ M.At (w.setRow r M.cells.toArray) ∧ Below W.heap.size W (w.setRow r M.cells.toArray) :=
  ⟨row_set h.res M.cells, ⟨ints_chg h.nd.pre (row_chg _ _ _) h.away.1, ints_chg h.nd.lab (row_chg _ _ _) h.away.2.1, ints_chg h.nd.kid (row_chg _ _ _) h.away.2.2, h.nd.valw⟩, row_below h.below _ h.ne.2⟩
end

/-- The parameter's block, the result's block, and the package's table. -/
structure WS (W w : World) (g r : Nat) (N : ND) : Prop where
  box : Cells w g 31 N.cells
  res : Cells w r 31 ND.nil.cells
  nd : N.At w
  ne : r ≠ g ∧ W.heap.size ≤ g ∧ W.heap.size ≤ r
  below : Below W.heap.size W w

theorem WS.kept {W w w' : World} {g r : Nat} {N : ND} (h : WS W w g r N) (hb : Below w.heap.size w w') : WS W w' g r N :=
  ⟨h.box.kept (Chg.of_below (F := fun _ => False) hb) (fun f => f), h.res.kept (Chg.of_below (F := fun _ => False) hb) (fun f => f), h.nd.kept hb, h.ne, h.below.trans (hb.mono h.below.size)⟩

theorem WS.enter {w : World} {N : ND} (h : N.At w) : WS w ((w.alloc (.cells #[.slice N.A1 N.n1 N.c1, .int .u64 N.val, .slice N.A2 N.n2 N.c2, .slice N.A3 N.n3 N.c3] 31)).alloc (.cells #[.slice none 0 0, .int .u64 0, .slice none 0 0, .slice none 0 0] 31)) w.heap.size (w.heap.size + 1) N := by
  have b1 := (Below.refl w.heap.size w).alloc (Nat.le_refl _) (.cells N.cells.toArray 31)
  have b2 := b1.alloc (by simp) (.cells ND.nil.cells.toArray 31)
  have c1 := (Cells.new w N.cells 31).alloc (.cells ND.nil.cells.toArray 31)
  have c2 := Cells.new (w.alloc (.cells N.cells.toArray 31)) ND.nil.cells 31
  have e2 : (w.alloc (.cells N.cells.toArray 31)).heap.size = w.heap.size + 1 := by simp
  rw [e2] at c2
  exact ⟨c1, c2, h.kept b2, ⟨by omega, Nat.le_refl _, by omega⟩, b2⟩

theorem WS.none {W w : World} {g r : Nat} {N : ND} (h : WS W w g r N) : Cells (w.setRow r ND.nil.cells.toArray) r 31 ND.nil.cells ∧ Below W.heap.size W (w.setRow r ND.nil.cells.toArray) :=
  ⟨row_set h.res _, row_below h.below _ h.ne.2.2⟩

/-- The node's own copy is stored over the parameter. -/
theorem WS.own {W w w4 : World} {g r : Nat} {N M : ND} (h : WS W w g r N) (ho : OwnN w w4 M) : WT W (w4.setRow g M.cells.toArray) g r M (.slice M.A2 M.n2 M.c2) M.n2 M.lab (.slice M.A3 M.n3 M.c3) M.n3 M.kid ∧ (∀ b, (Value.slice M.A1 M.n1 M.c1).ownBlock = some b → (Value.slice M.A2 M.n2 M.c2).ownBlock ≠ some b) := by
  have h4 := h.kept ho.below
  have hc := row_chg w4 g M.cells.toArray
  have hl := h.below.size
  have hbl : Below W.heap.size W (w4.setRow g M.cells.toArray) := row_below h4.below _ h.ne.2.1
  exact ⟨⟨row_set h4.box _, h4.res.kept hc h.ne.1, h.ne, own_kept (Joins.ownsRow_le ho.own1 hl) hc (fun k hk e => cells_apart h4.box ho.own1 (by decide) (e ▸ hk)), own_kept (Joins.ownsRow_le ho.own2 hl) hc (fun k hk e => cells_apart h4.box ho.own2 (by decide) (e ▸ hk)), own_kept (Joins.ownsRow_le ho.own3 hl) hc (fun k hk e => cells_apart h4.box ho.own3 (by decide) (e ▸ hk)), hbl⟩, ho.apart⟩

/-- A list with one more at its place. -/
def insL (l : List Int) (i : Nat) (x : Int) : List Int := l.take i ++ (x :: l.drop i)

theorem ins_map (l : List Int) (i : Nat) (x : Int) (k : IntKind) : (l.map (Value.int k)).take i ++ ([.int k x] ++ (l.map (Value.int k)).drop i) = (insL l i x).map (Value.int k) := by simp [insL]

theorem mem_ins {l : List Int} {i : Nat} {x y : Int} (h : y ∈ insL l i x) : y ∈ l ∨ y = x := by
  unfold insL at h
  rcases List.mem_append.1 h with h | h
  · exact .inl (List.mem_of_mem_take h)
  · rcases List.mem_cons.1 h with h | h
    · exact .inr h
    · exact .inl (List.mem_of_mem_drop h)

/-- What With leaves: N with kid y at label x. -/
def WithN (N : ND) (x y : Int) (M : ND) : Prop := ∃ i, i ≤ N.n2 ∧ Srch N.lab x N.n2 i false ∧ M.pre = N.pre ∧ M.val = N.val ∧ M.lab = insL N.lab i x ∧ M.kid = insL N.kid i y ∧ M.n3 = N.n3 + 1

def WithP (N : ND) (x y : Int) (w : World) (e : Ending) (w' : World) : Prop := ∃ M : ND, e = .returned (.tuple #[M.v, .bool true]) ∧ WithN N x y M ∧ M.At w' ∧ Below w.heap.size w w'

/-- What a growth leaves of other blocks. -/
def KeepB (w w' : World) (v : Value) : Prop := ∀ b T cs, Cells w b T cs → v.ownBlock ≠ some b → Cells w' b T cs

/-- What Insert makes of the labels. -/
def In2 (W : World) (g r : Nat) (N : ND) (n : Nat) (zs : List Int) (v2 v3 : Value) (m : Nat) (ys : List Int) (w : World) (e : Ending) (w' : World) : Prop :=
  ∃ A c, e = .returned (.slice A n c) ∧ Hid (WT W w' g r N (.slice A n c) n zs v3 m ys) ∧ Hid (KeepB w w' v2)
def In3 (W : World) (g r : Nat) (N : ND) (m : Nat) (zs : List Int) (v2 v3 : Value) (n : Nat) (xs : List Int) (w : World) (e : Ending) (w' : World) : Prop :=
  ∃ A c, e = .returned (.slice A m c) ∧ Hid (WT W w' g r N v2 n xs (.slice A m c) m zs) ∧ Hid (KeepB w w' v3)

theorem in2 {W w : World} {g r n m : Nat} {N : ND} {v2 v3 : Value} {xs ys : List Int} (h : Hid (WT W w g r N v2 n xs v3 m ys)) (ha : Hid (∀ b, (Value.slice N.A1 N.n1 N.c1).ownBlock = some b → v2.ownBlock ≠ some b)) (i : Nat) (hi : i ≤ n) (hn : n ≤ 1000) (x : Int) (vb : Nat) (hv : Cells w vb 5 [.int .u8 x]) (hvb : v2.ownBlock ≠ some vb) :
    Calls Tryd.prog 34 #[v2, .int .i64 i, .slice (some ⟨vb, 0, none⟩) 1 1] w (In2 W g r N (n + 1) (insL xs i x) v2 v3 m ys w) := by
  refine Calls.mono (ins8_chg W w v2 n i (xs.map (.int .u8)) [.int .u8 x] vb h.out.out2 hi hn hv rfl (by simp [Value.oneCell']) (fun u hu => by obtain ⟨z, _, rfl⟩ := List.mem_map.1 hu; rfl) hvb) ?_
  rintro e w' ⟨v', rfl, HO, HC⟩
  rw [ins_map] at HO
  obtain ⟨A, c, rfl⟩ := HO.out.slice
  exact ⟨A, c, rfl, Lib.hid (h.out.turn2 ha.out HO.out HC.out), Lib.hid (fun b T cs hb hne => hb.kept HC.out hne)⟩

theorem in3 {W w : World} {g r n m : Nat} {N : ND} {v2 v3 : Value} {xs ys : List Int} (h : Hid (WT W w g r N v2 n xs v3 m ys)) (i : Nat) (hi : i ≤ m) (hn : m ≤ 1000) (x : Int) (vb : Nat) (hv : Cells w vb 23 [.int .u64 x]) (hvb : v3.ownBlock ≠ some vb) :
    Calls Tryd.prog 35 #[v3, .int .i64 i, .slice (some ⟨vb, 0, none⟩) 1 1] w (In3 W g r N (m + 1) (insL ys i x) v2 v3 n xs w) := by
  refine Calls.mono (ins64_chg W w v3 m i (ys.map (.int .u64)) [.int .u64 x] vb h.out.out3 hi hn hv rfl (by simp [Value.oneCell']) (fun u hu => by obtain ⟨z, _, rfl⟩ := List.mem_map.1 hu; rfl) hvb) ?_
  rintro e w' ⟨v', rfl, HO, HC⟩
  rw [ins_map] at HO
  obtain ⟨A, c, rfl⟩ := HO.out.slice
  exact ⟨A, c, rfl, Lib.hid (h.out.turn3 HO.out HC.out), Lib.hid (fun b T cs hb hne => hb.kept HC.out hne)⟩

theorem KeepB.at {w w' : World} {v : Value} {b : Nat} {T : TypeId} {cs : List Value} (h : Hid (KeepB w w' v)) (hb : Cells w b T cs) (hne : v.ownBlock ≠ some b) : Cells w' b T cs := h.out b T cs hb hne

theorem new1 (w : World) (v : Value) (T : TypeId) : Cells (w.alloc (.cells #[v] T)).drew w.heap.size T [v] := Cells.new w [v] T
theorem new2 (w : World) (v : Value) (T : TypeId) (o : Obj) : Cells ((w.alloc (.cells #[v] T)).alloc o).drew w.heap.size T [v] := (Cells.new w [v] T).alloc o
theorem new3 (w : World) (v : Value) (T : TypeId) (o : Obj) : Cells ((w.alloc o).alloc (.cells #[v] T)).drew (w.heap.size + 1) T [v] := by
  have := Cells.new (w.alloc o) [v] T
  rw [show (w.alloc o).heap.size = w.heap.size + 1 by simp] at this
  exact this
theorem new4 (w : World) (v : Value) (T : TypeId) : Cells (w.alloc (.cells #[v] T)) w.heap.size T [v] := Cells.new w [v] T

theorem own_lt {w : World} {base : Nat} {e : TypeId} {v : Value} {n : Nat} {xs : List Value} (h : w.ownsRow base e 1 v n xs) : ∀ k, w.heap.size ≤ k → v.ownBlock ≠ some k := fun k hk e => by
  obtain ⟨_, _, h1, _⟩ := own_block h e
  have := (Array.getElem?_eq_some_iff.1 h1).1
  omega

theorem ins_wf {k : IntKind} {l : List Int} {i : Nat} {x : Int} (h : ∀ y ∈ l, (Lit.int k y).wf = true) (hx : (Lit.int k x).wf = true) : ∀ y ∈ insL l i x, (Lit.int k y).wf = true := fun y hy => by
  rcases mem_ins hy with hy | rfl
  · exact h y hy
  · exact hx

theorem u8_wf {x : Int} (h0 : 0 ≤ x) (h1 : x < 16) : (Lit.int .u8 x).wf = true := by
  simp [Lit.wf, IntKind.min, IntKind.max, IntKind.bits, IntKind.signed]; omega

theorem with_is {N M : ND} {x y : Int} {i : Nat} {A2 A3 : Option Addr} {c2 c3 : Nat} (h : Eqn M N) (hs : Srch N.lab x N.n2 i false) (h3 : M.n3 = N.n3) :
    WithN N x y { M with A2 := A2, n2 := M.n2 + 1, c2 := c2, lab := insL M.lab i x, A3 := A3, n3 := M.n3 + 1, c3 := c3, kid := insL M.kid i y } := by
  unfold Eqn at h
  simp only [Prod.mk.injEq] at h
  exact ⟨i, hs.le, hs, h.1, h.2.1, by rw [← h.2.2.1], by rw [← h.2.2.2], by rw [← h3]⟩


set_option maxHeartbeats 4000000 in
theorem with_yes (N : ND) (x y : Int) (w : World) (h : N.At w) (hr : RightP N) (hx : x ∉ N.lab) (hx0 : 0 ≤ x) (hx16 : x < 16) (hy : y ≠ 0) (hyw : (Lit.int .u64 y).wf = true) :
    Calls Tryd.prog 19 #[N.v, .int .u8 x, .int .u64 y] w (WithP N x y w) := by
  have h16 : N.n2 ≤ 16 := by have := lab_le hr.2.2.2 h.lab; have := h.lab.1; omega
  have h23 : N.n2 = N.n3 := by have := hr.2.1; have := h.lab.1; have := h.kid.1; omega
  have h15 : N.n1 ≤ 1000 := by have := (packB_take hr.1).1; have := h.pre.1; omega
  have HS := Lib.hid (WS.enter h)
  have HR := Lib.hid hr
  have HNX := Lib.hid hx
  have HYW := Lib.hid hyw
  have HN := Lib.hid h
  have H23 := Lib.hid h23
  have hb1 : decide ((16 : Int) ≤ x) = false := decide_eq_false (by omega)
  have hb2 : (y == 0) = false := by simpa using hy
  clear h hr hx hyw h23 hy
  unfold ND.v
  go_enter Tryd.func19, Tryd.ntmps19
  go_upto_region 1 with (fail)
  generalize hW : World.alloc (World.alloc w _) _ = W1 at *
  clear hW
  go_wp2_with (refine wpList_load_row rfl 31 _ rfl _ rfl 31 (ND.cells N).toArray (0, 0) _ HS.out.box Tryd.underlying31 rfl rfl ?_)
  refine Calls.mono (at_any N x W1 HS.out.nd (by omega)) ?_
  rintro e2 w2 ⟨i, b, rfl, HSR, hb2'⟩
  have HS2 := Lib.hid (HS.out.kept hb2')
  obtain rfl : b = false := by
    cases b with
    | false => rfl
    | true =>
      obtain ⟨h1, h2⟩ := HSR.out.is.1 rfl
      exact absurd (h2 ▸ getD_mem (by rw [HN.out.lab.1]; exact h1)) HNX.out
  clear HS hb2'
  go_wp2_with (refine wpList_load_row rfl 31 _ rfl _ rfl 31 (ND.cells N).toArray (0, 0) _ HS2.out.box Tryd.underlying31 rfl rfl ?_)
  refine Calls.mono (right_any N w2 HS2.out.nd true (by simpa using HR.out)) ?_
  rintro e3 w3 ⟨rfl, hb3⟩
  have HS3 := Lib.hid (HS2.out.kept hb3)
  clear HS2 hb3
  go_wp2_with (refine wpList_load_row rfl 31 _ rfl _ rfl 31 (ND.cells N).toArray (0, 0) _ HS3.out.box Tryd.underlying31 rfl rfl ?_)
  refine Calls.mono (own_any N w3 HS3.out.nd h15 (by omega) (by have := H23.out; omega)) ?_
  rintro e4 w4 ⟨M, rfl, HQ, HO⟩
  have HBX := Lib.hid (HS3.out.kept HO.out.below)
  obtain ⟨ht, ha⟩ := HS3.out.own HO.out
  have HT := Lib.hid ht
  have HA := Lib.hid ha
  clear ht ha
  go_upto_region 5 with (refine wpList_store_row rfl 31 _ _ rfl w.heap.size M.cells.toArray rfl rfl 31 _ HBX.out.box size31 rfl (cells_one _) ?_)
  generalize hW : World.setRow _ _ _ = W5 at *
  clear hW HBX HS3
  have HL2 := Lib.hid (own_lt HT.out.own2)
  have HL3 := Lib.hid (own_lt HT.out.own3)
  have hq0 := HT.out.S.1
  have hq00 := HT.out.S.2
  have hq1 := fun o => (HT.out.alloc o).S.1
  have hq2 := fun o => (HT.out.alloc o).S.2
  have hq3 := fun o p => ((HT.out.alloc o).alloc p).S.1
  have hq4 := fun o p => ((HT.out.alloc o).alloc p).S.2
  have HM := Lib.hid HO.out.at_
  have hm2 : M.n2 = N.n2 := by
    have h1 := HM.out.lab.1
    have h2 := HN.out.lab.1
    have h3 := HQ.out
    unfold Eqn at h3
    simp only [Prod.mk.injEq] at h3
    rw [h3.2.2.1] at h1
    omega
  have hm3 : M.n3 = N.n3 := by
    have h1 := HM.out.kid.1
    have h2 := HN.out.kid.1
    have h3 := HQ.out
    unfold Eqn at h3
    simp only [Prod.mk.injEq] at h3
    rw [h3.2.2.2] at h1
    omega
  have HI : Hid (i ≤ M.n2 ∧ i ≤ M.n3 ∧ M.n2 ≤ 1000 ∧ M.n3 ≤ 1000) := Lib.hid (by have := HSR.out.le; have := H23.out; omega)
  have HM3 := Lib.hid hm3
  clear hm2 hm3 HO h15
  go_region_law (first | (go_simp; go_at_call 34; refine Calls.mono (in2 (W := w) (g := w.heap.size) (r := w.heap.size + 1) (N := M) (n := M.n2) (m := M.n3) (v3 := .slice M.A3 M.n3 M.c3) (xs := M.lab) (ys := M.kid) (by first | with_reducible exact Lib.hid (HT.out.alloc _).drew | with_reducible exact Lib.hid ((HT.out.alloc _).alloc _).drew) HA i HI.out.1 HI.out.2.2.1 x _ (by first | with_reducible exact new1 _ _ _ | with_reducible exact new2 _ _ _ _ | with_reducible exact new3 _ _ _ _) (HL2.out _ (by simp))) ?_; rintro e6 w6 ⟨A6, c6, rfl, HT6, HK6⟩; have hk1 := HT6.out.S.1; have hk2 := HT6.out.S.2; have hk3 := fun o => (HT6.out.alloc o).S.1; have hk4 := fun o => (HT6.out.alloc o).S.2) | (go_simp; go_at_call 35; refine Calls.mono (in3 (W := w) (g := w.heap.size) (r := w.heap.size + 1) (N := M) (n := M.n2 + 1) (m := M.n3) (v2 := .slice A6 (M.n2 + 1) c6) (xs := insL M.lab i x) (ys := M.kid) (by first | with_reducible exact HT6 | with_reducible exact Lib.hid (HT6.out.alloc _)) i HI.out.2.1 HI.out.2.2.2 y _ (by first | with_reducible exact new4 _ _ _ | with_reducible exact KeepB.at HK6 (new2 _ _ _ _) (HL2.out _ (by simp)) | with_reducible exact KeepB.at HK6 (new3 _ _ _ _) (HL2.out _ (by simp))) (by first | exact HL3.out _ (by simp) | exact own_lt HT6.out.own3 _ (by simp))) ?_; rintro e7 w7 ⟨A7, c7, rfl, HT7, HK7⟩; have hs2 := HT7.out.S.1; have hs3 := HT7.out.S.2; have hz2 := HT7.out.Z.1; have hz3 := HT7.out.Z.2))
  all_goals
    have HW := Lib.hid (HT7.out.stored HM.out.valw HM.out.pre.2.2.1 (ins_wf HM.out.lab.2.2.1 (u8_wf hx0 hx16)) (ins_wf HM.out.kid.2.2.1 HYW.out) (by have := HM.out.pre.2.1; exact this) (by have := HI.out; simp only [maxLen]; omega) (by have := HI.out; simp only [maxLen]; omega))
    clear hq0 hq00 hq1 hq2 hq3 hq4 hk1 hk2 hk3 hk4 hs2 hs3 hz2 hz3 HT HT6 HT7 HK6 HK7
    generalize hW : World.setCell (World.setCell w7 _ _) _ _ = W8 at *
    clear hW
    have HF := Lib.hid HW.out.out
    go_wp2_with (first | (refine wpList_load_row rfl 31 _ rfl _ rfl 31 (ND.cells _).toArray (0, 0) _ HW.out.box Tryd.underlying31 rfl size31 ?_) | (refine wpList_store_row rfl 31 _ _ rfl (w.heap.size + 1) (ND.cells _).toArray rfl rfl 31 _ HW.out.res size31 rfl (cells_one _) ?_))
    refine bodyPost_ret (res_one rfl _ _ (w.heap.size + 1) 31 (ND.cells _).toArray (0, 0) _ rfl HF.out.1 Tryd.underlying31 rfl size31) rfl ?_
    exact ⟨_, rfl, with_is HQ.out HSR.out HM3.out, HF.out.2.1, HF.out.2.2⟩
end Go.Proofs.YtmfomkmdfddhaaaDoor.With9
