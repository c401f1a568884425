/- Layer 9's node: Decode of any words. -/
import Derived.Test.YtmfomkmdfddhaaaDoorBack9
import Derived.Deep.RegionHeld3
namespace Go.Proofs.YtmfomkmdfddhaaaDoor.DecB
open Go.RowKit Go.Proofs.YtmfomkmdfddhaaaDoor.Mem Go.Proofs.YtmfomkmdfddhaaaDoor.Read Go.Proofs.YtmfomkmdfddhaaaDoor.Out Go.Proofs.YtmfomkmdfddhaaaDoor.Nib Go.Proofs.YtmfomkmdfddhaaaDoor.Node Go.Proofs.YtmfomkmdfddhaaaDoor.Slc Go.Proofs.YtmfomkmdfddhaaaDoor.Res Go.Proofs.YtmfomkmdfddhaaaDoor.Dec Go.Proofs.YtmfomkmdfddhaaaDoor.Kid Go.Proofs.YtmfomkmdfddhaaaDoor.Words Go.Proofs.YtmfomkmdfddhaaaDoor.Back Go.Proofs.YtmfomkmdfddhaaaDoor.Open9

/-- A node that is being built, whose labels and kids are the call's own. -/
structure DecO (W w : World) (r g : Nat) (N : ND) : Prop where
  dec : DecS W w r g N
  own2 : w.ownsRow W.heap.size 5 1 (.slice N.A2 N.n2 N.c2) N.n2 (N.lab.map (.int .u8))
  own3 : w.ownsRow W.heap.size 23 1 (.slice N.A3 N.n3 N.c3) N.n3 (N.kid.map (.int .u64))
  off : ∀ a, N.A1 = some a → a.block < w.heap.size ∧ (Value.slice N.A2 N.n2 N.c2).ownBlock ≠ some a.block ∧ (Value.slice N.A3 N.n3 N.c3).ownBlock ≠ some a.block

/-- While both grow: from wr on, the labels are v2 and the kids v3. -/
structure Two (W wr w : World) (r g : Nat) (N : ND) (v2 : Value) (n : Nat) (xs : List Int) (v3 : Value) (m : Nat) (ys : List Int) : Prop where
  own2 : w.ownsRow W.heap.size 5 1 v2 n (xs.map (.int .u8))
  own3 : w.ownsRow W.heap.size 23 1 v3 m (ys.map (.int .u64))
  chg : Chg (fun b => (Value.slice N.A2 N.n2 N.c2).ownBlock = some b ∨ (Value.slice N.A3 N.n3 N.c3).ownBlock = some b) wr w
  in2 : ∀ b, v2.ownBlock = some b → (Value.slice N.A2 N.n2 N.c2).ownBlock = some b ∨ wr.heap.size ≤ b
  in3 : ∀ b, v3.ownBlock = some b → (Value.slice N.A3 N.n3 N.c3).ownBlock = some b ∨ wr.heap.size ≤ b

section
variable {W wr w w' : World} {r g n m : Nat} {N : ND} {v2 v3 : Value} {xs ys : List Int}

theorem own_block {e : TypeId} {base n : Nat} {v : Value} {xs : List Value} (h : w.ownsRow base e 1 v n xs) {b : Nat} (hb : v.ownBlock = some b) : ∃ cur fr, w.heap[b]? = some (.cells cur e fr) ∧ base ≤ b := by
  rcases h.2 with ⟨rfl, _⟩ | ⟨g, cap, cur, rfl, hge, hg, _⟩
  · simp [Value.ownBlock] at hb
  · simp [Value.ownBlock] at hb
    subst hb
    exact ⟨_, _, hg, hge⟩

/-- Rows of unlike types lie in unlike blocks. -/
theorem own_apart {e1 e2 : TypeId} {b1 b2 n m : Nat} {u v : Value} {xs ys : List Value} (h : w.ownsRow b1 e1 1 u n xs) (k : w.ownsRow b2 e2 1 v m ys) (hne : e1 ≠ e2) (hu : u.ownBlock ≠ none) : v.ownBlock ≠ u.ownBlock := by
  intro e
  cases hb : u.ownBlock with
  | none => exact hu hb
  | some b =>
    rw [hb] at e
    obtain ⟨_, _, h1, _⟩ := own_block h hb
    obtain ⟨_, _, h2, _⟩ := own_block k e
    rw [h1] at h2
    cases h2
    exact hne rfl

theorem own_grown {base : Nat} {e : TypeId} {v : Value} {n : Nat} {xs : List Value} {row : Option Nat} (h : w.ownsRow base e 1 v n xs) (hg : w.grownBy w' row) (hne : v.ownBlock = none ∨ v.ownBlock ≠ row) : w'.ownsRow base e 1 v n xs := h.kept hg hne

theorem Two.start (h : DecO W w r g N) : Two W w w r g N (.slice N.A2 N.n2 N.c2) N.n2 N.lab (.slice N.A3 N.n3 N.c3) N.n3 N.kid :=
  ⟨h.own2, h.own3, Chg.refl _ _, fun _ h => .inl h, fun _ h => .inl h⟩

theorem Two.alloc (h : Two W wr w r g N v2 n xs v3 m ys) (o : Obj) : Two W wr (w.alloc o) r g N v2 n xs v3 m ys :=
  ⟨h.own2.alloc o, h.own3.alloc o, h.chg.alloc o, h.in2, h.in3⟩

theorem Two.drew (h : Two W wr w r g N v2 n xs v3 m ys) : Two W wr w.drew r g N v2 n xs v3 m ys :=
  ⟨h.own2, h.own3, h.chg.drew, h.in2, h.in3⟩

theorem two_apart (h : Two W wr w r g N v2 n xs v3 m ys) : (v3.ownBlock = none ∨ v3.ownBlock ≠ v2.ownBlock) := by
  cases h3 : v3.ownBlock with
  | none => exact .inl rfl
  | some b =>
    refine .inr ?_
    rw [← h3]
    intro e
    exact own_apart h.own2 h.own3 (by decide) (by rw [← e, h3]; simp) e

theorem Two.grow2 (h : Two W wr w r g N v2 n xs v3 m ys) (_ : W.heap.size ≤ w.heap.size) {x : Int} {g' c' : Nat} (ho : w'.ownsRow W.heap.size 5 1 (.slice (some ⟨g', 0, none⟩) (n + 1) c') (n + 1) (xs.map (.int .u8) ++ [.int .u8 x])) (hg : w.grownBy w' v2.ownBlock) (hw : v2.ownBlock = some g' ∨ g' = w.heap.size) (hwr : wr.heap.size ≤ w.heap.size) :
    Two W wr w' r g N (.slice (some ⟨g', 0, none⟩) (n + 1) c') (n + 1) (xs ++ [x]) v3 m ys := by
  refine ⟨by rw [List.map_append]; exact ho, own_grown h.own3 hg (two_apart h), h.chg.grown hg (fun k hk hlt => (h.in2 k hk).elim .inl (fun e => by omega)), fun b hb2 => ?_, h.in3⟩
  have e : g' = b := by simpa [Value.ownBlock] using hb2
  subst e
  rcases hw with hw | hw
  · exact h.in2 _ hw
  · exact .inr (by omega)

theorem Two.grow3 (h : Two W wr w r g N v2 n xs v3 m ys) (_ : W.heap.size ≤ w.heap.size) {x : Int} {g' c' : Nat} (ho : w'.ownsRow W.heap.size 23 1 (.slice (some ⟨g', 0, none⟩) (m + 1) c') (m + 1) (ys.map (.int .u64) ++ [.int .u64 x])) (hg : w.grownBy w' v3.ownBlock) (hw : v3.ownBlock = some g' ∨ g' = w.heap.size) (hwr : wr.heap.size ≤ w.heap.size) :
    Two W wr w' r g N v2 n xs (.slice (some ⟨g', 0, none⟩) (m + 1) c') (m + 1) (ys ++ [x]) := by
  refine ⟨own_grown h.own2 hg ?_, by rw [List.map_append]; exact ho, h.chg.grown hg (fun k hk hlt => (h.in3 k hk).elim .inr (fun e => by omega)), h.in2, fun b hb2 => ?_⟩
  · rcases two_apart h with e | e
    · cases h2 : v2.ownBlock with
      | none => exact .inl rfl
      | some b => exact .inr (by rw [e]; simp)
    · exact .inr (fun e2 => e e2.symm)
  · have e : g' = b := by simpa [Value.ownBlock] using hb2
    subst e
    rcases hw with hw | hw
    · exact h.in3 _ hw
    · exact .inr (by omega)

/-- What a growth leaves of other cells. -/
def KeepC (w w' : World) (row : Option Nat) : Prop := ∀ p v, w.cell? p = some v → row ≠ some p.block → w'.cell? p = some v
theorem KeepC.of {row : Option Nat} (hg : w.grownBy w' row) : KeepC w w' row := fun _ _ h hne => hg.cell h (fun e => hne e.symm)

theorem Two.node {k k2 : Nat} {us vs : List Int} (h : DecO W wr r g N) (hT : Two W wr w r g N v2 k us v3 k2 vs) : ∀ b, (b = g ∨ b = r) → ∃ cs, w.heap[b]? = some (.cells cs 31 (0, 0)) ∧ wr.heap[b]? = some (.cells cs 31 (0, 0)) := by
  have hgb : g < wr.heap.size := h.dec.cells.lt
  have hrb : r < wr.heap.size := h.dec.res.lt
  have nrow : ∀ {e : TypeId} {v : Value} {k : Nat} {zs : List Value}, wr.ownsRow W.heap.size e 1 v k zs → e ≠ 31 → ∀ b, (b = g ∨ b = r) → v.ownBlock ≠ some b := by
    intro e v k zs ho hne b hb e2
    obtain ⟨cur, fr, h1, _⟩ := own_block ho e2
    rcases hb with rfl | rfl
    · have := h.dec.cells; unfold Cells at this; rw [this] at h1; cases h1; exact hne rfl
    · have := h.dec.res; unfold Cells at this; rw [this] at h1; cases h1; exact hne rfl
  intro b hb
  have hlt : b < wr.heap.size := by rcases hb with rfl | rfl <;> assumption
  have hk := hT.chg.block b hlt (fun hf => by
    rcases hf with hf | hf
    · exact nrow h.own2 (by decide) b hb hf
    · exact nrow h.own3 (by decide) b hb hf)
  rcases hb with rfl | rfl
  · exact ⟨_, hk.trans h.dec.cells, h.dec.cells⟩
  · exact ⟨_, hk.trans h.dec.res, h.dec.res⟩

theorem Two.cells {k k2 : Nat} {us vs : List Int} (h : DecO W wr r g N) (hT : Two W wr w r g N v2 k us v3 k2 vs) : Cells w g 31 N.cells := by
  obtain ⟨cs, h1, h2⟩ := hT.node h g (.inl rfl)
  have := h.dec.cells
  unfold Cells at this ⊢
  rw [this] at h2
  rw [h1, h2]

theorem Two.S {k k2 : Nat} {us vs : List Int} (h : DecO W wr r g N) (hT : Two W wr w r g N v2 k us v3 k2 vs) : w.cell? ⟨g, 2, none⟩ = some (.slice N.A2 N.n2 N.c2) ∧ w.cell? ⟨g, 3, none⟩ = some (.slice N.A3 N.n3 N.c3) := by
  have := hT.cells h
  exact ⟨this.cell 2, this.cell 3⟩

theorem DecO.new (h : DecO W w r g N) : ∀ k, w.heap.size ≤ k → (Value.slice N.A2 N.n2 N.c2).ownBlock ≠ some k := fun k hk e => by
  obtain ⟨_, _, h1, _⟩ := own_block h.own2 e
  have := (Array.getElem?_eq_some_iff.1 h1).1
  omega

/-- Both grew: the node has one kid more. -/
theorem DecO.more (h : DecO W wr r g N) {A2 A3 : Option Addr} {c2 c3 : Nat} {x y : Int} (hT : Two W wr w r g N (.slice A2 (N.n2 + 1) c2) (N.n2 + 1) (N.lab ++ [x]) (.slice A3 (N.n3 + 1) c3) (N.n3 + 1) (N.kid ++ [y])) (h16 : N.n2 ≤ 16) (h17 : N.n3 ≤ 16)
    (hx : (Lit.int .u8 x).wf = true) (hy : (Lit.int .u64 y).wf = true) :
    DecO W ((w.setCell ⟨g, 2, none⟩ (.slice A2 (N.n2 + 1) c2)).setCell ⟨g, 3, none⟩ (.slice A3 (N.n3 + 1) c3)) r g { N with A2 := A2, n2 := N.n2 + 1, c2 := c2, lab := N.lab ++ [x], A3 := A3, n3 := N.n3 + 1, c3 := c3, kid := N.kid ++ [y] } := by
  have hgb : g < wr.heap.size := h.dec.cells.lt
  have hrb : r < wr.heap.size := h.dec.res.lt
  have hbs := h.dec.below.size
  have cellg := hT.node h
  have apart : ∀ {e : TypeId} {v : Value} {k : Nat} {zs : List Value}, w.ownsRow W.heap.size e 1 v k zs → e ≠ 31 → ∀ b, (b = g ∨ b = r) → v.ownBlock ≠ some b := by
    intro e v k zs ho hne b hb e2
    obtain ⟨cur, fr, h1, _⟩ := own_block ho e2
    obtain ⟨cs, h2, _⟩ := cellg b hb
    rw [h2] at h1
    cases h1
    exact hne rfl
  have away2 : Away g A2 ∧ Away r A2 := ⟨fun a ha e => by subst ha; exact apart hT.own2 (by decide) g (.inl rfl) (by simp [Value.ownBlock, e]), fun a ha e => by subst ha; exact apart hT.own2 (by decide) r (.inr rfl) (by simp [Value.ownBlock, e])⟩
  have away3 : Away g A3 ∧ Away r A3 := ⟨fun a ha e => by subst ha; exact apart hT.own3 (by decide) g (.inl rfl) (by simp [Value.ownBlock, e]), fun a ha e => by subst ha; exact apart hT.own3 (by decide) r (.inr rfl) (by simp [Value.ownBlock, e])⟩
  have hcg : Cells w g 31 N.cells := by
    obtain ⟨cs, h1, h2⟩ := cellg g (.inl rfl)
    have := h.dec.cells
    unfold Cells at this ⊢
    rw [this] at h2
    rw [h1, h2]
  have hcr : Cells w r 31 ND.nil.cells := by
    obtain ⟨cs, h1, h2⟩ := cellg r (.inr rfl)
    have := h.dec.res
    unfold Cells at this ⊢
    rw [this] at h2
    rw [h1, h2]
  have hge : ∀ b, (Value.slice N.A2 N.n2 N.c2).ownBlock = some b ∨ (Value.slice N.A3 N.n3 N.c3).ownBlock = some b → W.heap.size ≤ b := by
    rintro b (hb | hb)
    · obtain ⟨_, _, _, h⟩ := own_block h.own2 hb; exact h
    · obtain ⟨_, _, _, h⟩ := own_block h.own3 hb; exact h
  have hbl : Below W.heap.size W w := ⟨hT.chg.os.trans h.dec.below.os, hT.chg.tape.trans h.dec.below.tape, hT.chg.output.trans h.dec.below.output, Nat.le_trans hbs hT.chg.size, fun k hk => (hT.chg.block k (Nat.lt_of_lt_of_le hk hbs) (fun hf => by have := hge k hf; omega)).trans (h.dec.below.block k hk)⟩
  obtain ⟨A2', d2, e2, i2⟩ := own_ints (k := .u8) ⟨hT.own2, hbl⟩ (by simp only [maxLen]; omega) (fun z hz => by
    rcases List.mem_append.1 hz with hz | hz
    · exact h.dec.nd.lab.2.2.1 z hz
    · obtain rfl := List.mem_singleton.1 hz; exact hx)
  cases e2
  obtain ⟨A3', d3, e3, i3⟩ := own_ints (k := .u64) ⟨hT.own3, hbl⟩ (by simp only [maxLen]; omega) (fun z hz => by
    rcases List.mem_append.1 hz with hz | hz
    · exact h.dec.nd.kid.2.2.1 z hz
    · obtain rfl := List.mem_singleton.1 hz; exact hy)
  cases e3
  have ipre : Ints w .u8 N.A1 N.n1 N.pre := by
    refine ⟨h.dec.nd.pre.1, h.dec.nd.pre.2.1, h.dec.nd.pre.2.2.1, fun h0 => ?_⟩
    obtain ⟨b, off, e, hlt, hcs⟩ := h.dec.nd.pre.2.2.2 h0
    refine ⟨b, off, e, Nat.lt_of_lt_of_le hlt hT.chg.size, fun i hi => hT.chg.cell (p := ⟨b, off + i, none⟩) (hcs i hi) ?_⟩
    rintro (hf | hf)
    · exact (h.off _ e).2.1 hf
    · exact (h.off _ e).2.2 hf
  have hc : Chg (· = g) w ((w.setCell ⟨g, 2, none⟩ (.slice A2 (N.n2 + 1) c2)).setCell ⟨g, 3, none⟩ (.slice A3 (N.n3 + 1) c3)) := ((Chg.refl (· = g) w).setCell (fun _ => rfl) _).setCell (fun _ => rfl) _
  have hgW : W.heap.size ≤ g := by have := h.dec.ge; have := h.dec.lt; omega
  have hbl2 : Below W.heap.size W ((w.setCell ⟨g, 2, none⟩ (.slice A2 (N.n2 + 1) c2)).setCell ⟨g, 3, none⟩ (.slice A3 (N.n3 + 1) c3)) := ⟨hc.os.trans hbl.os, hc.tape.trans hbl.tape, hc.output.trans hbl.output, Nat.le_trans hbl.size hc.size, fun k hk => (hc.block k (Nat.lt_of_lt_of_le hk hbl.size) (by omega)).trans (hbl.block k hk)⟩
  refine ⟨⟨hcr.kept hc (by have := h.dec.lt; omega), h.dec.lt, (hcg.set 2 _).set 3 _, ⟨ints_chg ipre hc h.dec.a1.1, ints_chg i2 hc away2.1, ints_chg i3 hc away3.1, h.dec.nd.valw⟩, h.dec.a1, away2, away3, hbl2, h.dec.ge⟩, ?_, ?_, fun a ha => ⟨Nat.lt_of_lt_of_le (h.off a ha).1 (Nat.le_trans hT.chg.size hc.size), fun e => ?_, fun e => ?_⟩⟩
  · exact own_kept hT.own2 hc (fun k hk => fun e => by
      subst e
      cases A2 with
      | none => simp [Value.ownBlock] at hk
      | some a => exact away2.1 a rfl (by simpa [Value.ownBlock] using hk))
  · exact own_kept hT.own3 hc (fun k hk => fun e => by
      subst e
      cases A3 with
      | none => simp [Value.ownBlock] at hk
      | some a => exact away3.1 a rfl (by simpa [Value.ownBlock] using hk))
  · rcases hT.in2 _ e with hf | hf
    · exact (h.off a ha).2.1 hf
    · have := (h.off a ha).1; omega
  · rcases hT.in3 _ e with hf | hf
    · exact (h.off a ha).2.2 hf
    · have := (h.off a ha).1; omega
end

/-- append of one label, as one step of a region that draws its order. -/
theorem step2 {ops : Array Oper} {o : Oper} {a : Act} {W wr w : World} {r g n m : Nat} {N : ND} {v2 v3 : Value} {xs ys : List Int} {K : Act → World → Prop} {Q : Exit → Act → World → Prop} {E : Prop} (hgd : o.guard = none) (s x : Operand)
    (ho : o.op = .call { callee := .builtin .append, args := #[s, x], argTypes := #[22, 22] })
    (h : Hid (Two W wr w r g N v2 n xs v3 m ys)) (hs : a.eval s = v2) (ad : Addr) (hx : a.eval x = .slice (some ad) 1 1) (u : Int) (hu : w.cell? ad = some (.int .u8 u)) (hn : n ≤ 1000) (hW : W.heap.size ≤ wr.heap.size)
    (k : ∀ g' c' w', Hid (Two W wr w' r g N (.slice (some ⟨g', 0, none⟩) (n + 1) c') (n + 1) (xs ++ [u]) v3 m ys) → Hid (KeepC w w' v2.ownBlock) → K (a.put o.dst (.slice (some ⟨g', 0, none⟩) (n + 1) c')) w') :
    if Region.wanted o (yielded ops a.tmps) = true then Oper.wp Tryd.prog o a w K Q else E := by
  obtain ⟨i, hi, hz0, hz1, hz2⟩ := info_parts info_u8
  have hsz := h.out.chg.size
  refine step_append_lies w hgd s x _ ho W.heap.size 5 i (.int .u8 0) 1 1 Tryd.underlying22 hi hz0 hz1 hz2 rfl (by decide) v2 n (xs.map (.int .u8)) hs h.out.own2 ad 1 1 [.int .u8 u] hx rfl (fun j v hj => ?_) (by simp [Value.oneCell']) (by decide) (by simp only [maxLen]; omega) (by omega) (by omega) w.heap.size rfl ?_
  · match j, hj with
    | 0, hj =>
      obtain rfl : Value.int .u8 u = v := by simpa using hj
      rw [show ad.add 0 = ad from by unfold Addr.add; split <;> simp_all]
      exact hu
  · intro g' c' w' h1 h2 h3 _
    exact k g' c' w' (Lib.hid (h.out.grow2 (Nat.le_trans hW hsz) h1 h2 h3 hsz)) (Lib.hid (KeepC.of h2))

theorem step3 {ops : Array Oper} {o : Oper} {a : Act} {W wr w : World} {r g n m : Nat} {N : ND} {v2 v3 : Value} {xs ys : List Int} {K : Act → World → Prop} {Q : Exit → Act → World → Prop} {E : Prop} (hgd : o.guard = none) (s x : Operand)
    (ho : o.op = .call { callee := .builtin .append, args := #[s, x], argTypes := #[24, 24] })
    (h : Hid (Two W wr w r g N v2 n xs v3 m ys)) (hs : a.eval s = v3) (ad : Addr) (hx : a.eval x = .slice (some ad) 1 1) (u : Int) (hu : w.cell? ad = some (.int .u64 u)) (hn : m ≤ 1000) (hW : W.heap.size ≤ wr.heap.size)
    (k : ∀ g' c' w', Hid (Two W wr w' r g N v2 n xs (.slice (some ⟨g', 0, none⟩) (m + 1) c') (m + 1) (ys ++ [u])) → Hid (KeepC w w' v3.ownBlock) → K (a.put o.dst (.slice (some ⟨g', 0, none⟩) (m + 1) c')) w') :
    if Region.wanted o (yielded ops a.tmps) = true then Oper.wp Tryd.prog o a w K Q else E := by
  obtain ⟨i, hi, hz0, hz1, hz2⟩ := info_parts info_u64
  have hsz := h.out.chg.size
  refine step_append_lies w hgd s x _ ho W.heap.size 23 i (.int .u64 0) 1 8 Tryd.underlying24 hi hz0 hz1 hz2 rfl (by decide) v3 m (ys.map (.int .u64)) hs h.out.own3 ad 1 1 [.int .u64 u] hx rfl (fun j v hj => ?_) (by simp [Value.oneCell']) (by decide) (by simp only [maxLen]; omega) (by omega) (by omega) w.heap.size rfl ?_
  · match j, hj with
    | 0, hj =>
      obtain rfl : Value.int .u64 u = v := by simpa using hj
      rw [show ad.add 0 = ad from by unfold Addr.add; split <;> simp_all]
      exact hu
  · intro g' c' w' h1 h2 h3 _
    exact k g' c' w' (Lib.hid (h.out.grow3 (Nat.le_trans hW hsz) h1 h2 h3 hsz)) (Lib.hid (KeepC.of h2))

theorem ints_wf {w : World} {k : IntKind} {A : Option Addr} {n : Nat} {L : List Int} (h : Ints w k A n L) {i : Nat} (hi : i < n) {x : Int} (hx : x = L.getD i 0) : (Lit.int k x).wf = true := by
  rw [hx]
  exact h.2.2.1 _ (getD_mem (by rw [h.1]; exact hi))

theorem new_at {w w2 : World} {v : Value} {T : TypeId} {n : Nat} (hw : w2.heap = (w.alloc (.cells #[v] T)).heap) (hn : n = w.heap.size) : w2.cell? ⟨n, 0, none⟩ = some v := by
  subst hn
  have := (Cells.new w [v] T).cell 0
  unfold World.cell? at this ⊢
  rw [hw]
  exact this

theorem new_at2 {w w2 : World} {v : Value} {T : TypeId} {o : Obj} {n : Nat} (hw : w2.heap = ((w.alloc (.cells #[v] T)).alloc o).heap) (hn : n = w.heap.size) : w2.cell? ⟨n, 0, none⟩ = some v := by
  subst hn
  have := ((Cells.new w [v] T).alloc o).cell 0
  unfold World.cell? at this ⊢
  rw [hw]
  exact this

/-- What Decode tells. -/
def DecP (L : List Int) (w : World) (e : Ending) (w' : World) : Prop := ∃ (N : ND) (r : Bool), e = .returned (.tuple #[N.v, .bool r]) ∧ N.At w' ∧ Below w.heap.size w w' ∧ DecW L N r

theorem unpd_lt {w w' : World} {x : Int} {a : Addr} {n c : Nat} (h : Unpd w w' x (.slice (some a) n c)) : a.block < w'.heap.size := by
  cases hb : unpB x with
  | true => exact ((h.1 hb).1.lt a.block rfl).2
  | false => have := (h.2 hb).1; cases this

set_option maxRecDepth 100000 in
set_option maxHeartbeats 4000000 in
theorem decode_big (A : Option Addr) (c : Nat) (L : List Int) (w : World) (h : Ints w .u64 A 32 L) (hl : LinesAt w) (hcap : 32 ≤ c) :
    Calls Tryd.prog 11 #[.slice A 32 c] w (DecP L w) := by
  have hlen := h.1
  obtain ⟨b, off, rfl, _, hc⟩ := h.2.2.2 (by decide)
  have HX := Lib.hid h
  have HL := Lib.hid hl
  obtain ⟨x1, hx1⟩ : ∃ x, x = L.getD 1 0 := ⟨_, rfl⟩
  obtain ⟨x2, hx2⟩ : ∃ x, x = L.getD 2 0 := ⟨_, rfl⟩
  have hw1 := wf_u64 (h.2.2.1 x1 (by rw [hx1]; exact getD_mem (by omega)))
  have hv2 := h.2.2.1 x2 (by rw [hx2]; exact getD_mem (by omega))
  have HX1 := Lib.hid hx1
  have HX2 := Lib.hid hx2
  have HV2 := Lib.hid hv2
  clear h hl hc hx1 hx2 hv2
  go_enter Tryd.func11, Tryd.ntmps11
  go_wp2_with fail
  have HD := Lib.hid (DecS.new (Below.refl w.heap.size w))
  generalize hW : World.alloc (World.alloc w _) _ = W1 at HD ⊢
  have hc1 := ints_cell (HX.out.kept HD.out.below) (i := 1) (by decide) HX1.out
  clear hW
  refine Calls.mono (words_any 1 8 (.inl ⟨rfl, rfl⟩) W1 (HL.out.kept HD.out.below)) ?_
  rintro e w1 ⟨rfl, rfl⟩
  go_wp2_with fail
  refine Calls.mono (words_any 2 32 (.inr ⟨rfl, rfl⟩) W1 (HL.out.kept HD.out.below)) ?_
  rintro e w1 ⟨rfl, rfl⟩
  go_wp2_with fail
  refine Calls.mono (unpack_any x1 W1 hw1.1 hw1.2) ?_
  rintro e w2 ⟨v1, rfl, HU⟩
  obtain ⟨A1, c1, rfl, hi1, ha1, hb1⟩ := unpd_ints HU.out
  have hl1 : ∀ a, A1 = some a → a.block < w2.heap.size := fun a ha => by
    subst ha
    exact unpd_lt HU.out
  obtain ⟨n1, hn1⟩ : ∃ n, n = (unpL x1).length := ⟨_, rfl⟩
  rw [← hn1] at hi1 ⊢
  have HI1 := Lib.hid hi1
  have HA1 := Lib.hid (⟨ha1 (w.heap.size + 1) HD.out.cells.lt, ha1 w.heap.size HD.out.res.lt⟩ : Away (w.heap.size + 1) A1 ∧ Away w.heap.size A1)
  have HL1 := Lib.hid hl1
  have HD2 := Lib.hid (HD.out.kept hb1)
  obtain ⟨u0, hg0, hz0⟩ := HD2.out.at 0 (by decide)
  clear hc1 HD HU hi1 ha1 hb1 hn1 hl1
  go_upto_region 5 with (fail)
  have HD3 := Lib.hid (HD2.out.setPre HI1.out HA1.out (c := c1))
  have HL3 : Hid (∀ a, A1 = some a → a.block < (World.setCell w2 ⟨w.heap.size + 1, 0, none⟩ (.slice A1 n1 c1)).heap.size) := Lib.hid (fun a ha => by simpa [World.setCell] using HL1.out a ha)
  generalize hW : World.setCell w2 _ _ = W3 at HD3 HL3 ⊢
  clear hW hg0 hz0 HD2 HI1 HL1
  have hc2 := ints_cell (HX.out.kept HD3.out.below) (i := 2) (by decide) HX2.out
  obtain ⟨u1, hg1, hz1⟩ := HD3.out.at 1 (by decide)
  go_upto_region 6 with (fail)
  have HD4 := Lib.hid (HD3.out.setVal HV2.out)
  have HL4 : Hid (∀ a, A1 = some a → a.block < (World.setCell W3 ⟨w.heap.size + 1, 1, none⟩ (.int .u64 x2)).heap.size) := Lib.hid (fun a ha => by simpa [World.setCell] using HL3.out a ha)
  generalize hW : World.setCell W3 _ _ = W4 at HD4 HL4 ⊢
  clear hW hg1 hz1 hc2 HD3 HL3
  go_wp2_with fail
  refine Calls.mono (words_any 1 8 (.inl ⟨rfl, rfl⟩) W4 (HL.out.kept HD4.out.below)) ?_
  rintro e w5 ⟨rfl, rfl⟩
  obtain ⟨N, hN⟩ : ∃ N : ND, N = ({ ND.nil with A1 := A1, n1 := n1, c1 := c1, pre := unpL x1, val := x2 } : ND) := ⟨_, rfl⟩
  have HO4 : Hid (DecO w W4 w.heap.size (w.heap.size + 1) N) := Lib.hid (by
    rw [hN]
    exact ⟨HD4.out, World.ownsRow_nil _ _ _ _, World.ownsRow_nil _ _ _ _, fun a ha => ⟨HL4.out a ha, by simp [ND.nil, Value.ownBlock], by simp [ND.nil, Value.ownBlock]⟩⟩)
  have HN : Hid (N.pre = unpL x1 ∧ N.val = x2 ∧ N.lab = labsTo L 0 ∧ N.kid = kidsTo L 0) := Lib.hid (by rw [hN]; exact ⟨rfl, rfl, rfl, rfl⟩)
  clear hN HD4 HL4 HA1
  go_wp2_with fail
  go_loopw [60] (fun v60 wr => ∃ (i : Nat) (N : ND), i ≤ 16 ∧ v60 = .int .i64 i ∧ Hid (DecO w wr w.heap.size (w.heap.size + 1) N) ∧ Hid (N.pre = unpL x1 ∧ N.val = x2 ∧ N.lab = labsTo L i ∧ N.kid = kidsTo L i)) (fun v60 _ => 16 - (intOf v60).toNat)
  case atStart => exact ⟨0, N, by omega, rfl, HO4, HN⟩
  case round =>
    clear HO4 HN N
    obtain ⟨i, N, hi, rfl, HO, HN⟩ := hrel
    by_cases hin : i < 16
    · obtain ⟨y, hy⟩ : ∃ y, y = kidsF L i := ⟨_, rfl⟩
      have hcy := ints_cell (HX.out.kept HO.out.dec.below) (i := 4 + i) (by omega) hy
      rw [← Nat.add_assoc] at hcy
      have HY := Lib.hid hy
      by_cases h0 : y = 0
      · have hyb : (y != 0) = false := by simpa using h0
        have HZ := Lib.hid h0
        clear hy h0
        go_wp2_with fail
        go_roundw
        case rel => exact ⟨i + 1, N, by omega, by go_num, HO, Lib.hid (by
          have hn := labs_no (L := L) (i := i) (by rw [← HY.out]; exact HZ.out)
          rw [hn.1, hn.2]; exact HN.out)⟩
        case measure => simp [intOf]; omega
      · have hyb : (y != 0) = true := by simpa using h0
        have HZ := Lib.hid h0
        have hf2 := HO.out.dec.cells.cell 2
        have hf3 := HO.out.dec.cells.cell 3
        simp only [ND.cells, List.getElem?_cons_zero, List.getElem?_cons_succ] at hf2 hf3
        clear hy h0
        have h16 : N.n2 ≤ 16 ∧ N.n3 ≤ 16 := by
          have h1 := HO.out.dec.nd.lab.1
          have h2 := HO.out.dec.nd.kid.1
          rw [HN.out.2.2.1] at h1
          rw [HN.out.2.2.2] at h2
          have := labs_len L i
          omega
        have HSZ : Hid (w.heap.size ≤ wr.heap.size) := Lib.hid HO.out.dec.below.size
        have HT0 := Lib.hid (Two.start HO.out)
        have HNE := Lib.hid HO.out.new
        have hwr : IntKind.u8.wrap (i : Int) = i := wraps_u8 i (by omega) (by omega)
        go_upto_region 15 with (fail)
        have H16 := Lib.hid h16
        clear h16
        have hq1 := fun o => (Two.S HO.out (HT0.out.alloc o)).1
        have hq2 := fun o => (Two.S HO.out (HT0.out.alloc o)).2
        have hq3 := fun o p => (Two.S HO.out ((HT0.out.alloc o).alloc p)).1
        have hq4 := fun o p => (Two.S HO.out ((HT0.out.alloc o).alloc p)).2
        go_region_law (first | (refine step2 rfl _ _ (by rfl) (W := w) (wr := wr) (r := w.heap.size) (g := w.heap.size + 1) (n := N.n2) (m := N.n3) (N := N) (v2 := .slice N.A2 N.n2 N.c2) (v3 := .slice N.A3 N.n3 N.c3) (xs := N.lab) (ys := N.kid) (by first | exact Lib.hid (HT0.out.alloc _).drew | exact Lib.hid ((HT0.out.alloc _).alloc _).drew | exact Lib.hid (HT0.out.alloc _)) (by rfl) ⟨_, 0, none⟩ (by rfl) (i : Int) (by first | exact new_at rfl (by simp) | exact new_at2 rfl (by simp)) (by have := H16.out.1; omega) HSZ.out ?_; intro g2 c2 w5 HT2 HK2; have hk2 := (Two.S HO.out HT2.out).1; have hk3 := (Two.S HO.out HT2.out).2; have hk4 := fun o => (Two.S HO.out (HT2.out.alloc o)).2) | (refine step3 rfl _ _ (by rfl) (W := w) (wr := wr) (r := w.heap.size) (g := w.heap.size + 1) (N := N) (n := N.n2 + 1) (m := N.n3) (xs := N.lab ++ [(i : Int)]) (ys := N.kid) (v3 := .slice N.A3 N.n3 N.c3) (by first | exact HT2 | exact Lib.hid (HT2.out.alloc _)) (by rfl) ⟨_, 0, none⟩ (by rfl) y (by first | exact new_at rfl (by simp) | exact HK2.out _ _ (new_at rfl (by simp)) (HNE.out _ (by simp)) | exact HK2.out _ _ (new_at2 rfl (by simp)) (HNE.out _ (by simp))) (by have := H16.out.2; omega) HSZ.out ?_; intro g3 c3 w6 HT3 HK3; have hs2 := (Two.cells HO.out HT3.out).cell 2; have hs3 := (Two.cells HO.out HT3.out).cell 3; have hz2 := (Two.cells HO.out HT3.out).frozen 2; have hz3 := (Two.cells HO.out HT3.out).frozen 3; simp only [ND.cells, List.getElem?_cons_zero, List.getElem?_cons_succ] at hs2 hs3))
        all_goals
          have HW6 := Lib.hid (DecO.more HO.out HT3.out H16.out.1 H16.out.2 (by simp [Lit.wf, IntKind.min, IntKind.max, IntKind.bits, IntKind.signed]; omega) (ints_wf HX.out (i := 4 + i) (by omega) HY.out))
          generalize World.setCell (World.setCell w6 _ _) _ _ = W7 at HW6 ⊢
          have HN7 : Hid (N.pre = unpL x1 ∧ N.val = x2 ∧ N.lab ++ [(i : Int)] = labsTo L (i + 1) ∧ N.kid ++ [y] = kidsTo L (i + 1)) := Lib.hid (by
            have hn := labs_yes (L := L) (i := i) (by rw [← HY.out]; exact HZ.out)
            have h1 := HN.out
            rw [hn.1, hn.2, ← h1.2.2.1, ← h1.2.2.2, ← HY.out]
            exact ⟨h1.1, h1.2.1, rfl, rfl⟩)
          clear hs2 hs3 hz2 hz3 HT0 HT2 HT3 HK2 HK3 hwr hf2 hf3 hcy
          go_wp2_with fail
          go_roundw
          case rel => exact ⟨i + 1, _, by omega, by go_num, HW6, HN7⟩
          case measure => simp [intOf]; omega
    · obtain rfl : i = 16 := by omega
      have HD9 := Lib.hid HO.out.dec
      have HR : Hid (RightP N) := Lib.hid (by
        have h1 := HN.out
        refine ⟨by rw [h1.1]; exact (unpL_ok x1).1, by rw [h1.2.2.1, h1.2.2.2]; exact (labs_len L 16).1, by rw [h1.2.2.2]; exact kids_ok L, by rw [h1.2.2.1]; exact labs_ok L⟩)
      have HCA : Hid (ND.same N (candB L)) := Lib.hid (by
        have h1 := HN.out
        unfold ND.same candB
        rw [h1.1, h1.2.1, h1.2.2.1, h1.2.2.2, ← HX1.out, ← HX2.out])
      have H32 := Lib.hid hlen
      clear hi hin HO HN
      go_wp2_with (refine wpList_load_row rfl 31 _ rfl _ rfl 31 (ND.cells _).toArray (0, 0) _ HD9.out.cells Tryd.underlying31 rfl rfl ?_)
      refine Calls.mono (encode_yes N wr HD9.out.nd (HL.out.kept HD9.out.below) HR.out) ?_
      rintro e w10 ⟨b2, m, rfl, HO, HM⟩
      obtain ⟨A4, c4, e4, hi4⟩ := own_ints HO.out (by have := HM.out.2.2; simp only [maxLen]; omega) (wf_words HD9.out.nd HR.out)
      cases e4
      have HI4 := Lib.hid hi4
      have HD10 := Lib.hid (HD9.out.kept HO.out.below)
      clear hi4 HO HD9 HM
      obtain ⟨q, hq⟩ : ∃ q : Bool, q = true ↔ wordsL N = L := ⟨decide (wordsL N = L), by simp⟩
      have HQ := Lib.hid hq
      clear hq
      cases q with
      | true =>
        go_wp2_with fail
        refine Calls.mono (equal_any (some ⟨b2, 0, none⟩) (some ⟨b, off, none⟩) m 32 m c (wordsL N) L w10 HI4.out (HX.out.kept HD10.out.below) true (by simpa using HQ.out)) ?_
        rintro e w11 ⟨rfl, hb11⟩
        have HD11 := Lib.hid (HD10.out.kept hb11)
        clear hb11
        have HRS := Lib.hid (row_set HD11.out.res N.cells)
        have HRB := Lib.hid (row_below HD11.out.below N.cells.toArray HD11.out.ge)
        have HRA : Hid (N.At (w11.setRow w.heap.size N.cells.toArray)) := Lib.hid ⟨ints_chg HD11.out.nd.pre (row_chg _ _ _) HD11.out.a1.2, ints_chg HD11.out.nd.lab (row_chg _ _ _) HD11.out.a2.2, ints_chg HD11.out.nd.kid (row_chg _ _ _) HD11.out.a3.2, HD11.out.nd.valw⟩
        go_wp2_with (first | (refine wpList_load_row rfl 31 _ rfl _ rfl 31 N.cells.toArray (0, 0) _ HD11.out.cells Tryd.underlying31 rfl size31 ?_) | (refine wpList_store_row rfl 31 _ _ rfl w.heap.size N.cells.toArray rfl rfl 31 _ HD11.out.res size31 rfl (cells_one _) ?_))
        refine bodyPost_ret (res_one rfl _ _ w.heap.size 31 N.cells.toArray (0, 0) _ rfl HRS.out Tryd.underlying31 rfl size31) rfl ?_
        exact ⟨N, true, rfl, HRA.out, HRB.out, .inl ⟨rfl, HR.out, by simpa using HQ.out⟩⟩
      | false =>
        go_wp2_with fail
        refine Calls.mono (equal_any (some ⟨b2, 0, none⟩) (some ⟨b, off, none⟩) m 32 m c (wordsL N) L w10 HI4.out (HX.out.kept HD10.out.below) false (by simpa using HQ.out)) ?_
        rintro e w11 ⟨rfl, hb11⟩
        have HD11 := Lib.hid (HD10.out.kept hb11)
        clear hb11
        have HRS := Lib.hid (row_set HD11.out.res ND.nil.cells)
        have HRB := Lib.hid (row_below HD11.out.below ND.nil.cells.toArray HD11.out.ge)
        go_wp2_with (refine wpList_store_row rfl 31 _ _ rfl w.heap.size ND.nil.cells.toArray rfl rfl 31 _ HD11.out.res size31 rfl (cells_one _) ?_)
        refine bodyPost_ret (res_one rfl _ _ w.heap.size 31 ND.nil.cells.toArray (0, 0) _ rfl HRS.out Tryd.underlying31 rfl size31) rfl ?_
        exact ⟨ND.nil, false, rfl, ⟨ints_nil _ _, ints_nil _ _, ints_nil _ _, rfl⟩, HRB.out, decw_none (none_big H32.out HCA.out HD11.out.nd.kid.1.symm (fun he => by have := HQ.out.2 he; cases this))⟩

set_option maxRecDepth 100000 in
set_option maxHeartbeats 4000000 in
/-- A list of another length is no node's. -/
theorem decode_len (A : Option Addr) (n c : Nat) (L : List Int) (w : World) (h : Ints w .u64 A n L) (hl : LinesAt w) (h8 : n ≠ 8) (h32 : n ≠ 32) :
    Calls Tryd.prog 11 #[.slice A n c] w (DecP L w) := by
  have hm := h.2.1
  simp only [maxLen] at hm
  have HX := Lib.hid h
  have HL := Lib.hid hl
  have b8 : ((n : Int) != 8) = true := by simp; omega
  have b32 : ((n : Int) != 32) = true := by simp; omega
  clear h hl
  go_enter Tryd.func11, Tryd.ntmps11
  go_wp2_with fail
  have HD := Lib.hid (DecS.new (Below.refl w.heap.size w))
  generalize hW : World.alloc (World.alloc w _) _ = W1 at HD ⊢
  clear hW
  refine Calls.mono (words_any 1 8 (.inl ⟨rfl, rfl⟩) W1 (HL.out.kept HD.out.below)) ?_
  rintro e w1 ⟨rfl, rfl⟩
  go_wp2_with fail
  refine Calls.mono (words_any 2 32 (.inr ⟨rfl, rfl⟩) W1 (HL.out.kept HD.out.below)) ?_
  rintro e w1 ⟨rfl, rfl⟩
  have HRS := Lib.hid (row_set HD.out.res ND.nil.cells)
  have HRB := Lib.hid (row_below HD.out.below ND.nil.cells.toArray HD.out.ge)
  go_wp2_with (refine wpList_store_row rfl 31 _ _ rfl w.heap.size ND.nil.cells.toArray rfl rfl 31 _ HD.out.res size31 rfl (cells_one _) ?_)
  refine bodyPost_ret (res_one rfl _ _ w.heap.size 31 ND.nil.cells.toArray (0, 0) _ rfl HRS.out Tryd.underlying31 rfl size31) rfl ?_
  exact ⟨ND.nil, false, rfl, ⟨ints_nil _ _, ints_nil _ _, ints_nil _ _, rfl⟩, HRB.out, decw_none (none_len (by rw [HX.out.1]; exact h8) (by rw [HX.out.1]; exact h32))⟩

set_option maxRecDepth 100000 in
set_option maxHeartbeats 4000000 in
/-- Too many labels for a small block. -/
theorem decode_labs (A : Option Addr) (c : Nat) (L : List Int) (w : World) (h : Ints w .u64 A 8 L) (hl : LinesAt w) (hk : 4 < (unpL (L.getD 3 0)).length) :
    Calls Tryd.prog 11 #[.slice A 8 c] w (DecP L w) := by
  have hlen := h.1
  obtain ⟨b, off, rfl, _, hc⟩ := h.2.2.2 (by decide)
  have HX := Lib.hid h
  have HL := Lib.hid hl
  have H8 := Lib.hid hlen
  have HK := Lib.hid hk
  obtain ⟨x1, hx1⟩ : ∃ x, x = L.getD 1 0 := ⟨_, rfl⟩
  obtain ⟨x2, hx2⟩ : ∃ x, x = L.getD 2 0 := ⟨_, rfl⟩
  obtain ⟨x3, hx3⟩ : ∃ x, x = L.getD 3 0 := ⟨_, rfl⟩
  have hw1 := wf_u64 (h.2.2.1 x1 (by rw [hx1]; exact getD_mem (by omega)))
  have hv2 := h.2.2.1 x2 (by rw [hx2]; exact getD_mem (by omega))
  have hw3 := wf_u64 (h.2.2.1 x3 (by rw [hx3]; exact getD_mem (by omega)))
  have HX1 := Lib.hid hx1
  have HX2 := Lib.hid hx2
  have HX3 := Lib.hid hx3
  have HV2 := Lib.hid hv2
  rw [← hx3] at hk
  clear h hl hc hx1 hx2 hx3 hv2 hlen
  go_enter Tryd.func11, Tryd.ntmps11
  go_wp2_with fail
  have HD := Lib.hid (DecS.new (Below.refl w.heap.size w))
  generalize hW : World.alloc (World.alloc w _) _ = W1 at HD ⊢
  have hc1 := ints_cell (HX.out.kept HD.out.below) (i := 1) (by decide) HX1.out
  clear hW
  refine Calls.mono (words_any 1 8 (.inl ⟨rfl, rfl⟩) W1 (HL.out.kept HD.out.below)) ?_
  rintro e w1 ⟨rfl, rfl⟩
  go_wp2_with fail
  refine Calls.mono (unpack_any x1 W1 hw1.1 hw1.2) ?_
  rintro e w2 ⟨v1, rfl, HU⟩
  obtain ⟨A1, c1, rfl, hi1, ha1, hb1⟩ := unpd_ints HU.out
  obtain ⟨n1, hn1⟩ : ∃ n, n = (unpL x1).length := ⟨_, rfl⟩
  rw [← hn1] at hi1 ⊢
  have HI1 := Lib.hid hi1
  have HA1 := Lib.hid (⟨ha1 (w.heap.size + 1) HD.out.cells.lt, ha1 w.heap.size HD.out.res.lt⟩ : Away (w.heap.size + 1) A1 ∧ Away w.heap.size A1)
  have HD2 := Lib.hid (HD.out.kept hb1)
  obtain ⟨u0, hg0, hz0⟩ := HD2.out.at 0 (by decide)
  clear hc1 HD HU hi1 ha1 hb1 hn1
  go_upto_region 5 with (fail)
  have HD3 := Lib.hid (HD2.out.setPre HI1.out HA1.out (c := c1))
  generalize hW : World.setCell w2 _ _ = W3 at HD3 ⊢
  clear hW hg0 hz0 HD2 HI1
  have hc2 := ints_cell (HX.out.kept HD3.out.below) (i := 2) (by decide) HX2.out
  obtain ⟨u1, hg1, hz1⟩ := HD3.out.at 1 (by decide)
  go_upto_region 6 with (fail)
  have HD4 := Lib.hid (HD3.out.setVal HV2.out)
  generalize hW : World.setCell W3 _ _ = W4 at HD4 ⊢
  clear hW hg1 hz1 hc2 HD3
  have hc3 := ints_cell (HX.out.kept HD4.out.below) (i := 3) (by decide) HX3.out
  go_wp2_with fail
  refine Calls.mono (words_any 1 8 (.inl ⟨rfl, rfl⟩) W4 (HL.out.kept HD4.out.below)) ?_
  rintro e w5 ⟨rfl, rfl⟩
  go_wp2_with fail
  refine Calls.mono (unpack_any x3 W4 hw3.1 hw3.2) ?_
  rintro e w6 ⟨v2, rfl, HU⟩
  obtain ⟨A2, c2, rfl, hi2, ha2, hb2⟩ := unpd_ints HU.out
  obtain ⟨n2, hn2⟩ : ∃ n, n = (unpL x3).length := ⟨_, rfl⟩
  rw [← hn2] at hi2 hk ⊢
  have HI2 := Lib.hid hi2
  have HA2 := Lib.hid (⟨ha2 (w.heap.size + 1) HD4.out.cells.lt, ha2 w.heap.size HD4.out.res.lt⟩ : Away (w.heap.size + 1) A2 ∧ Away w.heap.size A2)
  have HD6 := Lib.hid (HD4.out.kept hb2)
  obtain ⟨u2, hg2, hz2⟩ := HD6.out.at 2 (by decide)
  clear hc3 HD4 HU hi2 ha2 hb2 hn2
  go_upto_region 8 with (fail)
  have HD7 := Lib.hid (HD6.out.setLab HI2.out HA2.out (c := c2))
  generalize hW : World.setCell w6 _ _ = W7 at HD7 ⊢
  clear hW hg2 hz2 HD6 HI2
  have hg2 := HD7.out.cells.cell 2
  simp only [ND.cells, List.getElem?_cons_zero, List.getElem?_cons_succ] at hg2
  have HRS := Lib.hid (row_set HD7.out.res ND.nil.cells)
  have HRB := Lib.hid (row_below HD7.out.below ND.nil.cells.toArray HD7.out.ge)
  go_wp2_with (refine wpList_store_row rfl 31 _ _ rfl w.heap.size ND.nil.cells.toArray rfl rfl 31 _ HD7.out.res size31 rfl (cells_one _) ?_)
  refine bodyPost_ret (res_one rfl _ _ w.heap.size 31 ND.nil.cells.toArray (0, 0) _ rfl HRS.out Tryd.underlying31 rfl size31) rfl ?_
  exact ⟨ND.nil, false, rfl, ⟨ints_nil _ _, ints_nil _ _, ints_nil _ _, rfl⟩, HRB.out, decw_none (none_labs H8.out HK.out)⟩

/-- Decode of any words. -/
theorem decode_any (A : Option Addr) (n c : Nat) (L : List Int) (w : World) (h : Ints w .u64 A n L) (hl : LinesAt w) (hc : n ≤ c) :
    Calls Tryd.prog 11 #[.slice A n c] w (DecP L w) := by
  by_cases h8 : n = 8
  · subst h8
    by_cases hk : (unpL (L.getD 3 0)).length ≤ 4
    · exact (decode_small A c L w h hl hk hc).mono fun _ _ hq => by
        obtain ⟨N, r, h1, h2, h3, h4⟩ := hq.out
        exact ⟨N, r, h1, h2, h3, decw_small h.1 h4⟩
    · exact decode_labs A c L w h hl (by omega)
  · by_cases h32 : n = 32
    · subst h32
      exact decode_big A c L w h hl hc
    · exact decode_len A n c L w h hl h8 h32
end Go.Proofs.YtmfomkmdfddhaaaDoor.DecB
