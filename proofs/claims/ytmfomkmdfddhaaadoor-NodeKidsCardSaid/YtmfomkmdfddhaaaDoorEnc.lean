/- Layer 9's node: Encode. -/
import Derived.Test.YtmfomkmdfddhaaaDoorNode
import Derived.Laws.CopyOwn
import Derived.Deep.DeepCutAuto
import Derived.Deep.CutBlock
import Derived.StillTailTactics
namespace Go.Proofs.YtmfomkmdfddhaaaDoor.Node
open Go.RowKit Go.Proofs.YtmfomkmdfddhaaaDoor.Mem Go.Proofs.YtmfomkmdfddhaaaDoor.Read Go.Proofs.YtmfomkmdfddhaaaDoor.Out Go.Proofs.YtmfomkmdfddhaaaDoor.Nib

theorem cells_own {w : World} {base g n : Nat} {e : TypeId} {xs : List Value} (h : w.ownsRow base e 1 (.slice (some ⟨g, 0, none⟩) n n) n xs) : Cells w g e xs := by
  rcases h.2 with ⟨h0, _⟩ | ⟨g', cap, cur, hv, _, hg, _, _, hs, ht⟩
  · cases h0
  · injection hv with h1 _ h3
    injection h1 with h1
    injection h1 with h1 _ _
    subst h1 h3
    unfold Cells
    rw [hg, ← ht, List.take_of_length_le (by simp [hs])]

theorem info_u64 : (Tryd.prog.info? 23).map (fun i => (i.zero, i.size, i.bytes)) = some (some (.int .u64 0), 1, 8) := by kernel_rfl

/-- make, as the walk meets it: cells that are zero, in a block of its own. -/
theorem wpList_mk {P : Program} (w : World) {ops : Array Oper} {rest : List Oper} {o : Oper} {a : Act} {Q : Exit → Act → World → Prop}
    (hg : o.guard = none) (l c : Operand) (t : TypeId) (hop : o.op = Op.makeSlice t l c) (e : TypeId) (z : Value) (bytes : Nat) (h1 : P.underlying t = some (.slice e)) (hinfo : (P.info? e).map (fun i => (i.zero, i.size, i.bytes)) = some (some z, 1, bytes)) (hz : z.cells = #[z])
    (kl kc : IntKind) (L C : Int) (n : Nat) (hl : a.eval l = .int kl L) (hc : a.eval c = .int kc C) (hL : L = (n : Int)) (hC : C = (n : Int)) (b2 : bytes * n ≤ 281474976710656) (b3 : n ≤ maxLen)
    (hK : ∀ w', Hid (Cells w' w.heap.size e (List.replicate n z)) → Hid (Below w.heap.size w w') → wpList P ops Q rest (a.put o.dst (.slice (some ⟨w.heap.size, 0, none⟩) n n)) w') :
    wpList P ops Q (o :: rest) a w := by
  obtain ⟨i, hi, hz0, hz1, hz2⟩ := info_parts hinfo
  subst hz2
  refine wpList_make_full w hg l c t hop w.heap.size e i z 1 h1 hi hz0 hz1 kl kc L C n hl hc hL hC b2 b3 (Nat.le_refl _) ?_
  intro w' ho hgr
  refine hK w' ?_ ((Below.refl _ _).grown hgr (Nat.le_refl _) (by simp))
  have := cells_own ho
  rw [hz] at this
  have e : (madeCells #[z] (n * 1)).toList = List.replicate n z := by
    apply List.ext_getElem?
    intro j
    simp only [madeCells, Array.getElem?_toList, Array.getElem?_map, List.getElem?_replicate, Nat.mul_one]
    by_cases hj : j < n
    · simp [hj, Nat.mod_one]
    · simp [hj]
  rw [e] at this
  exact this

def ND.cells (N : ND) : List Value := [.slice N.A1 N.n1 N.c1, .int .u64 N.val, .slice N.A2 N.n2 N.c2, .slice N.A3 N.n3 N.c3]

/-- A node that is a parameter, in block g; the lists; the package's table. -/
structure Env (N : ND) (w0 w : World) (g : Nat) : Prop where
  nd : N.At w
  cells : Cells w g 31 N.cells
  lines : LinesAt w
  below : Below w0.heap.size w0 w
  ge : w0.heap.size ≤ g

theorem Env.enter {N : ND} {w0 w : World} (h : N.At w) (hl : LinesAt w) (hb : Below w0.heap.size w0 w) : Env N w0 (w.alloc (.cells #[.slice N.A1 N.n1 N.c1, .int .u64 N.val, .slice N.A2 N.n2 N.c2, .slice N.A3 N.n3 N.c3] 31)) w.heap.size :=
  ⟨h.enter _, Cells.new w N.cells _, hl.kept ((Below.refl _ _).alloc (Nat.le_refl _) _), hb.alloc hb.size _, hb.size⟩

theorem Env.kept {N : ND} {w0 w w' : World} {g : Nat} (h : Env N w0 w g) (hb : Below w.heap.size w w') : Env N w0 w' g :=
  ⟨h.nd.kept hb, h.cells.kept (Chg.of_below (F := fun _ => False) hb) (fun f => f), h.lines.kept hb, h.below.trans (hb.mono h.below.size), h.ge⟩

/-- Stores in a block that is neither the node's nor one of its lists'. -/
theorem Env.other {N : ND} {w0 w w' : World} {g b : Nat} (h : Env N w0 w g) (hc : Chg (· = b) w w') (hb : g ≠ b) (hge : w0.heap.size ≤ b) (h0 : N.At w0) (hl : LinesAt w0) : Env N w0 w' g :=
  have hbl : Below w0.heap.size w0 w' := ⟨hc.os.trans h.below.os, hc.tape.trans h.below.tape, hc.output.trans h.below.output, Nat.le_trans h.below.size hc.size, fun k hk => (hc.block k (Nat.lt_of_lt_of_le hk h.below.size) (by omega)).trans (h.below.block k hk)⟩
  ⟨h0.kept hbl, h.cells.kept hc hb, hl.kept hbl, hbl, h.ge⟩


/-- The node's parameter in block g, and the words so far in block b. -/
structure Enc (N : ND) (w0 w : World) (g b : Nat) (cs : List Value) : Prop where
  env : Env N w0 w g
  row : Cells w b 23 cs
  lt : g < b

theorem Enc.kept {N : ND} {w0 w w' : World} {g b : Nat} {cs : List Value} (h : Enc N w0 w g b cs) (hb : Below w.heap.size w w') : Enc N w0 w' g b cs :=
  ⟨h.env.kept hb, h.row.kept (Chg.of_below (F := fun _ => False) hb) (fun f => f), h.lt⟩

theorem Enc.store {N : ND} {w0 w : World} {g b : Nat} {cs : List Value} (h : Enc N w0 w g b cs) (h0 : N.At w0) (hl : LinesAt w0) (i : Nat) (v : Value) : Enc N w0 (w.setCell ⟨b, i, none⟩ v) g b (cs.set i v) :=
  ⟨h.env.other ((Chg.refl (· = b) w).setCell (fun _ => rfl) v) (by have := h.lt; omega) (by have := h.lt; have := h.env.ge; omega) h0 hl, h.row.set i v, h.lt⟩

theorem Enc.make {N : ND} {w0 w w' : World} {g : Nat} {cs : List Value} (h : Env N w0 w g) (hb : Below w.heap.size w w') (hc : Cells w' w.heap.size 23 cs) : Enc N w0 w' g w.heap.size cs :=
  ⟨h.kept hb, hc, h.cells.lt⟩

theorem Enc.at {N : ND} {w0 w : World} {g b : Nat} {cs : List Value} (h : Enc N w0 w g b cs) {i : Nat} (hi : i < cs.length) : ∃ u, w.cell? ⟨b, i, none⟩ = some u ∧ w.frozen? ⟨b, i, none⟩ = false :=
  ⟨cs[i], by rw [h.row.cell, List.getElem?_eq_getElem hi], h.row.frozen i⟩


/-- The words of a small node. -/
def smallL (N : ND) : List Int := ([1 + 256 * (N.n3 : Int), packV N.pre, N.val, packV N.lab] : List Int) ++ N.kid ++ List.replicate (4 - N.n3) 0

theorem or_head (n c : Int) (h0 : 0 ≤ n) (h1 : n < 2 ^ 40) (hc0 : 0 ≤ c) (hc : c < 256) : bits .or .u64 c (n * 256) = c + 256 * n := by
  rw [Nib.or_comm, bits_join .u64 64 (by decide) wraps_u64 8 (n * 256) c (by omega) (by omega) (by omega) hc0 (by omega) (by omega)]
  omega

theorem size_u64 : (Tryd.prog.info? 23).map (·.size) = some 1 := by kernel_rfl

theorem add_off (b o j : Nat) : (⟨b, o, none⟩ : Addr).add j = ⟨b, o + j, none⟩ := by unfold Addr.add; split <;> simp_all

theorem own_of_cells {w0 w : World} {b n : Nat} {e : TypeId} {cs : List Value} (h : Cells w b e cs) (hb : Below w0.heap.size w0 w) (hge : w0.heap.size ≤ b) (hl : cs.length = n) (hn : n ≤ maxLen) : Out w0 w e 1 (.slice (some ⟨b, 0, none⟩) n n) n cs :=
  ⟨⟨by omega, .inr ⟨b, n, cs.toArray, rfl, hge, h, Nat.le_refl _, hn, by simp [hl], by simp [← hl]⟩⟩, hb⟩

theorem small_words (N : ND) (h3 : N.kid.length = N.n3) :
    splice ((((List.replicate 8 (Value.int .u64 0)).set 0 (.int .u64 (1 + 256 * (N.n3 : Int)))).set 1 (.int .u64 (packV N.pre))).set 2 (.int .u64 N.val) |>.set 3 (.int .u64 (packV N.lab))) 4 (N.kid.map (.int .u64)) = (smallL N).map (.int .u64) := by
  unfold splice smallL
  simp only [List.replicate_succ, List.set_cons_zero, List.set_cons_succ, List.take_succ_cons, List.take_zero, List.map_append, List.map_cons, List.map_nil, List.length_map, List.map_replicate, List.replicate_zero]
  rw [h3, Nat.add_comm 4 N.n3]
  simp only [List.drop_succ_cons]
  have e : List.drop N.n3 [Value.int .u64 0, Value.int .u64 0, Value.int .u64 0, Value.int .u64 0] = List.replicate (4 - N.n3) (Value.int .u64 0) := by
    rw [show [Value.int .u64 0, Value.int .u64 0, Value.int .u64 0, Value.int .u64 0] = List.replicate 4 (Value.int .u64 0) from rfl, List.drop_replicate]
  rw [e]
  simp

theorem encode_small (N : ND) (w : World) (h : N.At w) (hl : LinesAt w) (hr : RightP N) (h4 : N.n3 ≤ 4) :
    Calls Tryd.prog 10 #[N.v] w fun e w' => ∃ b, e = .returned (.tuple #[.slice (some ⟨b, 0, none⟩) 8 8, .bool true]) ∧ Hid (Out w w' 23 1 (.slice (some ⟨b, 0, none⟩) 8 8) 8 ((smallL N).map (.int .u64))) := by
  have hpp := hr.1
  have hpl : packB N.lab = true := by
    unfold packB
    rw [decide_eq_true (by rw [hr.2.1, h.kid.1]; omega), Bool.true_and, List.all_eq_true]
    intro x hx
    obtain ⟨i, hi, rfl⟩ := mem_getD hx
    exact decide_eq_true (hr.2.2.2 i hi).1
  have HPP := Lib.hid hpp
  have HPL := Lib.hid hpl
  have HR := Lib.hid hr
  have HE := Lib.hid (Env.enter h hl (Below.refl _ w))
  have HN := Lib.hid h
  have HL := Lib.hid hl
  have hl2 := h.lab.1
  have hl3 := h.kid.1
  have hm2 := h.lab.2.1
  simp only [maxLen] at hm2
  clear hr h hl hpp hpl
  unfold ND.v
  go_enter Tryd.func10, Tryd.ntmps10
  go_wp2_with fail
  generalize hW : World.alloc w _ = W1 at *
  clear hW
  refine Calls.mono (right_any N W1 HE.out.nd true (by simpa using HR.out)) ?_
  rintro e w1 ⟨rfl, hb1⟩
  have HE1 := Lib.hid (HE.out.kept hb1)
  clear HE hb1
  go_wp2_with (refine wpList_load_row rfl 31 _ rfl _ rfl 31 N.cells.toArray (0, 0) _ HE1.out.cells Tryd.underlying31 rfl rfl ?_)
  refine Calls.mono (class_any N w1) ?_
  rintro e w2 ⟨rfl, hb2⟩
  have HE2 := Lib.hid (HE1.out.kept hb2)
  clear HE1 hb2
  rw [if_pos h4]
  go_wp2_with fail
  refine Calls.mono (words_any 1 8 (.inl ⟨rfl, rfl⟩) w2 HE2.out.lines) ?_
  rintro e w3 ⟨rfl, rfl⟩
  go_upto_region 6 with (at_make; refine wpList_mk _ rfl _ _ 24 rfl 23 (.int .u64 0) 8 Tryd.underlying24 info_u64 rfl .i64 .i64 8 8 8 rfl rfl rfl rfl (by decide) (by decide) ?_; intro w3 HC3 HB3; have HE3 := Lib.hid (Enc.make HE2.out HB3.out HC3.out); clear HB3 HC3; have hf0 := HE3.out.env.cells.cell 0; have hf3 := HE3.out.env.cells.cell 3; simp only [ND.cells, List.getElem?_cons_zero, List.getElem?_cons_succ] at hf0 hf3; obtain ⟨u0, hc0, hz0⟩ := HE3.out.at (i := 0) (by simp))
  have HE4 := Lib.hid (HE3.out.store HN.out HL.out 0 (.int .u64 (bits BinOp.or IntKind.u64 1 (↑N.n3 * 256))))
  generalize hW : World.setCell w3 _ _ = W4 at HE4 ⊢
  rw [or_head N.n3 1 (by omega) (by omega) (by omega) (by omega)] at HE4 ⊢
  generalize w2.heap.size = b at *
  clear hW hf0 hf3 hc0 hz0 HE3 HE2
  have hf0 := HE4.out.env.cells.cell 0
  have hf1 := HE4.out.env.cells.cell 1
  have hf2 := HE4.out.env.cells.cell 2
  have hf3 := HE4.out.env.cells.cell 3
  simp only [ND.cells, List.getElem?_cons_zero, List.getElem?_cons_succ] at hf0 hf1 hf2 hf3
  obtain ⟨u1, hc1, hz1⟩ := HE4.out.at (i := 1) (by simp)
  go_wp2_with fail
  refine Calls.mono (pack_any N.A1 N.n1 N.c1 N.pre W4 HE4.out.env.nd.pre) ?_
  rintro e w5 ⟨rfl, rfl⟩
  rw [HPP.out]
  simp only [if_true]
  go_upto_region 7 with (fail)
  have HE5 := Lib.hid (HE4.out.store HN.out HL.out 1 (.int .u64 (packV N.pre)))
  generalize hW : World.setCell W4 _ _ = W5 at HE5 ⊢
  clear hW hf0 hf1 hf2 hf3 hc1 hz1 HE4
  have hf0 := HE5.out.env.cells.cell 0
  have hf1 := HE5.out.env.cells.cell 1
  have hf2 := HE5.out.env.cells.cell 2
  have hf3 := HE5.out.env.cells.cell 3
  simp only [ND.cells, List.getElem?_cons_zero, List.getElem?_cons_succ] at hf0 hf1 hf2 hf3
  obtain ⟨u2, hc2, hz2⟩ := HE5.out.at (i := 2) (by simp)
  go_upto_region 9 with (fail)
  have HE6 := Lib.hid (HE5.out.store HN.out HL.out 2 (.int .u64 N.val))
  generalize hW : World.setCell W5 _ _ = W6 at HE6 ⊢
  clear hW hf0 hf1 hf2 hf3 hc2 hz2 HE5
  have hf0 := HE6.out.env.cells.cell 0
  have hf1 := HE6.out.env.cells.cell 1
  have hf2 := HE6.out.env.cells.cell 2
  have hf3 := HE6.out.env.cells.cell 3
  simp only [ND.cells, List.getElem?_cons_zero, List.getElem?_cons_succ] at hf0 hf1 hf2 hf3
  obtain ⟨u3, hc3, hz3⟩ := HE6.out.at (i := 3) (by simp)
  go_wp2_with fail
  refine Calls.mono (pack_any N.A2 N.n2 N.c2 N.lab W6 HE6.out.env.nd.lab) ?_
  rintro e w7 ⟨rfl, rfl⟩
  rw [HPL.out]
  simp only [if_true]
  go_upto_region 10 with (fail)
  have HE7 := Lib.hid (HE6.out.store HN.out HL.out 3 (.int .u64 (packV N.lab)))
  generalize hW : World.setCell W6 _ _ = W7 at HE7 ⊢
  clear hW hf0 hf1 hf2 hf3 hc3 hz3 HE6
  have hf0 := HE7.out.env.cells.cell 0
  have hf1 := HE7.out.env.cells.cell 1
  have hf2 := HE7.out.env.cells.cell 2
  have hf3 := HE7.out.env.cells.cell 3
  simp only [ND.cells, List.getElem?_cons_zero, List.getElem?_cons_succ] at hf0 hf1 hf2 hf3
  go_still_tail 4, (by kernel_rfl)
  have HE8 := Lib.hid (HE7.out.kept ((Below.refl W7.heap.size W7).drew))
  clear HE7 hf0 hf1 hf2 hf3
  refine wpList_copy_splice (w := W7.drew) rfl _ _ _ _ rfl 23 Tryd.underlying24 size_u64 (some ⟨b, 4, none⟩) N.A3 4 4 N.n3 N.c3 rfl rfl b 4 _ 23 HE8.out.row (N.kid.map (.int .u64)) ?c1 ?c2 ?c3 ?c4 w.heap.size w HE8.out.env.below (Nat.le_trans HE8.out.env.ge (Nat.le_of_lt HE8.out.lt)) ?_
  case c1 => rw [List.length_map, hl3]; exact (Nat.min_eq_left h4).symm
  case c2 =>
    intro h0
    refine ⟨rfl, ?_⟩
    rw [List.length_map, hl3] at h0
    obtain ⟨b', off, hA, _, hc⟩ := HE8.out.env.nd.kid.2.2.2 h0
    refine ⟨_, hA, fun j v hv => ?_⟩
    have hj : j < N.kid.length := by
      have := (List.getElem?_eq_some_iff.1 hv).1
      simpa using this
    rw [add_off, hc j (by omega), ← hv, List.getElem?_map, List.getD_eq_getElem?_getD, List.getElem?_eq_getElem hj]
    rfl
  case c3 => simp; omega
  case c4 =>
    intro v hv
    obtain ⟨x, _, rfl⟩ := List.mem_map.1 hv
    rfl
  intro w8 HC8 hb8
  have HB8 := Lib.hid hb8
  clear hb8
  go_wp2_with fail
  go_ret2
  refine ⟨b, rfl, Lib.hid ?_⟩
  rw [← small_words N hl3]
  exact own_of_cells HC8.out HB8.out (Nat.le_trans HE8.out.env.ge (Nat.le_of_lt HE8.out.lt)) (by simp [splice, hl3]; omega) (by decide)
/-- The words of a big node, with its first i kids. -/
def bigTo (N : ND) : Nat → List Int
  | 0 => ([2 + 256 * (N.n3 : Int), packV N.pre, N.val] : List Int) ++ List.replicate 29 0
  | i + 1 => (bigTo N i).set (4 + (N.lab.getD i 0).toNat) (N.kid.getD i 0)
def bigL (N : ND) : List Int := bigTo N N.n3

theorem lab_ge {l : List Int} (h : LabOk l) (h0 : ∀ x ∈ l, 0 ≤ x) : ∀ i, i < l.length → (i : Int) ≤ l.getD i 0
  | 0, hi => by have := h0 _ (getD_mem hi); omega
  | i + 1, hi => by
    have h1 := lab_ge h h0 i (by omega)
    have h2 := (h (i + 1) hi).2 (by omega)
    rw [Nat.add_sub_cancel] at h2
    omega

theorem lab_le {l : List Int} (h : LabOk l) {w : World} {A : Option Addr} {n : Nat} (hi : Ints w .u8 A n l) : l.length ≤ 16 := by
  by_cases h16 : l.length ≤ 16
  · exact h16
  · have h1 := lab_ge h (fun x hx => (wf_u8 (hi.2.2.1 x hx)).1) 16 (by omega)
    have h2 := (h 16 (by omega)).1
    omega

theorem bigTo_len (N : ND) : ∀ i, (bigTo N i).length = 32
  | 0 => rfl
  | i + 1 => by rw [bigTo, List.length_set]; exact bigTo_len N i

theorem encode_big (N : ND) (w : World) (h : N.At w) (hl : LinesAt w) (hr : RightP N) (h4 : ¬ N.n3 ≤ 4) :
    Calls Tryd.prog 10 #[N.v] w fun e w' => ∃ b, e = .returned (.tuple #[.slice (some ⟨b, 0, none⟩) 32 32, .bool true]) ∧ Hid (Out w w' 23 1 (.slice (some ⟨b, 0, none⟩) 32 32) 32 ((bigL N).map (.int .u64))) := by
  have hpp := hr.1
  have HPP := Lib.hid hpp
  have HR := Lib.hid hr
  have HE := Lib.hid (Env.enter h hl (Below.refl _ w))
  have HN := Lib.hid h
  have HL := Lib.hid hl
  have hl2 := h.lab.1
  have hl3 := h.kid.1
  have hm2 := h.lab.2.1
  simp only [maxLen] at hm2
  have h16 : N.n3 ≤ 16 := by have := hr.2.1; have := lab_le hr.2.2.2 h.lab; omega
  clear hr h hl hpp
  unfold ND.v
  go_enter Tryd.func10, Tryd.ntmps10
  go_wp2_with fail
  generalize hW : World.alloc w _ = W1 at *
  clear hW
  refine Calls.mono (right_any N W1 HE.out.nd true (by simpa using HR.out)) ?_
  rintro e w1 ⟨rfl, hb1⟩
  have HE1 := Lib.hid (HE.out.kept hb1)
  clear HE hb1
  go_wp2_with (refine wpList_load_row rfl 31 _ rfl _ rfl 31 N.cells.toArray (0, 0) _ HE1.out.cells Tryd.underlying31 rfl rfl ?_)
  refine Calls.mono (class_any N w1) ?_
  rintro e w2 ⟨rfl, hb2⟩
  have HE2 := Lib.hid (HE1.out.kept hb2)
  clear HE1 hb2
  rw [if_neg h4]
  go_wp2_with fail
  refine Calls.mono (words_any 2 32 (.inr ⟨rfl, rfl⟩) w2 HE2.out.lines) ?_
  rintro e w3 ⟨rfl, rfl⟩
  go_upto_region 6 with (at_make; refine wpList_mk _ rfl _ _ 24 rfl 23 (.int .u64 0) 8 Tryd.underlying24 info_u64 rfl .i64 .i64 32 32 32 rfl rfl rfl rfl (by decide) (by decide) ?_; intro w3 HC3 HB3; have HE3 := Lib.hid (Enc.make HE2.out HB3.out HC3.out); clear HB3 HC3; have hf0 := HE3.out.env.cells.cell 0; have hf3 := HE3.out.env.cells.cell 3; simp only [ND.cells, List.getElem?_cons_zero, List.getElem?_cons_succ] at hf0 hf3; obtain ⟨u0, hc0, hz0⟩ := HE3.out.at (i := 0) (by simp))
  have HE4 := Lib.hid (HE3.out.store HN.out HL.out 0 (.int .u64 (bits BinOp.or IntKind.u64 2 (↑N.n3 * 256))))
  generalize hW : World.setCell w3 _ _ = W4 at HE4 ⊢
  rw [or_head N.n3 2 (by omega) (by omega) (by omega) (by omega)] at HE4 ⊢
  generalize w2.heap.size = b at *
  clear hW hf0 hf3 hc0 hz0 HE3 HE2
  have hf0 := HE4.out.env.cells.cell 0
  have hf1 := HE4.out.env.cells.cell 1
  have hf2 := HE4.out.env.cells.cell 2
  have hf3 := HE4.out.env.cells.cell 3
  simp only [ND.cells, List.getElem?_cons_zero, List.getElem?_cons_succ] at hf0 hf1 hf2 hf3
  obtain ⟨u1, hc1, hz1⟩ := HE4.out.at (i := 1) (by simp)
  go_wp2_with fail
  refine Calls.mono (pack_any N.A1 N.n1 N.c1 N.pre W4 HE4.out.env.nd.pre) ?_
  rintro e w5 ⟨rfl, rfl⟩
  rw [HPP.out]
  simp only [if_true]
  go_upto_region 7 with (fail)
  have HE5 := Lib.hid (HE4.out.store HN.out HL.out 1 (.int .u64 (packV N.pre)))
  generalize hW : World.setCell W4 _ _ = W5 at HE5 ⊢
  clear hW hf0 hf1 hf2 hf3 hc1 hz1 HE4
  have hf0 := HE5.out.env.cells.cell 0
  have hf1 := HE5.out.env.cells.cell 1
  have hf2 := HE5.out.env.cells.cell 2
  have hf3 := HE5.out.env.cells.cell 3
  simp only [ND.cells, List.getElem?_cons_zero, List.getElem?_cons_succ] at hf0 hf1 hf2 hf3
  obtain ⟨u2, hc2, hz2⟩ := HE5.out.at (i := 2) (by simp)
  go_upto_region 12 with (fail)
  have HE6 := Lib.hid (HE5.out.store HN.out HL.out 2 (.int .u64 N.val))
  generalize hW : World.setCell W5 _ _ = W6 at HE6 ⊢
  clear hW hf0 hf1 hf2 hf3 hc2 hz2 HE5
  have hf0 := HE6.out.env.cells.cell 0
  have hf1 := HE6.out.env.cells.cell 1
  have hf2 := HE6.out.env.cells.cell 2
  have hf3 := HE6.out.env.cells.cell 3
  simp only [ND.cells, List.getElem?_cons_zero, List.getElem?_cons_succ] at hf0 hf1 hf2 hf3
  go_wp2_with fail
  clear hf0 hf1 hf2 hf3
  go_loopw [57] (fun v57 wr => ∃ i : Nat, i ≤ N.n2 ∧ v57 = .int .i64 i ∧ Hid (Enc N w wr w.heap.size b ((bigTo N i).map (.int .u64)))) (fun v57 _ => N.n2 - (intOf v57).toNat)
  case atStart => exact ⟨0, by omega, rfl, Lib.hid (by have := HE6.out; exact this)⟩
  case round =>
    obtain ⟨i, hi, rfl, HEi⟩ := hrel
    have HNN : Hid (N.n2 = N.n3) := Lib.hid (by have := HR.out.2.1; omega)
    by_cases hin : i < N.n2
    · have hnd := HEi.out.env.nd
      obtain ⟨b2, off2, hA2, _, hcl⟩ := hnd.lab.2.2.2 (by omega)
      obtain ⟨b3, off3, hA3, _, hck⟩ := hnd.kid.2.2.2 (by have := HNN.out; omega)
      have hcl0 := hcl i hin
      have hck0 := hck i (by have := HNN.out; omega)
      obtain ⟨y, hy⟩ : ∃ y : Nat, (y : Int) = N.lab.getD i 0 := ⟨(N.lab.getD i 0).toNat, by have := lab_ge HR.out.2.2.2 (fun x hx => (wf_u8 (hnd.lab.2.2.1 x hx)).1) i (by omega); omega⟩
      obtain ⟨k, hk⟩ : ∃ k, k = N.kid.getD i 0 := ⟨_, rfl⟩
      have hy16 := (HR.out.2.2.2 i (by omega)).1
      rw [← hy] at hcl0 hy16
      rw [← hk] at hck0
      have hst := HEi.out.store HN.out HL.out (4 + y) (.int .u64 k)
      have HY := Lib.hid hy
      have HK := Lib.hid hk
      have HST := Lib.hid hst
      have hlen : (bigTo N i).length = 32 := bigTo_len N i
      obtain ⟨u, hcu, hzu⟩ := HEi.out.at (i := 4 + y) (by rw [List.length_map, hlen]; omega)
      clear hnd hcl hck hy hk hst hlen
      have hin3 : i < N.n3 := by have := HNN.out; omega
      have hf0 := HEi.out.env.cells.cell 0
      have hf1 := HEi.out.env.cells.cell 1
      have hf2 := HEi.out.env.cells.cell 2
      have hf3 := HEi.out.env.cells.cell 3
      simp only [ND.cells, List.getElem?_cons_zero, List.getElem?_cons_succ] at hf0 hf1 hf2 hf3
      rw [hA2] at hf2 ⊢
      rw [hA3] at hf3 ⊢
      have HA2 := Lib.hid hA2
      have HA3 := Lib.hid hA3
      clear hA2 hA3
      go_wp2_with fail
      go_roundw
      case rel =>
        refine ⟨i + 1, by omega, by go_num, Lib.hid ?_⟩
        have := HST.out
        rw [bigTo, ← HY.out, ← HK.out, Int.toNat_natCast, List.map_set]
        exact this
      case measure => simp [intOf]; omega
    · obtain rfl : i = N.n2 := by omega
      go_wp2_with fail
      go_ret2
      refine ⟨b, rfl, Lib.hid ?_⟩
      unfold bigL
      rw [← HNN.out]
      exact own_of_cells HEi.out.row HEi.out.env.below (Nat.le_trans HEi.out.env.ge (Nat.le_of_lt HEi.out.lt)) (by rw [List.length_map, bigTo_len]) (by decide)

theorem encode_no (N : ND) (w : World) (h : N.At w) (hr : ¬ RightP N) :
    Calls Tryd.prog 10 #[N.v] w fun e w' => e = .returned (.tuple #[.slice none 0 0, .bool false]) ∧ Below w.heap.size w w' := by
  have HR := Lib.hid hr
  have HN := Lib.hid (h.enter 31)
  have HB := Lib.hid ((Below.refl w.heap.size w).alloc (Nat.le_refl _) (.cells N.cells.toArray 31))
  clear hr h
  unfold ND.v
  go_enter Tryd.func10, Tryd.ntmps10
  go_wp2_with fail
  have HB2 : Hid (Below w.heap.size w (w.alloc (.cells #[.slice N.A1 N.n1 N.c1, .int .u64 N.val, .slice N.A2 N.n2 N.c2, .slice N.A3 N.n3 N.c3] 31))) := HB
  clear HB
  generalize hW : World.alloc w _ = W1 at *
  clear hW
  refine Calls.mono (right_any N W1 HN.out false (by simpa using HR.out)) ?_
  rintro e w1 ⟨rfl, hb1⟩
  have HB3 := Lib.hid (HB2.out.trans (hb1.mono HB2.out.size))
  clear hb1
  go_wp2_with fail
  go_ret2
  exact ⟨rfl, HB3.out⟩
end Go.Proofs.YtmfomkmdfddhaaaDoor.Node
