/- Layer 9's node: own. -/
import Derived.Test.YtmfomkmdfddhaaaDoorSame9
import Derived.Test.YtmfomkmdfddhaaaDoorIns9
import Derived.Deep.RegionHeld3
namespace Go.Proofs.YtmfomkmdfddhaaaDoor.Own9
open Go.RowKit Go.Proofs.YtmfomkmdfddhaaaDoor.Mem Go.Proofs.YtmfomkmdfddhaaaDoor.Read Go.Proofs.YtmfomkmdfddhaaaDoor.Out Go.Proofs.YtmfomkmdfddhaaaDoor.Nib Go.Proofs.YtmfomkmdfddhaaaDoor.Node Go.Proofs.YtmfomkmdfddhaaaDoor.Slc Go.Proofs.YtmfomkmdfddhaaaDoor.Res Go.Proofs.YtmfomkmdfddhaaaDoor.Dec Go.Proofs.YtmfomkmdfddhaaaDoor.Kid Go.Proofs.YtmfomkmdfddhaaaDoor.Words Go.Proofs.YtmfomkmdfddhaaaDoor.DecB Go.Proofs.YtmfomkmdfddhaaaDoor.Same9 Go.Proofs.YtmfomkmdfddhaaaDoor.Open9
set_option maxRecDepth 100000

theorem cl8_any (A : Option Addr) (n c : Nat) (xs : List Int) (w : World) (h : Ints w .u8 A n xs) (hn : n ≤ 1000000) :
    Calls Tryd.prog 43 #[.slice A n c] w fun e w' => ∃ v, e = .returned v ∧ Hid (Out w w' 5 1 v n (xs.map (.int .u8))) := by
  have hl := h.1
  have HX := Lib.hid h
  have he := run_eql_slice_nil (P := Tryd.prog) w 22 5 A n c Tryd.underlying22
  cases A with
  | none =>
    have hn0 : n = 0 := by
      by_cases h0 : 0 < n
      · obtain ⟨b, off, e, _⟩ := h.2.2.2 h0
        cases e
      · omega
    subst hn0
    have hx0 : xs = [] := List.eq_nil_of_length_eq_zero hl
    subst hx0
    clear h
    go_enter Tryd.func43, Tryd.ntmps43
    go_wp2_with fail
    go_ret
    exact ⟨_, rfl, Lib.hid (Out.nil (Below.refl _ _) _ _)⟩
  | some a =>
    clear h
    go_enter Tryd.func43, Tryd.ntmps43
    go_wp2_with (at_builtin; refine wpList_outs rfl _ _ 22 rfl 5 (.int .u8 0) 1 1 Tryd.underlying22 info_u8 rfl (by decide) _ _ _ rfl (Out.empty (Below.refl _ w) _) a n c (xs.map (.int .u8)) rfl ?c1 ?c2 ?c3 ?c4 ?c5 ?_)
    case c1 => rw [List.length_map, hl, Nat.mul_one]
    case c2 =>
      intro j u hj
      have hjn : j < xs.length := by have := (List.getElem?_eq_some_iff.1 hj).1; simpa using this
      obtain ⟨b', off', hA, hlt, hc⟩ := HX.out.2.2.2 (by omega)
      cases hA
      rw [add_off, ← hj, List.getElem?_map, List.getElem?_eq_getElem hjn]
      have := hc j (by omega)
      rw [List.getD_eq_getElem?_getD, List.getElem?_eq_getElem hjn] at this
      rw [← World.cell?_of_block (w := w) (Below.heap_alloc w _ _ hlt)] at this
      exact this
    case c3 =>
      intro u hu
      obtain ⟨x, _, rfl⟩ := List.mem_map.1 hu
      rfl
    case c4 => simp only [maxLen]; omega
    case c5 => omega
    intro v' w' HO HG
    clear HG
    go_wp2_with fail
    go_ret
    exact ⟨v', rfl, HO⟩
theorem cl64_any (A : Option Addr) (n c : Nat) (xs : List Int) (w : World) (h : Ints w .u64 A n xs) (hn : n ≤ 1000000) :
    Calls Tryd.prog 26 #[.slice A n c] w fun e w' => ∃ v, e = .returned v ∧ Hid (Out w w' 23 1 v n (xs.map (.int .u64))) := by
  have hl := h.1
  have HX := Lib.hid h
  have he := run_eql_slice_nil (P := Tryd.prog) w 24 23 A n c Tryd.underlying24
  cases A with
  | none =>
    have hn0 : n = 0 := by
      by_cases h0 : 0 < n
      · obtain ⟨b, off, e, _⟩ := h.2.2.2 h0
        cases e
      · omega
    subst hn0
    have hx0 : xs = [] := List.eq_nil_of_length_eq_zero hl
    subst hx0
    clear h
    go_enter Tryd.func26, Tryd.ntmps26
    go_wp2_with fail
    go_ret
    exact ⟨_, rfl, Lib.hid (Out.nil (Below.refl _ _) _ _)⟩
  | some a =>
    clear h
    go_enter Tryd.func26, Tryd.ntmps26
    go_wp2_with (at_builtin; refine wpList_outs rfl _ _ 24 rfl 23 (.int .u64 0) 1 8 Tryd.underlying24 info_u64 rfl (by decide) _ _ _ rfl (Out.empty (Below.refl _ w) _) a n c (xs.map (.int .u64)) rfl ?c1 ?c2 ?c3 ?c4 ?c5 ?_)
    case c1 => rw [List.length_map, hl, Nat.mul_one]
    case c2 =>
      intro j u hj
      have hjn : j < xs.length := by have := (List.getElem?_eq_some_iff.1 hj).1; simpa using this
      obtain ⟨b', off', hA, hlt, hc⟩ := HX.out.2.2.2 (by omega)
      cases hA
      rw [add_off, ← hj, List.getElem?_map, List.getElem?_eq_getElem hjn]
      have := hc j (by omega)
      rw [List.getD_eq_getElem?_getD, List.getElem?_eq_getElem hjn] at this
      rw [← World.cell?_of_block (w := w) (Below.heap_alloc w _ _ hlt)] at this
      exact this
    case c3 =>
      intro u hu
      obtain ⟨x, _, rfl⟩ := List.mem_map.1 hu
      rfl
    case c4 => simp only [maxLen]; omega
    case c5 => omega
    intro v' w' HO HG
    clear HG
    go_wp2_with fail
    go_ret
    exact ⟨v', rfl, HO⟩

/-- A node whose three lists are the call's own. -/
structure OwnN (W w : World) (N : ND) : Prop where
  own1 : w.ownsRow W.heap.size 5 1 (.slice N.A1 N.n1 N.c1) N.n1 (N.pre.map (.int .u8))
  own2 : w.ownsRow W.heap.size 5 1 (.slice N.A2 N.n2 N.c2) N.n2 (N.lab.map (.int .u8))
  own3 : w.ownsRow W.heap.size 23 1 (.slice N.A3 N.n3 N.c3) N.n3 (N.kid.map (.int .u64))
  apart : ∀ b, (Value.slice N.A1 N.n1 N.c1).ownBlock = some b → (Value.slice N.A2 N.n2 N.c2).ownBlock ≠ some b
  at_ : N.At w
  below : Below W.heap.size W w

def OwnP (N : ND) (w : World) (e : Ending) (w' : World) : Prop := ∃ N' : ND, e = .returned N'.v ∧ Hid (Eqn N' N) ∧ Hid (OwnN w w' N')

theorem OwnN.kept {W w w' : World} {N : ND} (h : OwnN W w N) (hb : Below w.heap.size w w') : OwnN W w' N :=
  ⟨own_kept h.own1 (Chg.of_below (F := fun _ => False) hb) (fun _ _ f => f), own_kept h.own2 (Chg.of_below (F := fun _ => False) hb) (fun _ _ f => f), own_kept h.own3 (Chg.of_below (F := fun _ => False) hb) (fun _ _ f => f), h.apart, h.at_.kept hb, h.below.trans (hb.mono h.below.size)⟩

/-- The cells of the parameter's block. -/
abbrev FC (w : World) (b : Nat) (N : ND) : Prop := w.cell? ⟨b, 0, none⟩ = some (.slice N.A1 N.n1 N.c1) ∧ w.cell? ⟨b, 1, none⟩ = some (.int .u64 N.val) ∧ w.cell? ⟨b, 2, none⟩ = some (.slice N.A2 N.n2 N.c2) ∧ w.cell? ⟨b, 3, none⟩ = some (.slice N.A3 N.n3 N.c3)

theorem fc_of {w : World} {b : Nat} {T : TypeId} {N : ND} (h : Cells w b T N.cells) : FC w b N := ⟨h.cell 0, h.cell 1, h.cell 2, h.cell 3⟩

theorem fc_far {w : World} {b : Nat} {N : ND} {p : Addr} {u : Value} (h : FC w b N) (hp : p.block ≠ b) : FC (w.setCell p u) b N := by
  obtain ⟨h0, h1, h2, h3⟩ := h
  have e : ∀ i, (w.setCell p u).cell? ⟨b, i, none⟩ = w.cell? ⟨b, i, none⟩ := fun i => World.cell?_of_block (Below.heap_setCell _ _ _ _ (fun e => hp e.symm))
  exact ⟨(e 0).trans h0, (e 1).trans h1, (e 2).trans h2, (e 3).trans h3⟩

/-- While it is at work: the parameter in block g, the result's block next to it. -/
structure OwnS (N : ND) (W w : World) (g : Nat) : Prop where
  box : Cells w g 31 N.cells
  res : Cells w (g + 1) 31 ND.nil.cells
  nd : N.At w
  below : Below W.heap.size W w
  ge : W.heap.size ≤ g

theorem OwnS.kept {N : ND} {W w w' : World} {g : Nat} (h : OwnS N W w g) (hb : Below w.heap.size w w') : OwnS N W w' g :=
  ⟨h.box.kept (Chg.of_below (F := fun _ => False) hb) (fun f => f), h.res.kept (Chg.of_below (F := fun _ => False) hb) (fun f => f), h.nd.kept hb, h.below.trans (hb.mono h.below.size), h.ge⟩

theorem OwnS.drew {N : ND} {W w : World} {g : Nat} (h : OwnS N W w g) : OwnS N W w.drew g := h.kept ((Below.refl _ _).drew)

/-- The end: the three copies in the result's block. -/
theorem own_fin {N N' : ND} {W W1 w3 w4 w5 : World} {g : Nat} {B3 B4 B5 : Option Addr} {d3 d4 d5 : Nat} (h : OwnS N W w5 g) (h3 : Out W1.drew w3 5 1 (.slice B3 N.n1 d3) N.n1 (N.pre.map (.int .u8))) (h4 : Out w3 w4 5 1 (.slice B4 N.n2 d4) N.n2 (N.lab.map (.int .u8)))
    (h5 : Out w4 w5 23 1 (.slice B5 N.n3 d5) N.n3 (N.kid.map (.int .u64))) {w6 : World} {T : TypeId} (hT : T = 31)
    (e6 : w6 = (((w5.setCell ⟨g + 1, 0, none⟩ (.slice B3 N.n1 d3)).setCell ⟨g + 1, 1, none⟩ (.int .u64 N.val)).setCell ⟨g + 1, 2, none⟩ (.slice B4 N.n2 d4)).setCell ⟨g + 1, 3, none⟩ (.slice B5 N.n3 d5))
    (eN : N' = { N with A1 := B3, c1 := d3, A2 := B4, c2 := d4, A3 := B5, c3 := d5 }) (m1 : N.n1 ≤ maxLen) (m2 : N.n2 ≤ maxLen) (m3 : N.n3 ≤ maxLen) (hb1 : Below W.heap.size W W1) :
    Cells w6 (g + 1) T N'.cells ∧ OwnN W w6 N' := by
  subst hT e6 eN
  have hc : Chg (· = g + 1) w5 ((((w5.setCell ⟨g + 1, 0, none⟩ (.slice B3 N.n1 d3)).setCell ⟨g + 1, 1, none⟩ (.int .u64 N.val)).setCell ⟨g + 1, 2, none⟩ (.slice B4 N.n2 d4)).setCell ⟨g + 1, 3, none⟩ (.slice B5 N.n3 d5)) :=
    ((((Chg.refl (· = g + 1) w5).setCell (fun _ => rfl) _).setCell (fun _ => rfl) _).setCell (fun _ => rfl) _).setCell (fun _ => rfl) _
  have hs1 : W.heap.size ≤ W1.drew.heap.size := hb1.size
  have hs3 : W.heap.size ≤ w3.heap.size := Nat.le_trans hs1 h3.below.size
  have hs4 : W.heap.size ≤ w4.heap.size := Nat.le_trans hs3 h4.below.size
  have o3 := ((h3.kept h4.below).kept h5.below).1
  have o4 := (h4.kept h5.below).1
  have o5 := h5.1
  have ne3 : ∀ {e : TypeId} {v : Value} {k : Nat} {zs : List Value}, w5.ownsRow 0 e 1 v k zs → e ≠ 31 → ∀ b, v.ownBlock = some b → ¬ b = g + 1 := by
    intro e v k zs ho hne b hb e2
    subst e2
    obtain ⟨cur, fr, h1, _⟩ := own_block ho hb
    have := h.res
    unfold Cells at this
    rw [this] at h1
    cases h1
    exact hne rfl
  have k3 := own_kept (Joins.ownsRow_le o3 hs1) hc (ne3 (Joins.ownsRow_le o3 (Nat.zero_le _)) (by decide))
  have k4 := own_kept (Joins.ownsRow_le o4 hs3) hc (ne3 (Joins.ownsRow_le o4 (Nat.zero_le _)) (by decide))
  have k5 := own_kept (Joins.ownsRow_le o5 hs4) hc (ne3 (Joins.ownsRow_le o5 (Nat.zero_le _)) (by decide))
  have hbl := h.below
  have hbl2 : Below W.heap.size W ((((w5.setCell ⟨g + 1, 0, none⟩ (.slice B3 N.n1 d3)).setCell ⟨g + 1, 1, none⟩ (.int .u64 N.val)).setCell ⟨g + 1, 2, none⟩ (.slice B4 N.n2 d4)).setCell ⟨g + 1, 3, none⟩ (.slice B5 N.n3 d5)) :=
    ⟨hc.os.trans hbl.os, hc.tape.trans hbl.tape, hc.output.trans hbl.output, Nat.le_trans hbl.size hc.size, fun k hk => (hc.block k (Nat.lt_of_lt_of_le hk hbl.size) (by have := h.ge; omega)).trans (hbl.block k hk)⟩
  obtain ⟨_, _, f1, i1⟩ := own_ints (k := .u8) ⟨k3, hbl2⟩ m1 h.nd.pre.2.2.1
  cases f1
  obtain ⟨_, _, f2, i2⟩ := own_ints (k := .u8) ⟨k4, hbl2⟩ m2 h.nd.lab.2.2.1
  cases f2
  obtain ⟨_, _, f3, i3⟩ := own_ints (k := .u64) ⟨k5, hbl2⟩ m3 h.nd.kid.2.2.1
  cases f3
  refine ⟨(((h.res.set 0 _).set 1 _).set 2 _).set 3 _, k3, k4, k5, fun b hb e => ?_, ⟨i1, i2, i3, h.nd.valw⟩, hbl2⟩
  have l3 := (h3.1.lt b hb).2
  have l4 := h4.ge b e
  omega

set_option maxHeartbeats 4000000 in
theorem own_any (N : ND) (w : World) (h : N.At w) (h1 : N.n1 ≤ 1000) (h2 : N.n2 ≤ 1000) (h3 : N.n3 ≤ 1000) :
    Calls Tryd.prog 33 #[N.v] w (OwnP N w) := by
  have b1 := (Below.refl w.heap.size w).alloc (Nat.le_refl _) (.cells N.cells.toArray 31)
  have b2 := b1.alloc (by simp) (.cells ND.nil.cells.toArray 31)
  have c1 := (Cells.new w N.cells 31).alloc (.cells ND.nil.cells.toArray 31)
  have c2 := Cells.new (w.alloc (.cells N.cells.toArray 31)) ND.nil.cells 31
  have e2 : (w.alloc (.cells N.cells.toArray 31)).heap.size = w.heap.size + 1 := by simp
  rw [e2] at c2
  have HS := Lib.hid (⟨c1, c2, h.kept b2, b2, Nat.le_refl _⟩ : OwnS N w _ w.heap.size)
  clear b1 b2 c1 c2 e2 h
  unfold ND.v
  go_enter Tryd.func33, Tryd.ntmps33
  go_upto_region 1 with (fail)
  simp only [ND.cells, ND.nil] at HS
  generalize hW : World.alloc (World.alloc w _) _ = W1 at *
  clear hW
  have HS : Hid (OwnS N w W1 w.heap.size) := HS
  have hf := fc_of HS.out.box
  go_region_held3 (fun w' => FC w' w.heap.size N) (first | with_reducible exact hf | with_reducible exact fc_of HS.out.drew.box | with_reducible exact fc_of HS3.out.box | with_reducible exact fc_of HS4.out.box | with_reducible exact fc_of HS5.out.box | (with_reducible refine fc_far (fc_far (fc_far (fc_far (fc_of HS5.out.box) ?_) ?_) ?_) ?_ <;> simp) | go_keep) (first | (go_at_call 43; refine Calls.mono (cl8_any N.A1 N.n1 N.c1 N.pre _ HS.out.drew.nd.pre (by omega)) ?_; rintro e3 w3 ⟨v3, rfl, HO3⟩; obtain ⟨B3, d3, rfl⟩ := HO3.out.slice; have HS3 := Lib.hid (HS.out.drew.kept HO3.out.below)) | (go_at_call 43; refine Calls.mono (cl8_any N.A2 N.n2 N.c2 N.lab _ HS3.out.nd.lab (by omega)) ?_; rintro e4 w4 ⟨v4, rfl, HO4⟩; obtain ⟨B4, d4, rfl⟩ := HO4.out.slice; have HS4 := Lib.hid (HS3.out.kept HO4.out.below)) | (go_at_call 26; refine Calls.mono (cl64_any N.A3 N.n3 N.c3 N.kid _ HS4.out.nd.kid (by omega)) ?_; rintro e5 w5 ⟨v5, rfl, HO5⟩; obtain ⟨B5, d5, rfl⟩ := HO5.out.slice; have HS5 := Lib.hid (HS4.out.kept HO5.out.below); have hr0 := HS5.out.res.cell 0; have hr1 := HS5.out.res.cell 1; have hr2 := HS5.out.res.cell 2; have hr3 := HS5.out.res.cell 3; have hz0 := HS5.out.res.frozen 0; have hz1 := HS5.out.res.frozen 1; have hz2 := HS5.out.res.frozen 2; have hz3 := HS5.out.res.frozen 3; simp only [ND.cells, ND.nil, List.getElem?_cons_zero, List.getElem?_cons_succ] at hr0 hr1 hr2 hr3))
  have hfin := own_fin HS5.out HO3.out HO4.out HO5.out rfl rfl rfl (by simp only [maxLen]; omega) (by simp only [maxLen]; omega) (by simp only [maxLen]; omega) HS.out.below
  have HC := Lib.hid hfin.1
  have HN := Lib.hid hfin.2
  clear hr0 hr1 hr2 hr3 hz0 hz1 hz2 hz3 hf hfin
  generalize hW : World.setCell _ _ _ = W6 at *
  clear hW
  go_wp2_with fail
  refine bodyPost_ret (res_only rfl _ _ (w.heap.size + 1) 31 (ND.cells _).toArray (0, 0) _ rfl HC.out Tryd.underlying31 rfl size31) rfl ?_
  exact ⟨{ N with A1 := B3, c1 := d3, A2 := B4, c2 := d4, A3 := B5, c3 := d5 }, rfl, Lib.hid rfl, HN⟩
end Go.Proofs.YtmfomkmdfddhaaaDoor.Own9
