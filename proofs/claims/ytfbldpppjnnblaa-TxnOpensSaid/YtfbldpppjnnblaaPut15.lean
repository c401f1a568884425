/- Layer 15's wset: Put. -/
import Derived.Test.YtfbldpppjnnblaaGet15
import Derived.Test.YtfbldpppjnnblaaIns15
namespace Go.Proofs.Ytfbldpppjnnblaa.Put15
set_option maxRecDepth 100000
open Go.RowKit Go.Proofs.Ytfbldpppjnnblaa.Mem Go.Proofs.Ytfbldpppjnnblaa.Read Go.Proofs.Ytfbldpppjnnblaa.Out Go.Proofs.Ytfbldpppjnnblaa.Copy Go.Proofs.Ytfbldpppjnnblaa.Key Go.Proofs.Ytfbldpppjnnblaa.Set Go.Proofs.Ytfbldpppjnnblaa.Rows3 Go.Proofs.Ytfbldpppjnnblaa.At15 Go.Proofs.Ytfbldpppjnnblaa.Res Go.Proofs.Ytfbldpppjnnblaa.Get15 Go.Proofs.Ytfbldpppjnnblaa.Ins

/-- May a key be written like that? -/
def rightB (x : W3) : Bool := decide (x.k.size ≤ 16) && (decide (x.t.size ≤ 40) && (!x.g || x.t.toList.isEmpty))

theorem right_any (x : W3) (w : World) : Calls Try.prog 54 #[.agg x.cells.toArray] w fun e w' => e = .returned (.bool (rightB x)) ∧ Below w.heap.size w w' := by
  rw [← cells_w]
  obtain ⟨R, hR⟩ : ∃ R, R = rightB x := ⟨_, rfl⟩
  rw [← hR]
  have HR := Lib.hid hR
  clear hR
  by_cases h1 : x.k.size ≤ 16
  · have b1 : decide ((x.k.size : Int) ≤ 16) = true := decide_eq_true (by omega)
    by_cases h2 : x.t.size ≤ 40
    · have b2 : decide ((x.t.size : Int) ≤ 40) = true := decide_eq_true (by omega)
      cases hg : x.g with
      | false =>
        have HF : Hid (R = true) := Lib.hid (by rw [HR.out]; simp [rightB, h1, h2, hg])
        clear hg
        go_enter Try.func54, Try.ntmps54
        go_wp2_with fail
        go_ret
        exact ⟨by rw [HF.out]; rfl, (Below.refl _ _).alloc (Nat.le_refl _) _⟩
      | true =>
        have HF : Hid (R = x.t.toList.isEmpty) := Lib.hid (by rw [HR.out]; simp [rightB, h1, h2, hg])
        clear hg
        go_enter Try.func54, Try.ntmps54
        go_wp2_with fail
        go_ret
        exact ⟨by rw [HF.out]; rfl, (Below.refl _ _).alloc (Nat.le_refl _) _⟩
    · have b2 : decide ((x.t.size : Int) ≤ 40) = false := decide_eq_false (by omega)
      have HF : Hid (R = false) := Lib.hid (by rw [HR.out]; simp [rightB, h2])
      go_enter Try.func54, Try.ntmps54
      go_wp2_with fail
      go_ret
      exact ⟨by rw [HF.out]; rfl, (Below.refl _ _).alloc (Nat.le_refl _) _⟩
  · have b1 : decide ((x.k.size : Int) ≤ 16) = false := decide_eq_false (by omega)
    have HF : Hid (R = false) := Lib.hid (by rw [HR.out]; simp [rightB, h1])
    go_enter Try.func54, Try.ntmps54
    go_wp2_with fail
    go_ret
    exact ⟨by rw [HF.out]; rfl, (Below.refl _ _).alloc (Nat.le_refl _) _⟩

/-- What Put makes of a set. -/
def putL (l : List W3) (x : W3) : List W3 × Int :=
  if rightB x = true then (if (lk W3.k l x.k).isSome = true then (put W3.k l x, 0) else if 16 ≤ l.length then (l, 3) else (put W3.k l x, 0)) else (l, 2)

/-- While Put is at work: its parameter in block g, its copy of the set. -/
structure PutS (W w : World) (g : Nat) (x : W3) (v : Value) (n : Nat) (l : List W3) : Prop where
  box : Cells w g 50 x.cells
  out : Out W w 50 3 v n (l.flatMap W3.cells)
  ne : v.ownBlock ≠ some g

theorem PutS.kept {W w w' : World} {g : Nat} {x : W3} {v : Value} {n : Nat} {l : List W3} (h : PutS W w g x v n l) (hb : Below w.heap.size w w') : PutS W w' g x v n l :=
  ⟨h.box.kept (Chg.of_below (F := fun _ => False) hb) (fun f => f), h.out.kept hb, h.ne⟩



theorem own_open {w0 w : World} {e : TypeId} {sz : Nat} {A : Option Addr} {n c m : Nat} {xs : List Value} (h : Out w0 w e sz (.slice A n c) m xs) (h0 : 0 < m) :
    ∃ (g : Nat) (cur : List Value), A = some ⟨g, 0, none⟩ ∧ w0.heap.size ≤ g ∧ Cells w g e cur ∧ cur.length = c * sz ∧ cur.take (m * sz) = xs ∧ m ≤ c ∧ c ≤ maxLen := by
  have hl := h.len
  rcases h.1.2 with ⟨_, h1⟩ | ⟨g, c', cur, hv, hb, hg, hnc, hcm, hcs, ht⟩
  · omega
  · injection hv with h1 _ h3
    subst h1 h3
    exact ⟨g, cur.toList, rfl, hb, hg, by simpa using hcs, by rw [← hl] at ht; rw [← hl]; exact ht, hnc, hcm⟩

theorem set3_eq {α : Type} (u v z : α) : ∀ (F : List α) (a : Nat), a + 3 ≤ F.length → ((F.set a u).set (a + 1) v).set (a + 2) z = F.take a ++ ([u, v, z] ++ F.drop (a + 3))
  | p :: q :: r :: F, 0, _ => by simp
  | [], a, h => by simp at h
  | p :: F, a + 1, h => by
    have := set3_eq u v z F a (by simp at h; omega)
    simp only [List.set_cons_succ, List.take_succ_cons, List.cons_append, List.cons.injEq, true_and]
    rw [show a + 1 + 3 = (a + 3) + 1 by omega, List.drop_succ_cons]
    exact this
  | [p], 0, h => by simp at h
  | [p, q], 0, h => by simp at h

theorem set3_out {w0 w : World} {g n c I : Nat} {l : List W3} {cur : List Value} (hC : Cells w g 50 cur) (hge : w0.heap.size ≤ g) (hb : Below w0.heap.size w0 w) (hcs : cur.length = c * 3) (htk : cur.take (n * 3) = l.flatMap W3.cells) (hl : l.length = n) (hI : I < n) (hnc : n ≤ c) (hcm : c ≤ maxLen) (x : W3) :
    Out w0 (((w.setCell ⟨g, I * 3, none⟩ (.string x.k)).setCell ⟨g, I * 3 + 1, none⟩ (.string x.t)).setCell ⟨g, I * 3 + 2, none⟩ (.bool x.g)) 50 3 (.slice (some ⟨g, 0, none⟩) n c) n ((l.set I x).flatMap W3.cells) := by
  have h3 := ((hC.set (I * 3) (.string x.k)).set (I * 3 + 1) (.string x.t)).set (I * 3 + 2) (.bool x.g)
  have hc : Chg (· = g) w (((w.setCell ⟨g, I * 3, none⟩ (.string x.k)).setCell ⟨g, I * 3 + 1, none⟩ (.string x.t)).setCell ⟨g, I * 3 + 2, none⟩ (.bool x.g)) := (((Chg.refl (· = g) w).setCell (fun _ => rfl) _).setCell (fun _ => rfl) _).setCell (fun _ => rfl) _
  have hfl := flat_len W3.len (l.set I x)
  rw [List.length_set, hl] at hfl
  refine ⟨⟨hfl, .inr ⟨g, c, _, rfl, hge, h3, hnc, hcm, by simpa using hcs, ?_⟩⟩, ⟨hc.os.trans hb.os, hc.tape.trans hb.tape, hc.output.trans hb.output, Nat.le_trans hb.size hc.size, fun k hk => (hc.block k (Nat.lt_of_lt_of_le hk hb.size) (by omega)).trans (hb.block k hk)⟩⟩
  rw [flat_set W3.len l I x (by omega), ← htk]
  simp only [List.take_set]
  rw [set3_eq _ _ _ _ _ (by rw [List.length_take]; omega)]
  rw [show I * 3 + 3 = (I + 1) * 3 by omega]
  rfl

set_option maxHeartbeats 1000000 in
theorem put_bad (A : Option Addr) (n c : Nat) (l : List W3) (x : W3) (w : World) (h : RowsOf W3.cells 3 w A n l) (hn : n ≤ 1000) (hr : Rs W3.k l) (hx : rightB x = false) :
    Calls Try.prog 43 #[.slice A n c, .agg x.cells.toArray] w fun e w' => ∃ v, e = .returned (.tuple #[v, .int .i64 2]) ∧ Hid (Out w w' 50 3 v n (l.flatMap W3.cells)) := by
  have hl := h.1
  have HX := Lib.hid h
  have HR := Lib.hid hr
  clear h hr
  rw [← cells_w]
  go_enter Try.func43, Try.ntmps43
  go_wp2_with fail
  have HC0 : Hid (Cells (w.alloc (.cells #[.string x.k, .string x.t, .bool x.g] 50)) w.heap.size 50 x.cells) := Lib.hid (Cells.new w x.cells _)
  have HB0 : Hid (Below w.heap.size w (w.alloc (.cells #[.string x.k, .string x.t, .bool x.g] 50))) := Lib.hid ((Below.refl w.heap.size w).alloc (Nat.le_refl _) _)
  have HX0 := Lib.hid (HX.out.kept HB0.out)
  generalize hW : World.alloc w _ = W1 at *
  clear hW
  refine Calls.mono (clone_w A n c l W1 HX0.out (by omega)) ?_
  rintro e w2 ⟨v, rfl, HO⟩
  have HP : Hid (PutS w w2 w.heap.size x v n l) := Lib.hid ⟨HC0.out.kept (Chg.of_below (F := fun _ => False) HO.out.below) (fun f => f), HO.out.mono HB0.out, fun e => absurd (HO.out.ge _ e) (by have := HC0.out.lt; omega)⟩
  clear HC0 HB0 HX0 HO HX
  obtain ⟨A2, c2, rfl, hcn, hx2⟩ := own_rows W3.len HP.out.out hl (by simp only [maxLen]; omega)
  have HX2 := Lib.hid hx2
  have hg0 := HP.out.box.cell 0
  simp only [W3.cells, List.getElem?_cons_zero] at hg0
  clear hx2
  go_wp2_with fail
  refine Calls.mono (at_any A2 n c2 l x.k w2 HX2.out (by omega) HR.out) ?_
  rintro e w3 ⟨rfl, hb3⟩
  have HP3 := Lib.hid (HP.out.kept hb3)
  have HX3 := Lib.hid (HX2.out.kept hb3)
  clear HP hb3 HX2 hg0
  go_wp2_with (refine wpList_load_row rfl 50 _ rfl _ rfl 50 x.cells.toArray (0, 0) _ HP3.out.box Try.underlying50 rfl rfl ?_)
  refine Calls.mono (right_any x w3) ?_
  rintro e w4 ⟨rfl, hb4⟩
  have HP4 := Lib.hid (HP3.out.kept hb4)
  have HX4 := Lib.hid (HX3.out.kept hb4)
  clear HP3 hb4 HX3
  rw [hx]
  go_wp2_with fail
  go_ret2
  exact ⟨_, rfl, Lib.hid HP4.out.out⟩

set_option maxHeartbeats 1000000 in
theorem put_big (A : Option Addr) (n c : Nat) (l : List W3) (x : W3) (w : World) (h : RowsOf W3.cells 3 w A n l) (hn : n ≤ 1000) (hr : Rs W3.k l) (hx : rightB x = true) (hk : lk W3.k l x.k = none) (h16 : 16 ≤ n) :
    Calls Try.prog 43 #[.slice A n c, .agg x.cells.toArray] w fun e w' => ∃ v, e = .returned (.tuple #[v, .int .i64 3]) ∧ Hid (Out w w' 50 3 v n (l.flatMap W3.cells)) := by
  have HK := Lib.hid hk
  clear hk
  have hl := h.1
  have HX := Lib.hid h
  have HR := Lib.hid hr
  clear h hr
  rw [← cells_w]
  go_enter Try.func43, Try.ntmps43
  go_wp2_with fail
  have HC0 : Hid (Cells (w.alloc (.cells #[.string x.k, .string x.t, .bool x.g] 50)) w.heap.size 50 x.cells) := Lib.hid (Cells.new w x.cells _)
  have HB0 : Hid (Below w.heap.size w (w.alloc (.cells #[.string x.k, .string x.t, .bool x.g] 50))) := Lib.hid ((Below.refl w.heap.size w).alloc (Nat.le_refl _) _)
  have HX0 := Lib.hid (HX.out.kept HB0.out)
  generalize hW : World.alloc w _ = W1 at *
  clear hW
  refine Calls.mono (clone_w A n c l W1 HX0.out (by omega)) ?_
  rintro e w2 ⟨v, rfl, HO⟩
  have HP : Hid (PutS w w2 w.heap.size x v n l) := Lib.hid ⟨HC0.out.kept (Chg.of_below (F := fun _ => False) HO.out.below) (fun f => f), HO.out.mono HB0.out, fun e => absurd (HO.out.ge _ e) (by have := HC0.out.lt; omega)⟩
  clear HC0 HB0 HX0 HO HX
  obtain ⟨A2, c2, rfl, hcn, hx2⟩ := own_rows W3.len HP.out.out hl (by simp only [maxLen]; omega)
  have HX2 := Lib.hid hx2
  have hg0 := HP.out.box.cell 0
  simp only [W3.cells, List.getElem?_cons_zero] at hg0
  clear hx2
  go_wp2_with fail
  refine Calls.mono (at_any A2 n c2 l x.k w2 HX2.out (by omega) HR.out) ?_
  rintro e w3 ⟨rfl, hb3⟩
  have HP3 := Lib.hid (HP.out.kept hb3)
  have HX3 := Lib.hid (HX2.out.kept hb3)
  clear HP hb3 HX2 hg0
  go_wp2_with (refine wpList_load_row rfl 50 _ rfl _ rfl 50 x.cells.toArray (0, 0) _ HP3.out.box Try.underlying50 rfl rfl ?_)
  refine Calls.mono (right_any x w3) ?_
  rintro e w4 ⟨rfl, hb4⟩
  have HP4 := Lib.hid (HP3.out.kept hb4)
  have HX4 := Lib.hid (HX3.out.kept hb4)
  clear HP3 hb4 HX3
  rw [hx, HK.out]
  have hb16 : decide ((16 : Int) ≤ n) = true := decide_eq_true (by omega)
  go_wp2_with fail
  go_ret2
  exact ⟨_, rfl, Lib.hid HP4.out.out⟩

set_option maxHeartbeats 1000000 in
theorem put_new (A : Option Addr) (n c : Nat) (l : List W3) (x : W3) (w : World) (h : RowsOf W3.cells 3 w A n l) (hn : n ≤ 1000) (hr : Rs W3.k l) (hx : rightB x = true) (hk : lk W3.k l x.k = none) (h16 : ¬ 16 ≤ n) :
    Calls Try.prog 43 #[.slice A n c, .agg x.cells.toArray] w fun e w' => ∃ v, e = .returned (.tuple #[v, .int .i64 0]) ∧ Hid (Out w w' 50 3 v (n + 1) ((put W3.k l x).flatMap W3.cells)) := by
  have HK := Lib.hid hk
  have hpn := put_no hr hk
  have HPN := Lib.hid hpn.1
  have HPI := Lib.hid hpn.2
  clear hk hpn
  have hl := h.1
  have HX := Lib.hid h
  have HR := Lib.hid hr
  clear h hr
  rw [← cells_w]
  go_enter Try.func43, Try.ntmps43
  go_wp2_with fail
  have HC0 : Hid (Cells (w.alloc (.cells #[.string x.k, .string x.t, .bool x.g] 50)) w.heap.size 50 x.cells) := Lib.hid (Cells.new w x.cells _)
  have HB0 : Hid (Below w.heap.size w (w.alloc (.cells #[.string x.k, .string x.t, .bool x.g] 50))) := Lib.hid ((Below.refl w.heap.size w).alloc (Nat.le_refl _) _)
  have HX0 := Lib.hid (HX.out.kept HB0.out)
  generalize hW : World.alloc w _ = W1 at *
  clear hW
  refine Calls.mono (clone_w A n c l W1 HX0.out (by omega)) ?_
  rintro e w2 ⟨v, rfl, HO⟩
  have HP : Hid (PutS w w2 w.heap.size x v n l) := Lib.hid ⟨HC0.out.kept (Chg.of_below (F := fun _ => False) HO.out.below) (fun f => f), HO.out.mono HB0.out, fun e => absurd (HO.out.ge _ e) (by have := HC0.out.lt; omega)⟩
  clear HC0 HB0 HX0 HO HX
  obtain ⟨A2, c2, rfl, hcn, hx2⟩ := own_rows W3.len HP.out.out hl (by simp only [maxLen]; omega)
  have HX2 := Lib.hid hx2
  have hg0 := HP.out.box.cell 0
  simp only [W3.cells, List.getElem?_cons_zero] at hg0
  clear hx2
  go_wp2_with fail
  refine Calls.mono (at_any A2 n c2 l x.k w2 HX2.out (by omega) HR.out) ?_
  rintro e w3 ⟨rfl, hb3⟩
  have HP3 := Lib.hid (HP.out.kept hb3)
  have HX3 := Lib.hid (HX2.out.kept hb3)
  clear HP hb3 HX2 hg0
  go_wp2_with (refine wpList_load_row rfl 50 _ rfl _ rfl 50 x.cells.toArray (0, 0) _ HP3.out.box Try.underlying50 rfl rfl ?_)
  refine Calls.mono (right_any x w3) ?_
  rintro e w4 ⟨rfl, hb4⟩
  have HP4 := Lib.hid (HP3.out.kept hb4)
  have HX4 := Lib.hid (HX3.out.kept hb4)
  clear HP3 hb4 HX3
  rw [hx, HK.out]
  obtain ⟨I, hI⟩ : ∃ I, I = idx W3.k l x.k := ⟨_, rfl⟩
  rw [← hI]
  have HI := Lib.hid hI
  clear hI
  have hb16 : decide ((16 : Int) ≤ n) = false := decide_eq_false (by omega)
  have hg0 := HP4.out.box.cell 0
  have hg1 := HP4.out.box.cell 1
  have hg2 := HP4.out.box.cell 2
  simp only [W3.cells, List.getElem?_cons_zero, List.getElem?_cons_succ] at hg0 hg1 hg2
  go_wp2_with fail
  have HS : Hid (Cells (w4.alloc (.cells #[.string x.k, .string x.t, .bool x.g] 50)) w4.heap.size 50 x.cells) := Lib.hid (Cells.new w4 x.cells _)
  have HP5 := Lib.hid (HP4.out.kept ((Below.refl w4.heap.size w4).alloc (Nat.le_refl _) (.cells #[.string x.k, .string x.t, .bool x.g] 50)))
  have hne : (Value.slice A2 n c2).ownBlock ≠ some w4.heap.size := fun e => by
    have := (HP4.out.out.1.lt _ e).2
    omega
  have HNE := Lib.hid hne
  clear hne hg0 hg1 hg2
  refine Calls.mono (ins_any w _ (.slice A2 n c2) n I (l.flatMap W3.cells) x.cells w4.heap.size HP5.out.out (by have := HPI.out; rw [← HI.out] at this; omega) (by omega) HS.out rfl x.one (flat_one W3.one l) HNE.out) ?_
  rintro e w6 ⟨v6, rfl, HO6⟩
  go_wp2_with fail
  go_ret2
  refine ⟨_, rfl, ?_⟩
  have e1 : (put W3.k l x).flatMap W3.cells = (l.flatMap W3.cells).take (I * 3) ++ (x.cells ++ (l.flatMap W3.cells).drop (I * 3)) := by
    rw [HPN.out, ← HI.out, List.flatMap_append, List.flatMap_cons, flat_take W3.len, flat_drop W3.len]
  rw [e1]
  exact HO6

set_option maxHeartbeats 1000000 in
theorem put_is (A : Option Addr) (n c : Nat) (l : List W3) (x : W3) (w : World) (h : RowsOf W3.cells 3 w A n l) (hn : n ≤ 1000) (hr : Rs W3.k l) (hx : rightB x = true) (hk : (lk W3.k l x.k).isSome = true) :
    Calls Try.prog 43 #[.slice A n c, .agg x.cells.toArray] w fun e w' => ∃ v, e = .returned (.tuple #[v, .int .i64 0]) ∧ Hid (Out w w' 50 3 v n ((put W3.k l x).flatMap W3.cells)) := by
  obtain ⟨y, hy⟩ := Option.isSome_iff_exists.1 hk
  have hpy := put_yes hr hy
  have HK := Lib.hid hk
  have HPY := Lib.hid hpy.1
  have HPI := Lib.hid hpy.2.1
  clear hk hy hpy
  have hl := h.1
  have HX := Lib.hid h
  have HR := Lib.hid hr
  clear h hr
  rw [← cells_w]
  go_enter Try.func43, Try.ntmps43
  go_wp2_with fail
  have HC0 : Hid (Cells (w.alloc (.cells #[.string x.k, .string x.t, .bool x.g] 50)) w.heap.size 50 x.cells) := Lib.hid (Cells.new w x.cells _)
  have HB0 : Hid (Below w.heap.size w (w.alloc (.cells #[.string x.k, .string x.t, .bool x.g] 50))) := Lib.hid ((Below.refl w.heap.size w).alloc (Nat.le_refl _) _)
  have HX0 := Lib.hid (HX.out.kept HB0.out)
  generalize hW : World.alloc w _ = W1 at *
  clear hW
  refine Calls.mono (clone_w A n c l W1 HX0.out (by omega)) ?_
  rintro e w2 ⟨v, rfl, HO⟩
  have HP : Hid (PutS w w2 w.heap.size x v n l) := Lib.hid ⟨HC0.out.kept (Chg.of_below (F := fun _ => False) HO.out.below) (fun f => f), HO.out.mono HB0.out, fun e => absurd (HO.out.ge _ e) (by have := HC0.out.lt; omega)⟩
  clear HC0 HB0 HX0 HO HX
  obtain ⟨A2, c2, rfl, hcn, hx2⟩ := own_rows W3.len HP.out.out hl (by simp only [maxLen]; omega)
  have HX2 := Lib.hid hx2
  have hg0 := HP.out.box.cell 0
  simp only [W3.cells, List.getElem?_cons_zero] at hg0
  clear hx2
  go_wp2_with fail
  refine Calls.mono (at_any A2 n c2 l x.k w2 HX2.out (by omega) HR.out) ?_
  rintro e w3 ⟨rfl, hb3⟩
  have HP3 := Lib.hid (HP.out.kept hb3)
  have HX3 := Lib.hid (HX2.out.kept hb3)
  clear HP hb3 HX2 hg0
  go_wp2_with (refine wpList_load_row rfl 50 _ rfl _ rfl 50 x.cells.toArray (0, 0) _ HP3.out.box Try.underlying50 rfl rfl ?_)
  refine Calls.mono (right_any x w3) ?_
  rintro e w4 ⟨rfl, hb4⟩
  have HP4 := Lib.hid (HP3.out.kept hb4)
  have HX4 := Lib.hid (HX3.out.kept hb4)
  clear HP3 hb4 HX3
  rw [hx, HK.out]
  obtain ⟨I, hI⟩ : ∃ I, I = idx W3.k l x.k := ⟨_, rfl⟩
  rw [← hI]
  have HI := Lib.hid hI
  have hin : I < n := by have := HPI.out; rw [← hI] at this; omega
  clear hI
  have hg0 := HP4.out.box.cell 0
  have hg1 := HP4.out.box.cell 1
  have hg2 := HP4.out.box.cell 2
  simp only [W3.cells, List.getElem?_cons_zero, List.getElem?_cons_succ] at hg0 hg1 hg2
  obtain ⟨g, cur, rfl, hge, hcur, hcs, htk, hnc, hcm⟩ := own_open HP4.out.out (by omega)
  have hfin := set3_out hcur hge HP4.out.out.below hcs htk hl hin hnc hcm x
  have HF := Lib.hid hfin
  obtain ⟨u0, hs0⟩ : ∃ u, w4.cell? ⟨g, I * 3, none⟩ = some u := ⟨cur[I * 3]'(by omega), by rw [hcur.cell]; exact List.getElem?_eq_getElem _⟩
  obtain ⟨u1, hs1⟩ : ∃ u, w4.cell? ⟨g, I * 3 + 1, none⟩ = some u := ⟨cur[I * 3 + 1]'(by omega), by rw [hcur.cell]; exact List.getElem?_eq_getElem _⟩
  obtain ⟨u2, hs2⟩ : ∃ u, w4.cell? ⟨g, I * 3 + 2, none⟩ = some u := ⟨cur[I * 3 + 2]'(by omega), by rw [hcur.cell]; exact List.getElem?_eq_getElem _⟩
  have hz0 := hcur.frozen (I * 3)
  have hz1 := hcur.frozen (I * 3 + 1)
  have hz2 := hcur.frozen (I * 3 + 2)
  clear hcur hcs htk hfin hge hnc hcm
  go_wp2_with fail
  go_ret2
  refine ⟨_, rfl, ?_⟩
  rw [HPY.out, ← HI.out]
  exact HF

theorem put_any (A : Option Addr) (n c : Nat) (l : List W3) (x : W3) (w : World) (h : RowsOf W3.cells 3 w A n l) (hn : n ≤ 1000) (hr : Rs W3.k l) :
    Calls Try.prog 43 #[.slice A n c, .agg x.cells.toArray] w fun e w' => ∃ v m, e = .returned (.tuple #[v, .int .i64 (putL l x).2]) ∧ Hid (Out w w' 50 3 v m ((putL l x).1.flatMap W3.cells)) ∧ Hid ((putL l x).1.length = m ∧ m ≤ n + 1) := by
  have hl := h.1
  unfold putL
  cases hx : rightB x with
  | false =>
    refine Calls.mono (put_bad A n c l x w h hn hr hx) ?_
    rintro e w' ⟨v, rfl, HO⟩
    exact ⟨v, n, rfl, HO, Lib.hid ⟨hl, by omega⟩⟩
  | true =>
    cases hk : lk W3.k l x.k with
    | some y =>
      refine Calls.mono (put_is A n c l x w h hn hr hx (by rw [hk]; rfl)) ?_
      rintro e w' ⟨v, rfl, HO⟩
      exact ⟨v, n, rfl, HO, Lib.hid ⟨by simp only [if_true, Option.isSome_some]; rw [length_put hr, hk]; simpa using hl, by omega⟩⟩
    | none =>
      by_cases h16 : 16 ≤ n
      · refine Calls.mono (put_big A n c l x w h hn hr hx hk h16) ?_
        rintro e w' ⟨v, rfl, HO⟩
        have h16' : 16 ≤ l.length := by omega
        refine ⟨v, n, by simp [h16'], ?_, Lib.hid ⟨by simp [h16']; exact hl, by omega⟩⟩
        simp only [if_true, Option.isSome_none, Bool.false_eq_true, if_false, if_pos h16']
        exact HO
      · refine Calls.mono (put_new A n c l x w h hn hr hx hk h16) ?_
        rintro e w' ⟨v, rfl, HO⟩
        have h16' : ¬ 16 ≤ l.length := by omega
        refine ⟨v, n + 1, by simp [h16'], ?_, Lib.hid ⟨by simp only [if_true, Option.isSome_none, Bool.false_eq_true, if_false, if_neg h16']; rw [length_put hr, hk]; simpa using hl, by omega⟩⟩
        simp only [if_true, Option.isSome_none, Bool.false_eq_true, if_false, if_neg h16']
        exact HO
end Go.Proofs.Ytfbldpppjnnblaa.Put15
