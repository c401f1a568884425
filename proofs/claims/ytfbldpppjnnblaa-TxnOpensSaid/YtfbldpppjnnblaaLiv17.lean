/- Layer 17: a table in one call's own memory; alive. -/
import Derived.Test.YtfbldpppjnnblaaTab6
import Derived.Test.YtfbldpppjnnblaaFew15
namespace Go.Proofs.Ytfbldpppjnnblaa.Liv
open Go.RowKit Go.Proofs.Ytfbldpppjnnblaa.Mem Go.Proofs.Ytfbldpppjnnblaa.Q Go.Proofs.Ytfbldpppjnnblaa.Watch Go.Proofs.Ytfbldpppjnnblaa.Read Go.Proofs.Ytfbldpppjnnblaa.Out Go.Proofs.Ytfbldpppjnnblaa.Copy Go.Proofs.Ytfbldpppjnnblaa.Key Go.Proofs.Ytfbldpppjnnblaa.Set Go.Proofs.Ytfbldpppjnnblaa.Rows3 Go.Proofs.Ytfbldpppjnnblaa.Get15 Go.Proofs.Ytfbldpppjnnblaa.Put15 Go.Proofs.Ytfbldpppjnnblaa.Map Go.Proofs.Ytfbldpppjnnblaa.Tab
set_option maxRecDepth 100000
set_option maxHeartbeats 4000000

theorem below_chg {F : Nat → Prop} {w0 w w' : World} (h : Below w0.heap.size w0 w) (hc : Chg F w w') (hF : ∀ k, F k → w0.heap.size ≤ k) : Below w0.heap.size w0 w' :=
  h.trans (hc.below h.size (fun k hk f => by have := hF k f; omega))

theorem least_all {st : List (Option Int)} {n : Int} (h : ∀ o ∈ st, ∀ x, o = some x → n ≤ x) : ∀ (i : Nat) x, st[i]? = some (some x) → n ≤ x :=
  fun _ x hx => h _ (List.mem_of_getElem? hx) x rfl

theorem least_none {st : List (Option Int)} (h : ∀ o ∈ st, o = none) : ∀ (i : Nat) x, st[i]? ≠ some (some x) := fun i x hx => by
  have := h _ (List.mem_of_getElem? hx)
  cases this

/-- A table whose blocks are all newer than w0, of which nothing has turned. -/
structure Liv (w0 w : World) (tb N : Nat) (S : Nat → Prop) (st : List (Option Int)) (ss : List (List W3)) (m : List (ByteArray × Int)) : Prop where
  tab : Tab w tb S N st ss m
  new : ∀ k, S k → w0.heap.size ≤ k
  below : Below w0.heap.size w0 w

/-- A list beside the table. -/
structure Beside (w : World) (S : Nat → Prop) (A : Option Addr) (n : Nat) (l : List W3) : Prop where
  rows : RowsOf W3.cells 3 w A n l
  off : ∀ a, A = some a → 0 < n → a.block < w.heap.size ∧ ¬ S a.block

section
variable {w0 w w' : World} {tb N N' : Nat} {S : Nat → Prop} {st st' : List (Option Int)} {ss ss' : List (List W3)} {m m' : List (ByteArray × Int)}

theorem Liv.kept (h : Liv w0 w tb N S st ss m) (hb : Below w.heap.size w w') : Liv w0 w' tb N S st ss m := ⟨h.tab.below hb, h.new, h.below.trans (hb.mono h.below.size)⟩

theorem Liv.turn (h : Liv w0 w tb N S st ss m) (ht : Turn w S w' tb N' st' ss' m') : ∃ S', Hid (Liv w0 w' tb N' S' st' ss' m') ∧ Hid (∀ k, S' k → S k ∨ w.heap.size ≤ k) ∧ Hid (Chg S w w') := by
  obtain ⟨S', h1, h2, h3⟩ := ht
  exact ⟨S', ⟨h1, fun k hk => (h2 k hk).elim (h.new k) (fun e => Nat.le_trans h.below.size e), below_chg h.below h3 h.new⟩, h2, h3⟩

theorem Beside.kept {A : Option Addr} {n : Nat} {l : List W3} (h : Beside w S A n l) (hb : Below w.heap.size w w') : Beside w' S A n l :=
  ⟨h.rows.kept hb, fun a e h0 => ⟨Nat.lt_of_lt_of_le (h.off a e h0).1 hb.size, (h.off a e h0).2⟩⟩

theorem rows_chg {H : Nat → Prop} {A : Option Addr} {n : Nat} {l : List W3} (h : RowsOf W3.cells 3 w A n l) (hc : Chg H w w') (hA : ∀ a, A = some a → 0 < n → ¬ H a.block) : RowsOf W3.cells 3 w' A n l := by
  refine ⟨h.1, h.2.1, fun h0 => ?_⟩
  obtain ⟨b, off, e, hlt, hcell⟩ := h.2.2 h0
  exact ⟨b, off, e, Nat.lt_of_lt_of_le hlt hc.size, fun i x hi j v hj => hc.cell (hcell i x hi j v hj) (hA ⟨b, off, none⟩ e h0)⟩

theorem Beside.turn {S' : Nat → Prop} {A : Option Addr} {n : Nat} {l : List W3} (h : Beside w S A n l) (h2 : ∀ k, S' k → S k ∨ w.heap.size ≤ k) (h3 : Chg S w w') : Beside w' S' A n l :=
  ⟨rows_chg h.rows h3 (fun a e h0 => (h.off a e h0).2), fun a e h0 => ⟨Nat.lt_of_lt_of_le (h.off a e h0).1 h3.size, fun hs => (h2 _ hs).elim (h.off a e h0).2 (fun e2 => by have := (h.off a e h0).1; omega)⟩⟩

/-- What was there ahead of the call lies beside. -/
theorem Liv.beside {A : Option Addr} {n : Nat} {l : List W3} (h : Liv w0 w tb N S st ss m) (hr : RowsOf W3.cells 3 w0 A n l) : Beside w S A n l := by
  refine ⟨hr.kept h.below, fun a e h0 => ?_⟩
  obtain ⟨b, off, e2, hlt, _⟩ := hr.2.2 h0
  rw [e] at e2
  cases e2
  exact ⟨Nat.lt_of_lt_of_le hlt h.below.size, fun hs => by have := h.new _ hs; show False; simp at this hlt; omega⟩

/-- What a call made anew lies beside. -/
theorem Liv.fresh {v : Value} {n : Nat} {l : List W3} (h : Liv w0 w tb N S st ss m) (ho : Out w w' 50 3 v n (l.flatMap W3.cells)) (hl : l.length = n) (hn : n ≤ 1000) : ∃ A c, v = .slice A n c ∧ n ≤ c ∧ Hid (Beside w' S A n l) := by
  obtain ⟨A, c, rfl, hnc, hr⟩ := own_rows W3.len ho hl (by simp only [maxLen]; omega)
  refine ⟨A, c, rfl, hnc, hr, fun a e h0 => ?_⟩
  subst e
  have := ho.1.lt a.block rfl
  exact ⟨this.2, fun hs => by have := h.tab.lt hs; omega⟩

theorem rows_new (w : World) (x : W3) (T : TypeId) : RowsOf W3.cells 3 (w.alloc (.cells #[.string x.k, .string x.t, .bool x.g] T)) (some ⟨w.heap.size, 0, none⟩) 1 [x] := by
  have hc := Cells.new w x.cells T
  refine ⟨rfl, by decide, fun _ => ⟨w.heap.size, 0, rfl, hc.lt, fun i y hi j v hj => ?_⟩⟩
  obtain ⟨rfl, rfl⟩ : i = 0 ∧ x = y := by
    match i, hi with
    | 0, hi => exact ⟨rfl, by simpa using hi⟩
  rw [show 0 + 0 * 3 + j = j by omega]
  exact (hc.cell j).trans hj

theorem Liv.one (h : Liv w0 w tb N S st ss m) (x : W3) (T : TypeId) : Beside (w.alloc (.cells #[.string x.k, .string x.t, .bool x.g] T)) S (some ⟨w.heap.size, 0, none⟩) 1 [x] :=
  ⟨rows_new w x T, fun a e _ => by cases e; exact ⟨by simp, fun hs => by have := h.tab.lt hs; simp at this⟩⟩
end

abbrev wAx : W3 := ⟨⟨#[97]⟩, ⟨#[120]⟩, false⟩
abbrev wAn : W3 := ⟨⟨#[97]⟩, ⟨#[]⟩, false⟩
theorem put1 : putL [] wAx = ([wAx], 0) := by kernel_rfl

theorem alive_true (w : World) : Calls Try.prog 10 #[] w fun e w' => e = .returned (.bool true) ∧ Below w.heap.size w w' := by
  go_enter Try.func10, Try.ntmps10
  go_wp2_with fail
  refine Calls.mono (tnew w) ?_
  rintro e w1 ⟨tb, S1, rfl, HT, HN, hb⟩
  have HL1 : Hid (Liv w w1 tb 0 S1 (List.replicate 8 none) (List.replicate 8 []) []) := Lib.hid ⟨HT.out, HN.out, hb⟩
  clear HT HN hb
  go_wp2_with fail
  refine Calls.mono (tbegin_yes 0 5 HL1.out.tab (by decide) rfl (by intro j hj; omega)) ?_
  rintro e w2 ⟨rfl, HT⟩
  obtain ⟨S2, HL2, _, _⟩ := HL1.out.turn HT.out
  have HL2 : Hid (Liv w w2 tb 1 S2 [some 5, none, none, none, none, none, none, none] (List.replicate 8 []) []) := HL2
  clear HT HL1
  go_wp2_with fail
  refine Calls.mono (twrite_yes 0 wAx 5 HL2.out.tab rfl rfl) ?_
  rw [show (List.replicate 8 ([] : List W3)).getD 0 [] = [] from rfl, put1]
  rintro e w3 ⟨rfl, HT⟩
  obtain ⟨S3, HL3, _, _⟩ := HL2.out.turn HT.out
  have HL3 : Hid (Liv w w3 tb 1 S3 [some 5, none, none, none, none, none, none, none] [[wAx], [], [], [], [], [], [], []] []) := HL3
  clear HT HL2
  go_wp2_with fail
  refine Calls.mono (tclash_yes 0 5 HL3.out.tab rfl rfl) ?_
  rw [show overL [] 5 (([[wAx], [], [], [], [], [], [], []] : List (List W3)).getD 0 []) = false by kernel_rfl]
  rintro e w4 ⟨rfl, hb4⟩
  have HL4 := Lib.hid (HL3.out.kept hb4)
  clear HL3 hb4
  have hba := (Below.refl w4.heap.size w4).alloc (Nat.le_refl _) (.cells #[.string wAn.k, .string wAn.t, .bool wAn.g] 50)
  have HL5 := Lib.hid (HL4.out.kept hba)
  have HX5 := Lib.hid (HL4.out.one wAn 50)
  clear hba HL4
  go_wp2_with fail
  generalize hW : World.alloc w4 _ = w5 at *
  generalize w4.heap.size = g5 at *
  clear hW
  refine Calls.mono (tnote (some ⟨g5, 0, none⟩) 1 1 [wAn] 6 HX5.out.rows (by decide) (fun a e h => (HX5.out.off a e h).2) HL5.out.tab) ?_
  rintro e w6 ⟨rfl, HT⟩
  obtain ⟨S6, HL6, _, _⟩ := HL5.out.turn HT.out
  have HL6 : Hid (Liv w w6 tb 1 S6 [some 5, none, none, none, none, none, none, none] [[wAx], [], [], [], [], [], [], []] [(⟨#[97]⟩, 6)]) := HL6
  clear HT HL5 HX5
  go_wp2_with fail
  refine Calls.mono (tset_yes 0 5 HL6.out.tab rfl rfl) ?_
  rintro e w7 ⟨v7, n7, rfl, HO, HLN⟩
  obtain rfl : 1 = n7 := HLN.out
  obtain ⟨A7, c7, rfl, hnc, _⟩ := HL6.out.fresh HO.out HLN.out (by decide)
  have HL7 := Lib.hid (HL6.out.kept HO.out.below)
  clear HL6 HO HLN
  go_wp2_with fail
  refine Calls.mono (tclash_yes 0 5 HL7.out.tab rfl rfl) ?_
  rw [show overL [(⟨#[97]⟩, 6)] 5 (([[wAx], [], [], [], [], [], [], []] : List (List W3)).getD 0 []) = true by kernel_rfl]
  rintro e w8 ⟨rfl, hb8⟩
  have HL8 := Lib.hid (HL7.out.kept hb8)
  clear HL7 hb8
  go_wp2_with fail
  refine Calls.mono (tleast 9 5 HL8.out.tab (by decide) (.inl ⟨⟨0, rfl⟩, least_all (by simp)⟩)) ?_
  rintro e w9 ⟨rfl, HT⟩
  obtain ⟨S9, HL9, _, _⟩ := HL8.out.turn HT.out
  clear HT HL8
  go_wp2_with fail
  refine Calls.mono (topen HL9.out.tab) ?_
  rintro e w10 ⟨A10, c10, rfl, _, hb10⟩
  have HL10 := Lib.hid (HL9.out.kept hb10)
  clear HL9 hb10
  have ho : (opensL [some 5, none, none, none, none, none, none, none] 8).length = 1 := by kernel_rfl
  rw [ho]
  clear ho
  go_wp2_with fail
  refine Calls.mono (tend_yes 0 HL10.out.tab rfl) ?_
  rintro e w11 ⟨rfl, HT⟩
  obtain ⟨S11, HL11, _, _⟩ := HL10.out.turn HT.out
  have HL11 : Hid (Liv w w11 tb 1 S11 [none, none, none, none, none, none, none, none] [[], [], [], [], [], [], [], []] [(⟨#[97]⟩, 6)]) := HL11
  clear HT HL10
  go_wp2_with fail
  refine Calls.mono (tleast 9 9 HL11.out.tab (by decide) (.inr ⟨least_none (by simp), rfl⟩)) ?_
  rintro e w12 ⟨rfl, HT⟩
  obtain ⟨S12, HL12, _, _⟩ := HL11.out.turn HT.out
  clear HT HL11
  go_wp2_with fail
  refine Calls.mono (tend_no 0 HL12.out.tab rfl) ?_
  rintro e w13 ⟨rfl, rfl⟩
  go_wp2_with fail
  go_ret
  exact ⟨rfl, HL12.out.below⟩
end Go.Proofs.Ytfbldpppjnnblaa.Liv
