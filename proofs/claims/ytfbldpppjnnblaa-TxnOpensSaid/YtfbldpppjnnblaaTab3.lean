/- Layer 17's table: Write. -/
import Derived.Test.YtfbldpppjnnblaaTab2
import Derived.StillTailTactics
import Derived.Deep.DeepCutAuto
namespace Go.Proofs.Ytfbldpppjnnblaa.Tab
open Go.RowKit Go.Proofs.Ytfbldpppjnnblaa.Mem Go.Proofs.Ytfbldpppjnnblaa.Q Go.Proofs.Ytfbldpppjnnblaa.Watch Go.Proofs.Ytfbldpppjnnblaa.Read Go.Proofs.Ytfbldpppjnnblaa.Out Go.Proofs.Ytfbldpppjnnblaa.Copy Go.Proofs.Ytfbldpppjnnblaa.Key Go.Proofs.Ytfbldpppjnnblaa.Set Go.Proofs.Ytfbldpppjnnblaa.Rows3 Go.Proofs.Ytfbldpppjnnblaa.Get15 Go.Proofs.Ytfbldpppjnnblaa.Put15 Go.Proofs.Ytfbldpppjnnblaa.Map
set_option maxRecDepth 100000
set_option maxHeartbeats 1000000

section
variable {w : World} {tb wb mb N : Nat} {F S : Nat → Prop} {vs : List Value} {st : List (Option Int)} {ss : List (List W3)} {m : List (ByteArray × Int)}

theorem Turn.of_below {w' : World} (h : Tab w tb S N st ss m) (hb : Below w.heap.size w w') : Turn w S w' tb N st ss m := ⟨S, h.below hb, fun _ hk => .inl hk, Chg.of_below hb⟩

/-- Behind what did not touch it. -/
theorem Turn.after {w1 w' : World} {N' : Nat} {st' : List (Option Int)} {ss' : List (List W3)} {m' : List (ByteArray × Int)} (hb : Below w.heap.size w w1) (h : Turn w1 S w' tb N' st' ss' m') : Turn w S w' tb N' st' ss' m' := by
  obtain ⟨S', h1, h2, h3⟩ := h
  exact ⟨S', h1, fun k hk => (h2 k hk).imp id (fun h => Nat.le_trans hb.size h), (Chg.of_below (F := S) hb).trans h3 (fun _ _ h => h)⟩

theorem Turn.then_below {w' w2 : World} (h : Turn w S w' tb N st ss m) (hb : Below w'.heap.size w' w2) : Turn w S w2 tb N st ss m := by
  obtain ⟨S', h1, h2, h3⟩ := h
  exact ⟨S', h1.below hb, h2, h3.trans (Chg.of_below (F := fun _ => False) hb) (fun _ _ f => f.elim)⟩

theorem set_same {l : List (List W3)} {i : Nat} : l.set i (l.getD i []) = l := by
  apply List.ext_getElem?
  intro j
  rw [List.getElem?_set, List.getD_eq_getElem?_getD]
  by_cases e : i = j
  · subst e
    by_cases h : i < l.length
    · rw [if_pos rfl, if_pos h, List.getElem?_eq_getElem h]; rfl
    · rw [if_pos rfl, if_neg h, List.getElem?_eq_none (by omega)]
  · rw [if_neg e]

theorem below_drew {w w' : World} (h : Below w.drew.heap.size w.drew w') : Below w.heap.size w w' := ⟨h.os, h.tape, h.output, h.size, h.block⟩

theorem put_t (A : Option Addr) (n c : Nat) (l : List W3) (x : W3) (w : World) (h : RowsOf W3.cells 3 w A n l) (hn : n ≤ 1000) (hr : Rs W3.k l) :
    Calls Try.prog 43 #[.slice A n c, .agg #[.string x.k, .string x.t, .bool x.g]] w fun e w' => ∃ v, e = .returned (.tuple #[v, .int .i64 (putL l x).2]) ∧ Hid (SetV w' v (putL l x).1 ∧ (∀ b, v.ownBlock = some b → w.heap.size ≤ b) ∧ Below w.heap.size w w') :=
  (put_any A n c l x w h hn hr).mono fun _ _ ⟨v, k, he, HO, HM⟩ => by
    obtain ⟨h1, h2⟩ := SetV.of_out HO.out HM.out.1 (by have := HM.out.2; simp only [maxLen]; omega)
    exact ⟨v, he, h1, h2, HO.out.below⟩

theorem putL_ok {l : List W3} {x : W3} (hr : Rs W3.k l) (hl : l.length ≤ 16) : Rs W3.k (putL l x).1 ∧ (putL l x).1.length ≤ 16 ∧ ((putL l x).2 = 0 ∨ ((putL l x).1 = l ∧ ((putL l x).2 = 2 ∨ (putL l x).2 = 3))) := by
  unfold putL
  split
  · split
    · rename_i hs
      exact ⟨put_rs hr x, by rw [Set.length_put hr, if_pos hs]; exact hl, .inl rfl⟩
    · split
      · exact ⟨hr, hl, .inr ⟨rfl, .inr rfl⟩⟩
      · rename_i hs hn
        exact ⟨put_rs hr x, by rw [Set.length_put hr, if_neg hs]; show l.length + 1 ≤ 16; omega, .inl rfl⟩
  · exact ⟨hr, hl, .inr ⟨rfl, .inl rfl⟩⟩

theorem twrite_bad {p : Value} (I : Int) (x : W3) (h : ∀ w', Below w.heap.size w w' → Bad w' p) : Calls Try.prog 21 #[p, .int .i64 I, .agg #[.string x.k, .string x.t, .bool x.g]] w fun e w' => e = .returned (.int .i64 1) ∧ Below w.heap.size w w' := by
  have hb := (Below.refl w.heap.size w).alloc (Nat.le_refl _) (.cells #[.string x.k, .string x.t, .bool x.g] 50)
  have H := Lib.hid (h _ hb)
  have HB := Lib.hid hb
  clear h hb
  go_enter Try.func21, Try.ntmps21
  go_wp2_with fail
  generalize hW : World.alloc w _ = W1 at *
  clear hW
  refine Calls.mono (tat_bad I H.out) ?_
  rintro e w' ⟨rfl, rfl⟩
  go_wp2_with fail
  refine Calls.mono H.out ?_
  rintro e w' ⟨rfl, rfl⟩
  go_wp2_with fail
  go_ret
  exact ⟨rfl, HB.out⟩

theorem twrite_no (I : Int) (x : W3) (h : Tab w tb S N st ss m) (hr : hasB st I = false) : Calls Try.prog 21 #[ptr tb, .int .i64 I, .agg #[.string x.k, .string x.t, .bool x.g]] w fun e w' => e = .returned (.int .i64 7) ∧ Hid (Turn w S w' tb N st ss m) := by
  have hb := (Below.refl w.heap.size w).alloc (Nat.le_refl _) (.cells #[.string x.k, .string x.t, .bool x.g] 50)
  have HT := Lib.hid (Turn.of_below h hb)
  have H := Lib.hid (h.below hb)
  have HH := Lib.hid hr
  clear h hb hr
  go_enter Try.func21, Try.ntmps21
  go_wp2_with fail
  generalize hW : World.alloc w _ = W1 at *
  clear hW
  refine Calls.mono (tat_no I H.out HH.out) ?_
  rintro e w' ⟨rfl, rfl⟩
  go_wp2_with fail
  obtain ⟨wb, mb, F, vs, hR, _⟩ := H.out
  refine Calls.mono (good_yes hR) ?_
  rintro e w' ⟨rfl, rfl⟩
  clear hR
  go_wp2_with fail
  go_ret
  exact ⟨rfl, HT⟩

theorem twrite_yes (i : Nat) (x : W3) (y : Int) (h : Tab w tb S N st ss m) (hr : hasB st i = true) (hy : st.getD i none = some y) : Calls Try.prog 21 #[ptr tb, .int .i64 i, .agg #[.string x.k, .string x.t, .bool x.g]] w fun e w' => e = .returned (.int .i64 (putL (ss.getD i []) x).2) ∧ Hid (Turn w S w' tb N st (ss.set i (putL (ss.getD i []) x).1) m) := by
  have h8 : i < 8 := by
    unfold hasB at hr
    simp at hr
    omega
  have hb := (Below.refl w.heap.size w).alloc (Nat.le_refl _) (.cells #[.string x.k, .string x.t, .bool x.g] 50)
  have hok := putL_ok (x := x) (h.rs i).1 (h.rs i).2
  obtain ⟨L, hL⟩ : ∃ L, L = (putL (ss.getD i []) x).1 := ⟨_, rfl⟩
  obtain ⟨E, hE⟩ : ∃ E, E = (putL (ss.getD i []) x).2 := ⟨_, rfl⟩
  rw [← hL, ← hE] at hok ⊢
  have HOK := Lib.hid hok
  have HL := Lib.hid hL
  have HE := Lib.hid hE
  clear hok hL hE
  have HW := Lib.hid h
  have HB := Lib.hid hb
  have H := Lib.hid (h.below hb)
  have HH := Lib.hid hr
  have HY := Lib.hid hy
  have HC : Hid (Cells (w.alloc (.cells #[.string x.k, .string x.t, .bool x.g] 50)) w.heap.size 50 x.cells) := Lib.hid (Cells.new w x.cells _)
  clear h hb hr hy
  go_enter Try.func21, Try.ntmps21
  go_wp2_with fail
  generalize hW : World.alloc w _ = W1 at *
  generalize w.heap.size = g at HC ⊢
  clear hW
  refine Calls.mono (tat_yes i y H.out HH.out (by rw [Int.toNat_natCast]; exact HY.out)) ?_
  rintro e w' ⟨rfl, rfl⟩
  obtain ⟨wb, mb, F, vs, hR, hS⟩ := H.out
  have HR := Lib.hid hR
  have HS := Lib.hid hS
  clear hR hS
  go_wp2_with fail
  refine Calls.mono (good_yes HR.out) ?_
  rintro e w' ⟨rfl, rfl⟩
  obtain ⟨v, hv⟩ : ∃ v, vs[i]? = some v := ⟨vs[i]'(by have := HR.out.vlen; omega), List.getElem?_eq_getElem _⟩
  have HV := Lib.hid hv
  have hcs := HR.out.cellS hv
  have hfz := HR.out.cells.frozen (1 + i)
  have hg0 := HC.out.cell 0
  have hg1 := HC.out.cell 1
  have hg2 := HC.out.cell 2
  simp only [W3.cells, List.getElem?_cons_zero, List.getElem?_cons_succ] at hg0 hg1 hg2
  obtain ⟨A, n, c, rfl, hnc, hrow, _⟩ := HR.out.sets i v hv
  have hrs := HR.out.rs i
  have hn16 : n ≤ 16 := by have := hrow.1; omega
  have hpt : ∀ w : World, RowsOf W3.cells 3 w A n (ss.getD i []) → Calls Try.prog 43 #[.slice A n c, .agg #[.string x.k, .string x.t, .bool x.g]] w fun e w' => ∃ v, e = .returned (.tuple #[v, .int .i64 E]) ∧ Hid (SetV w' v L ∧ (∀ b, v.ownBlock = some b → w.heap.size ≤ b) ∧ Below w.heap.size w w') := by
    intro w h
    rw [HL.out, HE.out]
    exact put_t A n c (ss.getD i []) x w h (by omega) hrs.1
  have HPT := Lib.hid hpt
  have HROW := Lib.hid hrow
  clear hv hrow hrs HC hpt
  have hor : E = 0 ∨ (L = ss.getD i [] ∧ (E == 0) = false) := by
    rcases HOK.out.2.2 with h | ⟨h, h2 | h2⟩
    · exact .inl h
    · exact .inr ⟨h, by rw [h2]; rfl⟩
    · exact .inr ⟨h, by rw [h2]; rfl⟩
  rcases hor with rfl | ⟨hl, hE0⟩
  · go_wp2_with fail
    go_region_with (first | (go_at_call 43; refine Calls.mono (HPT.out _ ?_) ?_; exact HROW.out; rintro e w5 ⟨u, rfl, HU⟩))
    all_goals
      have hb5 := below_drew HU.out.2.2
      have HR5 := Lib.hid (HR.out.below hb5)
      have HB5 := Lib.hid hb5
      obtain ⟨Au, nu, cu, rfl, _⟩ := HU.out.1
      have hcs5 := HR5.out.cellS HV.out
      have hfz5 := HR5.out.cells.frozen (1 + i)
      clear hb5 hcs hfz hg0 hg1 hg2
      go_wp2_with fail
      have HT : Hid (Turn w S (w5.setCell ⟨tb, 1 + i, none⟩ (.slice Au nu cu)) tb N st (ss.set i L) m) := Lib.hid (Turn.after HB.out ((HR5.out.put h8 HU.out.1 HOK.out.1 HOK.out.2.1 (fun b hb => by
        have h1 := HU.out.2.1 b hb
        have h2 : W1.drew.heap.size = W1.heap.size := rfl
        refine ⟨fun f => ?_, fun f => ?_, fun f => ?_⟩
        · have := HR.out.watch.lt b f; omega
        · have := HR.out.cells.lt; omega
        · have := HR.out.notes.lt; omega)).turn HS.out (fun k hk => .inl hk) (fun v hv b hb => by
          rcases List.mem_or_eq_of_mem_set hv with hv | rfl
          · exact .inl hv
          · exact .inr (HU.out.2.1 b hb)) ((Chg.of_below (F := (· = tb)) HB5.out).setCell (fun _ => rfl) (.slice Au nu cu)) (fun k hk _ => .inr (.inl hk))))
      go_ret
      exact ⟨rfl, HT⟩
  · subst hl
    go_wp2_with fail
    go_region_with (first | (go_at_call 43; refine Calls.mono (HPT.out _ ?_) ?_; exact HROW.out; rintro e w5 ⟨u, rfl, HU⟩))
    all_goals
      have hb5 := below_drew HU.out.2.2
      have HT : Hid (Turn w S w5 tb N st (ss.set i (ss.getD i [])) m) := Lib.hid (by rw [set_same]; exact Turn.of_below HW.out (HB.out.trans (hb5.mono HB.out.size)))
      clear hb5 hcs hfz hg0 hg1 hg2
      go_wp2_with fail
      go_ret
      exact ⟨rfl, HT⟩
end
end Go.Proofs.Ytfbldpppjnnblaa.Tab
