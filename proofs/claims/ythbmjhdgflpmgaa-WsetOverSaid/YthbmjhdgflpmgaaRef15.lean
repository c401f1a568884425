/- Layer 15's document: Get, put, Over. -/
import Derived.Test.YthbmjhdgflpmgaaOpen15
namespace Go.Proofs.Ythbmjhdgflpmgaa.Ref15
open Go.RowKit Go.Joins Go.Proofs.Ythbmjhdgflpmgaa.Mem Go.Proofs.Ythbmjhdgflpmgaa.Read Go.Proofs.Ythbmjhdgflpmgaa.Out Go.Proofs.Ythbmjhdgflpmgaa.Copy Go.Proofs.Ythbmjhdgflpmgaa.Key Go.Proofs.Ythbmjhdgflpmgaa.Set Go.Proofs.Ythbmjhdgflpmgaa.Rows3 Go.Proofs.Ythbmjhdgflpmgaa.At15 Go.Proofs.Ythbmjhdgflpmgaa.Res Go.Proofs.Ythbmjhdgflpmgaa.Get15 Go.Proofs.Ythbmjhdgflpmgaa.Put15 Go.Proofs.Ythbmjhdgflpmgaa.Meet15 Go.Proofs.Ythbmjhdgflpmgaa.Over15 Go.Proofs.Ythbmjhdgflpmgaa.Conv Go.Proofs.Ythbmjhdgflpmgaa.Rise Go.Proofs.Ythbmjhdgflpmgaa.Same3 Go.Proofs.Ythbmjhdgflpmgaa.Few15 Go.Proofs.Ythbmjhdgflpmgaa.Open15 Go.Proofs.Ythbmjhdgflpmgaa.Alive15

theorem size_rw : (Try.prog.info? 41).map (·.size) = some 3 := by kernel_rfl

/-- What Get tells: some write, and whether there is one. -/
def RGet (r : Bool) (w : World) (e : Ending) (w' : World) : Prop := ∃ x : W3, e = .returned (.tuple #[.agg #[.string x.k, .string x.t, .bool x.g], .bool r]) ∧ Below w.heap.size w w'

set_option maxHeartbeats 1000000 in
theorem rget_any (A : Option Addr) (n c : Nat) (l : List W3) (key : ByteArray) (w : World) (h : RowsOf W3.cells 3 w A n l) (hn : n ≤ 100000) :
    Calls Try.prog 24 #[.slice A n c, .string key] w (RGet (lk W3.k l key).isSome w) := by
  have hl := h.1
  have HX := Lib.hid h
  obtain ⟨R, hR⟩ : ∃ R, R = (lk W3.k l key).isSome := ⟨_, rfl⟩
  rw [← hR]
  have HR := Lib.hid hR
  clear h hR
  go_enter Try.func24, Try.ntmps24
  go_wp2_with fail
  have HC1 : Hid (Cells (w.alloc (.cells #[.string ⟨#[]⟩, .string ⟨#[]⟩, .bool false] 41)) w.heap.size 41 noW.cells) := Lib.hid (Cells.new w noW.cells _)
  have HB1 : Hid (Below w.heap.size w (w.alloc (.cells #[.string ⟨#[]⟩, .string ⟨#[]⟩, .bool false] 41))) := Lib.hid ((Below.refl w.heap.size w).alloc (Nat.le_refl _) _)
  have HX1 := Lib.hid (HX.out.kept HB1.out)
  generalize hW : World.alloc w _ = W1 at *
  clear hW
  go_loop [6] (fun v => ∃ i : Nat, i ≤ n ∧ v = .int .i64 i ∧ Hid (∀ j x, j < i → l[j]? = some x → x.k ≠ key)) (fun v => n - (intOf v).toNat)
  case atStart => exact ⟨0, by omega, rfl, Lib.hid (fun j x hj => absurd hj (by omega))⟩
  case round =>
    obtain ⟨i, hi, rfl, HI⟩ := hrel
    by_cases hin : i < n
    · obtain ⟨b, off, rfl⟩ := HX.out.addr (by omega)
      obtain ⟨x, hx⟩ : ∃ x, l[i]? = some x := ⟨l[i]'(by omega), List.getElem?_eq_getElem _⟩
      have hc := HX1.out.at hx
      have hc0 := hc 0 _ rfl
      have hc1 := hc 1 _ rfl
      have hc2 := hc 2 _ rfl
      simp only [Nat.add_zero] at hc0
      have HXX := Lib.hid hx
      clear hc hx
      by_cases he : x.k = key
      · have heb : (x.k.toList == key.toList) = true := by rw [he]; simp
        have HF : Hid (R = true) := Lib.hid (by
          rw [HR.out]
          cases hq : lk W3.k l key with
          | some _ => rfl
          | none => exact absurd he (lk_none_iff.1 hq x (List.mem_of_getElem? HXX.out)))
        clear he
        have HRS := Lib.hid (row_set HC1.out x.cells)
        have HRB := Lib.hid (row_below HB1.out x.cells.toArray (Nat.le_refl _))
        go_wp2_with (refine wpList_store_row rfl 41 _ _ rfl w.heap.size x.cells.toArray rfl rfl 41 _ HC1.out size_rw rfl (by simp [W3.cells, Value.oneCell']) ?_)
        refine bodyPost_ret (res_one rfl _ _ w.heap.size 41 x.cells.toArray (0, 0) _ rfl HRS.out Try.underlying41 rfl size_rw) rfl ?_
        exact ⟨x, by rw [HF.out]; rfl, HRB.out⟩
      · have heb : (x.k.toList == key.toList) = false := by rw [eq_beq]; simpa using he
        have HS : Hid (∀ j y, j < i + 1 → l[j]? = some y → y.k ≠ key) := Lib.hid (fun j y hj hy => by
          by_cases e : j = i
          · subst e
            rw [HXX.out] at hy
            cases hy
            exact he
          · exact HI.out j y (by omega) hy)
        clear he
        go_wp2_with fail
        go_round
        case rel => exact ⟨i + 1, by omega, by go_num, HS⟩
        case measure => simp [intOf]; omega
    · have HF : Hid (R = false) := Lib.hid (by
        rw [HR.out, lk_none (fun y hy => by
          obtain ⟨j, hj, rfl⟩ := List.getElem_of_mem hy
          exact HI.out j _ (by omega) (List.getElem?_eq_getElem hj))]
        rfl)
      have HRS := Lib.hid (row_set HC1.out noW.cells)
      have HRB := Lib.hid (row_below HB1.out noW.cells.toArray (Nat.le_refl _))
      go_wp2_with (refine wpList_store_row rfl 41 _ _ rfl w.heap.size noW.cells.toArray rfl rfl 41 _ HC1.out size_rw rfl (by simp [noW, W3.cells, Value.oneCell']) ?_)
      refine bodyPost_ret (res_one rfl _ _ w.heap.size 41 noW.cells.toArray (0, 0) _ rfl HRS.out Try.underlying41 rfl size_rw) rfl ?_
      exact ⟨noW, by rw [HF.out]; rfl, HRB.out⟩

theorem put_here {p : P2} : ∀ (i : Nat) (l : List P2) (x : P2), l[i]? = some x → (∀ j y, j < i → l[j]? = some y → kl y.k p.k = true) → kl x.k p.k = false → Set.put P2.k l p = l.take i ++ p :: (if x.k = p.k then l.drop (i + 1) else l.drop i)
  | 0, a :: l, x, hx, _, hk => by
    obtain rfl : a = x := by simpa using hx
    simp only [Set.put, hk, Bool.false_eq_true, if_false]
    by_cases e : a.k = p.k
    · rw [if_pos e, if_pos e]; simp
    · rw [if_neg e, if_neg e]; simp
  | i + 1, a :: l, x, hx, h, hk => by
    have ha := h 0 a (by omega) rfl
    have ih := put_here (p := p) i l x (by simpa using hx) (fun j y hj hy => h (j + 1) y (by omega) (by simpa using hy)) hk
    simp only [Set.put, if_neg (kl_ne ha), if_pos ha, ih, List.take_succ_cons, List.cons_append, List.drop_succ_cons]
  | i, [], x, hx, _, _ => by simp at hx

theorem put_last {p : P2} : ∀ l : List P2, (∀ (j : Nat) (y : P2), l[j]? = some y → kl y.k p.k = true) → Set.put P2.k l p = l ++ [p]
  | [], _ => rfl
  | a :: l, h => by
    have ha := h 0 a rfl
    simp only [Set.put, if_neg (kl_ne ha), if_pos ha, put_last l (fun j y hy => h (j + 1) y (by simpa using hy)), List.cons_append]

/-- What put leaves. -/
def RPut (G : List P2) (w : World) (e : Ending) (w' : World) : Prop := ∃ v q, e = .returned v ∧ Hid (Out w w' 28 2 v q (G.flatMap P2.cells)) ∧ Hid (G.length = q)

/-- While put is at work: its parameter in block g, and what was told so far. -/
structure PS (w wr : World) (g : Nat) (p : P2) (v : Value) (q : Nat) (out : List P2) : Prop where
  box : Cells wr g 28 p.cells
  own : Out w wr 28 2 v q (out.flatMap P2.cells)
  ne : v.ownBlock ≠ some g
  len : out.length = q

theorem PS.N {w wr : World} {g : Nat} {p : P2} {v : Value} {q : Nat} {out : List P2} (h : PS w wr g p v q out) (n : Nat) : PS w (wr.drewN n) g p v q out := ⟨h.box, out_N h.own n, h.ne, h.len⟩

theorem PS.app {w wr w5 : World} {g g5 k : Nat} {p x : P2} {v : Value} {q : Nat} {out : List P2} {o : Obj} (h : PS w wr g p v q out) (ho : Out w w5 28 2 (.slice (some ⟨g5, 0, none⟩) (q + 1) k) (q + 1) (out.flatMap P2.cells ++ x.cells))
    (hg : (wr.alloc o).grownBy w5 v.ownBlock) (hw : some g5 = v.ownBlock ∨ g5 = (wr.alloc o).heap.size) : PS w w5 g p (.slice (some ⟨g5, 0, none⟩) (q + 1) k) (q + 1) (out ++ [x]) := by
  have hlt := h.box.lt
  refine ⟨(h.box.alloc o).kept (Chg.grown (F := fun b => v.ownBlock = some b) (Chg.refl _ _) hg (fun k e _ => e)) h.ne, by rw [flat_snoc]; exact ho, ?_, by rw [List.length_append, h.len]; rfl⟩
  intro e
  have e1 : g5 = g := by simpa [Value.ownBlock] using e
  subst e1
  rcases hw with hw | hw
  · exact h.ne hw.symm
  · simp at hw; omega

/-- So far: nothing is put yet, or it is. -/
def PI (l : List P2) (p : P2) (i : Nat) (out : List P2) (done : Bool) : Prop :=
  (done = false ∧ out = l.take i ∧ ∀ j y, j < i → l[j]? = some y → kl y.k p.k = true) ∨ (done = true ∧ out ++ l.drop i = Set.put P2.k l p ∧ ∀ j y, i ≤ j → l[j]? = some y → y.k ≠ p.k)

theorem PI.done {l : List P2} {p x : P2} {i : Nat} {out : List P2} (h : PI l p i out true) (hx : l[i]? = some x) : x.k ≠ p.k ∧ PI l p (i + 1) (out ++ [x]) true := by
  rcases h with ⟨h, _⟩ | ⟨_, h1, h2⟩
  · cases h
  · have hil := (List.getElem?_eq_some_iff.1 hx).1
    refine ⟨h2 i x (Nat.le_refl _) hx, .inr ⟨rfl, ?_, fun j y hj hy => h2 j y (by omega) hy⟩⟩
    rw [← h1, List.drop_eq_getElem_cons hil, List.append_assoc]
    congr 1
    obtain ⟨_, rfl⟩ := List.getElem?_eq_some_iff.1 hx
    rfl

theorem PI.less {l : List P2} {p x : P2} {i : Nat} {out : List P2} (h : PI l p i out false) (hx : l[i]? = some x) (hk : kl x.k p.k = true) : x.k ≠ p.k ∧ PI l p (i + 1) (out ++ [x]) false := by
  rcases h with ⟨_, rfl, h2⟩ | ⟨h, _⟩
  · refine ⟨kl_ne hk, .inl ⟨rfl, by rw [List.take_add_one, hx]; rfl, fun j y hj hy => ?_⟩⟩
    by_cases e : j = i
    · subst e
      rw [hx] at hy
      cases hy
      exact hk
    · exact h2 j y (by omega) hy
  · cases h

theorem PI.put {l : List P2} {p x : P2} {i : Nat} {out : List P2} (h : PI l p i out false) (hr : Rs P2.k l) (hx : l[i]? = some x) (hk : kl x.k p.k = false) : (x.k = p.k → PI l p (i + 1) (out ++ [p]) true) ∧ (x.k ≠ p.k → PI l p (i + 1) (out ++ [p] ++ [x]) true) := by
  rcases h with ⟨_, rfl, h2⟩ | ⟨h, _⟩
  · have hput := put_here i l x hx h2 hk
    have hil := (List.getElem?_eq_some_iff.1 hx).1
    have hdrop : l.drop i = x :: l.drop (i + 1) := by
      rw [List.drop_eq_getElem_cons hil]
      congr 1
      exact (List.getElem?_eq_some_iff.1 hx).2
    have hbeh : ∀ j y, i + 1 ≤ j → l[j]? = some y → y.k ≠ p.k := fun j y hj hy e => by
      have h4 := rs_lt hr hx hy (by omega)
      rw [e] at h4
      rw [hk] at h4
      cases h4
    refine ⟨fun e => .inr ⟨rfl, ?_, hbeh⟩, fun e => .inr ⟨rfl, ?_, hbeh⟩⟩
    · rw [hput, if_pos e]; simp
    · rw [hput, if_neg e, hdrop]; simp
  · cases h

theorem PI.end {l : List P2} {p : P2} {out : List P2} {done : Bool} (h : PI l p l.length out done) : Set.put P2.k l p = if done = true then out else out ++ [p] := by
  rcases h with ⟨rfl, rfl, h2⟩ | ⟨rfl, h1, _⟩
  · simp only [Bool.false_eq_true, if_false, List.take_length]
    exact put_last l (fun j y hy => h2 j y (List.getElem?_eq_some_iff.1 hy).1 hy)
  · simp only [if_true]
    rw [← h1]; simp


set_option maxHeartbeats 4000000 in
set_option maxRecDepth 100000 in
theorem rput_any (A : Option Addr) (n c : Nat) (l : List P2) (p : P2) (w : World) (h : RowsOf P2.cells 2 w A n l) (hn : n ≤ 1000) (hr : Rs P2.k l) :
    Calls Try.prog 25 #[.slice A n c, .agg #[.string p.k, .string p.t]] w (RPut (Set.put P2.k l p) w) := by
  have hl := h.1
  have HX := Lib.hid h
  have HR := Lib.hid hr
  obtain ⟨G, hG⟩ : ∃ G, G = Set.put P2.k l p := ⟨_, rfl⟩
  rw [← hG]
  have HG := Lib.hid hG
  clear h hr hG
  have hb0 := (Below.refl w.heap.size w).alloc (Nat.le_refl _) (.cells #[.string p.k, .string p.t] 28)
  have HP0 : Hid (PS w (w.alloc (.cells #[.string p.k, .string p.t] 28)) w.heap.size p (.slice none 0 0) 0 []) := Lib.hid ⟨Cells.new w p.cells _, Out.nil hb0 _ _, by simp [Value.ownBlock], rfl⟩
  clear hb0
  go_enter Try.func25, Try.ntmps25
  go_wp2_with fail
  generalize hW : World.alloc w _ = W0 at *
  clear hW
  go_loopw [5, 6, 7] (fun v5 v6 v7 wr => ∃ (i q c5 : Nat) (A5 : Option Addr) (out : List P2) (done : Bool), i ≤ n ∧ v7 = .int .i64 i ∧ v6 = .bool done ∧ v5 = .slice A5 q c5 ∧ q ≤ i + 1 ∧ Hid (PS w wr w.heap.size p (.slice A5 q c5) q out) ∧ Hid (PI l p i out done)) (fun _ _ v7 _ => n - (intOf v7).toNat)
  case atStart => exact ⟨0, 0, 0, none, [], false, by omega, rfl, rfl, rfl, by omega, HP0, Lib.hid (.inl ⟨rfl, by simp, fun j y hj => absurd hj (by omega)⟩)⟩
  case round =>
    clear HP0
    obtain ⟨i, q, c5, A5, out, done, hi, rfl, rfl, rfl, hq, HP, HI⟩ := hrel
    by_cases hin : i < n
    · have hcells := HX.out.kept HP.out.own.below
      obtain ⟨b, off, rfl⟩ := HX.out.addr (by omega)
      obtain ⟨x, hx⟩ : ∃ x, l[i]? = some x := ⟨l[i]'(by omega), List.getElem?_eq_getElem _⟩
      have hc := hcells.at hx
      have hc0 := hc 0 _ rfl
      have hc1 := hc 1 _ rfl
      simp only [Nat.add_zero] at hc0
      have hg0 := HP.out.box.cell 0
      have hg1 := HP.out.box.cell 1
      simp only [P2.cells, List.getElem?_cons_zero, List.getElem?_cons_succ] at hg0 hg1
      have HXX := Lib.hid hx
      clear hc hx hcells
      cases done with
      | true =>
        obtain ⟨hne, hpi⟩ := HI.out.done HXX.out
        have hkb : (x.k.toList == p.k.toList) = false := by rw [eq_beq]; simpa using hne
        have HPI := Lib.hid hpi
        clear hne hpi
        go_wp2_with fail
        go_quiet (fail)
        revert nq
        intro n1
        go_wp2_with fail
        go_quiet (fail)
        rw [World.drewN_drewN]
        have HQ := Lib.hid (HP.out.N (n1 + nq))
        have hd0 := hc0
        have hd1 := hc1
        have he0 := hg0
        have he1 := hg1
        generalize hW2 : World.drewN wr _ = W2 at *
        have hf0 : W2.cell? ⟨b, off + i * 2, none⟩ = some (.string x.k) := by rw [← hW2]; exact hd0
        have hf1 : W2.cell? ⟨b, off + i * 2 + 1, none⟩ = some (.string x.t) := by rw [← hW2]; exact hd1
        have hh0 : W2.cell? ⟨w.heap.size, 0, none⟩ = some (.string p.k) := by rw [← hW2]; exact he0
        have hh1 : W2.cell? ⟨w.heap.size, 1, none⟩ = some (.string p.t) := by rw [← hW2]; exact he1
        clear hW2 hc0 hc1 hg0 hg1 hd0 hd1 he0 he1
        go_wp2_with (at_builtin; refine wpList_out rfl _ _ 22 rfl 28 (.agg #[.string ⟨#[]⟩, .string ⟨#[]⟩]) 2 32 Try.underlying22 info_rp rfl (by decide) _ _ _ rfl (HQ.out.own.alloc _) ⟨W2.heap.size, 0, none⟩ 1 1 (x).cells rfl rfl (one_row _ _ _) (x).one (by simp only [maxLen]; omega) (by omega) (by decide) ?_; intro g5 k5 w5 ho5 hg5 hw5)
        have HP5 : Hid (PS w w5 w.heap.size p (.slice (some ⟨g5, 0, none⟩) (q + 1) k5) (q + 1) (out ++ [x])) := Lib.hid (HQ.out.app ho5.out hg5.out hw5.out)
        clear ho5 hg5 hw5 hf0 hf1 hh0 hh1
        go_roundw
        case rel => exact ⟨i + 1, q + 1, k5, _, out ++ [x], true, by omega, by go_num, rfl, rfl, by omega, HP5, HPI⟩
        case measure => simp [intOf]; omega
      | false =>
        cases hk : kl x.k p.k with
        | true =>
          obtain ⟨hne, hpi⟩ := HI.out.less HXX.out hk
          have hkb : (x.k.toList == p.k.toList) = false := by rw [eq_beq]; simpa using hne
          have HPI := Lib.hid hpi
          have hbl : Op.bytesLess x.k.toList p.k.toList = true := hk
          clear hne hpi hk
          go_wp2_with fail
          go_quiet (fail)
          revert nq
          intro n1
          go_wp2_with fail
          go_quiet (fail)
          rw [World.drewN_drewN]
          have HQ := Lib.hid (HP.out.N (n1 + nq))
          have hd0 := hc0
          have hd1 := hc1
          have he0 := hg0
          have he1 := hg1
          generalize hW2 : World.drewN wr _ = W2 at *
          have hf0 : W2.cell? ⟨b, off + i * 2, none⟩ = some (.string x.k) := by rw [← hW2]; exact hd0
          have hf1 : W2.cell? ⟨b, off + i * 2 + 1, none⟩ = some (.string x.t) := by rw [← hW2]; exact hd1
          have hh0 : W2.cell? ⟨w.heap.size, 0, none⟩ = some (.string p.k) := by rw [← hW2]; exact he0
          have hh1 : W2.cell? ⟨w.heap.size, 1, none⟩ = some (.string p.t) := by rw [← hW2]; exact he1
          clear hW2 hc0 hc1 hg0 hg1 hd0 hd1 he0 he1
          go_wp2_with (at_builtin; refine wpList_out rfl _ _ 22 rfl 28 (.agg #[.string ⟨#[]⟩, .string ⟨#[]⟩]) 2 32 Try.underlying22 info_rp rfl (by decide) _ _ _ rfl (HQ.out.own.alloc _) ⟨W2.heap.size, 0, none⟩ 1 1 (x).cells rfl rfl (one_row _ _ _) (x).one (by simp only [maxLen]; omega) (by omega) (by decide) ?_; intro g5 k5 w5 ho5 hg5 hw5)
          have HP5 : Hid (PS w w5 w.heap.size p (.slice (some ⟨g5, 0, none⟩) (q + 1) k5) (q + 1) (out ++ [x])) := Lib.hid (HQ.out.app ho5.out hg5.out hw5.out)
          clear ho5 hg5 hw5 hf0 hf1 hh0 hh1
          go_roundw
          case rel => exact ⟨i + 1, q + 1, k5, _, out ++ [x], false, by omega, by go_num, rfl, rfl, by omega, HP5, HPI⟩
          case measure => simp [intOf]; omega
        | false =>
          obtain ⟨hpy, hpn⟩ := HI.out.put HR.out HXX.out hk
          have hqi : q ≤ i := by
            rcases HI.out with ⟨_, ho, _⟩ | ⟨h, _⟩
            · rw [← HP.out.len, ho]; exact List.length_take_le _ _
            · cases h
          have HPY := Lib.hid hpy
          have HPN := Lib.hid hpn
          have hbl : Op.bytesLess x.k.toList p.k.toList = false := hk
          clear hpy hpn hk
          go_wp2_with fail
          go_quiet (fail)
          have HQ := Lib.hid (HP.out.N nq)
          have hd0 := hc0
          have hd1 := hc1
          have he0 := hg0
          have he1 := hg1
          generalize hW2 : World.drewN wr _ = W2 at *
          have hf0 : W2.cell? ⟨b, off + i * 2, none⟩ = some (.string x.k) := by rw [← hW2]; exact hd0
          have hf1 : W2.cell? ⟨b, off + i * 2 + 1, none⟩ = some (.string x.t) := by rw [← hW2]; exact hd1
          have hh0 : W2.cell? ⟨w.heap.size, 0, none⟩ = some (.string p.k) := by rw [← hW2]; exact he0
          have hh1 : W2.cell? ⟨w.heap.size, 1, none⟩ = some (.string p.t) := by rw [← hW2]; exact he1
          clear hW2 hc0 hc1 hg0 hg1 hd0 hd1 he0 he1
          go_wp2_with (at_builtin; refine wpList_out rfl _ _ 22 rfl 28 (.agg #[.string ⟨#[]⟩, .string ⟨#[]⟩]) 2 32 Try.underlying22 info_rp rfl (by decide) _ _ _ rfl (HQ.out.own.alloc _) ⟨W2.heap.size, 0, none⟩ 1 1 (p).cells rfl rfl (one_row _ _ _) (p).one (by simp only [maxLen]; omega) (by omega) (by decide) ?_; intro g5 k5 w5 ho5 hg5 hw5)
          have HP5 : Hid (PS w w5 w.heap.size p (.slice (some ⟨g5, 0, none⟩) (q + 1) k5) (q + 1) (out ++ [p])) := Lib.hid (HQ.out.app ho5.out hg5.out hw5.out)
          clear ho5 hg5 hw5 hf0 hf1 hh0 hh1
          have hcells := HX.out.kept HP5.out.own.below
          have hc := hcells.at HXX.out
          have hc0 := hc 0 _ rfl
          have hc1 := hc 1 _ rfl
          simp only [Nat.add_zero] at hc0
          have hg0 := HP5.out.box.cell 0
          have hg1 := HP5.out.box.cell 1
          simp only [P2.cells, List.getElem?_cons_zero, List.getElem?_cons_succ] at hg0 hg1
          clear hc hcells
          by_cases he : x.k = p.k
          · have hkb : (x.k.toList == p.k.toList) = true := by rw [eq_beq]; simpa using he
            have HPI := Lib.hid (HPY.out he)
            clear he
            go_wp2_with fail
            go_quiet (fail)
            go_wp2_with fail
            go_roundw
            case rel => exact ⟨i + 1, q + 1, k5, _, out ++ [p], true, by omega, by go_num, rfl, rfl, by omega, Lib.hid (HP5.out.N nq), HPI⟩
            case measure => simp [intOf]; omega
          · have hkb : (x.k.toList == p.k.toList) = false := by rw [eq_beq]; simpa using he
            have HPI := Lib.hid (HPN.out he)
            clear he
            go_wp2_with fail
            go_quiet (fail)
            have HQ := Lib.hid (HP5.out.N nq)
            have hd0 := hc0
            have hd1 := hc1
            generalize hW2 : World.drewN w5 _ = W6 at *
            have hf0 : W6.cell? ⟨b, off + i * 2, none⟩ = some (.string x.k) := by rw [← hW2]; exact hd0
            have hf1 : W6.cell? ⟨b, off + i * 2 + 1, none⟩ = some (.string x.t) := by rw [← hW2]; exact hd1
            clear hW2 hc0 hc1 hg0 hg1 hd0 hd1
            go_wp2_with (at_builtin; refine wpList_out rfl _ _ 22 rfl 28 (.agg #[.string ⟨#[]⟩, .string ⟨#[]⟩]) 2 32 Try.underlying22 info_rp rfl (by decide) _ _ _ rfl (HQ.out.own.alloc _) ⟨W6.heap.size, 0, none⟩ 1 1 x.cells rfl rfl (one_row _ _ _) x.one (by simp only [maxLen]; omega) (by omega) (by decide) ?_; intro g7 k7 w7 ho7 hg7 hw7)
            have HP7 : Hid (PS w w7 w.heap.size p (.slice (some ⟨g7, 0, none⟩) (q + 1 + 1) k7) (q + 1 + 1) (out ++ [p] ++ [x])) := Lib.hid (HQ.out.app ho7.out hg7.out hw7.out)
            clear ho7 hg7 hw7
            go_roundw
            case rel => exact ⟨i + 1, q + 1 + 1, k7, _, out ++ [p] ++ [x], true, by omega, by go_num, rfl, rfl, by omega, HP7, HPI⟩
            case measure => simp [intOf]; omega
    · obtain rfl : i = n := by omega
      have hend := PI.end (l := l) (p := p) (out := out) (done := done) (by rw [hl]; exact HI.out)
      rw [← HG.out] at hend
      have HE := Lib.hid hend
      clear hend
      cases done with
      | true =>
        go_wp2_with fail
        go_ret
        have he : G = out := HE.out
        exact ⟨_, q, rfl, Lib.hid (by rw [he]; exact HP.out.own), Lib.hid (by rw [he]; exact HP.out.len)⟩
      | false =>
        have hg0 := HP.out.box.cell 0
        have hg1 := HP.out.box.cell 1
        simp only [P2.cells, List.getElem?_cons_zero, List.getElem?_cons_succ] at hg0 hg1
        go_wp2_with (at_builtin; refine wpList_out rfl _ _ 22 rfl 28 (.agg #[.string ⟨#[]⟩, .string ⟨#[]⟩]) 2 32 Try.underlying22 info_rp rfl (by decide) _ _ _ rfl (HP.out.own.alloc _) ⟨wr.heap.size, 0, none⟩ 1 1 p.cells rfl rfl (one_row _ _ _) p.one (by simp only [maxLen]; omega) (by omega) (by decide) ?_; intro g7 k7 w7 ho7 hg7 hw7)
        have HP7 : Hid (PS w w7 w.heap.size p (.slice (some ⟨g7, 0, none⟩) (q + 1) k7) (q + 1) (out ++ [p])) := Lib.hid (HP.out.app ho7.out hg7.out hw7.out)
        clear ho7 hg7 hw7
        go_ret
        have he : G = out ++ [p] := HE.out
        exact ⟨_, q + 1, rfl, Lib.hid (by rw [he]; exact HP7.out.own), Lib.hid (by rw [he]; exact HP7.out.len)⟩
end Go.Proofs.Ythbmjhdgflpmgaa.Ref15
