/- StampActs: a watch answers every call, in every order, as the document says: for every list of calls and every 'none'. No condition. -/
import Derived.Test.YtdjppnfbpnfgaaaRows
import Derived.Test.YtdjppnfbpnfgaaaRef14
import Derived.Test.YtdjppnfbpnfgaaaPost
import Derived.Carry
import Derived.Test.YtdjppnfbpnfgaaaRead
import Derived.Deep.RegionHeld3
import Derived.Deep.DeepCutAuto
namespace Go.Proofs.Ytdjppnfbpnfgaaa.stampActs
open Go.ChangeShapes Go.WideShapes Go.ChangeAt Go.RowKit Go.Proofs.Ytdjppnfbpnfgaaa.Mem Go.Proofs.Ytdjppnfbpnfgaaa.Q Go.Proofs.Ytdjppnfbpnfgaaa.Watch Go.Proofs.Ytdjppnfbpnfgaaa.Read Go.Proofs.Ytdjppnfbpnfgaaa.Ref14

/-- A call that is asked. -/
structure SAct where
  kind : Int
  at_ : Int
  id : Int
  lo : 0 ≤ kind
  hi : kind ≤ 255

def SAct.cells (a : SAct) : List Value := [.int .u8 a.kind, .int .u64 a.at_, .int .i64 a.id]

theorem acts_open {H : Type} {enc : TypeId × Value → H} {W : World} {base : Nat} {v : Value} {d : DataW H} {p : List MemPlace} (h : DataW.Trod enc Try.prog W 0 (fun _ => true) true 22 v d p) (ho : Value.okWide Try.prog W .any base 22 v) :
    ∃ (A : Option Addr) (n c : Nat) (l : List SAct), v = .slice A n c ∧ Structs W 3 A n (l.map SAct.cells) := by
  refine structs_open SAct.cells Try.underlying22 Try.underlying36 (by kernel_rfl) (by kernel_rfl) (by decide) ?_ h ho
  intro row hl hf
  match row, hl with
  | [x, y, z], _ =>
    obtain ⟨n0, y0, h0⟩ := hf 0 _ rfl
    obtain ⟨n1, y1, h1⟩ := hf 1 _ rfl
    obtain ⟨n2, y2, h2⟩ := hf 2 _ rfl
    obtain ⟨a, e0, _, w0⟩ := DataW.trod_int Try.underlying5 h0
    obtain ⟨b, e1, _, _⟩ := DataW.trod_int Try.underlying23 h1
    obtain ⟨c, e2, _, _⟩ := DataW.trod_int Try.underlying3 h2
    have hb := bounds_u8 w0
    refine ⟨⟨a, b, c, hb.1, hb.2⟩, ?_⟩
    simp at e0 e1 e2
    simp [SAct.cells, e0, e1, e2]

/-- A watch in the call's own memory, and beside it other blocks of the call's own, that are known whole. -/
def LiveX (w0 w : World) (b N : Nat) (st : List (Option Int)) (X : List (Nat × TypeId × List Value)) : Prop :=
  ∃ F, WatchAt w b F N st ∧ (∀ k, F k → w0.heap.size ≤ k) ∧ (∀ e ∈ X, ¬ F e.1 ∧ w0.heap.size ≤ e.1 ∧ Cells w e.1 e.2.1 e.2.2) ∧ Below w0.heap.size w0 w

section
variable {w0 w : World} {b N : Nat} {st : List (Option Int)} {X : List (Nat × TypeId × List Value)}

theorem LiveX.len (h : LiveX w0 w b N st X) : st.length = 8 := by
  obtain ⟨F, h1, _⟩ := h; exact h1.len
theorem LiveX.below (h : LiveX w0 w b N st X) : Below w0.heap.size w0 w := by
  obtain ⟨F, _, _, _, h⟩ := h; exact h
theorem LiveX.cells (h : LiveX w0 w b N st X) {e : Nat × TypeId × List Value} (he : e ∈ X) : Cells w e.1 e.2.1 e.2.2 := by
  obtain ⟨F, _, _, h, _⟩ := h; exact (h e he).2.2

theorem LiveX.kept {w' : World} (h : LiveX w0 w b N st X) (hb : Below w.heap.size w w') : LiveX w0 w' b N st X := by
  obtain ⟨F, h1, h2, h3, h6⟩ := h
  exact ⟨F, h1.kept (Chg.of_below (F := fun _ => False) hb) (fun _ _ f => f), h2, fun e he => ⟨(h3 e he).1, (h3 e he).2.1, (h3 e he).2.2.kept (Chg.of_below (F := fun _ => False) hb) (fun f => f)⟩, h6.trans (hb.mono h6.size)⟩

theorem LiveX.drew (h : LiveX w0 w b N st X) : LiveX w0 w.drew b N st X := h.kept ((Below.refl _ _).drew)

theorem LiveX.less {Y : List (Nat × TypeId × List Value)} (h : LiveX w0 w b N st X) (hY : ∀ e ∈ Y, e ∈ X) : LiveX w0 w b N st Y := by
  obtain ⟨F, h1, h2, h3, h6⟩ := h
  exact ⟨F, h1, h2, fun e he => h3 e (hY e he), h6⟩

theorem LiveX.new (h : LiveX w0 w b N st X) (T : TypeId) (cs : List Value) : LiveX w0 (w.alloc (.cells cs.toArray T)) b N st ((w.heap.size, T, cs) :: X) := by
  have hk := h.kept ((Below.refl w.heap.size w).alloc (Nat.le_refl _) (.cells cs.toArray T))
  obtain ⟨F, h1, h2, h3, h6⟩ := hk
  obtain ⟨F0, g1, g2, g3, g6⟩ := h
  refine ⟨F0, g1.kept (Chg.of_below (F := fun _ => False) ((Below.refl w.heap.size w).alloc (Nat.le_refl _) (.cells cs.toArray T))) (fun _ _ f => f), g2, fun e he => ?_, h6⟩
  rcases List.mem_cons.1 he with rfl | he
  · exact ⟨fun f => by have := g1.lt _ f; simp at this, g6.size, Cells.new w cs T⟩
  · exact ⟨(g3 e he).1, (g3 e he).2.1, (h3 e he).2.2⟩

theorem LiveX.row {b2 : Nat} {T : TypeId} {cs : List Value} (h : LiveX w0 w b N st ((b2, T, cs) :: X)) (hX : ∀ e ∈ X, e.1 ≠ b2) (cs' : List Value) : LiveX w0 (w.setRow b2 cs'.toArray) b N st ((b2, T, cs') :: X) := by
  obtain ⟨F, h1, h2, h3, h6⟩ := h
  have hb := h3 _ List.mem_cons_self
  have hc : Chg (· = b2) w (w.setRow b2 cs'.toArray) := Chg.row (Chg.refl (· = b2) w) (fun _ => rfl) _
  refine ⟨F, h1.kept hc (fun k hk e => hb.1 (e ▸ hk)), h2, fun e he => ?_, hRow h6 _ hb.2.1⟩
  rcases List.mem_cons.1 he with rfl | he
  · exact ⟨hb.1, hb.2.1, Cells.row hb.2.2 _⟩
  · exact ⟨(h3 e (List.mem_cons_of_mem _ he)).1, (h3 e (List.mem_cons_of_mem _ he)).2.1, (h3 e (List.mem_cons_of_mem _ he)).2.2.kept hc (hX e he)⟩

/-- A new one beside, and the document's watch is that one then. -/
theorem LiveX.next {b2 ba : Nat} {T Ta : TypeId} {ca cs : List Value} (h : LiveX w0 w b N st [(ba, Ta, ca), (b2, T, cs)]) (zs cs' : List Value) :
    Cells (w.alloc (.cells zs.toArray T)) w.heap.size T zs ∧ Cells ((w.alloc (.cells zs.toArray T)).setRow w.heap.size cs'.toArray) w.heap.size T cs' ∧ Cells ((w.alloc (.cells zs.toArray T)).setRow w.heap.size cs'.toArray) b2 T cs ∧
    LiveX w0 (((w.alloc (.cells zs.toArray T)).setRow w.heap.size cs'.toArray).setRow b2 cs'.toArray) b N st [(b2, T, cs')] := by
  have l1 : ba < w.heap.size := (h.cells List.mem_cons_self).lt
  have l2 : b2 < w.heap.size := (h.cells (List.mem_cons_of_mem _ List.mem_cons_self)).lt
  have k1 := h.new T zs
  have k2 := k1.row (by intro e he; rcases List.mem_cons.1 he with rfl | he; (show ba ≠ _; omega); (obtain rfl := List.mem_singleton.1 he; show b2 ≠ _; omega)) cs'
  have k3 : LiveX w0 ((w.alloc (.cells zs.toArray T)).setRow w.heap.size cs'.toArray) b N st [(b2, T, cs)] := k2.less (by intro e he; obtain rfl := List.mem_singleton.1 he; simp)
  exact ⟨k1.cells List.mem_cons_self, k2.cells List.mem_cons_self, k3.cells List.mem_cons_self, k3.row (by simp) cs'⟩

theorem LiveX.step {w' : World} {F' : Nat → Prop} {N' : Nat} {st' : List (Option Int)} {F : Nat → Prop} (h2 : ∀ k, F k → w0.heap.size ≤ k) (h3 : ∀ e ∈ X, ¬ F e.1 ∧ w0.heap.size ≤ e.1 ∧ Cells w e.1 e.2.1 e.2.2) (h6 : Below w0.heap.size w0 w)
    (k4 : WatchAt w' b F' N' st') (k5 : ∀ k, F' k → F k ∨ w.heap.size ≤ k) (k6 : Chg F w w') : LiveX w0 w' b N' st' X :=
  ⟨F', k4, fun k hk => (k5 k hk).elim (h2 k) (fun h => Nat.le_trans h6.size h), fun e he => ⟨fun f => (k5 _ f).elim (h3 e he).1 (fun h => by have := (h3 e he).2.2.lt; omega), (h3 e he).2.1, (h3 e he).2.2.kept k6 (h3 e he).1⟩, below_chg h6 k6 h2⟩

theorem bopen_yes (i : Nat) (x : Int) (h : LiveX w0 w b N st X) (hN : N < 1000000) (hi : st[i]? = some none) (hlo : ∀ j, j < i → st[j]? ≠ some none) :
    Calls Try.prog 9 #[ptr b, .int .u64 x] w fun e w' => e = .returned (.tuple #[.int .i64 i, .int .i64 0]) ∧ Hid (LiveX w0 w' b (N + 1) (st.set i (some x)) X) := by
  obtain ⟨F, h1, h2, h3, h6⟩ := h
  refine Calls.mono (Watch.open_yes b F N st i x w h1 hN hi hlo) ?_
  rintro e w' ⟨rfl, ⟨F', k4, k5⟩, k6⟩
  exact ⟨rfl, LiveX.step h2 h3 h6 k4 k5 k6⟩

theorem bopen_no (x : Int) (h : LiveX w0 w b N st X) (hf : ∀ i : Nat, st[i]? ≠ some none) :
    Calls Try.prog 9 #[ptr b, .int .u64 x] w fun e w' => e = .returned (.tuple #[.int .i64 0, .int .i64 6]) ∧ w = w' := by
  obtain ⟨F, h1, _⟩ := h
  exact Watch.open_no b F N st x w h1 hf

theorem bleast (none n : Int) (h : LiveX w0 w b N st X) (hN : N < 1000000) (hl : IsLeast st none n) :
    Calls Try.prog 13 #[ptr b, .int .u64 none] w fun e w' => e = .returned (.int .u64 n) ∧ Hid (LiveX w0 w' b N st X) := by
  obtain ⟨F, h1, h2, h3, h6⟩ := h
  refine Calls.mono (least_any b F N st none w h1 hN) ?_
  rintro e w' ⟨⟨m, rfl, hm⟩, ⟨F', k4, k5⟩, k6⟩
  exact ⟨by rw [hm.unique hl], LiveX.step h2 h3 h6 k4 (fun k hk => .inl (k5 k hk)) k6⟩

theorem bclose_yes (I : Int) (h : LiveX w0 w b N st X) (hr : hasB st I = true) :
    Calls Try.prog 11 #[ptr b, .int .i64 I] w fun e w' => e = .returned (.int .i64 0) ∧ Hid (LiveX w0 w' b N (st.set I.toNat none) X) := by
  obtain ⟨F, h1, h2, h3, h6⟩ := h
  refine Calls.mono (Watch.close_yes b F N st I w h1 hr) ?_
  rintro e w' ⟨rfl, k4, k6⟩
  exact ⟨rfl, LiveX.step h2 h3 h6 k4 (fun k hk => .inl hk) k6⟩

theorem bclose_no (I : Int) (h : LiveX w0 w b N st X) (hr : hasB st I = false) :
    Calls Try.prog 11 #[ptr b, .int .i64 I] w fun e w' => e = .returned (.int .i64 7) ∧ w = w' := by
  obtain ⟨F, h1, _⟩ := h
  exact Watch.close_no b F N st I w h1 hr

theorem bat_no (I : Int) (h : LiveX w0 w b N st X) (hr : hasB st I = false) :
    Calls Try.prog 17 #[ptr b, .int .i64 I] w fun e w' => e = .returned (.tuple #[.int .u64 0, .bool false]) ∧ w = w' := by
  obtain ⟨F, h1, _⟩ := h
  exact at_no b F N st I w h1 hr

theorem bat_yes (I x : Int) (h : LiveX w0 w b N st X) (hr : hasB st I = true) (hx : st.getD I.toNat none = some x) :
    Calls Try.prog 17 #[ptr b, .int .i64 I] w fun e w' => e = .returned (.tuple #[.int .u64 x, .bool true]) ∧ w = w' := by
  obtain ⟨F, h1, _⟩ := h
  exact at_yes b F N st I x w h1 hr hx

theorem blen (h : LiveX w0 w b N st X) :
    Calls Try.prog 15 #[ptr b] w fun e w' => e = .returned (.int .i64 (cntB st)) ∧ w = w' := by
  obtain ⟨F, h1, _⟩ := h
  exact len_any' b F N st w h1
end

/-- The first number that is free, if there is one. -/
theorem free_or (st : List (Option Int)) : (∃ i : Nat, st[i]? = some none ∧ ∀ j, j < i → st[j]? ≠ some none) ∨ ∀ i : Nat, st[i]? ≠ some none := by
  by_cases h : ∃ i : Nat, st[i]? = some none
  · exact .inl (by
      obtain ⟨i, hi⟩ := h
      induction i using Nat.strongRecOn with
      | ind i ih =>
        by_cases hm : ∃ j, j < i ∧ st[j]? = some none
        · obtain ⟨j, hj, hs⟩ := hm
          exact ih j hj hs
        · exact ⟨i, hi, fun j hj hs => hm ⟨j, hj, hs⟩⟩)
  · exact .inr (fun i hi => h ⟨i, hi⟩)

/-- The document's cells, one by one. -/
abbrev RefAt (w : World) (b : Nat) (s0 s1 s2 s3 s4 s5 s6 s7 : Option Int) : Prop :=
  w.cell? ⟨b, 0, none⟩ = some (.int .u64 (s0.getD 0)) ∧ w.cell? ⟨b, 1, none⟩ = some (.int .u64 (s1.getD 0)) ∧ w.cell? ⟨b, 2, none⟩ = some (.int .u64 (s2.getD 0)) ∧ w.cell? ⟨b, 3, none⟩ = some (.int .u64 (s3.getD 0)) ∧
  w.cell? ⟨b, 4, none⟩ = some (.int .u64 (s4.getD 0)) ∧ w.cell? ⟨b, 5, none⟩ = some (.int .u64 (s5.getD 0)) ∧ w.cell? ⟨b, 6, none⟩ = some (.int .u64 (s6.getD 0)) ∧ w.cell? ⟨b, 7, none⟩ = some (.int .u64 (s7.getD 0)) ∧
  w.cell? ⟨b, 8, none⟩ = some (.bool s0.isSome) ∧ w.cell? ⟨b, 9, none⟩ = some (.bool s1.isSome) ∧ w.cell? ⟨b, 10, none⟩ = some (.bool s2.isSome) ∧ w.cell? ⟨b, 11, none⟩ = some (.bool s3.isSome) ∧
  w.cell? ⟨b, 12, none⟩ = some (.bool s4.isSome) ∧ w.cell? ⟨b, 13, none⟩ = some (.bool s5.isSome) ∧ w.cell? ⟨b, 14, none⟩ = some (.bool s6.isSome) ∧ w.cell? ⟨b, 15, none⟩ = some (.bool s7.isSome)

theorem ref_cells {w : World} {b T : Nat} {s0 s1 s2 s3 s4 s5 s6 s7 : Option Int} (h : Cells w b T (refL [s0, s1, s2, s3, s4, s5, s6, s7])) : RefAt w b s0 s1 s2 s3 s4 s5 s6 s7 := by
  unfold RefAt
  simp only [h.cell]
  exact ⟨rfl, rfl, rfl, rfl, rfl, rfl, rfl, rfl, rfl, rfl, rfl, rfl, rfl, rfl, rfl, rfl⟩

theorem least_ref' (st : List (Option Int)) (none n : Int) (w : World) (hl : st.length = 8) (h : IsLeast st none n) :
    Calls Try.prog 14 #[.agg (refL st).toArray, .int .u64 none] w fun e w' => e = .returned (.int .u64 n) ∧ Below w.heap.size w w' := by
  refine Calls.mono (least_ref st none w hl) ?_
  rintro e w' ⟨⟨m, rfl, hm⟩, hb⟩
  exact ⟨by rw [hm.unique h], hb⟩

/-- The least one of those that are open. -/
theorem least_or (st : List (Option Int)) (d : Int) : ∃ n, IsLeast st d n := by
  by_cases h : ∃ (i : Nat) (x : Int), st[i]? = some (some x)
  · suffices ∀ st : List (Option Int), (∃ (i : Nat) (x : Int), st[i]? = some (some x)) → ∃ n, (∃ i : Nat, st[i]? = some (some n)) ∧ ∀ (i : Nat) x, st[i]? = some (some x) → n ≤ x by
      obtain ⟨n, h1, h2⟩ := this st h
      exact ⟨n, .inl ⟨h1, h2⟩⟩
    intro st
    induction st with
    | nil => rintro ⟨i, x, h⟩; simp at h
    | cons o st ih =>
      intro h
      by_cases hs : ∃ (i : Nat) (x : Int), st[i]? = some (some x)
      · obtain ⟨n, ⟨j, hj⟩, hn⟩ := ih hs
        cases o with
        | none =>
          refine ⟨n, ⟨j + 1, by simpa using hj⟩, fun i x hx => ?_⟩
          cases i with
          | zero => simp at hx
          | succ i => exact hn i x (by simpa using hx)
        | some y =>
          by_cases hy : y ≤ n
          · refine ⟨y, ⟨0, rfl⟩, fun i x hx => ?_⟩
            cases i with
            | zero =>
              obtain rfl : y = x := by simpa using hx
              exact Int.le_refl _
            | succ i => exact Int.le_trans hy (hn i x (by simpa using hx))
          · refine ⟨n, ⟨j + 1, by simpa using hj⟩, fun i x hx => ?_⟩
            cases i with
            | zero =>
              obtain rfl : y = x := by simpa using hx
              omega
            | succ i => exact hn i x (by simpa using hx)
      · obtain ⟨i, x, hx⟩ := h
        cases i with
        | zero =>
          obtain rfl : o = some x := by simpa using hx
          refine ⟨x, ⟨0, rfl⟩, fun i y hy => ?_⟩
          cases i with
          | zero =>
            obtain rfl : x = y := by simpa using hy
            exact Int.le_refl _
          | succ i => exact absurd ⟨i, y, by simpa using hy⟩ hs
        | succ i => exact absurd ⟨i, x, by simpa using hx⟩ hs
  · exact ⟨d, .inr ⟨fun i x hx => h ⟨i, x, hx⟩, rfl⟩⟩



set_option maxRecDepth 100000 in
set_option maxHeartbeats 4000000 in
theorem walk {H : Type} {enc : TypeId × Value → H} (W : World) {base : Nat} {v v1 : Value} {d d1 : DataW H} {p p1 : List MemPlace} (h : DataW.Trod enc Try.prog W 0 (fun _ => true) true 22 v d p) (ho : Value.okWide Try.prog W .any base 22 v)
    (h1 : DataW.Trod enc Try.prog W 0 (fun _ => true) true 23 v1 d1 p1) (ho1 : Value.okWide Try.prog W .any base 23 v1) :
    Calls Try.prog 3 #[v, v1] W fun e W' => e = .returned (.bool true) ∧ Below W.heap.size W W' := by
  obtain ⟨A, n, c, l, rfl, hx⟩ := acts_open h ho
  obtain ⟨none, rfl, _, _, _⟩ := open_int Try.underlying23 ho1 h1
  have HX := Lib.hid hx
  clear h ho hx h1 ho1
  go_enter Try.func3, Try.ntmps3
  go_wp2_with fail
  refine Calls.mono (alive_true W) ?_
  rintro e w1 ⟨rfl, hb⟩
  have HB := Lib.hid hb
  clear hb
  by_cases h8 : 300 < n
  · have hb8 : decide ((300 : Int) < n) = true := decide_eq_true (by omega)
    go_wp2_with fail
    go_ret
    exact ⟨rfl, HB.out⟩
  · have hb8 : decide ((300 : Int) < n) = false := decide_eq_false (by omega)
    go_wp2_with fail
    generalize hW : World.alloc (World.alloc w1 _) _ = W1
    have HL : Hid (LiveX W W1 w1.heap.size 0 (List.replicate 8 .none) [(w1.heap.size + 1, 34, refL (List.replicate 8 .none))]) := by
      rw [← hW]
      have hl0 : LiveX W (w1.alloc (.cells (List.replicate 8 (Value.pointer .none) ++ [Value.slice .none 0 0]).toArray 30)) w1.heap.size 0 (List.replicate 8 .none) [] := by
        obtain ⟨F, g1, g2, g3⟩ := Live.new W w1 HB.out
        exact ⟨F, g1, g2, by simp, g3⟩
      have hl1 := hl0.new 34 (refL (List.replicate 8 .none))
      have e1 : (w1.alloc (.cells (List.replicate 8 (Value.pointer .none) ++ [Value.slice .none 0 0]).toArray 30)).heap.size = w1.heap.size + 1 := by simp
      rw [e1] at hl1
      exact Lib.hid hl1
    clear hW
    go_loopw [31] (fun v31 wr => ∃ (i N : Nat) (st : List (Option Int)), i ≤ n ∧ v31 = .int .i64 i ∧ N ≤ i ∧ Hid (LiveX W wr w1.heap.size N st [(w1.heap.size + 1, 34, refL st)])) (fun v31 _ => n - (intOf v31).toNat)
    case atStart => exact ⟨0, 0, _, Nat.zero_le _, rfl, Nat.le_refl _, HL⟩
    case round =>
      obtain ⟨i, N, st, hi, rfl, hN, HL1⟩ := hrel
      by_cases hin : i < n
      · obtain ⟨b, off, rfl, hlt, hc⟩ := (HX.out.kept HL1.out.below).2.2 (by omega)
        have hc0 := hc i hin 0 (by decide)
        have hc1 := hc i hin 1 (by decide)
        have hc2 := hc i hin 2 (by decide)
        obtain ⟨a, ha⟩ : ∃ a, (l.map SAct.cells).getD i [] = SAct.cells a := by
          have hl := HX.out.1
          simp at hl
          exact ⟨l[i], by simp [List.getD_eq_getElem?_getD, List.getElem?_eq_getElem (show i < l.length by omega)]⟩
        rw [ha] at hc0 hc1 hc2
        simp only [SAct.cells, List.getElem?_cons_zero, List.getElem?_cons_succ, Nat.add_zero] at hc0 hc1 hc2
        clear ha hc
        have hk0 := a.lo
        have hk1 := a.hi
        go_upto_if 38 with (fail)
        generalize hW2 : World.alloc wr _ = W2
        have HL2 : Hid (LiveX W W2 w1.heap.size N st [(wr.heap.size, 36, a.cells), (w1.heap.size + 1, 34, refL st)]) := Lib.hid (by rw [← hW2]; exact HL1.out.new _ a.cells)
        have HA : Hid (Cells W2 wr.heap.size 36 a.cells) := Lib.hid (HL2.out.cells List.mem_cons_self)
        clear hW2 hc0 hc1 hc2
        have HLN := Lib.hid HL2.out.len
        go_cut [] (fun wc => ∃ (N' : Nat) (st' : List (Option Int)), N' ≤ i + 1 ∧ Hid (LiveX W wc w1.heap.size N' st' [(w1.heap.size + 1, 34, refL st')]))
        case first =>
          have ha1 : W2.cell? ⟨wr.heap.size, 1, .none⟩ = some (.int .u64 a.at_) := by rw [HA.out.cell]; rfl
          have ha2 : W2.cell? ⟨wr.heap.size, 2, .none⟩ = some (.int .i64 a.id) := by rw [HA.out.cell]; rfl
          by_cases hk : a.kind % 4 < 2
          · have hkb : decide (a.kind % 4 < 2) = true := decide_eq_true hk
            rcases free_or st with ⟨f, hf1, hf2⟩ | hf
            · have HF1 := Lib.hid hf1
              have HF2 := Lib.hid hf2
              clear hf1 hf2
              go_wp2_with fail
              refine Calls.mono (bopen_yes f a.at_ HL2.out (by omega) HF1.out HF2.out) ?_
              rintro e w3 ⟨rfl, HL3⟩
              have hb3 : w3.cell? ⟨wr.heap.size, 1, .none⟩ = some (.int .u64 a.at_) := by rw [(HL3.out.cells List.mem_cons_self).cell]; rfl
              go_wp2_with (refine wpList_load_row rfl 34 _ rfl (w1.heap.size + 1) rfl 34 (refL st).toArray (0, 0) _ (HL3.out.cells (List.mem_cons_of_mem _ List.mem_cons_self)) Try.underlying34 rfl (by rw [size34, List.size_toArray, refL_len HLN.out]) ?_)
              refine Calls.mono (Ref14.put_yes st f a.at_ w3 HLN.out HF1.out HF2.out) ?_
              rintro e w4 ⟨rfl, hb4⟩
              have HL4 := Lib.hid (HL3.out.kept hb4)
              clear hb4 hb3
              obtain ⟨q1, q2, q3, q4⟩ := HL4.out.next (List.replicate 8 (.int .u64 0) ++ List.replicate 8 (.bool false)) (refL (st.set f (some a.at_)))
              have Q1 := Lib.hid q1
              have Q2 := Lib.hid q2
              have Q3 := Lib.hid q3
              have Q4 := Lib.hid q4
              have LN : Hid ((st.set f (some a.at_)).length = 8) := Lib.hid (by rw [List.length_set]; exact HLN.out)
              clear q1 q2 q3 q4
              go_wp2_with (first | (refine wpList_load_row rfl 34 _ rfl _ rfl 34 (refL (st.set f (some a.at_))).toArray (0, 0) _ Q2.out Try.underlying34 rfl (by rw [size34, List.size_toArray, refL_len LN.out]) ?_) | (refine wpList_store_row rfl 34 _ _ rfl _ (refL (st.set f (some a.at_))).toArray rfl rfl 34 _ Q1.out (by rw [size34, List.size_toArray, refL_len LN.out]) (by rw [List.size_toArray, List.size_toArray, refL_len LN.out]; rfl) (refL_one _) ?_) | (refine wpList_store_row rfl 34 _ _ rfl _ (refL (st.set f (some a.at_))).toArray rfl rfl 34 _ Q3.out (by rw [size34, List.size_toArray, refL_len LN.out]) ((refL_len HLN.out).trans (refL_len LN.out).symm) (refL_one _) ?_))
              go_meet
              case rel => exact ⟨N + 1, _, by omega, Q4⟩
            · have HF := Lib.hid hf
              clear hf
              go_wp2_with fail
              refine Calls.mono (bopen_no a.at_ HL2.out HF.out) ?_
              rintro e w3 ⟨rfl, rfl⟩
              go_wp2_with (refine wpList_load_row rfl 34 _ rfl (w1.heap.size + 1) rfl 34 (refL st).toArray (0, 0) _ (HL2.out.cells (List.mem_cons_of_mem _ List.mem_cons_self)) Try.underlying34 rfl (by rw [size34, List.size_toArray, refL_len HLN.out]) ?_)
              refine Calls.mono (Ref14.put_no st a.at_ W2 HLN.out HF.out) ?_
              rintro e w4 ⟨rfl, hb4⟩
              have HL4 := Lib.hid (HL2.out.kept hb4)
              clear hb4 ha1 ha2
              obtain ⟨q1, q2, q3, q4⟩ := HL4.out.next (List.replicate 8 (.int .u64 0) ++ List.replicate 8 (.bool false)) (refL (st))
              have Q1 := Lib.hid q1
              have Q2 := Lib.hid q2
              have Q3 := Lib.hid q3
              have Q4 := Lib.hid q4
              have LN : Hid ((st).length = 8) := Lib.hid HLN.out
              clear q1 q2 q3 q4
              go_wp2_with (first | (refine wpList_load_row rfl 34 _ rfl _ rfl 34 (refL (st)).toArray (0, 0) _ Q2.out Try.underlying34 rfl (by rw [size34, List.size_toArray, refL_len LN.out]) ?_) | (refine wpList_store_row rfl 34 _ _ rfl _ (refL (st)).toArray rfl rfl 34 _ Q1.out (by rw [size34, List.size_toArray, refL_len LN.out]) (by rw [List.size_toArray, List.size_toArray, refL_len LN.out]; rfl) (refL_one _) ?_) | (refine wpList_store_row rfl 34 _ _ rfl _ (refL (st)).toArray rfl rfl 34 _ Q3.out (by rw [size34, List.size_toArray, refL_len LN.out]) ((refL_len HLN.out).trans (refL_len LN.out).symm) (refL_one _) ?_))
              go_meet
              case rel => exact ⟨N, _, by omega, Q4⟩
          · have hkb : decide (a.kind % 4 < 2) = false := decide_eq_false hk
            cases hv : hasB st a.id with
            | true =>
              have HV := Lib.hid hv
              clear hv
              go_wp2_with fail
              refine Calls.mono (bclose_yes a.id HL2.out HV.out) ?_
              rintro e w3 ⟨rfl, HL3⟩
              have hb3 : w3.cell? ⟨wr.heap.size, 2, .none⟩ = some (.int .i64 a.id) := by rw [(HL3.out.cells List.mem_cons_self).cell]; rfl
              go_wp2_with (refine wpList_load_row rfl 34 _ rfl (w1.heap.size + 1) rfl 34 (refL st).toArray (0, 0) _ (HL3.out.cells (List.mem_cons_of_mem _ List.mem_cons_self)) Try.underlying34 rfl (by rw [size34, List.size_toArray, refL_len HLN.out]) ?_)
              refine Calls.mono (Ref14.close_yes st a.id w3 HLN.out HV.out) ?_
              rintro e w4 ⟨rfl, hb4⟩
              have HL4 := Lib.hid (HL3.out.kept hb4)
              clear hb4 hb3
              obtain ⟨q1, q2, q3, q4⟩ := HL4.out.next (List.replicate 8 (.int .u64 0) ++ List.replicate 8 (.bool false)) (refL (st.set a.id.toNat .none))
              have Q1 := Lib.hid q1
              have Q2 := Lib.hid q2
              have Q3 := Lib.hid q3
              have Q4 := Lib.hid q4
              have LN : Hid ((st.set a.id.toNat .none).length = 8) := Lib.hid (by rw [List.length_set]; exact HLN.out)
              clear q1 q2 q3 q4
              go_wp2_with (first | (refine wpList_load_row rfl 34 _ rfl _ rfl 34 (refL (st.set a.id.toNat .none)).toArray (0, 0) _ Q2.out Try.underlying34 rfl (by rw [size34, List.size_toArray, refL_len LN.out]) ?_) | (refine wpList_store_row rfl 34 _ _ rfl _ (refL (st.set a.id.toNat .none)).toArray rfl rfl 34 _ Q1.out (by rw [size34, List.size_toArray, refL_len LN.out]) (by rw [List.size_toArray, List.size_toArray, refL_len LN.out]; rfl) (refL_one _) ?_) | (refine wpList_store_row rfl 34 _ _ rfl _ (refL (st.set a.id.toNat .none)).toArray rfl rfl 34 _ Q3.out (by rw [size34, List.size_toArray, refL_len LN.out]) ((refL_len HLN.out).trans (refL_len LN.out).symm) (refL_one _) ?_))
              go_meet
              case rel => exact ⟨N, _, by omega, Q4⟩
            | false =>
              have HV := Lib.hid hv
              clear hv
              go_wp2_with fail
              refine Calls.mono (bclose_no a.id HL2.out HV.out) ?_
              rintro e w3 ⟨rfl, rfl⟩
              go_wp2_with (refine wpList_load_row rfl 34 _ rfl (w1.heap.size + 1) rfl 34 (refL st).toArray (0, 0) _ (HL2.out.cells (List.mem_cons_of_mem _ List.mem_cons_self)) Try.underlying34 rfl (by rw [size34, List.size_toArray, refL_len HLN.out]) ?_)
              refine Calls.mono (Ref14.close_no st a.id W2 HLN.out HV.out) ?_
              rintro e w4 ⟨rfl, hb4⟩
              have HL4 := Lib.hid (HL2.out.kept hb4)
              clear hb4 ha1 ha2
              obtain ⟨q1, q2, q3, q4⟩ := HL4.out.next (List.replicate 8 (.int .u64 0) ++ List.replicate 8 (.bool false)) (refL (st))
              have Q1 := Lib.hid q1
              have Q2 := Lib.hid q2
              have Q3 := Lib.hid q3
              have Q4 := Lib.hid q4
              have LN : Hid ((st).length = 8) := Lib.hid HLN.out
              clear q1 q2 q3 q4
              go_wp2_with (first | (refine wpList_load_row rfl 34 _ rfl _ rfl 34 (refL (st)).toArray (0, 0) _ Q2.out Try.underlying34 rfl (by rw [size34, List.size_toArray, refL_len LN.out]) ?_) | (refine wpList_store_row rfl 34 _ _ rfl _ (refL (st)).toArray rfl rfl 34 _ Q1.out (by rw [size34, List.size_toArray, refL_len LN.out]) (by rw [List.size_toArray, List.size_toArray, refL_len LN.out]; rfl) (refL_one _) ?_) | (refine wpList_store_row rfl 34 _ _ rfl _ (refL (st)).toArray rfl rfl 34 _ Q3.out (by rw [size34, List.size_toArray, refL_len LN.out]) ((refL_len HLN.out).trans (refL_len LN.out).symm) (refL_one _) ?_))
              go_meet
              case rel => exact ⟨N, _, by omega, Q4⟩
        case rest =>
          obtain ⟨N', st', hN', HL5⟩ := hcut
          clear HL2 HA HL1 HLN hk0 hk1 hN hlt
          have HLN := Lib.hid HL5.out.len
          obtain ⟨s0, s1, s2, s3, s4, s5, s6, s7, rfl⟩ : ∃ s0 s1 s2 s3 s4 s5 s6 s7, st' = [s0, s1, s2, s3, s4, s5, s6, s7] := by
            match st', HLN.out with
            | [s0, s1, s2, s3, s4, s5, s6, s7], _ => exact ⟨_, _, _, _, _, _, _, _, rfl⟩
          obtain ⟨m, hm⟩ := least_or [s0, s1, s2, s3, s4, s5, s6, s7] none
          have HM := Lib.hid hm
          clear hm
          have hcs := ref_cells (HL5.out.cells List.mem_cons_self)
          go_wp2_with fail
          go_region_held3 (fun w' => RefAt w' (w1.heap.size + 1) s0 s1 s2 s3 s4 s5 s6 s7) (first | exact hcs | assumption) (first | (go_at_call 13; refine Calls.mono (bleast none m HL5.out.drew (by omega) HM.out) ?_; rintro e w6 ⟨rfl, HL6⟩; have hcs6 := ref_cells (HL6.out.cells List.mem_cons_self)) | (go_at_call 14; refine Calls.mono (least_ref' [s0, s1, s2, s3, s4, s5, s6, s7] none m _ rfl HM.out) ?_; rintro e w7 ⟨rfl, hb7⟩; have HL7 := Lib.hid (HL6.out.kept hb7); have hcs7 := ref_cells (HL7.out.cells List.mem_cons_self); clear hb7) | (go_at_call 15; refine Calls.mono (blen HL7.out) ?_; rintro e w8 ⟨rfl, rfl⟩) | (go_at_call 16; refine Calls.mono (len_ref [s0, s1, s2, s3, s4, s5, s6, s7] _ rfl) ?_; rintro e w9 ⟨rfl, hb9⟩; have HL9 := Lib.hid (HL7.out.kept hb9); have hcs9 := ref_cells (HL9.out.cells List.mem_cons_self); clear hb9))
          clear hcs hcs6 hcs7 hcs9
          go_wp2_with fail
          go_loop [88] (fun v => ∃ t : Nat, t ≤ 8 ∧ v = .int .i64 t) (fun v => 8 - (intOf v).toNat)
          case atStart => exact ⟨0, by omega, rfl⟩
          case round =>
            obtain ⟨t, ht, rfl⟩ := hrel
            by_cases ht8 : t < 8
            · obtain ⟨o, hso⟩ : ∃ o, [s0, s1, s2, s3, s4, s5, s6, s7][t]? = some o := ⟨_, List.getElem?_eq_getElem (show t < 8 by omega)⟩
              have hr := refL_at (st := [s0, s1, s2, s3, s4, s5, s6, s7]) rfl hso
              have hra := (HL9.out.cells List.mem_cons_self).cell t
              have hrb := (HL9.out.cells List.mem_cons_self).cell (8 + t)
              simp only at hra hrb
              rw [hr.1] at hra
              rw [hr.2] at hrb
              clear hr
              cases o with
              | none =>
                have HNO : Hid (hasB [s0, s1, s2, s3, s4, s5, s6, s7] t = false) := Lib.hid (by rw [hasB_at ht8, List.getD_eq_getElem?_getD, hso]; rfl)
                simp only [Option.getD_none, Option.isSome_none] at hra hrb
                clear hso
                go_wp2_with fail
                refine Calls.mono (bat_no t HL9.out HNO.out) ?_
                rintro e w4 ⟨rfl, rfl⟩
                go_wp2_with fail
                go_round
                case rel => exact ⟨t + 1, by omega, by go_num⟩
                case measure => simp [intOf]; omega
              | some x =>
                have HYES : Hid (hasB [s0, s1, s2, s3, s4, s5, s6, s7] t = true) := Lib.hid (by rw [hasB_at ht8, List.getD_eq_getElem?_getD, hso]; rfl)
                have HX2 : Hid ([s0, s1, s2, s3, s4, s5, s6, s7].getD (t : Int).toNat .none = some x) := Lib.hid (by rw [Int.toNat_natCast, List.getD_eq_getElem?_getD, hso]; rfl)
                simp only [Option.getD_some, Option.isSome_some] at hra hrb
                clear hso
                go_wp2_with fail
                refine Calls.mono (bat_yes t x HL9.out HYES.out HX2.out) ?_
                rintro e w4 ⟨rfl, rfl⟩
                go_wp2_with fail
                go_round
                case rel => exact ⟨t + 1, by omega, by go_num⟩
                case measure => simp [intOf]; omega
            · go_wp2_with fail
              go_roundw
              case rel => exact ⟨i + 1, N', _, by omega, by go_num, by omega, HL9⟩
              case measure => simp [intOf]; omega
      · have hn1 : Hid (hasB st (-1) = false) := Lib.hid (by unfold hasB; simp)
        have hn2 : Hid (hasB st 8 = false) := Lib.hid (by unfold hasB; simp)
        go_wp2_with fail
        refine Calls.mono (bat_no (-1) HL1.out hn1.out) ?_
        rintro e w4 ⟨rfl, rfl⟩
        go_wp2_with fail
        refine Calls.mono (bat_no 8 HL1.out hn2.out) ?_
        rintro e w4 ⟨rfl, rfl⟩
        go_wp2_with fail
        go_ret
        exact ⟨rfl, HL1.out.below⟩


theorem own : ownKnob Try.prog.godebug = none := by kernel_rfl
theorem laidOut : laidOutB Try.prog = true := by kernel_rfl

set_option maxRecDepth 100000 in
theorem lifted (os : Os) (started : os.Started) (H : Type) (enc : TypeId × Value → H) :
    ReturnsInHanded {} Try.checked os 3 .any (Rows.stampActsSpec.pre6 enc Try.prog Try.f3 Rows.stampActsRow.domain false) (Rows.stampActsSpec.post enc Try.prog Try.f3 false true false false) := by
  refine returnsInHanded_of_change (C := Try.checked) own started (by kernel_rfl) Try.func3
    (ChangeSpec.witness6 (enc := enc) (C := Try.checked) false ⟨#[], #[.slice none 0 0, .int .u64 0], []⟩ 8 (by kernel_rfl) (by kernel_rfl) (by kernel_rfl) (by kernel_rfl)) ?_
  intro W base args ds gs before hval0 hW hcnd _
  have hval : ∀ (j : Nat) t v, Try.f3.params[j]? = some t → args[j]? = some v → Value.okWide Try.prog W .any base t v := hval0
  have hW' := hW
  obtain ⟨p, q, hA0, hV, rfl, hfz, hnd⟩ := hW
  have hA : DataW.TrodAll enc Try.prog W 0 (fun _ => true) true Try.f3.params.toList args.toList ds p := hA0
  rw [Try.params3] at hA hval
  obtain ⟨v0, vs0, d0, ds0, p0, q0, hargs, rfl, rfl, h0, r0⟩ := trodAll_cons hA
  obtain ⟨v1, vs1, d1, ds1, p1, q1, rfl, rfl, rfl, h1, r1⟩ := trodAll_cons r0
  obtain ⟨rfl, rfl, rfl⟩ := trodAll_nil r1
  obtain rfl : args = #[v0, v1] := by cases args; simp_all
  obtain ⟨rfl, rfl⟩ := trodVars_none hV
  clear hA0 hval0
  have lt0 : ∀ x ∈ p0, x.block < W.heap.size := by obtain ⟨m, hm⟩ := h0; exact DataW.trod_lt m _ _ _ hm
  have lt1 : ∀ x ∈ p1, x.block < W.heap.size := by obtain ⟨m, hm⟩ := h1; exact DataW.trod_lt m _ _ _ hm
  simp only [List.append_nil] at hW'
  refine Calls.mono (walk W h0 (hval 0 22 v0 rfl rfl) h1 (hval 1 23 v1 rfl rfl)) ?_
  rintro e W' ⟨rfl, bel⟩
  exact ⟨_, rfl, Post.post_below (pa := _) (pv := []) hW' (fun _ _ _ => (trodAll_cons_mk (shut_bool Try.underlying4 _) trodAll_mk0)) (fun sp hsp => (trodAll_cons_mk (WideElems.Trod_stays laidOut (by kernel_rfl) (of_decide_eq_true (by kernel_rfl)) h0 (fun x hx => bel.same (lt0 x hx)) (fun x hx => hsp x (by simp [hx]))) (trodAll_cons_mk (WideElems.Trod_stays laidOut (by kernel_rfl) (of_decide_eq_true (by kernel_rfl)) h1 (fun x hx => bel.same (lt1 x hx)) (fun x hx => hsp x (by simp [hx]))) trodAll_mk0))) (fun _ _ => rfl) (by simp)
    bel (ok_one (by kernel_rfl) rfl (okWide_bool_mk Try.underlying4 _))⟩

theorem over : Rows.stampActsRow.holds Try.pinned (OpenSpec.ofChange Rows.stampActsSpec) :=
  OpenClaim.holds_of_wide 3 Try.f3 rfl rfl rfl rfl rfl rfl rfl ⟨rfl, rfl, rfl, rfl, rfl⟩ rfl rfl rfl rfl rfl (by kernel_rfl) Try.func3 (by kernel_rfl)
    (of_decide_eq_true (by kernel_rfl)) (by unfold Func.isWrapper; first | (rw [if_pos (by decide +kernel)]; kernel_rfl) | (rw [if_neg (by decide +kernel)]; exact ⟨rfl, rfl⟩))
    (fun os started H enc _ => lifted os started H enc)

/-- The statement. -/
theorem proved : Rows.StampActsSaid :=
  over

end Go.Proofs.Ytdjppnfbpnfgaaa.stampActs
