/- The heap's functions over the queue (stamp), walked. -/
import Derived.Test.YtfbldpppjnnblaaQ
import Derived.Test.YtfbldpppjnnblaaHeapLaw
namespace Go.Proofs.Ytfbldpppjnnblaa.Q
set_option maxRecDepth 100000
open Go.RowKit Go.Proofs.Ytfbldpppjnnblaa.Mem Go.Proofs.Ytfbldpppjnnblaa.HeapLaw

theorem m_push (a : Addr) (w : World) : (method 256 112 (.pointer (some a)) "Push").run Try.prog w = .ok (94, .pointer (some a)) w := by kernel_rfl
theorem m_pop (a : Addr) (w : World) : (method 256 112 (.pointer (some a)) "Pop").run Try.prog w = .ok (93, .pointer (some a)) w := by kernel_rfl
theorem m_len (a : Addr) (w : World) (v : Value) (h : w.cell? a = some v) : (method 256 112 (.pointer (some a)) "Len").run Try.prog w = .ok (90, v) w := by
  have e : (method 256 112 (.pointer (some a)) "Len").run Try.prog w = (loadVar 90 a >>= fun v => pure (90, v)).run Try.prog w := by kernel_rfl
  rw [e]; go_simp
theorem m_less (a : Addr) (w : World) (v : Value) (h : w.cell? a = some v) : (method 256 112 (.pointer (some a)) "Less").run Try.prog w = .ok (91, v) w := by
  have e : (method 256 112 (.pointer (some a)) "Less").run Try.prog w = (loadVar 90 a >>= fun v => pure (91, v)).run Try.prog w := by kernel_rfl
  rw [e]; go_simp
theorem m_swap (a : Addr) (w : World) (v : Value) (h : w.cell? a = some v) : (method 256 112 (.pointer (some a)) "Swap").run Try.prog w = .ok (92, v) w := by
  have e : (method 256 112 (.pointer (some a)) "Swap").run Try.prog w = (loadVar 90 a >>= fun v => pure (92, v)).run Try.prog w := by kernel_rfl
  rw [e]; go_simp

/-- Where the queue's elements stand. -/
structure Row (w : World) (b o g n c : Nat) (q : List Nat) (rest : List Value) : Prop where
  head : w.cell? ⟨b, o, none⟩ = some (.slice (some ⟨g, 0, none⟩) n c)
  cells : Cells w g 87 (q.map ptr ++ rest)
  len : q.length = n
  ne : b ≠ g
  room : n + rest.length = c
  small : c ≤ maxLen

theorem Row.drewN {w : World} {b o g n c : Nat} {q : List Nat} {rest : List Value} (h : Row w b o g n c q rest) (t : Nat) : Row (w.drewN t) b o g n c q rest := ⟨h.head, h.cells, h.len, h.ne, h.room, h.small⟩

theorem Row.get {w : World} {b o g n c : Nat} {q : List Nat} {rest : List Value} (h : Row w b o g n c q rest) {i : Nat} (hi : i < n) : w.cell? ⟨g, i, none⟩ = some (ptr (q.getD i 0)) := by
  have := h.len
  rw [h.cells.cell i, List.getElem?_append_left (by simp; omega)]
  simp [List.getD_eq_getElem?_getD, List.getElem?_eq_getElem (show i < q.length by omega)]

theorem Row.swap {w : World} {b o g n c : Nat} {q : List Nat} {rest : List Value} (h : Row w b o g n c q rest) {i j : Nat} (hi : i < n) (hj : j < n) (t : Nat) :
    Row (((w.setCell ⟨g, i, none⟩ (ptr (q.getD j 0))).setCell ⟨g, j, none⟩ (ptr (q.getD i 0))).drewN t) b o g n c (swp q i j) rest ∧ Chg (· = g) w (((w.setCell ⟨g, i, none⟩ (ptr (q.getD j 0))).setCell ⟨g, j, none⟩ (ptr (q.getD i 0))).drewN t) := by
  have hl := h.len
  have hc : Chg (· = g) w (((w.setCell ⟨g, i, none⟩ (ptr (q.getD j 0))).setCell ⟨g, j, none⟩ (ptr (q.getD i 0))).drewN t) :=
    ((((Chg.refl (· = g) w).setCell (p := ⟨g, i, none⟩) (fun _ => rfl) _).setCell (p := ⟨g, j, none⟩) (fun _ => rfl) _).drewN t)
  refine ⟨⟨hc.cell h.head h.ne, ?_, by rw [swp_length]; exact hl, h.ne, h.room, h.small⟩, hc⟩
  have := ((h.cells.set i (ptr (q.getD j 0))).set j (ptr (q.getD i 0))).drewN t
  rw [List.set_append_left _ _ (by simp; omega), List.set_append_left _ _ (by simp; omega)] at this
  rw [← List.map_set, ← List.map_set] at this
  exact this

/-- The stamp of each one. -/
def Keys (w : World) (g : Nat) (key : Nat → Int) (q : List Nat) : Prop := ∀ x ∈ q, x ≠ g ∧ w.cell? ⟨x, 0, none⟩ = some (.int .u64 (key x))

theorem Keys.kept {w w' : World} {g : Nat} {key : Nat → Int} {q q' : List Nat} (h : Keys w g key q) (hc : Chg (· = g) w w') (hq : ∀ x ∈ q', x ∈ q) : Keys w' g key q' :=
  fun x hx => ⟨(h x (hq x hx)).1, hc.cell (h x (hq x hx)).2 (h x (hq x hx)).1⟩

theorem mem_getD {q : List Nat} {i : Nat} (h : i < q.length) : q.getD i 0 ∈ q := by
  simp [List.getD_eq_getElem?_getD, List.getElem?_eq_getElem h]

theorem less_row {b o g n c i k : Nat} {I J : Int} {key : Nat → Int} {q : List Nat} {rest : List Value} {w : World} (r : Bool) (hR : Row w b o g n c q rest) (hk : Keys w g key q) (hI : I = i) (hJ : J = k) (hi : i < n) (hj : k < n)
    (hr : decide (key (q.getD i 0) < key (q.getD k 0)) = r) :
    Calls Try.prog 91 #[.slice (some ⟨g, 0, none⟩) n c, .int .i64 I, .int .i64 J] w fun e w' => e = .returned (.bool r) ∧ ∃ t, w' = w.drewN t := by
  have hl := hR.len
  exact less_any g n c i k _ _ _ _ _ _ r w hI hJ hr hi hj (hR.get hi) (hR.get hj) (hk _ (mem_getD (by omega))).2 (hk _ (mem_getD (by omega))).2

theorem swap_row {b o g n c i k : Nat} {I J : Int} {q : List Nat} {rest : List Value} {w : World} (hR : Row w b o g n c q rest) (hI : I = i) (hJ : J = k) (hi : i < n) (hj : k < n) :
    Calls Try.prog 92 #[.slice (some ⟨g, 0, none⟩) n c, .int .i64 I, .int .i64 J] w fun e w' => e = .returned (.tuple #[]) ∧ Row w' b o g n c (swp q i k) rest ∧ Chg (· = g) w w' := by
  refine Calls.mono (swap_any g n c i k _ _ _ _ w hI hJ hi hj (hR.get hi) (hR.get hj) (hR.cells.frozen _) (hR.cells.frozen _)) ?_
  rintro e w1 ⟨rfl, t, rfl⟩
  exact ⟨rfl, hR.swap hi hj t⟩

set_option maxHeartbeats 400000 in
theorem up_any (b o g n c j : Nat) (key : Nat → Int) (q : List Nat) (rest : List Value) (w : World) (hr : Row w b o g n c q rest) (hk : Keys w g key q) (hj : j < n) (hn : n ≤ maxLen) (hu : UpInv key q j) :
    Calls Try.prog 61 #[.iface 112 (.pointer (some ⟨b, o, none⟩)), .int .i64 j] w fun e w' => e = .returned (.tuple #[]) ∧ ∃ q', Row w' b o g n c q' rest ∧ q'.Perm q ∧ HeapN key q' n ∧ Chg (· = g) w w' := by
  unfold maxLen at hn
  go_enter Try.func61, Try.ntmps61
  go_wp2_with fail
  have HR := Lib.hid hr
  have HK := Lib.hid hk
  have HU := Lib.hid hu
  clear hr hk hu
  go_loopw [1] (fun v1 w' => ∃ (i : Nat) (q' : List Nat), v1 = .int .i64 i ∧ i < n ∧ Hid (Row w' b o g n c q' rest) ∧ Hid (q'.Perm q) ∧ Hid (UpInv key q' i) ∧ Hid (Chg (· = g) w w')) (fun v1 _ => (intOf v1).toNat)
  case atStart => exact ⟨j, q, rfl, hj, HR, Lib.hid (List.Perm.refl _), HU, Lib.hid (Chg.refl _ _)⟩
  case round =>
    obtain ⟨i, q', rfl, hi, HR', HP, HU', HC⟩ := hrel
    have hh := HR'.out.head
    have HL := Lib.hid HR'.out.len
    by_cases h0 : i = 0
    · subst h0
      go_wp2_with fail
      go_end0
      exact ⟨rfl, q', HR'.out, HP.out, by have := HU'.out.done (.inl rfl); rwa [HL.out] at this, HC.out⟩
    · have e0 : (((i - 1) / 2 : Nat) == i) = false := by simp; omega
      have hm1 := m_less ⟨b, o, none⟩ wr _ hh
      have HK1 := Lib.hid (HK.out.kept HC.out (fun x hx => (HP.out.mem_iff.1 hx)))
      by_cases hlt : key (q'.getD i 0) < key (q'.getD ((i - 1) / 2) 0)
      · have HT := Lib.hid hlt
        have hm2 := m_swap ⟨b, o, none⟩
        clear hlt
        go_wp2_with fail
        refine Calls.mono (less_row (i := i) (k := (i - 1) / 2) true HR'.out HK1.out rfl (by omega) hi (by omega) (decide_eq_true HT.out)) ?_
        rintro e w1 ⟨rfl, t, rfl⟩
        have hm3 := hm2 (wr.drewN t) _ hh
        clear hm2
        go_wp2_with fail
        refine Calls.mono (swap_row (i := (i - 1) / 2) (k := i) (w := wr.drewN t) (rest := rest) (q := q') (HR'.out.drewN t) (by omega) rfl (by omega) hi) ?_
        rintro e w1 ⟨rfl, hR2, hC2⟩
        have HR2 := Lib.hid hR2
        have HC2 := Lib.hid hC2
        clear hR2 hC2
        go_wp2_with fail
        go_roundw
        case rel => exact ⟨(i - 1) / 2, _, by go_num, by omega, HR2, Lib.hid ((swp_perm _ _ _ (by have := HL.out; omega) (by have := HL.out; omega)).trans HP.out), Lib.hid (HU'.out.step (by have := HL.out; omega) (by omega) HT.out), Lib.hid (HC.out.trans ((Chg.refl (· = g) wr).drewN t |>.trans HC2.out (fun _ _ h => h)) (fun _ _ h => h))⟩
        case measure => simp [intOf]; omega
      · have HT := Lib.hid hlt
        clear hlt
        go_wp2_with fail
        refine Calls.mono (less_row (i := i) (k := (i - 1) / 2) false HR'.out HK1.out rfl (by omega) hi (by omega) (decide_eq_false (Int.not_lt.2 HT.out))) ?_
        rintro e w1 ⟨rfl, t, rfl⟩
        go_wp2_with fail
        go_end0
        exact ⟨rfl, q', HR'.out.drewN t, HP.out, by have := HU'.out.done (.inr (Int.not_lt.2 HT.out)); rwa [HL.out] at this, HC.out.drewN t⟩
end Go.Proofs.Ytfbldpppjnnblaa.Q
