/- Layer 9's node: Right, Class, Words. -/
import Derived.Test.YtmfomkmdfddhaaaDoorNib
namespace Go.Proofs.YtmfomkmdfddhaaaDoor.Node
open Go.RowKit Go.Proofs.YtmfomkmdfddhaaaDoor.Mem Go.Proofs.YtmfomkmdfddhaaaDoor.Read Go.Proofs.YtmfomkmdfddhaaaDoor.Out Go.Proofs.YtmfomkmdfddhaaaDoor.Nib

/-- A node in memory: where its three lists lie, and what it is. -/
structure ND where
  A1 : Option Addr
  n1 : Nat
  c1 : Nat
  val : Int
  A2 : Option Addr
  n2 : Nat
  c2 : Nat
  A3 : Option Addr
  n3 : Nat
  c3 : Nat
  pre : List Int
  lab : List Int
  kid : List Int

def ND.v (N : ND) : Value := .agg #[.slice N.A1 N.n1 N.c1, .int .u64 N.val, .slice N.A2 N.n2 N.c2, .slice N.A3 N.n3 N.c3]
structure ND.At (N : ND) (w : World) : Prop where
  pre : Ints w .u8 N.A1 N.n1 N.pre
  lab : Ints w .u8 N.A2 N.n2 N.lab
  kid : Ints w .u64 N.A3 N.n3 N.kid
  valw : (Lit.int .u64 N.val).wf = true

theorem ND.At.kept {N : ND} {w w' : World} (h : N.At w) (hb : Below w.heap.size w w') : N.At w' := ⟨h.pre.kept hb, h.lab.kept hb, h.kid.kept hb, h.valw⟩

def LabOk (l : List Int) : Prop := ∀ i, i < l.length → l.getD i 0 < 16 ∧ (0 < i → l.getD (i - 1) 0 < l.getD i 0)
/-- May there be such a node? -/
def RightP (N : ND) : Prop := packB N.pre = true ∧ N.lab.length = N.kid.length ∧ (0 : Int) ∉ N.kid ∧ LabOk N.lab

theorem getD_mem {l : List Int} {i : Nat} (h : i < l.length) : l.getD i 0 ∈ l := by
  rw [List.getD_eq_getElem?_getD, List.getElem?_eq_getElem h]; exact List.getElem_mem _

theorem mem_getD {l : List Int} {x : Int} (h : x ∈ l) : ∃ i, i < l.length ∧ l.getD i 0 = x := by
  obtain ⟨i, hi, rfl⟩ := List.getElem_of_mem h
  exact ⟨i, hi, by rw [List.getD_eq_getElem?_getD, List.getElem?_eq_getElem hi]; rfl⟩

theorem index_any (A : Option Addr) (n c : Nat) (xs : List Int) (x : Int) (w : World) (h : Ints w .u64 A n xs) (b : Bool) (hb : b = true ↔ x ∈ xs) :
    Calls Tryd.prog 40 #[.slice A n c, .int .u64 x] w fun e w' => ∃ r : Int, e = .returned (.int .i64 r) ∧ decide (0 ≤ r) = b ∧ w = w' := by
  have hl := h.1
  have hmax := h.2.1
  simp only [maxLen] at hmax
  have HX := Lib.hid h
  have HB := Lib.hid hb
  clear h hb
  go_enter Tryd.func40, Tryd.ntmps40
  go_wp2_with fail
  go_loop [8] (fun v => ∃ i : Nat, i ≤ n ∧ v = .int .i64 i ∧ Hid (∀ j, j < i → xs.getD j 0 ≠ x)) (fun v => n - (intOf v).toNat)
  case atStart => exact ⟨0, by omega, rfl, Lib.hid (fun j hj => absurd hj (by omega))⟩
  case round =>
    obtain ⟨i, hi, rfl, HI⟩ := hrel
    by_cases hin : i < n
    · obtain ⟨b', off, rfl, hlt, hc⟩ := HX.out.2.2.2 (by omega)
      have hc0 := hc i hin
      clear hc
      obtain ⟨y, hy⟩ : ∃ y, y = xs.getD i 0 := ⟨_, rfl⟩
      rw [← hy] at hc0
      have HY := Lib.hid hy
      clear hy
      by_cases he : x = y
      · have heb : (x == y) = true := by simpa using he
        have hr : decide ((0 : Int) ≤ i) = b := by
          rw [decide_eq_true (by omega)]
          refine (HB.out.2 ?_).symm
          rw [he, HY.out]
          exact getD_mem (by omega)
        have HR := Lib.hid hr
        clear hr
        go_wp2_with fail
        go_ret
        exact ⟨_, rfl, HR.out, rfl⟩
      · have heb : (x == y) = false := by simpa using he
        have hs : ∀ j, j < i + 1 → xs.getD j 0 ≠ x := by
          intro j hj hh
          rcases Nat.lt_succ_iff_lt_or_eq.1 hj with hj | rfl
          · exact HI.out j hj hh
          · exact he (by rw [HY.out, hh])
        have HS := Lib.hid hs
        clear hs
        go_wp2_with fail
        go_round
        case rel => exact ⟨i + 1, by omega, by go_num, HS⟩
        case measure => simp [intOf]; omega
    · have hr : decide ((0 : Int) ≤ -1) = b := by
        cases hb : b with
        | false => rfl
        | true =>
          obtain ⟨j, hj, hx⟩ := mem_getD (HB.out.1 hb)
          exact absurd hx (HI.out j (by omega))
      have HR := Lib.hid hr
      clear hr
      go_wp2_with fail
      go_ret
      exact ⟨_, rfl, HR.out, rfl⟩

theorem contains_any (A : Option Addr) (n c : Nat) (xs : List Int) (x : Int) (w : World) (h : Ints w .u64 A n xs) (b : Bool) (hb : b = true ↔ x ∈ xs) :
    Calls Tryd.prog 29 #[.slice A n c, .int .u64 x] w fun e w' => e = .returned (.bool b) ∧ w = w' := by
  go_enter Tryd.func29, Tryd.ntmps29
  go_wp2_with fail
  refine Calls.mono (index_any A n c xs x w h b hb) ?_
  rintro e w1 ⟨r, rfl, hr, rfl⟩
  have HR := Lib.hid hr
  clear hr
  go_wp2_with fail
  go_ret
  exact ⟨by rw [HR.out]; rfl, rfl⟩

theorem class_any (N : ND) (w : World) : Calls Tryd.prog 14 #[N.v] w fun e w' => e = .returned (.int .i64 (if N.n3 ≤ 4 then 1 else 2)) ∧ Below w.heap.size w w' := by
  unfold ND.v
  by_cases h4 : N.n3 ≤ 4
  · have hb : decide ((N.n3 : Int) ≤ 4) = true := decide_eq_true (by omega)
    rw [if_pos h4]
    go_enter Tryd.func14, Tryd.ntmps14
    go_wp2_with fail
    go_ret
    exact ⟨rfl, (Below.refl _ _).alloc (Nat.le_refl _) _⟩
  · have hb : decide ((N.n3 : Int) ≤ 4) = false := decide_eq_false (by omega)
    rw [if_neg h4]
    go_enter Tryd.func14, Tryd.ntmps14
    go_wp2_with fail
    go_ret
    exact ⟨rfl, (Below.refl _ _).alloc (Nat.le_refl _) _⟩

/-- The package's table of lines. -/
def LinesAt (w : World) : Prop := w.cell? ⟨0, 0, none⟩ = some (.int .i64 0) ∧ w.cell? ⟨0, 1, none⟩ = some (.int .i64 1) ∧ w.cell? ⟨0, 2, none⟩ = some (.int .i64 4)

theorem LinesAt.kept {w w' : World} (h : LinesAt w) (hb : Below w.heap.size w w') : LinesAt w' := by
  have h0 : 0 < w.heap.size := World.block_lt_of_cell? w _ h.1
  exact ⟨(hb.cell (p := ⟨0, 0, none⟩) h0).trans h.1, (hb.cell (p := ⟨0, 1, none⟩) h0).trans h.2.1, (hb.cell (p := ⟨0, 2, none⟩) h0).trans h.2.2⟩

theorem known_any (c : Int) (hc : c = 1 ∨ c = 2) (w : World) : Calls Tryd.prog 39 #[.int .i64 c] w fun e w' => e = .returned (.bool true) ∧ w = w' := by
  rcases hc with rfl | rfl
  · go_enter Tryd.func39, Tryd.ntmps39
    go_wp2_with fail
    go_ret
    exact ⟨rfl, rfl⟩
  · go_enter Tryd.func39, Tryd.ntmps39
    go_wp2_with fail
    go_ret
    exact ⟨rfl, rfl⟩

theorem lines_any (c r : Int) (hc : (c = 1 ∧ r = 1) ∨ (c = 2 ∧ r = 4)) (w : World) (hl : LinesAt w) : Calls Tryd.prog 28 #[.int .i64 c] w fun e w' => e = .returned (.int .i64 r) ∧ w = w' := by
  obtain ⟨h0, h1, h2⟩ := hl
  rcases hc with ⟨rfl, rfl⟩ | ⟨rfl, rfl⟩
  · go_enter Tryd.func28, Tryd.ntmps28
    go_wp2_with fail
    refine Calls.mono (known_any 1 (.inl rfl) w) ?_
    rintro e w1 ⟨rfl, rfl⟩
    go_wp2_with fail
    go_ret
    exact ⟨rfl, rfl⟩
  · go_enter Tryd.func28, Tryd.ntmps28
    go_wp2_with fail
    refine Calls.mono (known_any 2 (.inr rfl) w) ?_
    rintro e w1 ⟨rfl, rfl⟩
    go_wp2_with fail
    go_ret
    exact ⟨rfl, rfl⟩

theorem words_any (c r : Int) (hc : (c = 1 ∧ r = 8) ∨ (c = 2 ∧ r = 32)) (w : World) (hl : LinesAt w) : Calls Tryd.prog 13 #[.int .i64 c] w fun e w' => e = .returned (.int .i64 r) ∧ w = w' := by
  rcases hc with ⟨rfl, rfl⟩ | ⟨rfl, rfl⟩
  · go_enter Tryd.func13, Tryd.ntmps13
    go_wp2_with fail
    refine Calls.mono (lines_any 1 1 (.inl ⟨rfl, rfl⟩) w hl) ?_
    rintro e w1 ⟨rfl, rfl⟩
    go_wp2_with fail
    go_ret
    exact ⟨rfl, rfl⟩
  · go_enter Tryd.func13, Tryd.ntmps13
    go_wp2_with fail
    refine Calls.mono (lines_any 2 4 (.inr ⟨rfl, rfl⟩) w hl) ?_
    rintro e w1 ⟨rfl, rfl⟩
    go_wp2_with fail
    go_ret
    exact ⟨rfl, rfl⟩

theorem ND.At.enter {N : ND} {w : World} (h : N.At w) (T : TypeId) : N.At (w.alloc (.cells #[.slice N.A1 N.n1 N.c1, .int .u64 N.val, .slice N.A2 N.n2 N.c2, .slice N.A3 N.n3 N.c3] T)) :=
  h.kept ((Below.refl _ _).alloc (Nat.le_refl _) _)

theorem right_any (N : ND) (w : World) (h : N.At w) (b : Bool) (hb : b = true ↔ RightP N) : Calls Tryd.prog 16 #[N.v] w fun e w' => e = .returned (.bool b) ∧ Below w.heap.size w w' := by
  have HB := Lib.hid hb
  have HN := Lib.hid (h.enter 31)
  have hl2 := h.lab.1
  have hl3 := h.kid.1
  have hm2 := h.lab.2.1
  simp only [maxLen] at hm2
  clear hb h
  unfold ND.v
  go_enter Tryd.func16, Tryd.ntmps16
  go_wp2_with fail
  have hC := Cells.new w [.slice N.A1 N.n1 N.c1, .int .u64 N.val, .slice N.A2 N.n2 N.c2, .slice N.A3 N.n3 N.c3] 31
  have hW0 := (Below.refl w.heap.size w).alloc (Nat.le_refl _) (.cells [.slice N.A1 N.n1 N.c1, .int .u64 N.val, .slice N.A2 N.n2 N.c2, .slice N.A3 N.n3 N.c3].toArray 31)
  have h2 := hC.cell 2
  have h3 := hC.cell 3
  simp only [List.getElem?_cons_zero, List.getElem?_cons_succ] at h2 h3
  have HW0 := Lib.hid hW0
  clear hC hW0
  generalize hW : World.alloc w _ = W1 at *
  refine Calls.mono (pack_any N.A1 N.n1 N.c1 N.pre W1 HN.out.pre) ?_
  rintro e w1 ⟨rfl, rfl⟩
  cases hp : packB N.pre with
  | false =>
    have HF : Hid (b = false) := Lib.hid (by cases hb : b with | false => rfl | true => exact absurd (HB.out.1 hb).1 (by simp [hp]))
    clear hp
    go_wp2_with fail
    go_ret
    exact ⟨by rw [HF.out]; rfl, HW0.out⟩
  | true =>
    have HP := Lib.hid hp
    clear hp
    by_cases hll : N.n2 = N.n3
    · have hlb : ((N.n2 : Int) != (N.n3 : Int)) = false := by simp [hll]
      have HLL := Lib.hid hll
      clear hll
      obtain ⟨z, hz⟩ : ∃ z : Bool, z = true ↔ (0 : Int) ∈ N.kid := ⟨decide ((0 : Int) ∈ N.kid), by simp⟩
      have HZ := Lib.hid hz
      clear hz
      cases z with
      | true =>
        have HF : Hid (b = false) := Lib.hid (by cases hb : b with | false => rfl | true => exact absurd (HZ.out.1 rfl) (HB.out.1 hb).2.2.1)
        go_wp2_with fail
        refine Calls.mono (contains_any N.A3 N.n3 N.c3 N.kid 0 W1 HN.out.kid true (by simpa using HZ.out)) ?_
        rintro e w1 ⟨rfl, rfl⟩
        go_wp2_with fail
        go_ret
        exact ⟨by rw [HF.out]; rfl, HW0.out⟩
      | false =>
        go_wp2_with fail
        refine Calls.mono (contains_any N.A3 N.n3 N.c3 N.kid 0 W1 HN.out.kid false HZ.out) ?_
        rintro e w1 ⟨rfl, rfl⟩
        go_wp2_with fail
        go_loop [32] (fun v => ∃ i : Nat, i ≤ N.n2 ∧ v = .int .i64 i ∧ Hid (∀ j, j < i → N.lab.getD j 0 < 16 ∧ (0 < j → N.lab.getD (j - 1) 0 < N.lab.getD j 0))) (fun v => N.n2 - (intOf v).toNat)
        case atStart => exact ⟨0, by omega, rfl, Lib.hid (fun j hj => absurd hj (by omega))⟩
        case round =>
          obtain ⟨i, hi, rfl, HI⟩ := hrel
          by_cases hin : i < N.n2
          · obtain ⟨b', off, hA2, hlt, hc⟩ := HN.out.lab.2.2.2 (by omega)
            rw [hA2] at h2 ⊢
            have HA2 := Lib.hid hA2
            clear hA2
            obtain ⟨y, hy⟩ : ∃ y, y = N.lab.getD i 0 := ⟨_, rfl⟩
            have hc0 := hc i hin
            rw [← hy] at hc0
            have HY := Lib.hid hy
            clear hy
            have fin : ∀ (_ : y < 16) (_ : 0 < i → N.lab.getD (i - 1) 0 < y), ∀ j, j < i + 1 → N.lab.getD j 0 < 16 ∧ (0 < j → N.lab.getD (j - 1) 0 < N.lab.getD j 0) := by
              intro q1 q2 j hj
              rcases Nat.lt_succ_iff_lt_or_eq.1 hj with hj | rfl
              · exact HI.out j hj
              · rw [← HY.out]; exact ⟨q1, q2⟩
            have FIN := Lib.hid fin
            clear fin
            by_cases hy16 : y < 16
            · have hyb : decide ((16 : Int) ≤ y) = false := decide_eq_false (by omega)
              rcases Nat.eq_zero_or_pos i with rfl | hi0
              · clear hc
                rw [Nat.add_zero] at hc0
                go_wp2_with fail
                go_round
                case rel => exact ⟨0 + 1, by omega, by go_num, Lib.hid (FIN.out hy16 (fun h => absurd h (by omega)))⟩
                case measure => simp [intOf]; omega
              · obtain ⟨j, rfl⟩ : ∃ j, i = j + 1 := ⟨i - 1, by omega⟩
                obtain ⟨z, hz⟩ : ∃ z, z = N.lab.getD j 0 := ⟨_, rfl⟩
                have hc1 := hc j (by omega)
                rw [← hz] at hc1
                have HZZ := Lib.hid hz
                clear hz hc
                by_cases hzy : z < y
                · have hzb : decide (y ≤ z) = false := decide_eq_false (by omega)
                  have hF := FIN.out hy16 (fun _ => by rw [Nat.add_sub_cancel, ← HZZ.out]; exact hzy)
                  have HF := Lib.hid hF
                  clear hF
                  go_wp2_with fail
                  go_round
                  case rel => exact ⟨j + 1 + 1, by omega, by go_num, HF⟩
                  case measure => simp [intOf]; omega
                · have hzb : decide (y ≤ z) = true := decide_eq_true (by omega)
                  have HF : Hid (b = false) := Lib.hid (by
                    cases hb : b with
                    | false => rfl
                    | true =>
                      have := ((HB.out.1 hb).2.2.2 (j + 1) (by omega)).2 (by omega)
                      rw [Nat.add_sub_cancel, ← HZZ.out, ← HY.out] at this
                      exact absurd this hzy)
                  go_wp2_with fail
                  go_ret
                  exact ⟨by rw [HF.out]; rfl, HW0.out⟩
            · clear hc
              have hyb : decide ((16 : Int) ≤ y) = true := decide_eq_true (by omega)
              have HF : Hid (b = false) := Lib.hid (by
                cases hb : b with
                | false => rfl
                | true =>
                  have := ((HB.out.1 hb).2.2.2 i (by omega)).1
                  rw [← HY.out] at this
                  exact absurd this hy16)
              go_wp2_with fail
              go_ret
              exact ⟨by rw [HF.out]; rfl, HW0.out⟩
          · have HF : Hid (b = true) := Lib.hid (HB.out.2 ⟨HP.out, by have := HLL.out; omega, fun h => absurd (HZ.out.2 h) (by simp), fun j hj => HI.out j (by omega)⟩)
            go_wp2_with fail
            go_ret
            exact ⟨by rw [HF.out]; rfl, HW0.out⟩
    · have hlb : ((N.n2 : Int) != (N.n3 : Int)) = true := by simp; omega
      have HF : Hid (b = false) := Lib.hid (by cases hb : b with | false => rfl | true => exact absurd (HB.out.1 hb).2.1 (by omega))
      go_wp2_with fail
      go_ret
      exact ⟨by rw [HF.out]; rfl, HW0.out⟩
end Go.Proofs.YtmfomkmdfddhaaaDoor.Node
