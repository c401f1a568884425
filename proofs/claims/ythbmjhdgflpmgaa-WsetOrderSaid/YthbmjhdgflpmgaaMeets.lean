/- WsetMeets: two sets meet just if the other way round they do; each one that is not empty meets itself. No condition. -/
import Derived.Test.YthbmjhdgflpmgaaRows
import Derived.Test.YthbmjhdgflpmgaaOpen15
import Derived.Test.YthbmjhdgflpmgaaPost
import Derived.Carry
namespace Go.Proofs.Ythbmjhdgflpmgaa.wsetMeets
open Go.ChangeShapes Go.WideShapes Go.ChangeAt Go.RowKit Go.Proofs.Ythbmjhdgflpmgaa.Mem Go.Proofs.Ythbmjhdgflpmgaa.Read Go.Proofs.Ythbmjhdgflpmgaa.Out Go.Proofs.Ythbmjhdgflpmgaa.Copy Go.Proofs.Ythbmjhdgflpmgaa.Key Go.Proofs.Ythbmjhdgflpmgaa.Set Go.Proofs.Ythbmjhdgflpmgaa.Rows3 Go.Proofs.Ythbmjhdgflpmgaa.At15 Go.Proofs.Ythbmjhdgflpmgaa.Res Go.Proofs.Ythbmjhdgflpmgaa.Get15 Go.Proofs.Ythbmjhdgflpmgaa.Put15 Go.Proofs.Ythbmjhdgflpmgaa.Meet15 Go.Proofs.Ythbmjhdgflpmgaa.Over15 Go.Proofs.Ythbmjhdgflpmgaa.Conv Go.Proofs.Ythbmjhdgflpmgaa.Rise Go.Proofs.Ythbmjhdgflpmgaa.Same3 Go.Proofs.Ythbmjhdgflpmgaa.Few15 Go.Proofs.Ythbmjhdgflpmgaa.Open15 Go.Proofs.Ythbmjhdgflpmgaa.Alive15

theorem meet_iff (a b : List W3) : meetB a b = true ↔ ∃ x ∈ a, ∃ y ∈ b, y.k = x.k := by
  unfold meetB
  rw [List.any_eq_true]
  refine ⟨fun ⟨x, hx, h⟩ => ?_, fun ⟨x, hx, y, hy, h⟩ => ⟨x, hx, ?_⟩⟩
  · obtain ⟨y, hy⟩ := Option.isSome_iff_exists.1 h
    obtain ⟨h1, h2⟩ := lk_mem hy
    exact ⟨x, hx, y, h1, h2⟩
  · cases hn : lk W3.k b x.k with
    | some z => rfl
    | none => exact absurd h (lk_none_iff.1 hn y hy)

theorem meet_comm (a b : List W3) : meetB a b = meetB b a := by
  rw [Bool.eq_iff_iff, meet_iff, meet_iff]
  exact ⟨fun ⟨x, hx, y, hy, h⟩ => ⟨y, hy, x, hx, h.symm⟩, fun ⟨x, hx, y, hy, h⟩ => ⟨y, hy, x, hx, h.symm⟩⟩

theorem meet_self (a : List W3) : meetB a a = decide (0 < a.length) := by
  rw [Bool.eq_iff_iff, meet_iff, decide_eq_true_eq]
  refine ⟨fun ⟨x, hx, _⟩ => List.length_pos_of_mem hx, fun h => ?_⟩
  cases a with
  | nil => simp at h
  | cons x l => exact ⟨x, List.mem_cons_self, x, List.mem_cons_self, rfl⟩

theorem mem_of_lk {l : List W3} {k : ByteArray} {x : W3} (h : lk W3.k l k = some x) : x ∈ l := (lk_mem h).1

theorem meet_put {a : List W3} (x : W3) (ha : Rs W3.k a) : meetB (put W3.k a x) [x] = true := by
  rw [meet_iff]
  have := lk_put ha x x.k
  rw [if_pos rfl] at this
  exact ⟨x, mem_of_lk this, x, List.mem_cons_self, rfl⟩

theorem meet_more {a b : List W3} (x : W3) (ha : Rs W3.k a) (h : meetB a b = true) : meetB (put W3.k a x) b = true := by
  rw [meet_iff] at h ⊢
  obtain ⟨y, hy, z, hz, e⟩ := h
  have h1 := lk_put ha x y.k
  by_cases hk : x.k = y.k
  · rw [if_pos hk] at h1
    exact ⟨x, mem_of_lk h1, z, hz, e.trans hk.symm⟩
  · rw [if_neg hk, lk_of_mem ha hy] at h1
    exact ⟨y, mem_of_lk h1, z, hz, e⟩

theorem putL_cases (l : List W3) (x : W3) : ((putL l x).1 = put W3.k l x ∧ (putL l x).2 = 0) ∨ ((putL l x).1 = l ∧ ((putL l x).2 = 2 ∨ (putL l x).2 = 3)) := by
  unfold putL
  split
  · split
    · exact .inl ⟨rfl, rfl⟩
    · split
      · exact .inr ⟨rfl, .inr rfl⟩
      · exact .inl ⟨rfl, rfl⟩
  · exact .inr ⟨rfl, .inl rfl⟩



set_option maxHeartbeats 4000000 in
set_option maxRecDepth 100000 in
theorem walk {H : Type} {enc : TypeId × Value → H} (W : World) {base : Nat} {v v1 v2 : Value} {d d1 d2 : DataW H} {p p1 p2 : List MemPlace} (h : DataW.Trod enc Try.prog W 0 (fun _ => true) true 23 v d p) (ho : Value.okWide Try.prog W .any base 23 v)
    (h1 : DataW.Trod enc Try.prog W 0 (fun _ => true) true 23 v1 d1 p1) (ho1 : Value.okWide Try.prog W .any base 23 v1)
    (h2 : DataW.Trod enc Try.prog W 0 (fun _ => true) true 41 v2 d2 p2) (ho2 : Value.okWide Try.prog W .any base 41 v2) :
    Calls Try.prog 8 #[v, v1, v2] W fun e W' => e = .returned (.bool true) ∧ Below W.heap.size W W' := by
  obtain ⟨A, n, c, s, rfl, hs⟩ := wrs_open h ho
  obtain ⟨B, m, e, o, rfl, hO⟩ := wrs_open h1 ho1
  obtain ⟨x, rfl⟩ := wr_open h2 ho2
  have hsn := hs.1
  have hon := hO.1
  have hb0 := (Below.refl W.heap.size W).alloc (Nat.le_refl _) (.cells #[.string x.k, .string x.t, .bool x.g] 41)
  have HS0 := Lib.hid (hs.kept hb0)
  have HO0 := Lib.hid (hO.kept hb0)
  have HX0 : Hid (Cells (W.alloc (.cells #[.string x.k, .string x.t, .bool x.g] 41)) W.heap.size 41 x.cells) := Lib.hid (Cells.new W x.cells _)
  have HB0 := Lib.hid hb0
  clear h ho h1 ho1 h2 ho2 hs hO hb0
  go_enter Try.func8, Try.ntmps8
  go_wp2_with fail
  generalize hW : World.alloc W _ = W0 at *
  clear hW
  refine Calls.mono (alive_true W0) ?_
  rintro e1 w1 ⟨rfl, hb1⟩
  have HS1 := Lib.hid (HS0.out.kept hb1)
  have HO1 := Lib.hid (HO0.out.kept hb1)
  have HX1 := Lib.hid (HX0.out.kept (Chg.of_below (F := fun _ => False) hb1) (fun f => f))
  have HB1 := Lib.hid (HB0.out.trans ((hb1).mono HB0.out.size))
  clear HS0 HO0 HX0 HB0
  clear hb1
  go_wp2_with fail
  refine Calls.mono (few_any A n c s w1 HS1.out) ?_
  rintro e2 w2 ⟨rfl, hb2⟩
  have HS2 := Lib.hid (HS1.out.kept hb2)
  have HO2 := Lib.hid (HO1.out.kept hb2)
  have HX2 := Lib.hid (HX1.out.kept (Chg.of_below (F := fun _ => False) hb2) (fun f => f))
  have HB2 := Lib.hid (HB1.out.trans ((hb2).mono HB1.out.size))
  clear HS1 HO1 HX1 HB1
  clear hb2
  cases hf : fewB s with
  | false =>
    go_wp2_with fail
    go_ret
    exact ⟨rfl, HB2.out⟩
  | true =>
  have hn60 : n ≤ 60 := by have := fewB_len hf; omega
  clear hf
  go_wp2_with fail
  refine Calls.mono (few_any B m e o w2 HO2.out) ?_
  rintro e3 w3 ⟨rfl, hb3⟩
  have HS3 := Lib.hid (HS2.out.kept hb3)
  have HO3 := Lib.hid (HO2.out.kept hb3)
  have HX3 := Lib.hid (HX2.out.kept (Chg.of_below (F := fun _ => False) hb3) (fun f => f))
  have HB3 := Lib.hid (HB2.out.trans ((hb3).mono HB2.out.size))
  clear HS2 HO2 HX2 HB2
  clear hb3
  cases hf : fewB o with
  | false =>
    go_wp2_with fail
    go_ret
    exact ⟨rfl, HB3.out⟩
  | true =>
  have hm60 : m ≤ 60 := by have := fewB_len hf; omega
  clear hf
  obtain ⟨b, hb⟩ := rs_or W3.k s
  have HBB := Lib.hid hb
  clear hb
  go_wp2_with fail
  refine Calls.mono (riseR_any A n c s w3 HS3.out (by omega) b HBB.out) ?_
  rintro e4 w4 ⟨rfl, hb4⟩
  have HS4 := Lib.hid (HS3.out.kept hb4)
  have HO4 := Lib.hid (HO3.out.kept hb4)
  have HX4 := Lib.hid (HX3.out.kept (Chg.of_below (F := fun _ => False) hb4) (fun f => f))
  have HB4 := Lib.hid (HB3.out.trans ((hb4).mono HB3.out.size))
  clear HS3 HO3 HX3 HB3
  clear hb4
  cases b with
  | false =>
    go_wp2_with fail
    go_ret
    exact ⟨rfl, HB4.out⟩
  | true =>
  have HRS : Hid (Rs W3.k s) := Lib.hid (HBB.out.1 rfl)
  clear HBB
  obtain ⟨b, hb⟩ := rs_or W3.k o
  have HBB := Lib.hid hb
  clear hb
  go_wp2_with fail
  refine Calls.mono (riseR_any B m e o w4 HO4.out (by omega) b HBB.out) ?_
  rintro e5 w5 ⟨rfl, hb5⟩
  have HS5 := Lib.hid (HS4.out.kept hb5)
  have HO5 := Lib.hid (HO4.out.kept hb5)
  have HX5 := Lib.hid (HX4.out.kept (Chg.of_below (F := fun _ => False) hb5) (fun f => f))
  have HB5 := Lib.hid (HB4.out.trans ((hb5).mono HB4.out.size))
  clear HS4 HO4 HX4 HB4
  clear hb5
  cases b with
  | false =>
    go_wp2_with fail
    go_ret
    exact ⟨rfl, HB5.out⟩
  | true =>
  have HRO : Hid (Rs W3.k o) := Lib.hid (HBB.out.1 rfl)
  clear HBB
  have hg0 := HX5.out.cell 0
  have hg1 := HX5.out.cell 1
  have hg2 := HX5.out.cell 2
  simp only [W3.cells, List.getElem?_cons_zero, List.getElem?_cons_succ] at hg0 hg1 hg2
  go_wp2_with fail
  have HL6 : Hid (RowsOf W3.cells 3 (w5.alloc (.cells #[.string x.k, .string x.t, .bool x.g] 41)) (some ⟨w5.heap.size, 0, none⟩) 1 [x]) := Lib.hid (rows_new W3.len w5 [x] _ (show 1 ≤ maxLen by decide))
  have hba := (Below.refl w5.heap.size w5).alloc (Nat.le_refl _) (.cells #[.string x.k, .string x.t, .bool x.g] 41)
  clear hg0 hg1 hg2
  have HS6 := Lib.hid (HS5.out.kept hba)
  have HO6 := Lib.hid (HO5.out.kept hba)
  have HX6 := Lib.hid (HX5.out.kept (Chg.of_below (F := fun _ => False) hba) (fun f => f))
  have HB6 := Lib.hid (HB5.out.trans ((hba).mono HB5.out.size))
  clear HS5 HO5 HX5 HB5
  clear hba
  generalize hW : World.alloc w5 _ = w6 at *
  generalize w5.heap.size = g6 at *
  clear hW
  refine Calls.mono (few_any (some ⟨g6, 0, none⟩) 1 1 [x] w6 HL6.out) ?_
  rintro e7 w7 ⟨rfl, hb7⟩
  have HS7 := Lib.hid (HS6.out.kept hb7)
  have HO7 := Lib.hid (HO6.out.kept hb7)
  have HX7 := Lib.hid (HX6.out.kept (Chg.of_below (F := fun _ => False) hb7) (fun f => f))
  have HB7 := Lib.hid (HB6.out.trans ((hb7).mono HB6.out.size))
  clear HS6 HO6 HX6 HB6
  clear hb7 HL6
  cases hf : fewB [x] with
  | false =>
    go_wp2_with fail
    go_ret
    exact ⟨rfl, HB7.out⟩
  | true =>
  clear hf
  go_wp2_with fail
  refine Calls.mono (theirs_r A n c s w7 HS7.out (by omega)) ?_
  rintro e8 w8 ⟨A8, c8, rfl, H8⟩
  have HS8 := Lib.hid (HS7.out.kept H8.out.below)
  have HO8 := Lib.hid (HO7.out.kept H8.out.below)
  have HX8 := Lib.hid (HX7.out.kept (Chg.of_below (F := fun _ => False) H8.out.below) (fun f => f))
  have HB8 := Lib.hid (HB7.out.trans ((H8.out.below).mono HB7.out.size))
  clear HS7 HO7 HX7 HB7
  go_wp2_with fail
  refine Calls.mono (theirs_r B m e o w8 HO8.out (by omega)) ?_
  rintro e9 w9 ⟨B9, e9', rfl, H9⟩
  have HS9 := Lib.hid (HS8.out.kept H9.out.below)
  have HO9 := Lib.hid (HO8.out.kept H9.out.below)
  have HX9 := Lib.hid (HX8.out.kept (Chg.of_below (F := fun _ => False) H9.out.below) (fun f => f))
  have HB9 := Lib.hid (HB8.out.trans ((H9.out.below).mono HB8.out.size))
  clear HS8 HO8 HX8 HB8
  have HA9 := Lib.hid (H8.out.rows.kept H9.out.below)
  have HQ9 := Lib.hid H9.out.rows
  clear H8 H9 HS9 HO9
  have hg0 := HX9.out.cell 0
  have hg1 := HX9.out.cell 1
  have hg2 := HX9.out.cell 2
  simp only [W3.cells, List.getElem?_cons_zero, List.getElem?_cons_succ] at hg0 hg1 hg2
  go_wp2_with fail
  refine Calls.mono (put_r A8 n c8 s x w9 HA9.out (by omega) HRS.out) ?_
  rintro e10 w10 ⟨C, q, f, rfl, H10, hq⟩
  clear hg0 hg1 hg2
  have HA10 := Lib.hid (HA9.out.kept H10.out.below)
  have HO10 := Lib.hid (HQ9.out.kept H10.out.below)
  have HC10 := Lib.hid H10.out.rows
  have HX10 := Lib.hid (HX9.out.kept (Chg.of_below (F := fun _ => False) H10.out.below) (fun f => f))
  have HB10 := Lib.hid (HB9.out.trans (H10.out.below.mono HB9.out.size))
  clear HA9 HQ9 HX9 HB9 H10
  go_wp2_with fail
  obtain ⟨M, hM⟩ : ∃ M, M = meetB s o := ⟨_, rfl⟩
  have HM := Lib.hid hM
  refine Calls.mono (meet_any A8 n c8 s B9 m e9' o w10 HA10.out (by omega) HO10.out (by omega) HRO.out) ?_
  rintro e11 w11 ⟨rfl, hb11⟩
  have HA11 := Lib.hid (HA10.out.kept hb11)
  have HO11 := Lib.hid (HO10.out.kept hb11)
  have HC11 := Lib.hid (HC10.out.kept hb11)
  have HX11 := Lib.hid (HX10.out.kept (Chg.of_below (F := fun _ => False) hb11) (fun f => f))
  have HB11 := Lib.hid (HB10.out.trans ((hb11).mono HB10.out.size))
  clear HA10 HO10 HC10 HX10 HB10
  rw [← hM]
  clear hb11
  go_wp2_with fail
  refine Calls.mono (meet_any B9 m e9' o A8 n c8 s w11 HO11.out (by omega) HA11.out (by omega) HRS.out) ?_
  rintro e12 w12 ⟨rfl, hb12⟩
  have HA12 := Lib.hid (HA11.out.kept hb12)
  have HO12 := Lib.hid (HO11.out.kept hb12)
  have HC12 := Lib.hid (HC11.out.kept hb12)
  have HX12 := Lib.hid (HX11.out.kept (Chg.of_below (F := fun _ => False) hb12) (fun f => f))
  have HB12 := Lib.hid (HB11.out.trans ((hb12).mono HB11.out.size))
  clear HA11 HO11 HC11 HX11 HB11
  rw [meet_comm o s, ← hM]
  clear hb12 hM
  obtain ⟨Z, hz1, hz2, hz3⟩ : ∃ Z : Bool, meetB s s = Z ∧ decide ((0 : Int) < n) = Z ∧ decide (0 < n) = Z := ⟨decide (0 < n), by rw [meet_self, hsn], by rw [Bool.eq_iff_iff]; simp, rfl⟩
  have HZ1 := Lib.hid hz1
  clear hz1
  go_wp2_with fail
  refine Calls.mono (meet_any A8 n c8 s A8 n c8 s w12 HA12.out (by omega) HA12.out (by omega) HRS.out) ?_
  rintro e13 w13 ⟨rfl, hb13⟩
  have HA13 := Lib.hid (HA12.out.kept hb13)
  have HO13 := Lib.hid (HO12.out.kept hb13)
  have HC13 := Lib.hid (HC12.out.kept hb13)
  have HX13 := Lib.hid (HX12.out.kept (Chg.of_below (F := fun _ => False) hb13) (fun f => f))
  have HB13 := Lib.hid (HB12.out.trans ((hb13).mono HB12.out.size))
  clear HA12 HO12 HC12 HX12 HB12
  rw [HZ1.out]
  clear hb13
  rcases putL_cases s x with ⟨hp1, hp2⟩ | ⟨_, hp2 | hp2⟩
  · rw [hp2]
    rw [hp1] at HC13
    clear hp1 hp2
    have hg0 := HX13.out.cell 0
    have hg1 := HX13.out.cell 1
    have hg2 := HX13.out.cell 2
    simp only [W3.cells, List.getElem?_cons_zero, List.getElem?_cons_succ] at hg0 hg1 hg2
    go_wp2_with fail
    have HL14 : Hid (RowsOf W3.cells 3 (w13.alloc (.cells #[.string x.k, .string x.t, .bool x.g] 45)) (some ⟨w13.heap.size, 0, none⟩) 1 [x]) := Lib.hid (rows_new W3.len w13 [x] _ (show 1 ≤ maxLen by decide))
    have hba := (Below.refl w13.heap.size w13).alloc (Nat.le_refl _) (.cells #[.string x.k, .string x.t, .bool x.g] 45)
    clear hg0 hg1 hg2
    have HA14 := Lib.hid (HA13.out.kept hba)
    have HO14 := Lib.hid (HO13.out.kept hba)
    have HC14 := Lib.hid (HC13.out.kept hba)
    have HX14 := Lib.hid (HX13.out.kept (Chg.of_below (F := fun _ => False) hba) (fun f => f))
    have HB14 := Lib.hid (HB13.out.trans ((hba).mono HB13.out.size))
    clear HA13 HO13 HC13 HX13 HB13
    clear hba
    generalize hW : World.alloc w13 _ = w14 at *
    generalize w13.heap.size = g14 at *
    clear hW
    refine Calls.mono (meet_any C q f (put W3.k s x) (some ⟨g14, 0, none⟩) 1 1 [x] w14 HC14.out (by omega) HL14.out (by omega) (Rs.cons (fun _ h => by cases h) Rs.nil)) ?_
    rintro e15 w15 ⟨rfl, hb15⟩
    have HA15 := Lib.hid (HA14.out.kept hb15)
    have HO15 := Lib.hid (HO14.out.kept hb15)
    have HC15 := Lib.hid (HC14.out.kept hb15)
    have HX15 := Lib.hid (HX14.out.kept (Chg.of_below (F := fun _ => False) hb15) (fun f => f))
    have HB15 := Lib.hid (HB14.out.trans ((hb15).mono HB14.out.size))
    clear HA14 HO14 HC14 HX14 HB14
    rw [meet_put x HRS.out]
    clear hb15 HL14
    obtain ⟨Q, hQ⟩ : ∃ Q, Q = meetB (put W3.k s x) o := ⟨_, rfl⟩
    have HQ := Lib.hid hQ
    go_wp2_with fail
    refine Calls.mono (meet_any C q f (put W3.k s x) B9 m e9' o w15 HC15.out (by omega) HO15.out (by omega) HRO.out) ?_
    rintro e16 w16 ⟨rfl, hb16⟩
    have HA16 := Lib.hid (HA15.out.kept hb16)
    have HO16 := Lib.hid (HO15.out.kept hb16)
    have HC16 := Lib.hid (HC15.out.kept hb16)
    have HX16 := Lib.hid (HX15.out.kept (Chg.of_below (F := fun _ => False) hb16) (fun f => f))
    have HB16 := Lib.hid (HB15.out.trans ((hb16).mono HB15.out.size))
    clear HA15 HO15 HC15 HX15 HB15
    rw [← hQ]
    clear hb16 hQ
    cases Q with
    | true =>
      go_wp2_with fail
      go_ret
      exact ⟨rfl, HB16.out⟩
    | false =>
      have HMF : Hid (meetB s o = false) := Lib.hid (by
        cases hm : meetB s o with
        | false => rfl
        | true => have := meet_more x HRS.out hm; rw [← HQ.out] at this; cases this)
      go_wp2_with fail
      refine Calls.mono (meet_any A8 n c8 s B9 m e9' o w16 HA16.out (by omega) HO16.out (by omega) HRO.out) ?_
      rintro e17 w17 ⟨rfl, hb17⟩
      have HA17 := Lib.hid (HA16.out.kept hb17)
      have HO17 := Lib.hid (HO16.out.kept hb17)
      have HC17 := Lib.hid (HC16.out.kept hb17)
      have HX17 := Lib.hid (HX16.out.kept (Chg.of_below (F := fun _ => False) hb17) (fun f => f))
      have HB17 := Lib.hid (HB16.out.trans ((hb17).mono HB16.out.size))
      clear HA16 HO16 HC16 HX16 HB16
      rw [HMF.out]
      clear hb17
      go_wp2_with fail
      go_ret
      exact ⟨rfl, HB17.out⟩
  · rw [hp2]
    clear hp2
    go_wp2_with fail
    go_ret
    exact ⟨rfl, HB13.out⟩
  · rw [hp2]
    clear hp2
    go_wp2_with fail
    go_ret
    exact ⟨rfl, HB13.out⟩


theorem own : ownKnob Try.prog.godebug = none := by kernel_rfl
theorem laidOut : laidOutB Try.prog = true := by kernel_rfl

set_option maxRecDepth 100000 in
theorem lifted (os : Os) (started : os.Started) (H : Type) (enc : TypeId × Value → H) :
    ReturnsInHanded {} Try.checked os 8 .any (Rows.wsetMeetsSpec.pre6 enc Try.prog Try.f8 Rows.wsetMeetsRow.domain false) (Rows.wsetMeetsSpec.post enc Try.prog Try.f8 false true false false) := by
  refine returnsInHanded_of_change (C := Try.checked) own started (by kernel_rfl) Try.func8
    (ChangeSpec.witness6 (enc := enc) (C := Try.checked) false ⟨#[], #[.slice none 0 0, .slice none 0 0, .agg #[.string ⟨#[]⟩, .string ⟨#[]⟩, .bool false]], []⟩ 8 (by kernel_rfl) (by kernel_rfl) (by kernel_rfl) (by kernel_rfl)) ?_
  intro W base args ds gs before hval0 hW hcnd _
  have hval : ∀ (j : Nat) t v, Try.f8.params[j]? = some t → args[j]? = some v → Value.okWide Try.prog W .any base t v := hval0
  have hW' := hW
  obtain ⟨p, q, hA0, hV, rfl, hfz, hnd⟩ := hW
  have hA : DataW.TrodAll enc Try.prog W 0 (fun _ => true) true Try.f8.params.toList args.toList ds p := hA0
  rw [Try.params8] at hA hval
  obtain ⟨v0, vs0, d0, ds0, p0, q0, hargs, rfl, rfl, h0, r0⟩ := trodAll_cons hA
  obtain ⟨v1, vs1, d1, ds1, p1, q1, rfl, rfl, rfl, h1, r1⟩ := trodAll_cons r0
  obtain ⟨v2, vs2, d2, ds2, p2, q2, rfl, rfl, rfl, h2, r2⟩ := trodAll_cons r1
  obtain ⟨rfl, rfl, rfl⟩ := trodAll_nil r2
  obtain rfl : args = #[v0, v1, v2] := by cases args; simp_all
  obtain ⟨rfl, rfl⟩ := trodVars_none hV
  clear hA0 hval0
  have lt0 : ∀ x ∈ p0, x.block < W.heap.size := by obtain ⟨m, hm⟩ := h0; exact DataW.trod_lt m _ _ _ hm
  have lt1 : ∀ x ∈ p1, x.block < W.heap.size := by obtain ⟨m, hm⟩ := h1; exact DataW.trod_lt m _ _ _ hm
  have lt2 : ∀ x ∈ p2, x.block < W.heap.size := by obtain ⟨m, hm⟩ := h2; exact DataW.trod_lt m _ _ _ hm
  simp only [List.append_nil] at hW'
  refine Calls.mono (walk W h0 (hval 0 23 v0 rfl rfl) h1 (hval 1 23 v1 rfl rfl) h2 (hval 2 41 v2 rfl rfl)) ?_
  rintro e W' ⟨rfl, bel⟩
  exact ⟨_, rfl, Post.post_below (pa := _) (pv := []) hW' (fun _ _ _ => (trodAll_cons_mk (shut_bool Try.underlying4 _) trodAll_mk0)) (fun sp hsp => (trodAll_cons_mk (WideElems.Trod_stays laidOut (by kernel_rfl) (of_decide_eq_true (by kernel_rfl)) h0 (fun x hx => bel.same (lt0 x hx)) (fun x hx => hsp x (by simp [hx]))) (trodAll_cons_mk (WideElems.Trod_stays laidOut (by kernel_rfl) (of_decide_eq_true (by kernel_rfl)) h1 (fun x hx => bel.same (lt1 x hx)) (fun x hx => hsp x (by simp [hx]))) (trodAll_cons_mk (WideElems.Trod_stays laidOut (by kernel_rfl) (of_decide_eq_true (by kernel_rfl)) h2 (fun x hx => bel.same (lt2 x hx)) (fun x hx => hsp x (by simp [hx]))) trodAll_mk0)))) (fun _ _ => rfl) (by simp)
    bel (ok_one (by kernel_rfl) rfl (okWide_bool_mk Try.underlying4 _))⟩

theorem over : Rows.wsetMeetsRow.holds Try.pinned (OpenSpec.ofChange Rows.wsetMeetsSpec) :=
  OpenClaim.holds_of_wide 8 Try.f8 rfl rfl rfl rfl rfl rfl rfl ⟨rfl, rfl, rfl, rfl, rfl⟩ rfl rfl rfl rfl rfl (by kernel_rfl) Try.func8 (by kernel_rfl)
    (of_decide_eq_true (by kernel_rfl)) (by unfold Func.isWrapper; first | (rw [if_pos (by decide +kernel)]; kernel_rfl) | (rw [if_neg (by decide +kernel)]; exact ⟨rfl, rfl⟩))
    (fun os started H enc _ => lifted os started H enc)

/-- The statement. -/
theorem proved : Rows.WsetMeetsSaid :=
  over

end Go.Proofs.Ythbmjhdgflpmgaa.wsetMeets
