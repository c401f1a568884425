/- Layer 15's laws: alive. -/
import Derived.Test.YthbmjhdgflpmgaaPut15
import Derived.Test.YthbmjhdgflpmgaaMeet15
import Derived.Test.YthbmjhdgflpmgaaOver15
namespace Go.Proofs.Ythbmjhdgflpmgaa.Alive15
open Go.RowKit Go.Joins Go.Proofs.Ythbmjhdgflpmgaa.Mem Go.Proofs.Ythbmjhdgflpmgaa.Read Go.Proofs.Ythbmjhdgflpmgaa.Out Go.Proofs.Ythbmjhdgflpmgaa.Copy Go.Proofs.Ythbmjhdgflpmgaa.Key Go.Proofs.Ythbmjhdgflpmgaa.Set Go.Proofs.Ythbmjhdgflpmgaa.Rows3 Go.Proofs.Ythbmjhdgflpmgaa.At15 Go.Proofs.Ythbmjhdgflpmgaa.Res Go.Proofs.Ythbmjhdgflpmgaa.Get15 Go.Proofs.Ythbmjhdgflpmgaa.Put15 Go.Proofs.Ythbmjhdgflpmgaa.Meet15 Go.Proofs.Ythbmjhdgflpmgaa.Over15 Go.Proofs.Ythbmjhdgflpmgaa.Conv

abbrev wC : W3 := ⟨⟨#[99]⟩, ⟨#[51]⟩, false⟩
abbrev wA : W3 := ⟨⟨#[97]⟩, ⟨#[]⟩, true⟩
abbrev wX : W3 := ⟨⟨#[97]⟩, ⟨#[120]⟩, true⟩
abbrev pA : P2 := ⟨⟨#[97]⟩, ⟨#[49]⟩⟩
abbrev pB : P2 := ⟨⟨#[98]⟩, ⟨#[50]⟩⟩
abbrev pC : P2 := ⟨⟨#[99]⟩, ⟨#[51]⟩⟩
theorem put1 : putL [] wC = ([wC], 0) := by kernel_rfl
theorem put2 : putL [wC] wA = ([wA, wC], 0) := by kernel_rfl
theorem put3 : putL [wA, wC] wX = ([wA, wC], 2) := by kernel_rfl
theorem get1 : getW [wA, wC] ⟨#[99]⟩ = wC ∧ (lk W3.k [wA, wC] ⟨#[99]⟩).isSome = true := ⟨by kernel_rfl, by kernel_rfl⟩
theorem kl1 : kl wA.k wC.k = true := by kernel_rfl
theorem rs1 : Rs W3.k [wC] := Rs.cons (fun _ h => by cases h) Rs.nil
theorem rs2 : Rs W3.k [wA, wC] := Rs.cons (fun b h => by
  rcases List.mem_cons.1 h with rfl | h
  · exact kl1
  · cases h) rs1
theorem ov1 : ovW [pA, pB] [wA, wC] = [pB, pC] := by
  have h1 : kl pA.k wA.k = false := by kernel_rfl
  have h2 : kl pB.k wC.k = true := by kernel_rfl
  rw [ov_w (.inr (.inl ⟨pA, rfl, rfl⟩)), if_pos rfl, ov_p (.inr ⟨wC, [], rfl, h2⟩), ov_w (.inl ⟨rfl, rfl⟩), if_neg (by decide), ovW_nil]
  rfl
theorem meet1 : meetB [wA, wC] [wA, wC] = true := by kernel_rfl
theorem meet2 : meetB [wA, wC] [] = false := by kernel_rfl

theorem rows_new {α : Type} {cells : α → List Value} {sz : Nat} (hlen : ∀ x, (cells x).length = sz) (w : World) (l : List α) (T : TypeId) (hn : l.length ≤ maxLen) : RowsOf cells sz (w.alloc (.cells (l.flatMap cells).toArray T)) (some ⟨w.heap.size, 0, none⟩) l.length l := by
  have hc := Cells.new w (l.flatMap cells) T
  refine ⟨rfl, hn, fun _ => ⟨w.heap.size, 0, rfl, hc.lt, fun i x hi j v hj => ?_⟩⟩
  rw [Nat.zero_add, hc.cell]
  exact flat_at hlen l i x hi j v hj

/-- The set, while alive is at work. -/
structure AS (w0 w : World) (g c : Nat) : Prop where
  out : Out w0 w 45 3 (.slice (some ⟨g, 0, none⟩) 2 c) 2 ([wA, wC].flatMap W3.cells)

theorem AS.kept {w0 w w' : World} {g c : Nat} (h : AS w0 w g c) (hb : Below w.heap.size w w') : AS w0 w' g c := ⟨h.out.kept hb⟩
theorem AS.rows {w0 w : World} {g c : Nat} (h : AS w0 w g c) : RowsOf W3.cells 3 w (some ⟨g, 0, none⟩) 2 [wA, wC] := by
  obtain ⟨A, c', e, _, hr⟩ := own_rows W3.len h.out rfl (by decide)
  cases e
  exact hr
theorem AS.le {w0 w : World} {g c : Nat} (h : AS w0 w g c) : 2 ≤ c := by
  rcases h.out.1.2 with ⟨h0, _⟩ | ⟨g', c', cur, hv, _, _, hnc, _⟩
  · cases h0
  · injection hv with _ _ h3
    omega

set_option maxHeartbeats 2000000 in
set_option maxRecDepth 100000 in
theorem alive_true (w : World) : Calls Try.prog 9 #[] w fun e w' => e = .returned (.bool true) ∧ Below w.heap.size w w' := by
  go_enter Try.func9, Try.ntmps9
  go_wp2_with fail
  refine Calls.mono (put_any none 0 0 [] wC w (RowsOf.nil _ _ _) (by decide) Rs.nil) ?_
  rintro e w1 ⟨v1, m1, rfl, HO1, HM1⟩
  rw [put1] at HO1 HM1 ⊢
  obtain rfl : 1 = m1 := HM1.out.1
  obtain ⟨A1, c1, rfl, hc1, hr1⟩ := own_rows W3.len HO1.out rfl (by decide)
  have HR1 := Lib.hid hr1
  have HB1 := Lib.hid HO1.out.below
  clear hr1 HO1 HM1
  go_wp2_with fail
  refine Calls.mono (put_any A1 1 c1 [wC] wA w1 HR1.out (by decide) rs1) ?_
  rintro e w2 ⟨v2, m2, rfl, HO2, HM2⟩
  rw [put2] at HO2 HM2 ⊢
  obtain rfl : 2 = m2 := HM2.out.1
  have hf2 := HO2.out.form
  obtain ⟨g, c2, rfl⟩ : ∃ g c, v2 = .slice (some ⟨g, 0, none⟩) 2 c := by
    rcases hf2 with ⟨_, h0⟩ | h
    · cases h0
    · exact h
  have HS2 : Hid (AS w w2 g c2) := Lib.hid ⟨HO2.out.mono HB1.out⟩
  clear hf2 HO2 HM2 HR1 HB1
  go_wp2_with fail
  refine Calls.mono (get_any (some ⟨g, 0, none⟩) 2 c2 [wA, wC] ⟨#[99]⟩ w2 HS2.out.rows (by decide) rs2) ?_
  rintro e w3 ⟨rfl, hb3⟩
  rw [get1.1, get1.2]
  have HS3 := Lib.hid (HS2.out.kept hb3)
  clear HS2 hb3
  go_wp2_with fail
  have HBX : Hid (Cells ((w3.alloc (.cells #[.string ⟨#[99]⟩, .string ⟨#[51]⟩, .bool false] 45)).alloc (.cells #[.string ⟨#[97]⟩, .string ⟨#[49]⟩, .string ⟨#[98]⟩, .string ⟨#[50]⟩] 55)) w3.heap.size 45 wC.cells) := Lib.hid ((Cells.new w3 wC.cells _).alloc _)
  have HLP : Hid (RowsOf P2.cells 2 ((w3.alloc (.cells #[.string ⟨#[99]⟩, .string ⟨#[51]⟩, .bool false] 45)).alloc (.cells #[.string ⟨#[97]⟩, .string ⟨#[49]⟩, .string ⟨#[98]⟩, .string ⟨#[50]⟩] 55)) (some ⟨w3.heap.size + 1, 0, none⟩) 2 [pA, pB]) := by
    have := rows_new P2.len (w3.alloc (.cells #[.string ⟨#[99]⟩, .string ⟨#[51]⟩, .bool false] 45)) [pA, pB] 55 (by decide)
    rw [show (w3.alloc (.cells #[.string ⟨#[99]⟩, .string ⟨#[51]⟩, .bool false] 45)).heap.size = w3.heap.size + 1 by simp] at this
    exact Lib.hid this
  have HS4 := Lib.hid (HS3.out.kept (((Below.refl w3.heap.size w3).alloc (Nat.le_refl _) (.cells #[.string ⟨#[99]⟩, .string ⟨#[51]⟩, .bool false] 45)).alloc (by simp) (.cells #[.string ⟨#[97]⟩, .string ⟨#[49]⟩, .string ⟨#[98]⟩, .string ⟨#[50]⟩] 55)))
  generalize hW : World.alloc (World.alloc w3 _) _ = W4 at *
  generalize w3.heap.size = gb at *
  clear hW HS3
  refine Calls.mono (over_any (some ⟨gb + 1, 0, none⟩) 2 2 [pA, pB] (some ⟨g, 0, none⟩) 2 c2 [wA, wC] W4 HLP.out (by decide) (by decide) HS4.out.rows (by decide) HS4.out.le) ?_
  rintro e w5 ⟨v5, q5, rfl, HO5, HQ5⟩
  rw [ov1] at HO5 HQ5
  obtain rfl : 2 = q5 := HQ5.out
  obtain ⟨g5, c5, rfl⟩ : ∃ g c, v5 = .slice (some ⟨g, 0, none⟩) 2 c := by
    rcases HO5.out.form with ⟨_, h0⟩ | h
    · cases h0
    · exact h
  have HS5 := Lib.hid (HS4.out.kept HO5.out.below)
  have HX5 := Lib.hid (HBX.out.kept (Chg.of_below (F := fun _ => False) HO5.out.below) (fun f => f))
  clear HBX HLP HS4 HQ5
  go_wp2_with fail
  refine Calls.mono (put_any (some ⟨g, 0, none⟩) 2 c2 [wA, wC] wX w5 HS5.out.rows (by decide) rs2) ?_
  rintro e w6 ⟨v6, m6, rfl, HO6, HM6⟩
  rw [put3] at HO6 HM6 ⊢
  have HS6 := Lib.hid (HS5.out.kept HO6.out.below)
  have HX6 := Lib.hid (HX5.out.kept (Chg.of_below (F := fun _ => False) HO6.out.below) (fun f => f))
  have HP6 := Lib.hid (HO5.out.kept HO6.out.below)
  obtain ⟨A6, c6, rfl, _, _⟩ := own_rows W3.len HO6.out HM6.out.1 (by have := HM6.out.2; simp only [maxLen]; omega)
  clear HO6 HM6 HS5 HX5 HO5
  have hs2 : w6.cell? ⟨g, 2, none⟩ = some (.bool true) := HS6.out.out.1.cellAt 2 (by decide)
  have hx1 : w6.cell? ⟨gb, 1, none⟩ = some (.string ⟨#[51]⟩) := HX6.out.cell 1
  have hp0 : w6.cell? ⟨g5, 0, none⟩ = some (.string ⟨#[98]⟩) := HP6.out.1.cellAt 0 (by decide)
  have hp2 : w6.cell? ⟨g5, 2, none⟩ = some (.string ⟨#[99]⟩) := HP6.out.1.cellAt 2 (by decide)
  have hp3 : w6.cell? ⟨g5, 3, none⟩ = some (.string ⟨#[51]⟩) := HP6.out.1.cellAt 3 (by decide)
  go_wp2_with fail
  refine Calls.mono (meet_any (some ⟨g, 0, none⟩) 2 c2 [wA, wC] (some ⟨g, 0, none⟩) 2 c2 [wA, wC] w6 HS6.out.rows (by decide) HS6.out.rows (by decide) rs2) ?_
  rintro e w7 ⟨rfl, hb7⟩
  rw [meet1]
  have HS7 := Lib.hid (HS6.out.kept hb7)
  clear hs2 hx1 hp0 hp2 hp3 HS6 HX6 HP6 hb7
  go_wp2_with fail
  refine Calls.mono (meet_any (some ⟨g, 0, none⟩) 2 c2 [wA, wC] none 0 0 [] w7 HS7.out.rows (by decide) (RowsOf.nil _ _ _) (by decide) Rs.nil) ?_
  rintro e w8 ⟨rfl, hb8⟩
  rw [meet2]
  have HS8 := Lib.hid (HS7.out.kept hb8)
  clear HS7 hb8
  go_wp2_with fail
  go_ret
  exact ⟨rfl, HS8.out.out.below⟩
end Go.Proofs.Ythbmjhdgflpmgaa.Alive15
