/- TxnNobody: a table that no call made answers ErrNil, and has none. No condition. -/
import Derived.Test.YtfbldpppjnnblaaLiv17
import Derived.Test.YtfbldpppjnnblaaOpen17
namespace Go.Proofs.Ytfbldpppjnnblaa.txnNobody
open Go.ChangeShapes Go.WideShapes Go.ChangeAt Go.RowKit Go.Proofs.Ytfbldpppjnnblaa.Mem Go.Proofs.Ytfbldpppjnnblaa.Q Go.Proofs.Ytfbldpppjnnblaa.Read Go.Proofs.Ytfbldpppjnnblaa.Out Go.Proofs.Ytfbldpppjnnblaa.Copy Go.Proofs.Ytfbldpppjnnblaa.Key Go.Proofs.Ytfbldpppjnnblaa.Set Go.Proofs.Ytfbldpppjnnblaa.Rows3 Go.Proofs.Ytfbldpppjnnblaa.Tab Go.Proofs.Ytfbldpppjnnblaa.Liv Go.Proofs.Ytfbldpppjnnblaa.Few15 Go.Proofs.Ytfbldpppjnnblaa.Open17

set_option maxHeartbeats 4000000 in
set_option maxRecDepth 100000 in
theorem walk {H : Type} {enc : TypeId × Value → H} (W : World) {base : Nat} {v v1 v2 : Value} {d d1 d2 : DataW H} {p p1 p2 : List MemPlace} (h : DataW.Trod enc Try.prog W 0 (fun _ => true) true 3 v d p) (ho : Value.okWide Try.prog W .any base 3 v)
    (h1 : DataW.Trod enc Try.prog W 0 (fun _ => true) true 38 v1 d1 p1) (ho1 : Value.okWide Try.prog W .any base 38 v1) (h2 : DataW.Trod enc Try.prog W 0 (fun _ => true) true 23 v2 d2 p2) (ho2 : Value.okWide Try.prog W .any base 23 v2) :
    Calls Try.prog 5 #[v, v1, v2] W fun e W' => e = .returned (.bool true) ∧ Below W.heap.size W W' := by
  obtain ⟨I, rfl, _, _, _⟩ := open_int Try.underlying3 ho h
  obtain ⟨x, rfl⟩ := wr_open h1 ho1
  obtain ⟨y, rfl, _, _, _⟩ := open_int Try.underlying23 ho2 h2
  clear h ho h1 ho1 h2 ho2
  have hba := (Below.refl W.heap.size W).alloc (Nat.le_refl _) (.cells #[.string x.k, .string x.t, .bool x.g] 38)
  have HB0 := Lib.hid hba
  have HX0 : Hid (Cells (W.alloc (.cells #[.string x.k, .string x.t, .bool x.g] 38)) W.heap.size 38 x.cells) := Lib.hid (Cells.new W x.cells _)
  clear hba
  go_enter Try.func5, Try.ntmps5
  go_wp2_with fail
  generalize hW : World.alloc W _ = w0 at *
  generalize W.heap.size = g at HX0 ⊢
  clear hW
  refine Calls.mono (alive_true w0) ?_
  rintro e1 w1 ⟨rfl, hb1⟩
  have HB1 := Lib.hid (HB0.out.trans (hb1.mono HB0.out.size))
  have HX1 := Lib.hid (HX0.out.kept (Chg.of_below (F := fun _ => False) hb1) (fun f => f))
  clear hb1 HB0 HX0
  have hg0 := HX1.out.cell 0
  have hg1 := HX1.out.cell 1
  have hg2 := HX1.out.cell 2
  simp only [W3.cells, List.getElem?_cons_zero, List.getElem?_cons_succ] at hg0 hg1 hg2
  have hba := (Below.refl w1.heap.size w1).alloc (Nat.le_refl _) (.cells #[.string x.k, .string x.t, .bool x.g] 38)
  have HB2 := Lib.hid (HB1.out.trans (hba.mono HB1.out.size))
  have HX2 := Lib.hid (HX1.out.kept (Chg.of_below (F := fun _ => False) hba) (fun f => f))
  have HR2 := Lib.hid (rows_new w1 x 38)
  clear hba HB1 HX1
  go_wp2_with fail
  clear hg0 hg1 hg2
  generalize hW : World.alloc w1 _ = w2 at *
  generalize w1.heap.size = g2 at HR2 ⊢
  clear hW
  refine Calls.mono (few_any _ 1 1 [x] w2 HR2.out) ?_
  rintro e3 w3 ⟨rfl, hb3⟩
  have HB3 := Lib.hid (HB2.out.trans (hb3.mono HB2.out.size))
  have HX3 := Lib.hid (HX2.out.kept (Chg.of_below (F := fun _ => False) hb3) (fun f => f))
  clear hb3 HB2 HX2 HR2
  cases fewB [x] with
  | false =>
    go_wp2_with fail
    go_ret
    exact ⟨rfl, HB3.out⟩
  | true =>
  go_wp2_with fail
  generalize hW : World.alloc (World.alloc w3 _) _ = w4
  have hp : ∀ i, i < 2 → ∃ o, w4.cell? ⟨w3.heap.size + 1, i, none⟩ = some (.pointer o) ∧ ∀ wr, Below w4.heap.size w4 wr → Bad wr (.pointer o) := by
    intro i hi
    have hc1 := Cells.new w3 (.pointer none :: (List.replicate 8 (Value.slice none 0 0) ++ [.map none])) 77
    have hc2 := Cells.new (w3.alloc (.cells (Value.pointer none :: (List.replicate 8 (Value.slice none 0 0) ++ [.map none])).toArray 77)) [.pointer none, ptr w3.heap.size] 26
    have e1 : (w3.alloc (.cells (Value.pointer none :: (List.replicate 8 (Value.slice none 0 0) ++ [.map none])).toArray 77)).heap.size = w3.heap.size + 1 := by simp
    rw [e1] at hc2
    have hW2 : (w3.alloc (.cells (Value.pointer none :: (List.replicate 8 (Value.slice none 0 0) ++ [.map none])).toArray 77)).alloc (.cells [.pointer none, ptr w3.heap.size].toArray 26) = w4 := hW
    have hc3 := hc1.kept (Chg.of_below (F := fun _ => False) ((Below.refl _ _).alloc (Nat.le_refl _) (.cells [.pointer none, ptr w3.heap.size].toArray 26))) (fun f => f)
    rw [hW2] at hc2 hc3
    have h9 : w4.cell? ⟨w3.heap.size, 9, none⟩ = some (.map none) := (hc3.cell 9).trans rfl
    match i, hi with
    | 0, _ => exact ⟨none, (hc2.cell 0).trans rfl, fun wr _ => bad_nil wr⟩
    | 1, _ => exact ⟨some ⟨w3.heap.size, 0, none⟩, (hc2.cell 1).trans rfl, fun wr hb => bad_empty wr _ ((Chg.of_below (F := fun _ => False) hb).cell h9 (fun f => f))⟩
  have HP := Lib.hid hp
  have HB4 : Hid (Below W.heap.size W w4) := Lib.hid (by rw [← hW]; exact (HB3.out.alloc HB3.out.size _).alloc (Nat.le_trans HB3.out.size (by simp)) _)
  have HX4 : Hid (Cells w4 g 38 x.cells) := Lib.hid (by rw [← hW]; exact (HX3.out.alloc _).alloc _)
  generalize w3.heap.size + 1 = g3 at *
  clear hp hW HB3 HX3
  go_loopw [25] (fun v25 wr => ∃ i : Nat, i ≤ 2 ∧ v25 = .int .i64 i ∧ Hid (Below w4.heap.size w4 wr)) (fun v25 _ => 2 - (intOf v25).toNat)
  case atStart => exact ⟨0, by omega, rfl, Lib.hid (Below.refl _ _)⟩
  case round =>
    obtain ⟨i, hi, rfl, HW⟩ := hrel
    by_cases hin : i < 2
    · obtain ⟨o, ho, hbad⟩ := HP.out i hin
      have hcell := (Chg.of_below (F := fun _ => False) HW.out).cell ho (fun f => f)
      have HBAD : Hid (∀ w', Below wr.heap.size wr w' → Bad w' (.pointer o)) := Lib.hid (fun w' hb => hbad w' (HW.out.trans (hb.mono HW.out.size)))
      have HXR := Lib.hid (HX4.out.kept (Chg.of_below (F := fun _ => False) HW.out) (fun f => f))
      have HAT : Hid (∀ w', Below wr.heap.size wr w' → ∀ J, Calls Try.prog 27 #[.pointer o, .int .i64 J] w' fun e w2 => e = .returned (.tuple #[.int .u64 0, .bool false]) ∧ w' = w2) := Lib.hid (fun w' hb J => tat_bad J (HBAD.out w' hb))
      clear ho hbad
      go_wp2_with fail
      refine Calls.mono (tbegin_bad y (HBAD.out wr (Below.refl _ _))) ?_
      rintro e5 w5 ⟨rfl, rfl⟩
      go_wp2_with fail
      refine Calls.mono (tat_bad I (HBAD.out wr (Below.refl _ _))) ?_
      rintro e5 w5 ⟨rfl, rfl⟩
      go_wp2_with fail
      refine Calls.mono (tset_bad I (HBAD.out wr (Below.refl _ _))) ?_
      rintro e5 w5 ⟨rfl, rfl⟩
      have hg0 := HXR.out.cell 0
      have hg1 := HXR.out.cell 1
      have hg2 := HXR.out.cell 2
      simp only [W3.cells, List.getElem?_cons_zero, List.getElem?_cons_succ] at hg0 hg1 hg2
      have hba := (Below.refl wr.heap.size wr).alloc (Nat.le_refl _) (.cells #[.string x.k, .string x.t, .bool x.g] 50)
      have HB5 := Lib.hid hba
      have HX5 := Lib.hid (HXR.out.kept (Chg.of_below (F := fun _ => False) hba) (fun f => f))
      clear hba
      go_wp2_with fail
      clear hg0 hg1 hg2
      generalize hW : World.alloc wr _ = w5 at *
      clear hW
      refine Calls.mono (tnote_bad _ 1 1 y (HBAD.out w5 HB5.out)) ?_
      rintro e6 w6 ⟨rfl, rfl⟩
      have hg0 := HX5.out.cell 0
      have hg1 := HX5.out.cell 1
      have hg2 := HX5.out.cell 2
      simp only [W3.cells, List.getElem?_cons_zero, List.getElem?_cons_succ] at hg0 hg1 hg2
      go_wp2_with fail
      refine Calls.mono (twrite_bad I x (fun w' hb => HBAD.out w' (HB5.out.trans (hb.mono HB5.out.size)))) ?_
      rintro e6 w6 ⟨rfl, hb6⟩
      have HB6 := Lib.hid (HB5.out.trans (hb6.mono HB5.out.size))
      clear hg0 hg1 hg2 hb6
      go_wp2_with fail
      refine Calls.mono (tend_bad I (HBAD.out w6 HB6.out)) ?_
      rintro e7 w7 ⟨rfl, rfl⟩
      go_wp2_with fail
      refine Calls.mono (tclash_not o I (fun w' hb => HAT.out w' (HB6.out.trans (hb.mono HB6.out.size)) I)) ?_
      rintro e7 w7 ⟨rfl, hb7⟩
      have HB7 := Lib.hid (HB6.out.trans (hb7.mono HB6.out.size))
      clear hb7
      go_wp2_with fail
      refine Calls.mono (tleast_bad y (HBAD.out w7 HB7.out)) ?_
      rintro e8 w8 ⟨rfl, rfl⟩
      go_wp2_with fail
      refine Calls.mono (topen_bad (HAT.out w7 HB7.out)) ?_
      rintro e8 w8 ⟨rfl, rfl⟩
      go_wp2_with fail
      go_roundw
      case rel => exact ⟨i + 1, by omega, by go_num, Lib.hid (HW.out.trans (HB7.out.mono HW.out.size))⟩
      case measure => simp [intOf]; omega
    · go_wp2_with fail
      go_ret
      exact ⟨rfl, HB4.out.trans (HW.out.mono HB4.out.size)⟩


theorem own : ownKnob Try.prog.godebug = none := by kernel_rfl
theorem laidOut : laidOutB Try.prog = true := by kernel_rfl

set_option maxRecDepth 100000 in
theorem lifted (os : Os) (started : os.Started) (H : Type) (enc : TypeId × Value → H) :
    ReturnsInHanded {} Try.checked os 5 .any (Rows.txnNobodySpec.pre6 enc Try.prog Try.f5 Rows.txnNobodyRow.domain false) (Rows.txnNobodySpec.post enc Try.prog Try.f5 false true false false) := by
  refine returnsInHanded_of_change (C := Try.checked) own started (by kernel_rfl) Try.func5
    (ChangeSpec.witness6 (enc := enc) (C := Try.checked) false ⟨#[], #[.int .i64 0, .agg #[.string ⟨#[]⟩, .string ⟨#[]⟩, .bool false], .int .u64 0], []⟩ 8 (by kernel_rfl) (by kernel_rfl) (by kernel_rfl) (by kernel_rfl)) ?_
  intro W base args ds gs before hval0 hW hcnd _
  have hval : ∀ (j : Nat) t v, Try.f5.params[j]? = some t → args[j]? = some v → Value.okWide Try.prog W .any base t v := hval0
  have hW' := hW
  obtain ⟨p, q, hA0, hV, rfl, hfz, hnd⟩ := hW
  have hA : DataW.TrodAll enc Try.prog W 0 (fun _ => true) true Try.f5.params.toList args.toList ds p := hA0
  rw [Try.params5] at hA hval
  obtain ⟨v0, vs0, d0, ds0, p0, q0, hargs, rfl, rfl, h0, r0⟩ := trodAll_cons hA
  obtain ⟨v1, vs1, d1, ds1, p1, q1, rfl, rfl, rfl, h1, r1⟩ := trodAll_cons r0
  obtain ⟨v2, vs2, d2, ds2, p2, q2, rfl, rfl, rfl, h2, r2⟩ := trodAll_cons r1
  obtain ⟨rfl, rfl, rfl⟩ := trodAll_nil r2
  obtain rfl : args = #[v0, v1, v2] := by cases args; simp_all
  obtain ⟨rfl, rfl⟩ := trodVars_none hV
  clear hA0 hval0
  have lt0 : ∀ x ∈ p0, x.block < W.heap.size := by obtain ⟨m, hm⟩ := h0; exact DataW.trod_lt m _ _ _ hm
  have lt1 : ∀ x ∈ p1, x.block < W.heap.size := by obtain ⟨m, hm⟩ := h1; exact DataW.trod_lt m _ _ _ hm
  have lt2 : ∀ x ∈ p2, x.block < W.heap.size := by obtain ⟨m, hm⟩ := h2; exact DataW.trod_lt m _ _ _ hm
  simp only [List.append_nil] at hW'
  refine Calls.mono (walk W h0 (hval 0 3 v0 rfl rfl) h1 (hval 1 38 v1 rfl rfl) h2 (hval 2 23 v2 rfl rfl)) ?_
  rintro e W' ⟨rfl, bel⟩
  exact ⟨_, rfl, Post.post_below (pa := _) (pv := []) hW' (fun _ _ _ => (trodAll_cons_mk (shut_bool Try.underlying4 _) trodAll_mk0)) (fun sp hsp => (trodAll_cons_mk (WideElems.Trod_stays laidOut (by kernel_rfl) (of_decide_eq_true (by kernel_rfl)) h0 (fun x hx => bel.same (lt0 x hx)) (fun x hx => hsp x (by simp [hx]))) (trodAll_cons_mk (WideElems.Trod_stays laidOut (by kernel_rfl) (of_decide_eq_true (by kernel_rfl)) h1 (fun x hx => bel.same (lt1 x hx)) (fun x hx => hsp x (by simp [hx]))) (trodAll_cons_mk (WideElems.Trod_stays laidOut (by kernel_rfl) (of_decide_eq_true (by kernel_rfl)) h2 (fun x hx => bel.same (lt2 x hx)) (fun x hx => hsp x (by simp [hx]))) trodAll_mk0)))) (fun _ _ => rfl) (by simp)
    bel (ok_one (by kernel_rfl) rfl (okWide_bool_mk Try.underlying4 _))⟩

theorem over : Rows.txnNobodyRow.holds Try.pinned (OpenSpec.ofChange Rows.txnNobodySpec) :=
  OpenClaim.holds_of_wide 5 Try.f5 rfl rfl rfl rfl rfl rfl rfl ⟨rfl, rfl, rfl, rfl, rfl⟩ rfl rfl rfl rfl rfl (by kernel_rfl) Try.func5 (by kernel_rfl)
    (of_decide_eq_true (by kernel_rfl)) (by unfold Func.isWrapper; first | (rw [if_pos (by decide +kernel)]; kernel_rfl) | (rw [if_neg (by decide +kernel)]; exact ⟨rfl, rfl⟩))
    (fun os started H enc _ => lifted os started H enc)

/-- The statement. -/
theorem proved : Rows.TxnNobodySaid :=
  over

end Go.Proofs.Ytfbldpppjnnblaa.txnNobody
