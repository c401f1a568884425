/- TxnAnew: who begins with a number that was somebody's has written nothing. No condition. -/
import Derived.Test.YtfbldpppjnnblaaPutsL
namespace Go.Proofs.Ytfbldpppjnnblaa.txnAnew
open Go.ChangeShapes Go.WideShapes Go.ChangeAt Go.RowKit Go.Proofs.Ytfbldpppjnnblaa.Mem Go.Proofs.Ytfbldpppjnnblaa.Q Go.Proofs.Ytfbldpppjnnblaa.Read Go.Proofs.Ytfbldpppjnnblaa.Out Go.Proofs.Ytfbldpppjnnblaa.Copy Go.Proofs.Ytfbldpppjnnblaa.Key Go.Proofs.Ytfbldpppjnnblaa.Set Go.Proofs.Ytfbldpppjnnblaa.Rows3 Go.Proofs.Ytfbldpppjnnblaa.Put15 Go.Proofs.Ytfbldpppjnnblaa.Tab Go.Proofs.Ytfbldpppjnnblaa.Liv Go.Proofs.Ytfbldpppjnnblaa.Few15 Go.Proofs.Ytfbldpppjnnblaa.Open17

set_option maxHeartbeats 4000000 in
set_option maxRecDepth 100000 in
theorem walk {H : Type} {enc : TypeId × Value → H} (W : World) {base : Nat} {v : Value} {d : DataW H} {p : List MemPlace} (h : DataW.Trod enc Try.prog W 0 (fun _ => true) true 32 v d p) (ho : Value.okWide Try.prog W .any base 32 v) :
    Calls Try.prog 8 #[v] W fun e W' => e = .returned (.bool true) ∧ Below W.heap.size W W' := by
  obtain ⟨A, n, c, l, rfl, hl⟩ := wrs_open h ho
  have HL0 := Lib.hid hl
  clear h ho hl
  go_enter Try.func8, Try.ntmps8
  go_wp2_with fail
  refine Calls.mono (alive_true W) ?_
  rintro e1 w1 ⟨rfl, hb1⟩
  have HL1 := Lib.hid (HL0.out.kept hb1)
  have HB1 := Lib.hid hb1
  clear hb1
  go_wp2_with fail
  refine Calls.mono (few_any A n c l w1 HL1.out) ?_
  rintro e2 w2 ⟨rfl, hb2⟩
  have HB2 := Lib.hid (HB1.out.trans (hb2.mono HB1.out.size))
  clear hb2 HL1 HB1
  cases hf : fewB l with
  | false =>
    go_wp2_with fail
    go_ret
    exact ⟨rfl, HB2.out⟩
  | true =>
  have hn60 : n ≤ 60 := by have := fewB_len hf; have := HL0.out.1; omega
  clear hf
  go_wp2_with fail
  refine Calls.mono (tnew w2) ?_
  rintro e3 w3 ⟨tb, S3, rfl, HT, HN, hb⟩
  have HA3 : Hid (Liv W w3 tb 0 S3 (List.replicate 8 none) (List.replicate 8 []) []) := Lib.hid ⟨HT.out, fun k hk => Nat.le_trans HB2.out.size (HN.out k hk), HB2.out.trans (hb.mono HB2.out.size)⟩
  clear HT HN hb
  go_wp2_with fail
  refine Calls.mono (tbegin_yes 0 3 HA3.out.tab (by decide) rfl (by intro j hj; omega)) ?_
  rintro e4 w4 ⟨rfl, HT⟩
  obtain ⟨S4, HA4, _, _⟩ := HA3.out.turn HT.out
  have HA4 : Hid (Liv W w4 tb 1 S4 [some 3, none, none, none, none, none, none, none] ((List.replicate 8 ([] : List W3)).set 0 (putsL (l.take 0))) []) := HA4
  clear HT HA3
  go_wp2_with fail
  go_loopw [32] (fun v32 wr => ∃ (i : Nat) (S : Nat → Prop), i ≤ n ∧ v32 = .int .i64 i ∧ Hid (Liv W wr tb 1 S [some 3, none, none, none, none, none, none, none] ((List.replicate 8 ([] : List W3)).set 0 (putsL (l.take i))) [])) (fun v32 _ => n - (intOf v32).toNat)
  case atStart => exact ⟨0, S4, by omega, rfl, HA4⟩
  case round =>
    clear HA4
    obtain ⟨i, S, hi, rfl, HA⟩ := hrel
    by_cases hin : i < n
    · obtain ⟨bb, off, rfl⟩ := HL0.out.addr (by omega)
      obtain ⟨x, hx⟩ : ∃ x, l[i]? = some x := ⟨l[i]'(by have := HL0.out.1; omega), List.getElem?_eq_getElem _⟩
      have hc := (HL0.out.kept HA.out.below).at hx
      have hc0 := hc 0 _ rfl
      have hc1 := hc 1 _ rfl
      have hc2 := hc 2 _ rfl
      simp only [Nat.add_zero] at hc0
      have HNX : Hid (((List.replicate 8 ([] : List W3)).set 0 (putsL (l.take i))).set 0 (putL (((List.replicate 8 ([] : List W3)).set 0 (putsL (l.take i))).getD 0 []) x).1 = (List.replicate 8 ([] : List W3)).set 0 (putsL (l.take (i + 1)))) := Lib.hid (by rw [List.take_add_one, hx]; exact write_next (by decide) _ _ _)
      have hba := (Below.refl wr.heap.size wr).alloc (Nat.le_refl _) (.cells #[.string x.k, .string x.t, .bool x.g] 38)
      have HA2 := Lib.hid (HA.out.kept hba)
      clear hc hx hba
      go_wp2_with fail
      generalize hW : World.alloc wr _ = wx at *
      clear hW hc0 hc1 hc2
      refine Calls.mono (twrite_yes 0 x 3 HA2.out.tab rfl rfl) ?_
      rintro ex w9 ⟨rfl, HT⟩
      obtain ⟨S2, HA3, _, _⟩ := HA2.out.turn HT.out
      rw [HNX.out] at HA3
      clear HT HA2
      go_wp2_with fail
      go_roundw
      case rel => exact ⟨i + 1, S2, by omega, by go_num, HA3⟩
      case measure => simp [intOf]; omega
    · go_wp2_with fail
      refine Calls.mono (tend_yes 0 HA.out.tab rfl) ?_
      rintro e5 w5 ⟨rfl, HT⟩
      obtain ⟨S5, HA5, _, _⟩ := HA.out.turn HT.out
      rw [List.set_set] at HA5
      have HA5 : Hid (Liv W w5 tb 1 S5 [none, none, none, none, none, none, none, none] (List.replicate 8 ([] : List W3)) []) := HA5
      clear HT HA
      go_wp2_with fail
      refine Calls.mono (tset_no 0 HA5.out.tab rfl) ?_
      rintro e6 w6 ⟨rfl, rfl⟩
      go_wp2_with fail
      refine Calls.mono (tbegin_yes 0 4 HA5.out.tab (by decide) rfl (by intro j hj; omega)) ?_
      rintro e6 w6 ⟨rfl, HT⟩
      obtain ⟨S6, HA6, _, _⟩ := HA5.out.turn HT.out
      have HA6 : Hid (Liv W w6 tb 2 S6 [some 4, none, none, none, none, none, none, none] (List.replicate 8 ([] : List W3)) []) := HA6
      clear HT HA5
      go_wp2_with fail
      refine Calls.mono (tset_yes 0 4 HA6.out.tab rfl rfl) ?_
      rintro e7 w7 ⟨v7, n7, rfl, HO, HLN⟩
      obtain rfl : 0 = n7 := HLN.out
      obtain ⟨A7, c7, rfl, hnc, _⟩ := HA6.out.fresh HO.out HLN.out (by decide)
      have HA7 := Lib.hid (HA6.out.kept HO.out.below)
      clear HA6 HO HLN
      go_wp2_with fail
      refine Calls.mono (tat_yes 0 4 HA7.out.tab rfl rfl) ?_
      rintro e8 w8 ⟨rfl, rfl⟩
      go_wp2_with fail
      go_ret
      exact ⟨rfl, HA7.out.below⟩


theorem own : ownKnob Try.prog.godebug = none := by kernel_rfl
theorem laidOut : laidOutB Try.prog = true := by kernel_rfl

set_option maxRecDepth 100000 in
theorem lifted (os : Os) (started : os.Started) (H : Type) (enc : TypeId × Value → H) :
    ReturnsInHanded {} Try.checked os 8 .any (Rows.txnAnewSpec.pre6 enc Try.prog Try.f8 Rows.txnAnewRow.domain false) (Rows.txnAnewSpec.post enc Try.prog Try.f8 false true false false) := by
  refine returnsInHanded_of_change (C := Try.checked) own started (by kernel_rfl) Try.func8
    (ChangeSpec.witness6 (enc := enc) (C := Try.checked) false ⟨#[], #[.slice none 0 0], []⟩ 8 (by kernel_rfl) (by kernel_rfl) (by kernel_rfl) (by kernel_rfl)) ?_
  intro W base args ds gs before hval0 hW hcnd _
  have hval : ∀ (j : Nat) t v, Try.f8.params[j]? = some t → args[j]? = some v → Value.okWide Try.prog W .any base t v := hval0
  have hW' := hW
  obtain ⟨p, q, hA0, hV, rfl, hfz, hnd⟩ := hW
  have hA : DataW.TrodAll enc Try.prog W 0 (fun _ => true) true Try.f8.params.toList args.toList ds p := hA0
  rw [Try.params8] at hA hval
  obtain ⟨v0, vs0, d0, ds0, p0, q0, hargs, rfl, rfl, h0, r0⟩ := trodAll_cons hA
  obtain ⟨rfl, rfl, rfl⟩ := trodAll_nil r0
  obtain rfl : args = #[v0] := by cases args; simp_all
  obtain ⟨rfl, rfl⟩ := trodVars_none hV
  clear hA0 hval0
  have lt0 : ∀ x ∈ p0, x.block < W.heap.size := by obtain ⟨m, hm⟩ := h0; exact DataW.trod_lt m _ _ _ hm
  simp only [List.append_nil] at hW'
  refine Calls.mono (walk W h0 (hval 0 32 v0 rfl rfl)) ?_
  rintro e W' ⟨rfl, bel⟩
  exact ⟨_, rfl, Post.post_below (pa := _) (pv := []) hW' (fun _ _ _ => (trodAll_cons_mk (shut_bool Try.underlying4 _) trodAll_mk0)) (fun sp hsp => (trodAll_cons_mk (WideElems.Trod_stays laidOut (by kernel_rfl) (of_decide_eq_true (by kernel_rfl)) h0 (fun x hx => bel.same (lt0 x hx)) (fun x hx => hsp x (by simp [hx]))) trodAll_mk0)) (fun _ _ => rfl) (by simp)
    bel (ok_one (by kernel_rfl) rfl (okWide_bool_mk Try.underlying4 _))⟩

theorem over : Rows.txnAnewRow.holds Try.pinned (OpenSpec.ofChange Rows.txnAnewSpec) :=
  OpenClaim.holds_of_wide 8 Try.f8 rfl rfl rfl rfl rfl rfl rfl ⟨rfl, rfl, rfl, rfl, rfl⟩ rfl rfl rfl rfl rfl (by kernel_rfl) Try.func8 (by kernel_rfl)
    (of_decide_eq_true (by kernel_rfl)) (by unfold Func.isWrapper; first | (rw [if_pos (by decide +kernel)]; kernel_rfl) | (rw [if_neg (by decide +kernel)]; exact ⟨rfl, rfl⟩))
    (fun os started H enc _ => lifted os started H enc)

/-- The statement. -/
theorem proved : Rows.TxnAnewSaid :=
  over

end Go.Proofs.Ytfbldpppjnnblaa.txnAnew
