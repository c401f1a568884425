/- TxnNotes: what was noted with a stamp that is not above does not clash; what is noted again with a lower one stays. No condition. -/
import Derived.Test.YtfbldpppjnnblaaNoteLaw
namespace Go.Proofs.Ytfbldpppjnnblaa.txnNotes
open Go.ChangeShapes Go.WideShapes Go.ChangeAt Go.RowKit Go.Proofs.Ytfbldpppjnnblaa.Mem Go.Proofs.Ytfbldpppjnnblaa.Q Go.Proofs.Ytfbldpppjnnblaa.Read Go.Proofs.Ytfbldpppjnnblaa.Out Go.Proofs.Ytfbldpppjnnblaa.Copy Go.Proofs.Ytfbldpppjnnblaa.Key Go.Proofs.Ytfbldpppjnnblaa.Set Go.Proofs.Ytfbldpppjnnblaa.Rows3 Go.Proofs.Ytfbldpppjnnblaa.Put15 Go.Proofs.Ytfbldpppjnnblaa.Tab Go.Proofs.Ytfbldpppjnnblaa.Liv Go.Proofs.Ytfbldpppjnnblaa.Few15 Go.Proofs.Ytfbldpppjnnblaa.Open17

abbrev wLong : W3 := ⟨⟨#[110, 111, 110, 101, 32, 111, 102, 32, 116, 104, 101, 115, 101, 32, 105, 115, 32, 115, 111, 32, 108, 111, 110, 103]⟩, ⟨#[]⟩, false⟩

theorem note_law {P : List W3} {x s q z : Int} (hs : 0 ≤ s) (hq : q ≤ s) (hP : ∀ y ∈ P, rightB y = true) :
    overL (noteL [] P s) x P = (decide (0 < P.length) && decide (x < s)) ∧ overL (noteL (noteL (noteL [] P s) P q) [wLong] z) x P = (decide (0 < P.length) && decide (x < s)) := by
  have h1 : ∀ y ∈ P, gotN (noteL [] P s) y.k = s := by
    intro y hy
    rw [got_noteL, if_pos ⟨y, hy, rfl⟩]
    show (if (0 : Int) < s then s else 0) = s
    split <;> omega
  refine ⟨over_const h1, over_const fun y hy => ?_⟩
  rw [got_noteL, if_neg ?_, got_noteL, if_pos ⟨y, hy, rfl⟩, h1 y hy, if_neg (by omega)]
  rintro ⟨z, hz, e⟩
  obtain rfl := List.mem_singleton.1 hz
  have := right_size (hP y hy)
  rw [← e] at this
  exact absurd this (by decide)

set_option maxHeartbeats 4000000 in
set_option maxRecDepth 100000 in
theorem walk {H : Type} {enc : TypeId × Value → H} (W : World) {base : Nat} {v v1 v2 : Value} {d d1 d2 : DataW H} {p p1 p2 : List MemPlace} (h : DataW.Trod enc Try.prog W 0 (fun _ => true) true 32 v d p) (ho : Value.okWide Try.prog W .any base 32 v)
    (h1 : DataW.Trod enc Try.prog W 0 (fun _ => true) true 23 v1 d1 p1) (ho1 : Value.okWide Try.prog W .any base 23 v1) (h2 : DataW.Trod enc Try.prog W 0 (fun _ => true) true 23 v2 d2 p2) (ho2 : Value.okWide Try.prog W .any base 23 v2) :
    Calls Try.prog 7 #[v, v1, v2] W fun e W' => e = .returned (.bool true) ∧ Below W.heap.size W W' := by
  obtain ⟨A, n, c, l, rfl, hl⟩ := wrs_open h ho
  obtain ⟨X, rfl, _, _, _⟩ := open_int Try.underlying23 ho1 h1
  obtain ⟨Y, rfl, _, _, hwf⟩ := open_int Try.underlying23 ho2 h2
  have HY0 : Hid (0 ≤ Y) := Lib.hid (bounds_u64 hwf).1
  have HL0 := Lib.hid hl
  clear h ho hl h1 ho1 h2 ho2 hwf
  go_enter Try.func7, Try.ntmps7
  go_wp2_with fail
  refine Calls.mono (alive_true W) ?_
  rintro e1 w1 ⟨rfl, hb1⟩
  have HL1 := Lib.hid (HL0.out.kept hb1)
  have HB1 := Lib.hid hb1
  clear hb1
  go_wp2_with fail
  refine Calls.mono (few_any A n c l w1 HL1.out) ?_
  rintro e2 w2 ⟨rfl, hb2⟩
  have HB2 := Lib.hid (HB1.out.trans (hb2.mono HB1.out.size))
  clear hb2 HL1 HB1
  cases hf : fewB l with
  | false =>
    go_wp2_with fail
    go_ret
    exact ⟨rfl, HB2.out⟩
  | true =>
  have hn60 : n ≤ 60 := by have := fewB_len hf; have := HL0.out.1; omega
  clear hf
  go_wp2_with fail
  refine Calls.mono (tnew w2) ?_
  rintro e3 w3 ⟨tb, S3, rfl, HT, HN, hb⟩
  have HA3 : Hid (Liv W w3 tb 0 S3 (List.replicate 8 none) (List.replicate 8 []) []) := Lib.hid ⟨HT.out, fun k hk => Nat.le_trans HB2.out.size (HN.out k hk), HB2.out.trans (hb.mono HB2.out.size)⟩
  clear HT HN hb
  go_wp2_with fail
  refine Calls.mono (tbegin_yes 0 X HA3.out.tab (by decide) rfl (by intro j hj; omega)) ?_
  rintro e4 w4 ⟨rfl, HT⟩
  obtain ⟨S4, HA4, _, _⟩ := HA3.out.turn HT.out
  have HA4 : Hid (Liv W w4 tb 1 S4 [some X, none, none, none, none, none, none, none] ((List.replicate 8 ([] : List W3)).set 0 (putsL (l.take 0))) []) := HA4
  clear HT HA3
  go_wp2_with fail
  go_loopw [33] (fun v33 wr => ∃ (i : Nat) (S : Nat → Prop), i ≤ n ∧ v33 = .int .i64 i ∧ Hid (Liv W wr tb 1 S [some X, none, none, none, none, none, none, none] ((List.replicate 8 ([] : List W3)).set 0 (putsL (l.take i))) [])) (fun v33 _ => n - (intOf v33).toNat)
  case atStart => exact ⟨0, S4, by omega, rfl, HA4⟩
  case round =>
    clear HA4
    obtain ⟨i, S, hi, rfl, HA⟩ := hrel
    by_cases hin : i < n
    · obtain ⟨bb, off, rfl⟩ := HL0.out.addr (by omega)
      obtain ⟨x, hx⟩ : ∃ x, l[i]? = some x := ⟨l[i]'(by have := HL0.out.1; omega), List.getElem?_eq_getElem _⟩
      have hc := (HL0.out.kept HA.out.below).at hx
      have hc0 := hc 0 _ rfl
      have hc1 := hc 1 _ rfl
      have hc2 := hc 2 _ rfl
      simp only [Nat.add_zero] at hc0
      have HNX : Hid (((List.replicate 8 ([] : List W3)).set 0 (putsL (l.take i))).set 0 (putL (((List.replicate 8 ([] : List W3)).set 0 (putsL (l.take i))).getD 0 []) x).1 = (List.replicate 8 ([] : List W3)).set 0 (putsL (l.take (i + 1)))) := Lib.hid (by rw [List.take_add_one, hx]; exact write_next (by decide) _ _ _)
      have hba := (Below.refl wr.heap.size wr).alloc (Nat.le_refl _) (.cells #[.string x.k, .string x.t, .bool x.g] 38)
      have HA2 := Lib.hid (HA.out.kept hba)
      clear hc hx hba
      go_wp2_with fail
      generalize hW : World.alloc wr _ = wx at *
      clear hW hc0 hc1 hc2
      refine Calls.mono (twrite_yes 0 x X HA2.out.tab rfl rfl) ?_
      rintro ex w9 ⟨rfl, HT⟩
      obtain ⟨S2, HA3, _, _⟩ := HA2.out.turn HT.out
      rw [HNX.out] at HA3
      clear HT HA2
      go_wp2_with fail
      go_roundw
      case rel => exact ⟨i + 1, S2, by omega, by go_num, HA3⟩
      case measure => simp [intOf]; omega
    · obtain rfl : i = n := by omega
      rw [List.take_of_length_le (by have := HL0.out.1; omega)] at HA
      obtain ⟨P, hP⟩ : ∃ P, P = putsL l := ⟨_, rfl⟩
      have HPR : Hid (∀ y ∈ P, rightB y = true) := Lib.hid (by rw [hP]; exact putsL_right)
      have HP16 : Hid (P.length ≤ 16) := Lib.hid (by rw [hP]; exact (putsL_rs l).2)
      rw [← hP] at HA
      have HA : Hid (Liv W wr tb 1 S [some X, none, none, none, none, none, none, none] [P, [], [], [], [], [], [], []] []) := HA
      clear hP hin hi
      go_wp2_with fail
      refine Calls.mono (tset_yes 0 X HA.out.tab rfl rfl) ?_
      rintro e5 w5 ⟨v5, n5, rfl, HO, HLN⟩
      obtain ⟨A5, c5, rfl, hnc5, HX5⟩ := HA.out.fresh (l := P) HO.out HLN.out (by have := HP16.out; have := HLN.out; show n5 ≤ 1000; simp at this; omega)
      have HA5 := Lib.hid (HA.out.kept HO.out.below)
      have HNP : Hid (P.length = n5) := HLN
      have hn5 : n5 ≤ 16 := by have := HP16.out; have := HNP.out; omega
      clear HA HO HLN
      go_wp2_with fail
      refine Calls.mono (tnote A5 n5 c5 P Y HX5.out.rows (by omega) (fun a e h => (HX5.out.off a e h).2) HA5.out.tab) ?_
      rintro e6 w6 ⟨rfl, HT⟩
      obtain ⟨S6, HA6, HS6, HC6⟩ := HA5.out.turn HT.out
      have HX6 := Lib.hid (HX5.out.turn HS6.out HC6.out)
      clear HT HA5 HX5 HS6 HC6
      go_wp2_with fail
      obtain ⟨B, hB⟩ : ∃ B, B = (decide (0 < P.length) && decide (X < Y)) := ⟨_, rfl⟩
      have hlaw := fun q z hq => note_law (P := P) (x := X) (s := Y) (q := q) (z := z) HY0.out hq HPR.out
      rw [← hB] at hlaw
      have HLAW := Lib.hid hlaw
      have HBB := Lib.hid hB
      clear hlaw hB
      refine Calls.mono (tclash_yes 0 X HA6.out.tab rfl rfl) ?_
      rw [show overL (noteL [] P Y) X (([P, [], [], [], [], [], [], []] : List (List W3)).getD 0 []) = B from (HLAW.out Y 0 (Int.le_refl _)).1]
      rintro e7 w7 ⟨rfl, hb7⟩
      have HA7 := Lib.hid (HA6.out.kept hb7)
      have HX7 := Lib.hid (HX6.out.kept hb7)
      clear HA6 HX6 hb7
      rw [HBB.out]
      obtain ⟨b1, hb1⟩ : ∃ b1, b1 = decide (0 < P.length) := ⟨_, rfl⟩
      obtain ⟨b2, hb2⟩ : ∃ b2, b2 = decide (X < Y) := ⟨_, rfl⟩
      rw [← hb1, ← hb2] at HBB ⊢
      have hbn : decide ((0 : Int) < n5) = b1 := by rw [hb1, HNP.out]; simp
      have hbm : decide (0 < n5) = b1 := by rw [hb1, HNP.out]
      have HX2 := Lib.hid hb2.symm
      have HBN := Lib.hid hbn
      have HBM := Lib.hid hbm
      clear hb1 hb2 hbn hbm
      obtain ⟨R, hR⟩ : ∃ R, R = (b1 && b2) := ⟨_, rfl⟩
      rw [← hR] at HBB ⊢
      rw [HBB.out] at HLAW
      have HLQ : Hid (∀ q z : Int, q ≤ Y → overL (noteL (noteL (noteL [] P Y) P q) [wLong] z) X P = R) := Lib.hid fun q z hq => (HLAW.out q z hq).2
      clear HLAW HBB
      have hRR := hR
      cases b1 <;> cases b2 <;> (simp only [Bool.and_self, Bool.and_true, Bool.and_false, Bool.true_and, Bool.false_and] at hR; subst hR; clear hRR)
      all_goals
       have hbm := HBM.out
       have hbn := HBN.out
       have hbx := HX2.out
       go_wp2_with fail
      all_goals
        refine Calls.mono (tnote A5 n5 c5 P _ HX7.out.rows (by omega) (fun a e h => (HX7.out.off a e h).2) HA7.out.tab) ?_
        rintro e8 w8 ⟨rfl, HT⟩
        obtain ⟨S8, HA8, _, _⟩ := HA7.out.turn HT.out
        have hb9 := (Below.refl w8.heap.size w8).alloc (Nat.le_refl _) (.cells #[.string wLong.k, .string wLong.t, .bool wLong.g] 50)
        have HA9 := Lib.hid (HA8.out.kept hb9)
        have HX9 := Lib.hid (HA8.out.one wLong 50)
        clear HT HA7 HX7 HA8 hb9
        go_wp2_with fail
        generalize hW : World.alloc w8 _ = w9 at *
        generalize w8.heap.size = g9 at *
        clear hW
        refine Calls.mono (tnote (some ⟨g9, 0, none⟩) 1 1 [wLong] _ HX9.out.rows (by decide) (fun a e h => (HX9.out.off a e h).2) HA9.out.tab) ?_
        rintro e10 w10 ⟨rfl, HT⟩
        obtain ⟨S10, HA10, _, _⟩ := HA9.out.turn HT.out
        clear HT HA9 HX9
        go_wp2_with fail
        refine Calls.mono (tclash_yes 0 X HA10.out.tab rfl rfl) ?_
        rw [show ([P, [], [], [], [], [], [], []] : List (List W3)).getD 0 [] = P from rfl, HLQ.out _ _ (by omega)]
        rintro e11 w11 ⟨rfl, hb11⟩
        have HA11 := Lib.hid (HA10.out.kept hb11)
        clear hb11
        go_wp2_with fail
        go_ret
        exact ⟨rfl, HA11.out.below⟩


theorem own : ownKnob Try.prog.godebug = none := by kernel_rfl
theorem laidOut : laidOutB Try.prog = true := by kernel_rfl

set_option maxRecDepth 100000 in
theorem lifted (os : Os) (started : os.Started) (H : Type) (enc : TypeId × Value → H) :
    ReturnsInHanded {} Try.checked os 7 .any (Rows.txnNotesSpec.pre6 enc Try.prog Try.f7 Rows.txnNotesRow.domain false) (Rows.txnNotesSpec.post enc Try.prog Try.f7 false true false false) := by
  refine returnsInHanded_of_change (C := Try.checked) own started (by kernel_rfl) Try.func7
    (ChangeSpec.witness6 (enc := enc) (C := Try.checked) false ⟨#[], #[.slice none 0 0, .int .u64 0, .int .u64 0], []⟩ 8 (by kernel_rfl) (by kernel_rfl) (by kernel_rfl) (by kernel_rfl)) ?_
  intro W base args ds gs before hval0 hW hcnd _
  have hval : ∀ (j : Nat) t v, Try.f7.params[j]? = some t → args[j]? = some v → Value.okWide Try.prog W .any base t v := hval0
  have hW' := hW
  obtain ⟨p, q, hA0, hV, rfl, hfz, hnd⟩ := hW
  have hA : DataW.TrodAll enc Try.prog W 0 (fun _ => true) true Try.f7.params.toList args.toList ds p := hA0
  rw [Try.params7] at hA hval
  obtain ⟨v0, vs0, d0, ds0, p0, q0, hargs, rfl, rfl, h0, r0⟩ := trodAll_cons hA
  obtain ⟨v1, vs1, d1, ds1, p1, q1, rfl, rfl, rfl, h1, r1⟩ := trodAll_cons r0
  obtain ⟨v2, vs2, d2, ds2, p2, q2, rfl, rfl, rfl, h2, r2⟩ := trodAll_cons r1
  obtain ⟨rfl, rfl, rfl⟩ := trodAll_nil r2
  obtain rfl : args = #[v0, v1, v2] := by cases args; simp_all
  obtain ⟨rfl, rfl⟩ := trodVars_none hV
  clear hA0 hval0
  have lt0 : ∀ x ∈ p0, x.block < W.heap.size := by obtain ⟨m, hm⟩ := h0; exact DataW.trod_lt m _ _ _ hm
  have lt1 : ∀ x ∈ p1, x.block < W.heap.size := by obtain ⟨m, hm⟩ := h1; exact DataW.trod_lt m _ _ _ hm
  have lt2 : ∀ x ∈ p2, x.block < W.heap.size := by obtain ⟨m, hm⟩ := h2; exact DataW.trod_lt m _ _ _ hm
  simp only [List.append_nil] at hW'
  refine Calls.mono (walk W h0 (hval 0 32 v0 rfl rfl) h1 (hval 1 23 v1 rfl rfl) h2 (hval 2 23 v2 rfl rfl)) ?_
  rintro e W' ⟨rfl, bel⟩
  exact ⟨_, rfl, Post.post_below (pa := _) (pv := []) hW' (fun _ _ _ => (trodAll_cons_mk (shut_bool Try.underlying4 _) trodAll_mk0)) (fun sp hsp => (trodAll_cons_mk (WideElems.Trod_stays laidOut (by kernel_rfl) (of_decide_eq_true (by kernel_rfl)) h0 (fun x hx => bel.same (lt0 x hx)) (fun x hx => hsp x (by simp [hx]))) (trodAll_cons_mk (WideElems.Trod_stays laidOut (by kernel_rfl) (of_decide_eq_true (by kernel_rfl)) h1 (fun x hx => bel.same (lt1 x hx)) (fun x hx => hsp x (by simp [hx]))) (trodAll_cons_mk (WideElems.Trod_stays laidOut (by kernel_rfl) (of_decide_eq_true (by kernel_rfl)) h2 (fun x hx => bel.same (lt2 x hx)) (fun x hx => hsp x (by simp [hx]))) trodAll_mk0)))) (fun _ _ => rfl) (by simp)
    bel (ok_one (by kernel_rfl) rfl (okWide_bool_mk Try.underlying4 _))⟩

theorem over : Rows.txnNotesRow.holds Try.pinned (OpenSpec.ofChange Rows.txnNotesSpec) :=
  OpenClaim.holds_of_wide 7 Try.f7 rfl rfl rfl rfl rfl rfl rfl ⟨rfl, rfl, rfl, rfl, rfl⟩ rfl rfl rfl rfl rfl (by kernel_rfl) Try.func7 (by kernel_rfl)
    (of_decide_eq_true (by kernel_rfl)) (by unfold Func.isWrapper; first | (rw [if_pos (by decide +kernel)]; kernel_rfl) | (rw [if_neg (by decide +kernel)]; exact ⟨rfl, rfl⟩))
    (fun os started H enc _ => lifted os started H enc)

/-- The statement. -/
theorem proved : Rows.TxnNotesSaid :=
  over

end Go.Proofs.Ytfbldpppjnnblaa.txnNotes
