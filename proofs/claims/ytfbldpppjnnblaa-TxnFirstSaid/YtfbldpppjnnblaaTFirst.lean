/- TxnFirst: of two that begin at one stamp, the second one clashes behind the first one's commit just if they write a key in common. No condition. -/
import Derived.Test.YtfbldpppjnnblaaNoteLaw
import Derived.Test.YtfbldpppjnnblaaMeet15
namespace Go.Proofs.Ytfbldpppjnnblaa.txnFirst
open Go.ChangeShapes Go.WideShapes Go.ChangeAt Go.RowKit Go.Proofs.Ytfbldpppjnnblaa.Mem Go.Proofs.Ytfbldpppjnnblaa.Q Go.Proofs.Ytfbldpppjnnblaa.Read Go.Proofs.Ytfbldpppjnnblaa.Out Go.Proofs.Ytfbldpppjnnblaa.Copy Go.Proofs.Ytfbldpppjnnblaa.Key Go.Proofs.Ytfbldpppjnnblaa.Set Go.Proofs.Ytfbldpppjnnblaa.Rows3 Go.Proofs.Ytfbldpppjnnblaa.Put15 Go.Proofs.Ytfbldpppjnnblaa.Meet15 Go.Proofs.Ytfbldpppjnnblaa.Tab Go.Proofs.Ytfbldpppjnnblaa.Liv Go.Proofs.Ytfbldpppjnnblaa.Few15 Go.Proofs.Ytfbldpppjnnblaa.Open17

theorem meet_iff (a b : List W3) : meetB a b = true ↔ ∃ x ∈ a, ∃ y ∈ b, y.k = x.k := by
  unfold meetB
  rw [List.any_eq_true]
  refine ⟨fun ⟨x, hx, h⟩ => ?_, fun ⟨x, hx, y, hy, h⟩ => ⟨x, hx, ?_⟩⟩
  · obtain ⟨y, hy⟩ := Option.isSome_iff_exists.1 h
    obtain ⟨h1, h2⟩ := lk_mem hy
    exact ⟨x, hx, y, h1, h2⟩
  · cases hn : lk W3.k b x.k with
    | some z => rfl
    | none => exact absurd h (lk_none_iff.1 hn y hy)

theorem first_law {P Q : List W3} {x : Int} (hx : 0 ≤ x) : overL (noteL [] P (x + 1)) x Q = meetB P Q ∧ overL (noteL [] P (x + 1)) (x + 1) Q = false := by
  have h1 : ∀ k, gotN (noteL [] P (x + 1)) k = if (∃ y ∈ P, y.k = k) then x + 1 else 0 := by
    intro k
    rw [got_noteL]
    show (if _ then (if (0 : Int) < x + 1 then x + 1 else 0) else 0) = _
    rw [if_pos (show (0 : Int) < x + 1 by omega)]
  constructor
  · rw [Bool.eq_iff_iff, meet_iff, over_got, List.any_eq_true]
    constructor
    · rintro ⟨y, hy, h⟩
      rw [decide_eq_true_eq, h1] at h
      split at h
      · rename_i e
        obtain ⟨z, hz, e2⟩ := e
        exact ⟨z, hz, y, hy, e2.symm⟩
      · omega
    · rintro ⟨z, hz, y, hy, e⟩
      refine ⟨y, hy, ?_⟩
      rw [decide_eq_true_eq, h1, if_pos ⟨z, hz, e.symm⟩]
      omega
  · rw [over_got, List.any_eq_false]
    intro y _
    rw [decide_eq_true_eq, h1]
    split <;> omega

theorem over_nil {x : Int} (hx : 0 ≤ x) (Q : List W3) : overL [] x Q = false := by
  rw [over_got, List.any_eq_false]
  intro y _
  rw [decide_eq_true_eq]
  show ¬ x < 0
  omega

set_option maxHeartbeats 4000000 in
set_option maxRecDepth 100000 in
theorem walk {H : Type} {enc : TypeId × Value → H} (W : World) {base : Nat} {v v1 v2 : Value} {d d1 d2 : DataW H} {p p1 p2 : List MemPlace} (h : DataW.Trod enc Try.prog W 0 (fun _ => true) true 32 v d p) (ho : Value.okWide Try.prog W .any base 32 v)
    (h1 : DataW.Trod enc Try.prog W 0 (fun _ => true) true 32 v1 d1 p1) (ho1 : Value.okWide Try.prog W .any base 32 v1) (h2 : DataW.Trod enc Try.prog W 0 (fun _ => true) true 23 v2 d2 p2) (ho2 : Value.okWide Try.prog W .any base 23 v2) :
    Calls Try.prog 9 #[v, v1, v2] W fun e W' => e = .returned (.bool true) ∧ Below W.heap.size W W' := by
  obtain ⟨A, n, c, l, rfl, hl⟩ := wrs_open h ho
  obtain ⟨B, nb, cb, lb, rfl, hlb⟩ := wrs_open h1 ho1
  obtain ⟨X, rfl, _, _, hwf⟩ := open_int Try.underlying23 ho2 h2
  have HX0 : Hid (0 ≤ X ∧ X ≤ 18446744073709551615) := Lib.hid (bounds_u64 hwf)
  have HL0 := Lib.hid hl
  have HM0 := Lib.hid hlb
  clear h ho hl h1 ho1 hlb h2 ho2 hwf
  go_enter Try.func9, Try.ntmps9
  go_wp2_with fail
  refine Calls.mono (alive_true W) ?_
  rintro e1 w1 ⟨rfl, hb1⟩
  have HL1 := Lib.hid (HL0.out.kept hb1)
  have HB1 := Lib.hid hb1
  clear hb1
  go_wp2_with fail
  refine Calls.mono (few_any A n c l w1 HL1.out) ?_
  rintro e2 w2 ⟨rfl, hb2⟩
  have HB2 := Lib.hid (HB1.out.trans (hb2.mono HB1.out.size))
  clear hb2 HL1 HB1
  cases hf : fewB l with
  | false =>
    go_wp2_with fail
    go_ret
    exact ⟨rfl, HB2.out⟩
  | true =>
  have hn60 : n ≤ 60 := by have := fewB_len hf; have := HL0.out.1; omega
  clear hf
  have HM2 := Lib.hid (HM0.out.kept HB2.out)
  go_wp2_with fail
  refine Calls.mono (few_any B nb cb lb w2 HM2.out) ?_
  rintro e3 w3 ⟨rfl, hb3⟩
  have HB3 := Lib.hid (HB2.out.trans (hb3.mono HB2.out.size))
  clear hb3 HM2 HB2
  cases hf : fewB lb with
  | false =>
    go_wp2_with fail
    go_ret
    exact ⟨rfl, HB3.out⟩
  | true =>
  have hm60 : nb ≤ 60 := by have := fewB_len hf; have := HM0.out.1; omega
  clear hf
  by_cases hX : X = 18446744073709551615
  · have hXb : (X == 18446744073709551615) = true := by rw [hX]; rfl
    go_wp2_with fail
    go_ret
    exact ⟨rfl, HB3.out⟩
  have hXb : (X == 18446744073709551615) = false := by simp; exact hX
  have HXL : Hid (X + 1 ≤ 18446744073709551615) := Lib.hid (by have := HX0.out.2; omega)
  clear hX
  go_wp2_with fail
  clear hXb
  refine Calls.mono (tnew w3) ?_
  rintro e4 w4 ⟨tb, S4, rfl, HT, HN, hb⟩
  have HA4 : Hid (Liv W w4 tb 0 S4 (List.replicate 8 none) (List.replicate 8 []) []) := Lib.hid ⟨HT.out, fun k hk => Nat.le_trans HB3.out.size (HN.out k hk), HB3.out.trans (hb.mono HB3.out.size)⟩
  clear HT HN hb
  go_wp2_with fail
  refine Calls.mono (tbegin_yes 0 X HA4.out.tab (by decide) rfl (by intro j hj; omega)) ?_
  rintro e5 w5 ⟨rfl, HT⟩
  obtain ⟨S5, HA5, _, _⟩ := HA4.out.turn HT.out
  have HA5 : Hid (Liv W w5 tb 1 S5 [some X, none, none, none, none, none, none, none] (List.replicate 8 ([] : List W3)) []) := HA5
  clear HT HA4
  go_wp2_with fail
  refine Calls.mono (tbegin_yes 1 X HA5.out.tab (by decide) rfl (by intro j hj; obtain rfl : j = 0 := (by omega); simp)) ?_
  rintro e6 w6 ⟨rfl, HT⟩
  obtain ⟨S6, HA6, _, _⟩ := HA5.out.turn HT.out
  have HA6 : Hid (Liv W w6 tb 2 S6 [some X, some X, none, none, none, none, none, none] ((List.replicate 8 ([] : List W3)).set 0 (putsL (l.take 0))) []) := HA6
  clear HT HA5
  go_wp2_with fail
  go_loopw [61] (fun v61 wr => ∃ (i : Nat) (S : Nat → Prop), i ≤ n ∧ v61 = .int .i64 i ∧ Hid (Liv W wr tb 2 S [some X, some X, none, none, none, none, none, none] ((List.replicate 8 ([] : List W3)).set 0 (putsL (l.take i))) [])) (fun v61 _ => n - (intOf v61).toNat)
  case atStart => exact ⟨0, S6, by omega, rfl, HA6⟩
  case round =>
    clear HA6
    obtain ⟨i, S, hi, rfl, HA⟩ := hrel
    by_cases hin : i < n
    · obtain ⟨bb, off, rfl⟩ := HL0.out.addr (by omega)
      obtain ⟨x, hx⟩ : ∃ x, l[i]? = some x := ⟨l[i]'(by have := HL0.out.1; omega), List.getElem?_eq_getElem _⟩
      have hc := (HL0.out.kept HA.out.below).at hx
      have hc0 := hc 0 _ rfl
      have hc1 := hc 1 _ rfl
      have hc2 := hc 2 _ rfl
      simp only [Nat.add_zero] at hc0
      have HNX : Hid (((List.replicate 8 ([] : List W3)).set 0 (putsL (l.take i))).set 0 (putL (((List.replicate 8 ([] : List W3)).set 0 (putsL (l.take i))).getD 0 []) x).1 = (List.replicate 8 ([] : List W3)).set 0 (putsL (l.take (i + 1)))) := Lib.hid (by rw [List.take_add_one, hx]; exact write_next (by simp) _ _ _)
      have hba := (Below.refl wr.heap.size wr).alloc (Nat.le_refl _) (.cells #[.string x.k, .string x.t, .bool x.g] 38)
      have HA2 := Lib.hid (HA.out.kept hba)
      clear hc hx hba
      go_wp2_with fail
      generalize hW : World.alloc wr _ = wx at *
      clear hW hc0 hc1 hc2
      refine Calls.mono (twrite_yes 0 x X HA2.out.tab rfl rfl) ?_
      rintro ex w9 ⟨rfl, HT⟩
      obtain ⟨S2, HA3, _, _⟩ := HA2.out.turn HT.out
      rw [HNX.out] at HA3
      clear HT HA2
      go_wp2_with fail
      go_roundw
      case rel => exact ⟨i + 1, S2, by omega, by go_num, HA3⟩
      case measure => simp [intOf]; omega
    · obtain rfl : i = n := by omega
      rw [List.take_of_length_le (by have := HL0.out.1; omega)] at HA
      obtain ⟨P, hP⟩ : ∃ P, P = putsL l := ⟨_, rfl⟩
      have HP16 : Hid (P.length ≤ 16) := Lib.hid (by rw [hP]; exact (putsL_rs l).2)
      rw [← hP] at HA
      have HA7 : Hid (Liv W wr tb 2 S [some X, some X, none, none, none, none, none, none] ([P, [], [], [], [], [], [], []].set 1 (putsL (lb.take 0))) []) := HA
      clear hP hin hi HA
      go_wp2_with fail
      go_loopw [72] (fun v72 wr => ∃ (i : Nat) (S : Nat → Prop), i ≤ nb ∧ v72 = .int .i64 i ∧ Hid (Liv W wr tb 2 S [some X, some X, none, none, none, none, none, none] (([P, [], [], [], [], [], [], []] : List (List W3)).set 1 (putsL (lb.take i))) [])) (fun v72 _ => nb - (intOf v72).toNat)
      case atStart => exact ⟨0, S, by omega, rfl, HA7⟩
      case round =>
        clear HA7
        obtain ⟨j, S, hj, rfl, HA⟩ := hrel
        by_cases hjn : j < nb
        · obtain ⟨bb, off, rfl⟩ := HM0.out.addr (by omega)
          obtain ⟨x, hx⟩ : ∃ x, lb[j]? = some x := ⟨lb[j]'(by have := HM0.out.1; omega), List.getElem?_eq_getElem _⟩
          have hc := (HM0.out.kept HA.out.below).at hx
          have hc0 := hc 0 _ rfl
          have hc1 := hc 1 _ rfl
          have hc2 := hc 2 _ rfl
          simp only [Nat.add_zero] at hc0
          have HNX : Hid ((([P, [], [], [], [], [], [], []] : List (List W3)).set 1 (putsL (lb.take j))).set 1 (putL ((([P, [], [], [], [], [], [], []] : List (List W3)).set 1 (putsL (lb.take j))).getD 1 []) x).1 = ([P, [], [], [], [], [], [], []] : List (List W3)).set 1 (putsL (lb.take (j + 1)))) := Lib.hid (by rw [List.take_add_one, hx]; exact write_next (by simp) _ _ _)
          have hba := (Below.refl wr.heap.size wr).alloc (Nat.le_refl _) (.cells #[.string x.k, .string x.t, .bool x.g] 38)
          have HA2 := Lib.hid (HA.out.kept hba)
          clear hc hx hba
          go_wp2_with fail
          generalize hW : World.alloc wr _ = wx at *
          clear hW hc0 hc1 hc2
          refine Calls.mono (twrite_yes 1 x X HA2.out.tab rfl rfl) ?_
          rintro ex w9 ⟨rfl, HT⟩
          obtain ⟨S2, HA3, _, _⟩ := HA2.out.turn HT.out
          rw [HNX.out] at HA3
          clear HT HA2
          go_wp2_with fail
          go_roundw
          case rel => exact ⟨j + 1, S2, by omega, by go_num, HA3⟩
          case measure => simp [intOf]; omega
        · obtain rfl : j = nb := by omega
          rw [List.take_of_length_le (by have := HM0.out.1; omega)] at HA
          obtain ⟨Q, hQ⟩ : ∃ Q, Q = putsL lb := ⟨_, rfl⟩
          have HQ16 : Hid (Rs W3.k Q ∧ Q.length ≤ 16) := Lib.hid (by rw [hQ]; exact putsL_rs lb)
          rw [← hQ] at HA
          have HA8 : Hid (Liv W wr tb 2 S [some X, some X, none, none, none, none, none, none] [P, Q, [], [], [], [], [], []] []) := HA
          have HQQ := Lib.hid hQ
          clear hQ hjn hj HA
          go_wp2_with fail
          refine Calls.mono (tclash_yes 0 X HA8.out.tab rfl rfl) ?_
          rw [over_nil HX0.out.1]
          rintro e9 w9 ⟨rfl, hb9⟩
          have HA9 := Lib.hid (HA8.out.kept hb9)
          clear hb9 HA8
          go_wp2_with fail
          refine Calls.mono (tclash_yes 1 X HA9.out.tab rfl rfl) ?_
          rw [over_nil HX0.out.1]
          rintro e10 w10 ⟨rfl, hb10⟩
          have HA10 := Lib.hid (HA9.out.kept hb10)
          clear hb10 HA9
          go_wp2_with fail
          refine Calls.mono (tset_yes 0 X HA10.out.tab rfl rfl) ?_
          rintro e11 w11 ⟨v11, n11, rfl, HO, HLN⟩
          have HNP : Hid (P.length = n11) := HLN
          have hn11 : n11 ≤ 16 := by have := HP16.out; have := HNP.out; omega
          obtain ⟨A11, c11, rfl, hnc11, HP11⟩ := HA10.out.fresh (l := P) HO.out HLN.out (by omega)
          have HA11 := Lib.hid (HA10.out.kept HO.out.below)
          clear HA10 HO HLN
          go_wp2_with fail
          refine Calls.mono (tset_yes 1 X HA11.out.tab rfl rfl) ?_
          rintro e12 w12 ⟨v12, n12, rfl, HO, HLN⟩
          have HNQ : Hid (Q.length = n12) := HLN
          have hn12 : n12 ≤ 16 := by have := HQ16.out.2; have := HNQ.out; omega
          obtain ⟨A12, c12, rfl, hnc12, HQ12⟩ := HA11.out.fresh (l := Q) HO.out HLN.out (by omega)
          have HA12 := Lib.hid (HA11.out.kept HO.out.below)
          have HP12 := Lib.hid (HP11.out.kept HO.out.below)
          clear HA11 HP11 HO HLN
          have hwr1 : IntKind.u64.wrap (X + 1) = X + 1 := by have h1 := HX0.out.1; have h2 := HXL.out; rw [IntKind.wrap_u64]; omega
          go_wp2_with fail
          refine Calls.mono (tnote A11 n11 c11 P (X + 1) HP12.out.rows (by omega) (fun a e h => (HP12.out.off a e h).2) HA12.out.tab) ?_
          rintro e13 w13 ⟨rfl, HT⟩
          obtain ⟨S13, HA13, HS13, HC13⟩ := HA12.out.turn HT.out
          have HP13 := Lib.hid (HP12.out.turn HS13.out HC13.out)
          have HQ13 := Lib.hid (HQ12.out.turn HS13.out HC13.out)
          have hlaw := first_law (P := P) (Q := Q) HX0.out.1
          obtain ⟨M, hM⟩ : ∃ M, M = noteL [] P (X + 1) := ⟨_, rfl⟩
          rw [← hM] at HA13 hlaw
          have HLAW := Lib.hid hlaw
          clear HT HA12 HP12 HQ12 HS13 HC13 hM hlaw
          go_wp2_with fail
          refine Calls.mono (tend_yes 0 HA13.out.tab rfl) ?_
          rintro e14 w14 ⟨rfl, HT⟩
          obtain ⟨S14, HA14, HS14, HC14⟩ := HA13.out.turn HT.out
          have HP14 := Lib.hid (HP13.out.turn HS14.out HC14.out)
          have HQ14 := Lib.hid (HQ13.out.turn HS14.out HC14.out)
          have HA14 : Hid (Liv W w14 tb 2 S14 [none, some X, none, none, none, none, none, none] [[], Q, [], [], [], [], [], []] M) := HA14
          clear HT HA13 HP13 HQ13 HS14 HC14
          go_wp2_with fail
          refine Calls.mono (tbegin_yes 0 (X + 1) HA14.out.tab (by decide) rfl (by intro j hj; omega)) ?_
          rintro e15 w15 ⟨rfl, HT⟩
          obtain ⟨S15, HA15, HS15, HC15⟩ := HA14.out.turn HT.out
          have HP15 := Lib.hid (HP14.out.turn HS15.out HC15.out)
          have HQ15 := Lib.hid (HQ14.out.turn HS15.out HC15.out)
          have HA15 : Hid (Liv W w15 tb 3 S15 [some (X + 1), some X, none, none, none, none, none, none] ((([[], Q, [], [], [], [], [], []] : List (List W3))).set 0 (putsL (lb.take 0))) M) := HA15
          clear HT HA14 HP14 HQ14 HS15 HC15
          go_wp2_with fail
          clear hwr1
          go_loopw [126] (fun v126 wr => ∃ (i : Nat) (S : Nat → Prop), i ≤ j ∧ v126 = .int .i64 i ∧ Hid (Liv W wr tb 3 S [some (X + 1), some X, none, none, none, none, none, none] (([[], Q, [], [], [], [], [], []] : List (List W3)).set 0 (putsL (lb.take i))) M) ∧ Hid (Beside wr S A11 n11 P) ∧ Hid (Beside wr S A12 n12 Q)) (fun v126 _ => j - (intOf v126).toNat)
          case atStart => exact ⟨0, S15, by omega, rfl, HA15, HP15, HQ15⟩
          case round =>
            clear HA15 HP15 HQ15
            obtain ⟨k, S, hk, rfl, HA, HP, HQ⟩ := hrel
            by_cases hkn : k < j
            · obtain ⟨bb, off, rfl⟩ := HM0.out.addr (by omega)
              obtain ⟨x, hx⟩ : ∃ x, lb[k]? = some x := ⟨lb[k]'(by have := HM0.out.1; omega), List.getElem?_eq_getElem _⟩
              have hc := (HM0.out.kept HA.out.below).at hx
              have hc0 := hc 0 _ rfl
              have hc1 := hc 1 _ rfl
              have hc2 := hc 2 _ rfl
              simp only [Nat.add_zero] at hc0
              have HNX : Hid ((([[], Q, [], [], [], [], [], []] : List (List W3)).set 0 (putsL (lb.take k))).set 0 (putL ((([[], Q, [], [], [], [], [], []] : List (List W3)).set 0 (putsL (lb.take k))).getD 0 []) x).1 = ([[], Q, [], [], [], [], [], []] : List (List W3)).set 0 (putsL (lb.take (k + 1)))) := Lib.hid (by rw [List.take_add_one, hx]; exact write_next (by simp) _ _ _)
              have hba := (Below.refl wr.heap.size wr).alloc (Nat.le_refl _) (.cells #[.string x.k, .string x.t, .bool x.g] 38)
              have HA2 := Lib.hid (HA.out.kept hba)
              have HBX := Lib.hid hba
              clear hc hx hba
              go_wp2_with fail
              generalize hW : World.alloc wr _ = wx at *
              clear hW hc0 hc1 hc2
              refine Calls.mono (twrite_yes 0 x (X + 1) HA2.out.tab rfl rfl) ?_
              rintro ex w9 ⟨rfl, HT⟩
              obtain ⟨S2, HA3, HS3, HC3⟩ := HA2.out.turn HT.out
              rw [HNX.out] at HA3
              clear HT HA2
              go_wp2_with fail
              go_roundw
              case rel => exact ⟨k + 1, S2, by omega, by go_num, HA3, Lib.hid ((HP.out.kept HBX.out).turn HS3.out HC3.out), Lib.hid ((HQ.out.kept HBX.out).turn HS3.out HC3.out)⟩
              case measure => simp [intOf]; omega
            · obtain rfl : k = j := by omega
              rw [List.take_of_length_le (by have := HM0.out.1; omega), ← HQQ.out] at HA
              have HA16 : Hid (Liv W wr tb 3 S [some (X + 1), some X, none, none, none, none, none, none] [Q, Q, [], [], [], [], [], []] M) := HA
              clear hkn hk HA
              go_wp2_with fail
              refine Calls.mono (tclash_yes 1 X HA16.out.tab rfl rfl) ?_
              rw [show overL M X (([Q, Q, [], [], [], [], [], []] : List (List W3)).getD 1 []) = meetB P Q from HLAW.out.1]
              rintro e17 w17 ⟨rfl, hb17⟩
              have HA17 := Lib.hid (HA16.out.kept hb17)
              have HP17 := Lib.hid (HP.out.kept hb17)
              have HQ17 := Lib.hid (HQ.out.kept hb17)
              clear hb17 HA16 HP HQ
              go_wp2_with fail
              refine Calls.mono (meet_any A11 n11 c11 P A12 n12 c12 Q w17 HP17.out.rows (by omega) HQ17.out.rows (by omega) HQ16.out.1) ?_
              rintro e18 w18 ⟨rfl, hb18⟩
              have HA18 := Lib.hid (HA17.out.kept hb18)
              clear hb18 HA17 HP17 HQ17
              generalize meetB P Q = mb at *
              have hmm : (mb == mb) = true := by simp
              go_wp2_with fail
              refine Calls.mono (tclash_yes 0 (X + 1) HA18.out.tab rfl rfl) ?_
              rw [show overL M (X + 1) (([Q, Q, [], [], [], [], [], []] : List (List W3)).getD 0 []) = false from HLAW.out.2]
              rintro e19 w19 ⟨rfl, hb19⟩
              have HA19 := Lib.hid (HA18.out.kept hb19)
              clear hb19
              go_wp2_with fail
              go_ret
              exact ⟨rfl, HA19.out.below⟩


theorem own : ownKnob Try.prog.godebug = none := by kernel_rfl
theorem laidOut : laidOutB Try.prog = true := by kernel_rfl

set_option maxRecDepth 100000 in
theorem lifted (os : Os) (started : os.Started) (H : Type) (enc : TypeId × Value → H) :
    ReturnsInHanded {} Try.checked os 9 .any (Rows.txnFirstSpec.pre6 enc Try.prog Try.f9 Rows.txnFirstRow.domain false) (Rows.txnFirstSpec.post enc Try.prog Try.f9 false true false false) := by
  refine returnsInHanded_of_change (C := Try.checked) own started (by kernel_rfl) Try.func9
    (ChangeSpec.witness6 (enc := enc) (C := Try.checked) false ⟨#[], #[.slice none 0 0, .slice none 0 0, .int .u64 0], []⟩ 8 (by kernel_rfl) (by kernel_rfl) (by kernel_rfl) (by kernel_rfl)) ?_
  intro W base args ds gs before hval0 hW hcnd _
  have hval : ∀ (j : Nat) t v, Try.f9.params[j]? = some t → args[j]? = some v → Value.okWide Try.prog W .any base t v := hval0
  have hW' := hW
  obtain ⟨p, q, hA0, hV, rfl, hfz, hnd⟩ := hW
  have hA : DataW.TrodAll enc Try.prog W 0 (fun _ => true) true Try.f9.params.toList args.toList ds p := hA0
  rw [Try.params9] at hA hval
  obtain ⟨v0, vs0, d0, ds0, p0, q0, hargs, rfl, rfl, h0, r0⟩ := trodAll_cons hA
  obtain ⟨v1, vs1, d1, ds1, p1, q1, rfl, rfl, rfl, h1, r1⟩ := trodAll_cons r0
  obtain ⟨v2, vs2, d2, ds2, p2, q2, rfl, rfl, rfl, h2, r2⟩ := trodAll_cons r1
  obtain ⟨rfl, rfl, rfl⟩ := trodAll_nil r2
  obtain rfl : args = #[v0, v1, v2] := by cases args; simp_all
  obtain ⟨rfl, rfl⟩ := trodVars_none hV
  clear hA0 hval0
  have lt0 : ∀ x ∈ p0, x.block < W.heap.size := by obtain ⟨m, hm⟩ := h0; exact DataW.trod_lt m _ _ _ hm
  have lt1 : ∀ x ∈ p1, x.block < W.heap.size := by obtain ⟨m, hm⟩ := h1; exact DataW.trod_lt m _ _ _ hm
  have lt2 : ∀ x ∈ p2, x.block < W.heap.size := by obtain ⟨m, hm⟩ := h2; exact DataW.trod_lt m _ _ _ hm
  simp only [List.append_nil] at hW'
  refine Calls.mono (walk W h0 (hval 0 32 v0 rfl rfl) h1 (hval 1 32 v1 rfl rfl) h2 (hval 2 23 v2 rfl rfl)) ?_
  rintro e W' ⟨rfl, bel⟩
  exact ⟨_, rfl, Post.post_below (pa := _) (pv := []) hW' (fun _ _ _ => (trodAll_cons_mk (shut_bool Try.underlying4 _) trodAll_mk0)) (fun sp hsp => (trodAll_cons_mk (WideElems.Trod_stays laidOut (by kernel_rfl) (of_decide_eq_true (by kernel_rfl)) h0 (fun x hx => bel.same (lt0 x hx)) (fun x hx => hsp x (by simp [hx]))) (trodAll_cons_mk (WideElems.Trod_stays laidOut (by kernel_rfl) (of_decide_eq_true (by kernel_rfl)) h1 (fun x hx => bel.same (lt1 x hx)) (fun x hx => hsp x (by simp [hx]))) (trodAll_cons_mk (WideElems.Trod_stays laidOut (by kernel_rfl) (of_decide_eq_true (by kernel_rfl)) h2 (fun x hx => bel.same (lt2 x hx)) (fun x hx => hsp x (by simp [hx]))) trodAll_mk0)))) (fun _ _ => rfl) (by simp)
    bel (ok_one (by kernel_rfl) rfl (okWide_bool_mk Try.underlying4 _))⟩

theorem over : Rows.txnFirstRow.holds Try.pinned (OpenSpec.ofChange Rows.txnFirstSpec) :=
  OpenClaim.holds_of_wide 9 Try.f9 rfl rfl rfl rfl rfl rfl rfl ⟨rfl, rfl, rfl, rfl, rfl⟩ rfl rfl rfl rfl rfl (by kernel_rfl) Try.func9 (by kernel_rfl)
    (of_decide_eq_true (by kernel_rfl)) (by unfold Func.isWrapper; first | (rw [if_pos (by decide +kernel)]; kernel_rfl) | (rw [if_neg (by decide +kernel)]; exact ⟨rfl, rfl⟩))
    (fun os started H enc _ => lifted os started H enc)

/-- The statement. -/
theorem proved : Rows.TxnFirstSaid :=
  over

end Go.Proofs.Ytfbldpppjnnblaa.txnFirst
