/- TxnOwn: what was answered may be written over; what one writes is not another one's. No condition. -/
import Derived.Test.YtfbldpppjnnblaaNoteLaw
namespace Go.Proofs.Ytfbldpppjnnblaa.txnOwn
open Go.ChangeShapes Go.WideShapes Go.ChangeAt Go.RowKit Go.Proofs.Ytfbldpppjnnblaa.Mem Go.Proofs.Ytfbldpppjnnblaa.Q Go.Proofs.Ytfbldpppjnnblaa.Read Go.Proofs.Ytfbldpppjnnblaa.Out Go.Proofs.Ytfbldpppjnnblaa.Copy Go.Proofs.Ytfbldpppjnnblaa.Key Go.Proofs.Ytfbldpppjnnblaa.Set Go.Proofs.Ytfbldpppjnnblaa.Rows3 Go.Proofs.Ytfbldpppjnnblaa.Put15 Go.Proofs.Ytfbldpppjnnblaa.Tab Go.Proofs.Ytfbldpppjnnblaa.Liv Go.Proofs.Ytfbldpppjnnblaa.Few15 Go.Proofs.Ytfbldpppjnnblaa.Open17

theorem Liv_chg {w0 w w' : World} {tb N : Nat} {S : Nat → Prop} {st : List (Option Int)} {ss : List (List W3)} {m : List (ByteArray × Int)} {H : Nat → Prop} (h : Liv w0 w tb N S st ss m) (hc : Chg H w w') (hH : ∀ k, S k → ¬ H k) (hn : ∀ k, H k → w0.heap.size ≤ k) : Liv w0 w' tb N S st ss m :=
  ⟨h.tab.kept hc hH, h.new, below_chg h.below hc hn⟩

/-- What was answered: none, or the caller's own. -/
def BF (W w : World) (S : Nat → Prop) (v : Value) (n : Nat) (P : List W3) : Prop :=
  (v = .slice none 0 0 ∧ n = 0) ∨ ∃ g c cur, v = .slice (some ⟨g, 0, none⟩) n c ∧ n ≤ c ∧ ¬ S g ∧ W.heap.size ≤ g ∧ Cells w g 50 cur ∧ cur.length = c * 3 ∧ cur.take (n * 3) = P.flatMap W3.cells

theorem BF.kept {W w w' : World} {S : Nat → Prop} {v : Value} {n : Nat} {P : List W3} (h : BF W w S v n P) (hb : Below w.heap.size w w') : BF W w' S v n P := by
  rcases h with h | ⟨g, c, cur, h1, h2, h3, h4, h5, h6⟩
  · exact .inl h
  · exact .inr ⟨g, c, cur, h1, h2, h3, h4, h5.kept (Chg.of_below (F := fun _ => False) hb) (fun f => f), h6⟩

theorem BF.turn {W w w' : World} {S S' : Nat → Prop} {v : Value} {n : Nat} {P : List W3} (h : BF W w S v n P) (h2 : ∀ k, S' k → S k ∨ w.heap.size ≤ k) (h3 : Chg S w w') : BF W w' S' v n P := by
  rcases h with h | ⟨g, c, cur, e1, e2, e3, e4, e5, e6⟩
  · exact .inl h
  · exact .inr ⟨g, c, cur, e1, e2, fun hs => (h2 g hs).elim e3 (fun e => by have := e5.lt; omega), e4, e5.kept h3 e3, e6⟩

set_option maxHeartbeats 4000000 in
set_option maxRecDepth 100000 in
theorem walk {H : Type} {enc : TypeId × Value → H} (W : World) {base : Nat} {v v1 : Value} {d d1 : DataW H} {p p1 : List MemPlace} (h : DataW.Trod enc Try.prog W 0 (fun _ => true) true 32 v d p) (ho : Value.okWide Try.prog W .any base 32 v)
    (h1 : DataW.Trod enc Try.prog W 0 (fun _ => true) true 32 v1 d1 p1) (ho1 : Value.okWide Try.prog W .any base 32 v1) :
    Calls Try.prog 4 #[v, v1] W fun e W' => e = .returned (.bool true) ∧ Below W.heap.size W W' := by
  obtain ⟨A, n, c, l, rfl, hl⟩ := wrs_open h ho
  obtain ⟨B, nb, cb, lb, rfl, hlb⟩ := wrs_open h1 ho1
  have HL0 := Lib.hid hl
  have HM0 := Lib.hid hlb
  clear h ho hl h1 ho1 hlb
  go_enter Try.func4, Try.ntmps4
  go_wp2_with fail
  refine Calls.mono (alive_true W) ?_
  rintro e1 w1 ⟨rfl, hb1⟩
  have HL1 := Lib.hid (HL0.out.kept hb1)
  have HB1 := Lib.hid hb1
  clear hb1
  go_wp2_with fail
  refine Calls.mono (few_any A n c l w1 HL1.out) ?_
  rintro e2 w2 ⟨rfl, hb2⟩
  have HB2 := Lib.hid (HB1.out.trans (hb2.mono HB1.out.size))
  clear hb2 HL1 HB1
  cases hf : fewB l with
  | false =>
    go_wp2_with fail
    go_ret
    exact ⟨rfl, HB2.out⟩
  | true =>
  have hn60 : n ≤ 60 := by have := fewB_len hf; have := HL0.out.1; omega
  clear hf
  have HM2 := Lib.hid (HM0.out.kept HB2.out)
  go_wp2_with fail
  refine Calls.mono (few_any B nb cb lb w2 HM2.out) ?_
  rintro e3 w3 ⟨rfl, hb3⟩
  have HB3 := Lib.hid (HB2.out.trans (hb3.mono HB2.out.size))
  clear hb3 HM2 HB2
  cases hf : fewB lb with
  | false =>
    go_wp2_with fail
    go_ret
    exact ⟨rfl, HB3.out⟩
  | true =>
  have hm60 : nb ≤ 60 := by have := fewB_len hf; have := HM0.out.1; omega
  clear hf
  go_wp2_with fail
  refine Calls.mono (tnew w3) ?_
  rintro e4 w4 ⟨tb, S4, rfl, HT, HN, hb⟩
  have HA4 : Hid (Liv W w4 tb 0 S4 (List.replicate 8 none) (List.replicate 8 []) []) := Lib.hid ⟨HT.out, fun k hk => Nat.le_trans HB3.out.size (HN.out k hk), HB3.out.trans (hb.mono HB3.out.size)⟩
  clear HT HN hb
  go_wp2_with fail
  refine Calls.mono (tbegin_yes 0 1 HA4.out.tab (by decide) rfl (by intro j hj; omega)) ?_
  rintro e5 w5 ⟨rfl, HT⟩
  obtain ⟨S5, HA5, _, _⟩ := HA4.out.turn HT.out
  have HA5 : Hid (Liv W w5 tb 1 S5 [some 1, none, none, none, none, none, none, none] (List.replicate 8 ([] : List W3)) []) := HA5
  clear HT HA4
  go_wp2_with fail
  refine Calls.mono (tbegin_yes 1 1 HA5.out.tab (by decide) rfl (by intro j hj; obtain rfl : j = 0 := (by omega); simp)) ?_
  rintro e6 w6 ⟨rfl, HT⟩
  obtain ⟨S6, HA6, _, _⟩ := HA5.out.turn HT.out
  have HA6 : Hid (Liv W w6 tb 2 S6 [some 1, some 1, none, none, none, none, none, none] ((List.replicate 8 ([] : List W3)).set 0 (putsL (l.take 0))) []) := HA6
  clear HT HA5
  go_wp2_with fail
  go_loopw [45] (fun v45 wr => ∃ (i : Nat) (S : Nat → Prop), i ≤ n ∧ v45 = .int .i64 i ∧ Hid (Liv W wr tb 2 S [some 1, some 1, none, none, none, none, none, none] ((List.replicate 8 ([] : List W3)).set 0 (putsL (l.take i))) [])) (fun v45 _ => n - (intOf v45).toNat)
  case atStart => exact ⟨0, S6, by omega, rfl, HA6⟩
  case round =>
    clear HA6
    obtain ⟨i, S, hi, rfl, HA⟩ := hrel
    by_cases hin : i < n
    · obtain ⟨bb, off, rfl⟩ := HL0.out.addr (by omega)
      obtain ⟨x, hx⟩ : ∃ x, l[i]? = some x := ⟨l[i]'(by have := HL0.out.1; omega), List.getElem?_eq_getElem _⟩
      have hc := (HL0.out.kept HA.out.below).at hx
      have hc0 := hc 0 _ rfl
      have hc1 := hc 1 _ rfl
      have hc2 := hc 2 _ rfl
      simp only [Nat.add_zero] at hc0
      have HNX : Hid (((List.replicate 8 ([] : List W3)).set 0 (putsL (l.take i))).set 0 (putL (((List.replicate 8 ([] : List W3)).set 0 (putsL (l.take i))).getD 0 []) x).1 = (List.replicate 8 ([] : List W3)).set 0 (putsL (l.take (i + 1)))) := Lib.hid (by rw [List.take_add_one, hx]; exact write_next (by simp) _ _ _)
      have hba := (Below.refl wr.heap.size wr).alloc (Nat.le_refl _) (.cells #[.string x.k, .string x.t, .bool x.g] 38)
      have HA2 := Lib.hid (HA.out.kept hba)
      clear hc hx hba
      go_wp2_with fail
      generalize hW : World.alloc wr _ = wx at *
      clear hW hc0 hc1 hc2
      refine Calls.mono (twrite_yes 0 x 1 HA2.out.tab rfl rfl) ?_
      rintro ex w9 ⟨rfl, HT⟩
      obtain ⟨S2, HA3, _, _⟩ := HA2.out.turn HT.out
      rw [HNX.out] at HA3
      clear HT HA2
      go_wp2_with fail
      go_roundw
      case rel => exact ⟨i + 1, S2, by omega, by go_num, HA3⟩
      case measure => simp [intOf]; omega
    · obtain rfl : i = n := by omega
      rw [List.take_of_length_le (by have := HL0.out.1; omega)] at HA
      obtain ⟨P, hP⟩ : ∃ P, P = putsL l := ⟨_, rfl⟩
      have HP16 : Hid (P.length ≤ 16) := Lib.hid (by rw [hP]; exact (putsL_rs l).2)
      rw [← hP] at HA
      have HA : Hid (Liv W wr tb 2 S [some 1, some 1, none, none, none, none, none, none] [P, [], [], [], [], [], [], []] []) := HA
      clear hP hin hi
      go_wp2_with fail
      refine Calls.mono (tset_yes 0 1 HA.out.tab rfl rfl) ?_
      rintro e11 w11 ⟨v11, n11, rfl, HO, HLN⟩
      have HNP : Hid (P.length = n11) := HLN
      have hn11 : n11 ≤ 16 := by have := HP16.out; have := HNP.out; omega
      have HA11 : Hid (Liv W w11 tb 2 S [some 1, some 1, none, none, none, none, none, none] ([P, [], [], [], [], [], [], []].set 1 (putsL (lb.take 0))) []) := Lib.hid (HA.out.kept HO.out.below)
      have HBF : Hid (BF W w11 S v11 n11 P) := Lib.hid (by
        rcases HO.out.1.2 with ⟨rfl, h0⟩ | ⟨g, c', cur, hv, hb, hg, hnc, hcm, hcs, ht⟩
        · exact .inl ⟨rfl, h0⟩
        · exact .inr ⟨g, c', cur.toList, hv, hnc, fun hs => by have := HA.out.tab.lt hs; omega, Nat.le_trans HA.out.below.size hb, hg, by simpa using hcs, ht⟩)
      clear HA HO HLN
      go_wp2_with fail
      go_loopw [62] (fun v62 wr => ∃ (i : Nat) (S : Nat → Prop), i ≤ nb ∧ v62 = .int .i64 i ∧ Hid (Liv W wr tb 2 S [some 1, some 1, none, none, none, none, none, none] (([P, [], [], [], [], [], [], []] : List (List W3)).set 1 (putsL (lb.take i))) []) ∧ Hid (BF W wr S v11 n11 P)) (fun v62 _ => nb - (intOf v62).toNat)
      case atStart => exact ⟨0, S, by omega, rfl, HA11, HBF⟩
      case round =>
        clear HA11 HBF
        obtain ⟨j, S, hj, rfl, HA, HF⟩ := hrel
        by_cases hjn : j < nb
        · obtain ⟨bb, off, rfl⟩ := HM0.out.addr (by omega)
          obtain ⟨x, hx⟩ : ∃ x, lb[j]? = some x := ⟨lb[j]'(by have := HM0.out.1; omega), List.getElem?_eq_getElem _⟩
          have hc := (HM0.out.kept HA.out.below).at hx
          have hc0 := hc 0 _ rfl
          have hc1 := hc 1 _ rfl
          have hc2 := hc 2 _ rfl
          simp only [Nat.add_zero] at hc0
          have HNX : Hid ((([P, [], [], [], [], [], [], []] : List (List W3)).set 1 (putsL (lb.take j))).set 1 (putL ((([P, [], [], [], [], [], [], []] : List (List W3)).set 1 (putsL (lb.take j))).getD 1 []) x).1 = ([P, [], [], [], [], [], [], []] : List (List W3)).set 1 (putsL (lb.take (j + 1)))) := Lib.hid (by rw [List.take_add_one, hx]; exact write_next (by simp) _ _ _)
          have hba := (Below.refl wr.heap.size wr).alloc (Nat.le_refl _) (.cells #[.string x.k, .string x.t, .bool x.g] 38)
          have HA2 := Lib.hid (HA.out.kept hba)
          have HBX := Lib.hid hba
          clear hc hx hba
          go_wp2_with fail
          generalize hW : World.alloc wr _ = wx at *
          clear hW hc0 hc1 hc2
          refine Calls.mono (twrite_yes 1 x 1 HA2.out.tab rfl rfl) ?_
          rintro ex w9 ⟨rfl, HT⟩
          obtain ⟨S2, HA3, HS3, HC3⟩ := HA2.out.turn HT.out
          rw [HNX.out] at HA3
          clear HT HA2
          go_wp2_with fail
          go_roundw
          case rel => exact ⟨j + 1, S2, by omega, by go_num, HA3, Lib.hid ((HF.out.kept HBX.out).turn HS3.out HC3.out)⟩
          case measure => simp [intOf]; omega
        · obtain rfl : j = nb := by omega
          obtain ⟨Q, hQ⟩ : ∃ Q, Q = putsL (lb.take j) := ⟨_, rfl⟩
          rw [← hQ] at HA
          have HA12 : Hid (Liv W wr tb 2 S [some 1, some 1, none, none, none, none, none, none] [P, Q, [], [], [], [], [], []] []) := HA
          clear hQ HA hjn hj
          rcases HF.out with ⟨rfl, rfl⟩ | ⟨g, c', cur, rfl, hnc, hsg, hwg, hcl, hcs, htk⟩
          · go_wp2_with fail
            go_loopw [75] (fun v75 wk => v75 = .int .i64 0 ∧ Hid (wk = wr)) (fun _ _ => 0)
            case atStart => exact ⟨rfl, Lib.hid rfl⟩
            case round =>
              obtain ⟨rfl, HE⟩ := hrel
              obtain rfl := HE.out
              have HK20 : Hid (RowsOf W3.cells 3 wr none 0 P) := Lib.hid (by
                have : P = [] := List.eq_nil_of_length_eq_zero HNP.out
                rw [this]
                exact RowsOf.nil _ _ _)
              have HA20 := HA12
              clear HA12 HE
              go_wp2_with fail
              refine Calls.mono (tset_yes 0 1 HA20.out.tab rfl rfl) ?_
              rintro e21 w21 ⟨v21, n21, rfl, HO, HLN⟩
              have HN21 : Hid (P.length = n21) := HLN
              obtain ⟨A21, c21, rfl, hnc21, HX21⟩ := HA20.out.fresh (l := P) HO.out HLN.out (by have := HP16.out; have := HN21.out; omega)
              have HA21 := Lib.hid (HA20.out.kept HO.out.below)
              have HK21 := Lib.hid (HK20.out.kept HO.out.below)
              have hn21 : n21 ≤ 16 := by have := HP16.out; have := HN21.out; omega
              clear HA20 HK20 HO HLN
              go_wp2_with fail
              refine Calls.mono (ours_any A21 n21 c21 P w21 HX21.out.rows (by omega)) ?_
              rintro e22 w22 ⟨v22, rfl, HO⟩
              obtain ⟨A22, c22, rfl, _, hr22⟩ := own_rows W3.len HO.out HN21.out (by simp only [maxLen]; omega)
              have HR22 := Lib.hid hr22
              have HA22 := Lib.hid (HA21.out.kept HO.out.below)
              have HK22 := Lib.hid (HK21.out.kept HO.out.below)
              clear hr22 HO HA21 HK21 HX21
              go_wp2_with fail
              refine Calls.mono (ours_any none 0 0 P w22 HK22.out (by omega)) ?_
              rintro e23 w23 ⟨v23, rfl, HO⟩
              obtain ⟨A23, c23, rfl, _, hr23⟩ := own_rows W3.len HO.out HNP.out (by simp only [maxLen]; omega)
              have HR23 := Lib.hid hr23
              have HA23 := Lib.hid (HA22.out.kept HO.out.below)
              have HS23 := Lib.hid (HR22.out.kept HO.out.below)
              clear hr23 HO HA22 HK22 HR22
              go_wp2_with fail
              refine Calls.mono (same_any A22 A23 n21 0 c22 c23 P P w23 HS23.out HR23.out (by omega) true (by simp)) ?_
              rintro e24 w24 ⟨rfl, hb24⟩
              have HA24 := Lib.hid (HA23.out.kept hb24)
              clear hb24
              go_wp2_with fail
              go_ret
              exact ⟨rfl, HA24.out.below⟩
          · have HCL := Lib.hid hcl
            have HCS := Lib.hid hcs
            have HTK := Lib.hid htk
            have HSG := Lib.hid hsg
            have HWG := Lib.hid hwg
            clear hcl hcs htk hsg hwg HF
            go_wp2_with (at_builtin; refine wpList_outs rfl _ _ 52 rfl 50 (.agg #[.string ⟨#[]⟩, .string ⟨#[]⟩, .bool false]) 3 40 Try.underlying52 info_wr rfl (by decide) _ 0 [] rfl (Out.nil (Below.refl _ wr) _ _) ⟨g, 0, none⟩ n11 c' (P.flatMap W3.cells) rfl ?c1 ?c2 ?c3 ?c4 ?c5 ?_)
            case c1 => rw [flat_len W3.len P, HNP.out]
            case c2 =>
              intro j u hj
              rw [Addr.add_lit, Nat.zero_add, HCL.out.cell]
              rw [← HTK.out] at hj
              have := (List.getElem?_eq_some_iff.1 hj).1
              rw [List.getElem?_take, if_pos (by rw [List.length_take] at this; omega)] at hj
              exact hj
            case c3 => exact flat_one W3.one P
            case c4 => simp only [maxLen]; omega
            case c5 => omega
            intro v13 w13 HO HG
            clear HG
            have hgl := HCL.out.lt
            obtain ⟨A13, c13, rfl, _, hr13⟩ := own_rows W3.len HO.out HNP.out (by simp only [maxLen]; omega)
            have HKA : Hid (∀ a, A13 = some a → 0 < n11 → ¬ a.block = g) := Lib.hid (fun a e _ => by
              subst e
              have := HO.out.ge a.block rfl
              omega)
            have HK13 := Lib.hid hr13
            have HA13 := Lib.hid (HA12.out.kept HO.out.below)
            have HC13 := Lib.hid (HCL.out.kept (Chg.of_below (F := fun _ => False) HO.out.below) (fun f => f))
            clear hr13 HO HA12 HCL HTK
            go_wp2_with fail
            go_loopw [75] (fun v75 wk => ∃ (i : Nat) (cur2 : List Value), i ≤ n11 ∧ v75 = .int .i64 i ∧ Hid (Cells wk g 50 cur2) ∧ Hid (cur2.length = c' * 3) ∧ Hid (Chg (· = g) w13 wk)) (fun v75 _ => n11 - (intOf v75).toNat)
            case atStart => exact ⟨0, cur, by omega, rfl, HC13, HCS, Lib.hid (Chg.refl _ _)⟩
            case round =>
              clear HC13
              obtain ⟨k, cur2, hk, rfl, HC2, HL2, HG2⟩ := hrel
              by_cases hkn : k < n11
              · have hfz := HC2.out.frozen (k * 3 + 1)
                have hkl : k * 3 + 1 < cur2.length := by have := HL2.out; omega
                have hce := HC2.out.cell (k * 3 + 1)
                rw [List.getElem?_eq_getElem hkl] at hce
                obtain ⟨u, hu⟩ : ∃ u, u = cur2[k * 3 + 1] := ⟨_, rfl⟩
                rw [← hu] at hce
                clear hu
                go_wp2_with fail
                go_roundw
                case rel => exact ⟨k + 1, cur2.set (k * 3 + 1) (.string ⟨#[111, 118, 101, 114]⟩), by omega, by go_num, Lib.hid (HC2.out.set _ _), Lib.hid (by rw [List.length_set]; exact HL2.out), Lib.hid (HG2.out.setCell (fun _ => rfl) _)⟩
                case measure => simp [intOf]; omega
              · have HA20 := Lib.hid (Liv_chg HA13.out HG2.out (fun k hk e => HSG.out (e ▸ hk)) (fun k e => e ▸ HWG.out))
                have HK20 := Lib.hid (rows_chg HK13.out HG2.out HKA.out)
                clear HA13 HK13 HG2 HC2 HL2
                go_wp2_with fail
                refine Calls.mono (tset_yes 0 1 HA20.out.tab rfl rfl) ?_
                rintro e21 w21 ⟨v21, n21, rfl, HO, HLN⟩
                have HN21 : Hid (P.length = n21) := HLN
                obtain ⟨A21, c21, rfl, hnc21, HX21⟩ := HA20.out.fresh (l := P) HO.out HLN.out (by have := HP16.out; have := HN21.out; omega)
                have HA21 := Lib.hid (HA20.out.kept HO.out.below)
                have HK21 := Lib.hid (HK20.out.kept HO.out.below)
                have hn21 : n21 ≤ 16 := by have := HP16.out; have := HN21.out; omega
                clear HA20 HK20 HO HLN
                go_wp2_with fail
                refine Calls.mono (ours_any A21 n21 c21 P w21 HX21.out.rows (by omega)) ?_
                rintro e22 w22 ⟨v22, rfl, HO⟩
                obtain ⟨A22, c22, rfl, _, hr22⟩ := own_rows W3.len HO.out HN21.out (by simp only [maxLen]; omega)
                have HR22 := Lib.hid hr22
                have HA22 := Lib.hid (HA21.out.kept HO.out.below)
                have HK22 := Lib.hid (HK21.out.kept HO.out.below)
                clear hr22 HO HA21 HK21 HX21
                go_wp2_with fail
                refine Calls.mono (ours_any A13 n11 c13 P w22 HK22.out (by omega)) ?_
                rintro e23 w23 ⟨v23, rfl, HO⟩
                obtain ⟨A23, c23, rfl, _, hr23⟩ := own_rows W3.len HO.out HNP.out (by simp only [maxLen]; omega)
                have HR23 := Lib.hid hr23
                have HA23 := Lib.hid (HA22.out.kept HO.out.below)
                have HS23 := Lib.hid (HR22.out.kept HO.out.below)
                clear hr23 HO HA22 HK22 HR22
                go_wp2_with fail
                refine Calls.mono (same_any A22 A23 n21 n11 c22 c23 P P w23 HS23.out HR23.out (by omega) true (by simp)) ?_
                rintro e24 w24 ⟨rfl, hb24⟩
                have HA24 := Lib.hid (HA23.out.kept hb24)
                clear hb24
                go_wp2_with fail
                go_ret
                exact ⟨rfl, HA24.out.below⟩


theorem own : ownKnob Try.prog.godebug = none := by kernel_rfl
theorem laidOut : laidOutB Try.prog = true := by kernel_rfl

set_option maxRecDepth 100000 in
theorem lifted (os : Os) (started : os.Started) (H : Type) (enc : TypeId × Value → H) :
    ReturnsInHanded {} Try.checked os 4 .any (Rows.txnOwnSpec.pre6 enc Try.prog Try.f4 Rows.txnOwnRow.domain false) (Rows.txnOwnSpec.post enc Try.prog Try.f4 false true false false) := by
  refine returnsInHanded_of_change (C := Try.checked) own started (by kernel_rfl) Try.func4
    (ChangeSpec.witness6 (enc := enc) (C := Try.checked) false ⟨#[], #[.slice none 0 0, .slice none 0 0], []⟩ 8 (by kernel_rfl) (by kernel_rfl) (by kernel_rfl) (by kernel_rfl)) ?_
  intro W base args ds gs before hval0 hW hcnd _
  have hval : ∀ (j : Nat) t v, Try.f4.params[j]? = some t → args[j]? = some v → Value.okWide Try.prog W .any base t v := hval0
  have hW' := hW
  obtain ⟨p, q, hA0, hV, rfl, hfz, hnd⟩ := hW
  have hA : DataW.TrodAll enc Try.prog W 0 (fun _ => true) true Try.f4.params.toList args.toList ds p := hA0
  rw [Try.params4] at hA hval
  obtain ⟨v0, vs0, d0, ds0, p0, q0, hargs, rfl, rfl, h0, r0⟩ := trodAll_cons hA
  obtain ⟨v1, vs1, d1, ds1, p1, q1, rfl, rfl, rfl, h1, r1⟩ := trodAll_cons r0
  obtain ⟨rfl, rfl, rfl⟩ := trodAll_nil r1
  obtain rfl : args = #[v0, v1] := by cases args; simp_all
  obtain ⟨rfl, rfl⟩ := trodVars_none hV
  clear hA0 hval0
  have lt0 : ∀ x ∈ p0, x.block < W.heap.size := by obtain ⟨m, hm⟩ := h0; exact DataW.trod_lt m _ _ _ hm
  have lt1 : ∀ x ∈ p1, x.block < W.heap.size := by obtain ⟨m, hm⟩ := h1; exact DataW.trod_lt m _ _ _ hm
  simp only [List.append_nil] at hW'
  refine Calls.mono (walk W h0 (hval 0 32 v0 rfl rfl) h1 (hval 1 32 v1 rfl rfl)) ?_
  rintro e W' ⟨rfl, bel⟩
  exact ⟨_, rfl, Post.post_below (pa := _) (pv := []) hW' (fun _ _ _ => (trodAll_cons_mk (shut_bool Try.underlying4 _) trodAll_mk0)) (fun sp hsp => (trodAll_cons_mk (WideElems.Trod_stays laidOut (by kernel_rfl) (of_decide_eq_true (by kernel_rfl)) h0 (fun x hx => bel.same (lt0 x hx)) (fun x hx => hsp x (by simp [hx]))) (trodAll_cons_mk (WideElems.Trod_stays laidOut (by kernel_rfl) (of_decide_eq_true (by kernel_rfl)) h1 (fun x hx => bel.same (lt1 x hx)) (fun x hx => hsp x (by simp [hx]))) trodAll_mk0))) (fun _ _ => rfl) (by simp)
    bel (ok_one (by kernel_rfl) rfl (okWide_bool_mk Try.underlying4 _))⟩

theorem over : Rows.txnOwnRow.holds Try.pinned (OpenSpec.ofChange Rows.txnOwnSpec) :=
  OpenClaim.holds_of_wide 4 Try.f4 rfl rfl rfl rfl rfl rfl rfl ⟨rfl, rfl, rfl, rfl, rfl⟩ rfl rfl rfl rfl rfl (by kernel_rfl) Try.func4 (by kernel_rfl)
    (of_decide_eq_true (by kernel_rfl)) (by unfold Func.isWrapper; first | (rw [if_pos (by decide +kernel)]; kernel_rfl) | (rw [if_neg (by decide +kernel)]; exact ⟨rfl, rfl⟩))
    (fun os started H enc _ => lifted os started H enc)

/-- The statement. -/
theorem proved : Rows.TxnOwnSaid :=
  over

end Go.Proofs.Ytfbldpppjnnblaa.txnOwn
