/- StampLeast: no stamp that is open is below the least one, and it is one of them; it rises as the least one is closed: for every list of stamps. No condition. -/
import Derived.Test.YtdjppnfbpnfgaaaRows
import Derived.Test.YtdjppnfbpnfgaaaWatch7
import Derived.Test.YtdjppnfbpnfgaaaPost
import Derived.Carry
import Derived.Test.YtdjppnfbpnfgaaaRead
namespace Go.Proofs.Ytdjppnfbpnfgaaa.stampLeast
open Go.ChangeShapes Go.WideShapes Go.ChangeAt Go.RowKit Go.Proofs.Ytdjppnfbpnfgaaa.Mem Go.Proofs.Ytdjppnfbpnfgaaa.Q Go.Proofs.Ytdjppnfbpnfgaaa.Watch Go.Proofs.Ytdjppnfbpnfgaaa.Read

theorem cells8 : Try.prog.cellsOf 23 = 1 := by kernel_rfl

/-- So many are open behind the first i calls. -/
def begun (xs : List Int) (i : Nat) : List (Option Int) := (xs.take i).map some ++ List.replicate (8 - i) none

theorem begun_len (xs : List Int) (i : Nat) (hi : i ≤ 8) (hx : i ≤ xs.length) : (begun xs i).length = 8 := by simp [begun]; omega

theorem begun_at (xs : List Int) (i : Nat) (hi : i < 8) (hx : i ≤ xs.length) : (begun xs i)[i]? = some none := by
  unfold begun
  rw [List.getElem?_append_right (by simp; omega)]
  simp [List.length_take, Nat.min_eq_left hx, List.getElem?_replicate]
  omega

theorem begun_lo (xs : List Int) (i : Nat) (hx : i ≤ xs.length) : ∀ j, j < i → (begun xs i)[j]? ≠ some none := by
  intro j hj
  unfold begun
  rw [List.getElem?_append_left (by simp; omega)]
  simp [List.getElem?_map, hj]

theorem begun_set (xs : List Int) (i : Nat) (hi : i < 8) (hx : i < xs.length) : (begun xs i).set i (some (xs.getD i 0)) = begun xs (i + 1) := by
  unfold begun
  rw [List.set_append, if_neg (by simp; omega)]
  rw [List.take_succ_eq_append_getElem hx]
  simp only [List.map_append, List.map_cons, List.map_nil, List.append_assoc, List.length_map, List.length_take, Nat.min_eq_left (Nat.le_of_lt hx), Nat.sub_self]
  congr 1
  obtain ⟨m, hm⟩ : ∃ m, 8 - i = m + 1 := ⟨7 - i, by omega⟩
  rw [hm, List.replicate_succ, List.set_cons_zero, show 8 - (i + 1) = m by omega]
  simp [List.getD_eq_getElem?_getD, List.getElem?_eq_getElem hx]

theorem cnt_begun (xs : List Int) : cntB (begun xs xs.length) = xs.length := by
  unfold cntB begun
  rw [List.filter_append, List.take_length]
  simp [List.filter_map]

theorem mem_begun (xs : List Int) (i : Nat) (j : Nat) (x : Int) (h : (begun xs i)[j]? = some (some x)) : x ∈ xs := by
  have := List.mem_of_getElem? h
  unfold begun at this
  rcases List.mem_append.1 this with h | h
  · obtain ⟨y, hy, e⟩ := List.mem_map.1 h
    obtain rfl : y = x := by simpa using e
    exact List.mem_of_mem_take hy
  · have := List.eq_of_mem_replicate h
    cases this

theorem cnt_set (st : List (Option Int)) : ∀ (i : Nat) (x : Int), st[i]? = some (some x) → cntB (st.set i none) + 1 = cntB st := by
  induction st with
  | nil => intro i x h; simp at h
  | cons o st ih =>
    intro i x h
    cases i with
    | zero =>
      obtain rfl : o = some x := by simpa using h
      simp [cntB]
    | succ i =>
      have := ih i x (by simpa using h)
      simp only [List.set_cons_succ]
      unfold cntB at *
      simp only [List.filter_cons]
      split
      · simp only [List.length_cons]; omega
      · omega

theorem open_of_cnt (st : List (Option Int)) (h : 0 < cntB st) : ∃ (i : Nat) (x : Int), st[i]? = some (some x) := by
  unfold cntB at h
  obtain ⟨o, ho⟩ := List.exists_mem_of_length_pos h
  obtain ⟨h1, h2⟩ := List.mem_filter.1 ho
  obtain ⟨x, rfl⟩ := Option.isSome_iff_exists.1 h2
  obtain ⟨i, hi, e⟩ := List.getElem_of_mem h1
  exact ⟨i, x, by rw [List.getElem?_eq_getElem hi, e]⟩

/-- The least one of those that are open. -/
theorem least_exists (st : List (Option Int)) (d : Int) : ∃ n, IsLeast st d n := by
  by_cases h : ∃ (i : Nat) (x : Int), st[i]? = some (some x)
  · suffices ∀ st : List (Option Int), (∃ (i : Nat) (x : Int), st[i]? = some (some x)) → ∃ n, (∃ i : Nat, st[i]? = some (some n)) ∧ ∀ (i : Nat) x, st[i]? = some (some x) → n ≤ x by
      obtain ⟨n, h1, h2⟩ := this st h
      exact ⟨n, .inl ⟨h1, h2⟩⟩
    intro st
    induction st with
    | nil => rintro ⟨i, x, h⟩; simp at h
    | cons o st ih =>
      intro h
      by_cases hs : ∃ (i : Nat) (x : Int), st[i]? = some (some x)
      · obtain ⟨n, ⟨j, hj⟩, hn⟩ := ih hs
        cases o with
        | none =>
          refine ⟨n, ⟨j + 1, by simpa using hj⟩, fun i x hx => ?_⟩
          cases i with
          | zero => simp at hx
          | succ i => exact hn i x (by simpa using hx)
        | some y =>
          by_cases hy : y ≤ n
          · refine ⟨y, ⟨0, rfl⟩, fun i x hx => ?_⟩
            cases i with
            | zero =>
              obtain rfl : y = x := by simpa using hx
              exact Int.le_refl _
            | succ i => exact Int.le_trans hy (hn i x (by simpa using hx))
          · refine ⟨n, ⟨j + 1, by simpa using hj⟩, fun i x hx => ?_⟩
            cases i with
            | zero =>
              obtain rfl : y = x := by simpa using hx
              omega
            | succ i => exact hn i x (by simpa using hx)
      · obtain ⟨i, x, hx⟩ := h
        cases i with
        | zero =>
          obtain rfl : o = some x := by simpa using hx
          refine ⟨x, ⟨0, rfl⟩, fun i y hy => ?_⟩
          cases i with
          | zero =>
            obtain rfl : x = y := by simpa using hy
            exact Int.le_refl _
          | succ i => exact absurd ⟨i, y, by simpa using hy⟩ hs
        | succ i => exact absurd ⟨i, x, by simpa using hx⟩ hs
  · exact ⟨d, .inr ⟨fun i x hx => h ⟨i, x, hx⟩, rfl⟩⟩

set_option maxHeartbeats 2000000 in
theorem walk {H : Type} {enc : TypeId × Value → H} (W : World) {base : Nat} {v : Value} {d : DataW H} {p : List MemPlace} (h : DataW.Trod enc Try.prog W 0 (fun _ => true) true 52 v d p) (ho : Value.okWide Try.prog W .any base 52 v) :
    Calls Try.prog 4 #[v] W fun e W' => e = .returned (.bool true) ∧ Below W.heap.size W W' := by
  obtain ⟨A, n, c, xs, rfl, hx⟩ := ints_open Try.underlying52 Try.underlying23 cells8 h ho
  have HX := Lib.hid hx
  clear h ho hx
  go_enter Try.func4, Try.ntmps4
  go_wp2_with fail
  refine Calls.mono (alive_true W) ?_
  rintro e w1 ⟨rfl, hb⟩
  have HB := Lib.hid hb
  clear hb
  by_cases h8 : 8 < n
  · have hb8 : decide ((8 : Int) < n) = true := decide_eq_true (by omega)
    go_wp2_with fail
    go_ret
    exact ⟨rfl, HB.out⟩
  · have hb8 : decide ((8 : Int) < n) = false := decide_eq_false (by omega)
    have HL := Lib.hid (Live.new W w1 HB.out)
    obtain ⟨bw, hbw⟩ : ∃ bw, bw = w1.heap.size := ⟨_, rfl⟩
    have hn8 : n ≤ 8 := by omega
    have HN := Lib.hid HX.out.1
    have HWF := Lib.hid HX.out.2.2.1
    go_wp2_with fail
    go_loopw [22] (fun v22 wr => ∃ i : Nat, i ≤ n ∧ v22 = .int .i64 i ∧ Hid (Live W wr w1.heap.size i (begun xs i))) (fun v22 _ => n - (intOf v22).toNat)
    case atStart => exact ⟨0, Nat.zero_le _, rfl, HL⟩
    case round =>
      obtain ⟨i, hi, rfl, HL1⟩ := hrel
      by_cases hin : i < n
      · obtain ⟨b, off, rfl, hlt, hc⟩ := (HX.out.kept HL1.out.below).2.2.2 (by omega)
        have hci := hc i hin
        obtain ⟨x, hx⟩ : ∃ x, x = xs.getD i 0 := ⟨_, rfl⟩
        rw [← hx] at hci
        have HE := Lib.hid hx
        clear hc hx
        go_wp2_with fail
        refine Calls.mono (open_yes' i x HL1.out (by omega) (begun_at xs i (by omega) (by have := HN.out; omega)) (begun_lo xs i (by have := HN.out; omega))) ?_
        rintro e w2 ⟨rfl, HL2⟩
        go_wp2_with fail
        go_roundw
        case rel => exact ⟨i + 1, by omega, by go_num, by have h := HL2.out; rw [HE.out, begun_set xs i (by omega) (by have := HN.out; omega)] at h; exact Lib.hid h⟩
        case measure => simp [intOf]; omega
      · obtain rfl : i = n := by omega
        have hst0 : Hid (cntB (begun xs i) = i) := Lib.hid (by have := cnt_begun xs; rwa [HN.out] at this)
        have hlo0 : Hid (∀ (j : Nat) x, (begun xs i)[j]? = some (some x) → 0 ≤ x) := Lib.hid (fun j x h => (bounds_u64 (HWF.out x (mem_begun xs i j x h))).1)
        go_wp2_with fail
        go_loopw [8, 36] (fun v8 v36 wk => ∃ (k : Nat) (st : List (Option Int)) (last : Int), k ≤ i ∧ v36 = .int .i64 k ∧ v8 = .int .u64 last ∧ Hid (Live W wk w1.heap.size i st) ∧ Hid (cntB st + k = i) ∧ Hid (∀ (j : Nat) x, st[j]? = some (some x) → last ≤ x)) (fun _ v36 _ => i - (intOf v36).toNat)
        case atStart => exact ⟨0, _, 0, Nat.zero_le _, rfl, rfl, HL1, hst0, hlo0⟩
        case round =>
          obtain ⟨k, st, last, hk, rfl, rfl, HL2, HC2, HLO2⟩ := hrel
          by_cases hki : k < i
          · obtain ⟨m, hm⟩ := least_exists st 0
            have hcnt : 0 < cntB st := by have := HC2.out; omega
            obtain ⟨j0, x0, hj0⟩ := open_of_cnt st hcnt
            obtain ⟨⟨jm, hjm⟩, hmin⟩ : (∃ i : Nat, st[i]? = some (some m)) ∧ ∀ (i : Nat) x, st[i]? = some (some x) → m ≤ x := by
              rcases hm with h | ⟨h, _⟩
              · exact h
              · exact absurd hj0 (h j0 x0)
            have HM := Lib.hid hm
            have HJM := Lib.hid hjm
            have HMIN := Lib.hid hmin
            have hml := HLO2.out jm m hjm
            clear hm hcnt hj0 hjm hmin
            go_wp2_with fail
            refine Calls.mono (least' 0 m HL2.out (by omega) HM.out) ?_
            rintro e w3 ⟨rfl, HL3⟩
            have hlen : st.length = 8 := by obtain ⟨F, h, _⟩ := HL3.out; exact h.len
            have HLEN := Lib.hid hlen
            clear hlen
            go_wp2_with fail
            go_loop [11, 40] (fun v11 v40 => ∃ (t : Nat) (f : Int), t ≤ 8 ∧ v40 = .int .i64 t ∧ v11 = .int .i64 f ∧ -1 ≤ f ∧ f ≤ 7 ∧ Hid ((f = -1 ∧ ∀ j, j < t → st[j]? ≠ some (some m)) ∨ (0 ≤ f ∧ st[f.toNat]? = some (some m)))) (fun _ v40 => 8 - (intOf v40).toNat)
            case atStart => exact ⟨0, -1, by omega, rfl, rfl, by omega, by omega, Lib.hid (.inl ⟨rfl, fun j hj => by omega⟩)⟩
            case round =>
              obtain ⟨t, f, ht, rfl, rfl, hf1, hf2, HF⟩ := hrel
              by_cases ht8 : t < 8
              · cases hst : st[t]? with
                | none =>
                  have := HLEN.out
                  rw [List.getElem?_eq_getElem (by omega)] at hst
                  cases hst
                | some o =>
                  cases o with
                  | none =>
                    have HNO : Hid (hasB st t = false) := Lib.hid (by rw [hasB_at ht8, List.getD_eq_getElem?_getD, hst]; rfl)
                    have HST := Lib.hid hst
                    clear hst
                    go_wp2_with fail
                    refine Calls.mono (at_no' t HL3.out HNO.out) ?_
                    rintro e w4 ⟨rfl, rfl⟩
                    go_wp2_with fail
                    go_round
                    case rel =>
                      refine ⟨t + 1, f, by omega, by go_num, rfl, hf1, hf2, Lib.hid ?_⟩
                      rcases HF.out with ⟨h1, h2⟩ | h
                      · refine .inl ⟨h1, fun j hj => ?_⟩
                        by_cases e : j = t
                        · subst e; rw [HST.out]; simp
                        · exact h2 j (by omega)
                      · exact .inr h
                    case measure => simp [intOf]; omega
                  | some x =>
                    have HYES : Hid (hasB st t = true) := Lib.hid (by rw [hasB_at ht8, List.getD_eq_getElem?_getD, hst]; rfl)
                    have HX2 : Hid (st.getD (t : Int).toNat none = some x) := Lib.hid (by rw [Int.toNat_natCast, List.getD_eq_getElem?_getD, hst]; rfl)
                    have hmx := HMIN.out t x hst
                    have HST := Lib.hid hst
                    have hb1 : decide (x < m) = false := decide_eq_false (by omega)
                    clear hst
                    by_cases hxm : x = m
                    · have hb2 : (x == m) = true := by simp [hxm]
                      have HXM := Lib.hid hxm
                      clear hxm
                      go_wp2_with fail
                      refine Calls.mono (at_yes' t x HL3.out HYES.out HX2.out) ?_
                      rintro e w4 ⟨rfl, rfl⟩
                      go_wp2_with fail
                      go_round
                      case rel => exact ⟨t + 1, t, by omega, by go_num, rfl, by omega, by omega, Lib.hid (.inr ⟨by omega, by rw [Int.toNat_natCast, HST.out, HXM.out]⟩)⟩
                      case measure => simp [intOf]; omega
                    · have hb2 : (x == m) = false := by simp [hxm]
                      have HXM := Lib.hid hxm
                      clear hxm
                      go_wp2_with fail
                      refine Calls.mono (at_yes' t x HL3.out HYES.out HX2.out) ?_
                      rintro e w4 ⟨rfl, rfl⟩
                      go_wp2_with fail
                      go_round
                      case rel =>
                        refine ⟨t + 1, f, by omega, by go_num, rfl, hf1, hf2, Lib.hid ?_⟩
                        rcases HF.out with ⟨h1, h2⟩ | h
                        · refine .inl ⟨h1, fun j hj => ?_⟩
                          by_cases e : j = t
                          · subst e; rw [HST.out]; intro e2; exact HXM.out (by simpa using e2)
                          · exact h2 j (by omega)
                        · exact .inr h
                      case measure => simp [intOf]; omega
              · obtain rfl : t = 8 := by omega
                have hfin : 0 ≤ f ∧ st[f.toNat]? = some (some m) := by
                  rcases HF.out with ⟨h1, h2⟩ | h
                  · have hj := HJM.out
                    have := HLEN.out
                    have hlt : jm < st.length := by
                      rcases Nat.lt_or_ge jm st.length with h | h
                      · exact h
                      · rw [List.getElem?_eq_none h] at hj; cases hj
                    exact absurd hj (h2 jm (by omega))
                  · exact h
                obtain ⟨f0, hff⟩ := hfin
                have HFF := Lib.hid hff
                have HYES : Hid (hasB st f = true) := Lib.hid (by unfold hasB; rw [decide_eq_true f0, decide_eq_true (by omega), List.getD_eq_getElem?_getD, hff]; rfl)
                have b1 : decide (f < 0) = false := decide_eq_false (by omega)
                have b2 : decide (m < last) = false := decide_eq_false (by omega)
                have b3 : ((cntB st : Int) != (i : Int) - k) = false := by have := HC2.out; simp; omega
                clear hff
                go_wp2_with fail
                refine Calls.mono (len' HL3.out) ?_
                rintro e w4 ⟨rfl, rfl⟩
                go_wp2_with fail
                refine Calls.mono (close_yes' f HL3.out HYES.out) ?_
                rintro e w4 ⟨rfl, HL4⟩
                go_wp2_with fail
                go_roundw
                case rel =>
                  refine ⟨k + 1, _, m, by omega, by go_num, rfl, HL4, Lib.hid ?_, Lib.hid ?_⟩
                  · have h1 := cnt_set st f.toNat m HFF.out
                    have h2 := HC2.out
                    omega
                  · intro j x hx
                    rw [List.getElem?_set] at hx
                    split at hx
                    · split at hx
                      · cases hx
                      · cases hx
                    · exact HMIN.out j x hx
                case measure => simp [intOf]; omega
          · obtain rfl : k = i := by omega
            have hc0 : cntB st = 0 := by have := HC2.out; omega
            have HC0 := Lib.hid hc0
            have HNO : Hid (IsLeast st 77 77) := Lib.hid (.inr ⟨fun j x hx => by
              have := cnt_set st j x hx
              omega, rfl⟩)
            clear hc0
            go_wp2_with fail
            refine Calls.mono (least' 77 77 HL2.out (by omega) HNO.out) ?_
            rintro e w3 ⟨rfl, HL3⟩
            go_wp2_with fail
            refine Calls.mono (len' HL3.out) ?_
            rw [HC0.out]
            rintro e w4 ⟨rfl, rfl⟩
            go_wp2_with fail
            go_ret
            exact ⟨rfl, HL3.out.below⟩


theorem own : ownKnob Try.prog.godebug = none := by kernel_rfl
theorem laidOut : laidOutB Try.prog = true := by kernel_rfl

set_option maxRecDepth 100000 in
theorem lifted (os : Os) (started : os.Started) (H : Type) (enc : TypeId × Value → H) :
    ReturnsInHanded {} Try.checked os 4 .any (Rows.stampLeastSpec.pre6 enc Try.prog Try.f4 Rows.stampLeastRow.domain false) (Rows.stampLeastSpec.post enc Try.prog Try.f4 false true false false) := by
  refine returnsInHanded_of_change (C := Try.checked) own started (by kernel_rfl) Try.func4
    (ChangeSpec.witness6 (enc := enc) (C := Try.checked) false ⟨#[], #[.slice none 0 0], []⟩ 8 (by kernel_rfl) (by kernel_rfl) (by kernel_rfl) (by kernel_rfl)) ?_
  intro W base args ds gs before hval0 hW hcnd _
  have hval : ∀ (j : Nat) t v, Try.f4.params[j]? = some t → args[j]? = some v → Value.okWide Try.prog W .any base t v := hval0
  have hW' := hW
  obtain ⟨p, q, hA0, hV, rfl, hfz, hnd⟩ := hW
  have hA : DataW.TrodAll enc Try.prog W 0 (fun _ => true) true Try.f4.params.toList args.toList ds p := hA0
  rw [Try.params4] at hA hval
  obtain ⟨v0, vs0, d0, ds0, p0, q0, hargs, rfl, rfl, h0, r0⟩ := trodAll_cons hA
  obtain ⟨rfl, rfl, rfl⟩ := trodAll_nil r0
  obtain rfl : args = #[v0] := by cases args; simp_all
  obtain ⟨rfl, rfl⟩ := trodVars_none hV
  clear hA0 hval0
  have lt0 : ∀ x ∈ p0, x.block < W.heap.size := by obtain ⟨m, hm⟩ := h0; exact DataW.trod_lt m _ _ _ hm
  simp only [List.append_nil] at hW'
  refine Calls.mono (walk W h0 (hval 0 52 v0 rfl rfl)) ?_
  rintro e W' ⟨rfl, bel⟩
  exact ⟨_, rfl, Post.post_below (pa := _) (pv := []) hW' (fun _ _ _ => (trodAll_cons_mk (shut_bool Try.underlying4 _) trodAll_mk0)) (fun sp hsp => (trodAll_cons_mk (WideElems.Trod_stays laidOut (by kernel_rfl) (of_decide_eq_true (by kernel_rfl)) h0 (fun x hx => bel.same (lt0 x hx)) (fun x hx => hsp x (by simp [hx]))) trodAll_mk0)) (fun _ _ => rfl) (by simp)
    bel (ok_one (by kernel_rfl) rfl (okWide_bool_mk Try.underlying4 _))⟩

theorem over : Rows.stampLeastRow.holds Try.pinned (OpenSpec.ofChange Rows.stampLeastSpec) :=
  OpenClaim.holds_of_wide 4 Try.f4 rfl rfl rfl rfl rfl rfl rfl ⟨rfl, rfl, rfl, rfl, rfl⟩ rfl rfl rfl rfl rfl (by kernel_rfl) Try.func4 (by kernel_rfl)
    (of_decide_eq_true (by kernel_rfl)) (by unfold Func.isWrapper; first | (rw [if_pos (by decide +kernel)]; kernel_rfl) | (rw [if_neg (by decide +kernel)]; exact ⟨rfl, rfl⟩))
    (fun os started H enc _ => lifted os started H enc)

/-- The statement. -/
theorem proved : Rows.StampLeastSaid :=
  over

end Go.Proofs.Ytdjppnfbpnfgaaa.stampLeast
