/- WsetTwice: what a set makes of pairs it makes of these again; of nothing just what it has that is not gone. No condition. -/
import Derived.Test.YthbmjhdgflpmgaaRows
import Derived.Test.YthbmjhdgflpmgaaOpen15
import Derived.Test.YthbmjhdgflpmgaaPost
import Derived.Carry
namespace Go.Proofs.Ythbmjhdgflpmgaa.wsetTwice
open Go.ChangeShapes Go.WideShapes Go.ChangeAt Go.RowKit Go.Proofs.Ythbmjhdgflpmgaa.Mem Go.Proofs.Ythbmjhdgflpmgaa.Read Go.Proofs.Ythbmjhdgflpmgaa.Out Go.Proofs.Ythbmjhdgflpmgaa.Copy Go.Proofs.Ythbmjhdgflpmgaa.Key Go.Proofs.Ythbmjhdgflpmgaa.Set Go.Proofs.Ythbmjhdgflpmgaa.Rows3 Go.Proofs.Ythbmjhdgflpmgaa.At15 Go.Proofs.Ythbmjhdgflpmgaa.Res Go.Proofs.Ythbmjhdgflpmgaa.Get15 Go.Proofs.Ythbmjhdgflpmgaa.Put15 Go.Proofs.Ythbmjhdgflpmgaa.Meet15 Go.Proofs.Ythbmjhdgflpmgaa.Over15 Go.Proofs.Ythbmjhdgflpmgaa.Conv Go.Proofs.Ythbmjhdgflpmgaa.Rise Go.Proofs.Ythbmjhdgflpmgaa.Same3 Go.Proofs.Ythbmjhdgflpmgaa.Few15 Go.Proofs.Ythbmjhdgflpmgaa.Open15 Go.Proofs.Ythbmjhdgflpmgaa.Alive15

theorem ovW_rs {l : List P2} {s : List W3} (hl : Rs P2.k l) (hs : Rs W3.k s) : Rs P2.k (ovW l s) ∧ ∀ k, lk P2.k (ovW l s) k = ovk W3.g toP (lk P2.k l k) (lk W3.k s k) := ov_rs (mk := toP) (kw := W3.k) (kp := P2.k) (gone := W3.g) (fun _ => rfl) _ l s rfl hl hs

theorem twice_eq {l : List P2} {s : List W3} (hl : Rs P2.k l) (hs : Rs W3.k s) : ovW (ovW l s) s = ovW l s := by
  obtain ⟨h1, h2⟩ := ovW_rs hl hs
  obtain ⟨h3, h4⟩ := ovW_rs h1 hs
  refine rs_ext h3 h1 (fun k => ?_)
  rw [h4, h2]
  cases lk W3.k s k with
  | none => rfl
  | some w => rfl

/-- How many are not gone. -/
def liveN (s : List W3) : Nat := (s.filter fun x => !x.g).length

theorem nil_len : ∀ s : List W3, (ovW [] s).length = liveN s
  | [] => by rw [ovW_nil]; rfl
  | w :: s => by
    rw [ov_w (.inl ⟨rfl, rfl⟩)]
    unfold liveN
    rw [List.filter_cons]
    cases hg : w.g with
    | true => simp [nil_len s, liveN]
    | false => simp [nil_len s, liveN]

theorem live_step {s : List W3} {i : Nat} {x : W3} (h : s[i]? = some x) : liveN (s.take (i + 1)) = liveN (s.take i) + (if x.g = true then 0 else 1) := by
  unfold liveN
  rw [List.take_add_one, h, List.filter_append, List.length_append]
  cases hg : x.g <;> simp [hg]

set_option maxHeartbeats 2000000 in
set_option maxRecDepth 100000 in
theorem walk {H : Type} {enc : TypeId × Value → H} (W : World) {base : Nat} {v v1 : Value} {d d1 : DataW H} {p p1 : List MemPlace} (h : DataW.Trod enc Try.prog W 0 (fun _ => true) true 22 v d p) (ho : Value.okWide Try.prog W .any base 22 v)
    (h1 : DataW.Trod enc Try.prog W 0 (fun _ => true) true 23 v1 d1 p1) (ho1 : Value.okWide Try.prog W .any base 23 v1) :
    Calls Try.prog 7 #[v, v1] W fun e W' => e = .returned (.bool true) ∧ Below W.heap.size W W' := by
  obtain ⟨A, n, c, l, rfl, hl⟩ := prs_open h ho
  obtain ⟨B, m, e, s, rfl, hs⟩ := wrs_open h1 ho1
  have HL := Lib.hid hl
  have HS := Lib.hid hs
  have hln := hl.1
  have hsn := hs.1
  clear h ho h1 ho1 hl hs
  go_enter Try.func7, Try.ntmps7
  go_wp2_with fail
  refine Calls.mono (alive_true W) ?_
  rintro e2 w2 ⟨rfl, hb2⟩
  have HL2 := Lib.hid (HL.out.kept hb2)
  have HS2 := Lib.hid (HS.out.kept hb2)
  have HB2 := Lib.hid hb2
  clear HL HS hb2
  by_cases h60 : 60 < n
  · have b60 : decide ((60 : Int) < n) = true := decide_eq_true (by omega)
    go_wp2_with fail
    go_ret
    exact ⟨rfl, HB2.out⟩
  · have b60 : decide ((60 : Int) < n) = false := decide_eq_false (by omega)
    obtain ⟨b, hb⟩ := rs_or P2.k l
    have HBB := Lib.hid hb
    clear hb
    go_wp2_with fail
    refine Calls.mono (rise_any A n c l w2 HL2.out (by omega) b HBB.out) ?_
    rintro e3 w3 ⟨rfl, hb3⟩
    have HL3 := Lib.hid (HL2.out.kept hb3)
    have HS3 := Lib.hid (HS2.out.kept hb3)
    have HB3 := Lib.hid (HB2.out.trans (hb3.mono HB2.out.size))
    clear HL2 HS2 HB2 hb3
    cases b with
    | false =>
      go_wp2_with fail
      go_ret
      exact ⟨rfl, HB3.out⟩
    | true =>
      have HRL : Hid (Rs P2.k l) := Lib.hid (HBB.out.1 rfl)
      clear HBB
      go_wp2_with fail
      refine Calls.mono (few_any B m e s w3 HS3.out) ?_
      rintro e4 w4 ⟨rfl, hb4⟩
      have HL4 := Lib.hid (HL3.out.kept hb4)
      have HS4 := Lib.hid (HS3.out.kept hb4)
      have HB4 := Lib.hid (HB3.out.trans (hb4.mono HB3.out.size))
      clear HL3 HS3 HB3 hb4
      cases hf : fewB s with
      | false =>
        go_wp2_with fail
        go_ret
        exact ⟨rfl, HB4.out⟩
      | true =>
        have hm60 : m ≤ 60 := by have := fewB_len hf; omega
        clear hf
        obtain ⟨b', hb'⟩ := rs_or W3.k s
        have HBS := Lib.hid hb'
        clear hb'
        go_wp2_with fail
        refine Calls.mono (riseR_any B m e s w4 HS4.out (by omega) b' HBS.out) ?_
        rintro e5 w5 ⟨rfl, hb5⟩
        have HL5 := Lib.hid (HL4.out.kept hb5)
        have HS5 := Lib.hid (HS4.out.kept hb5)
        have HB5 := Lib.hid (HB4.out.trans (hb5.mono HB4.out.size))
        clear HL4 HS4 HB4 hb5
        cases b' with
        | false =>
          go_wp2_with fail
          go_ret
          exact ⟨rfl, HB5.out⟩
        | true =>
          have HRS : Hid (Rs W3.k s) := Lib.hid (HBS.out.1 rfl)
          clear HBS
          go_wp2_with fail
          refine Calls.mono (pairs_r A n c l w5 HL5.out (by omega)) ?_
          rintro e6 w6 ⟨A6, c6, rfl, H6⟩
          have HL6 := Lib.hid (HL5.out.kept H6.out.below)
          have HS6 := Lib.hid (HS5.out.kept H6.out.below)
          have HB6 := Lib.hid (HB5.out.trans (H6.out.below.mono HB5.out.size))
          clear HL5 HS5 HB5
          go_wp2_with fail
          refine Calls.mono (theirs_r B m e s w6 HS6.out (by omega)) ?_
          rintro e7 w7 ⟨B7, d7, rfl, H7⟩
          have HL7 := Lib.hid (HL6.out.kept H7.out.below)
          have HS7 := Lib.hid (HS6.out.kept H7.out.below)
          have HB7 := Lib.hid (HB6.out.trans (H7.out.below.mono HB6.out.size))
          have HP7 := Lib.hid (H6.out.rows.kept H7.out.below)
          clear HL6 HS6 HB6
          go_wp2_with fail
          refine Calls.mono (over_r A6 n c6 l B7 m d7 s w7 HP7.out (by omega) H6.out.le H7.out.rows (by omega) H7.out.le) ?_
          rintro e8 w8 ⟨C, q, f, rfl, H8, HQ8, hq8⟩
          have HL8 := Lib.hid (HL7.out.kept H8.out.below)
          have HS8 := Lib.hid (HS7.out.kept H8.out.below)
          have HB8 := Lib.hid (HB7.out.trans (H8.out.below.mono HB7.out.size))
          have HO8 := Lib.hid H8.out.rows
          have hqf := H8.out.le
          clear HL7 HS7 HB7 HP7 H6 H7 H8
          obtain ⟨O, hO⟩ : ∃ O, O = ovW l s := ⟨_, rfl⟩
          rw [← hO] at HO8 HQ8
          have HOO := Lib.hid hO
          clear hO
          go_wp2_with fail
          go_loopw [6, 36] (fun v6 v36 wr => ∃ i : Nat, i ≤ m ∧ v36 = .int .i64 i ∧ v6 = .int .i64 (liveN (s.take i)) ∧ Hid (Below w8.heap.size w8 wr)) (fun _ v36 _ => m - (intOf v36).toNat)
          case atStart => exact ⟨0, by omega, rfl, rfl, Lib.hid (Below.refl _ _)⟩
          case round =>
            obtain ⟨i, hi, rfl, rfl, HW⟩ := hrel
            have hlv : liveN (s.take i) ≤ 60 := by
              have := List.length_filter_le (fun x : W3 => !x.g) (s.take i)
              have h2 : (s.take i).length ≤ i := List.length_take_le _ _
              unfold liveN
              omega
            by_cases hin : i < m
            · obtain ⟨bb, off, rfl⟩ := HS8.out.addr (by omega)
              obtain ⟨x, hx⟩ : ∃ x, s[i]? = some x := ⟨s[i]'(by omega), List.getElem?_eq_getElem _⟩
              have hc := (HS8.out.kept HW.out).at hx
              have hc0 := hc 0 _ rfl
              have hc1 := hc 1 _ rfl
              have hc2 := hc 2 _ rfl
              simp only [Nat.add_zero] at hc0
              have HST := Lib.hid (live_step hx)
              have HBA : Hid (Below w8.heap.size w8 (wr.alloc (.cells #[.string x.k, .string x.t, .bool x.g] 41))) := Lib.hid (HW.out.alloc HW.out.size _)
              obtain ⟨cnt, hcnt⟩ : ∃ cnt, cnt = liveN (s.take i) := ⟨_, rfl⟩
              rw [← hcnt] at HST hlv ⊢
              clear hc hx hcnt
              cases hg : x.g with
              | true =>
                rw [hg] at hc2 HST HBA
                go_wp2_with fail
                go_roundw
                case rel => exact ⟨i + 1, by omega, by go_num, by rw [HST.out]; rfl, HBA⟩
                case measure => simp [intOf]; omega
              | false =>
                rw [hg] at hc2 HST HBA
                go_wp2_with fail
                go_roundw
                case rel => exact ⟨i + 1, by omega, by go_num, by rw [HST.out]; simp, HBA⟩
                case measure => simp [intOf]; omega
            · obtain rfl : i = m := by omega
              have HL9 := Lib.hid (HL8.out.kept HW.out)
              have HS9 := Lib.hid (HS8.out.kept HW.out)
              have HO9 := Lib.hid (HO8.out.kept HW.out)
              have HB9 := Lib.hid (HB8.out.trans (HW.out.mono HB8.out.size))
              have HCN : Hid (liveN (s.take i) = (ovW [] s).length) := Lib.hid (by rw [nil_len, List.take_of_length_le (by omega)])
              clear HL8 HS8 HO8 HB8 HW
              go_wp2_with fail
              refine Calls.mono (theirs_r B i e s wr HS9.out (by omega)) ?_
              rintro e10 w10 ⟨B10, d10, rfl, H10⟩
              have HL10 := Lib.hid (HL9.out.kept H10.out.below)
              have HS10 := Lib.hid (HS9.out.kept H10.out.below)
              have HB10 := Lib.hid (HB9.out.trans (H10.out.below.mono HB9.out.size))
              clear HL9 HS9 HB9
              have HO10 := Lib.hid (HO9.out.kept H10.out.below)
              clear HO9
              go_wp2_with fail
              refine Calls.mono (over_r C q f O B10 i d10 s w10 HO10.out (by omega) hqf H10.out.rows (by omega) H10.out.le) ?_
              rintro e11 w11 ⟨C11, q11, f11, rfl, H11, HQ11, hq11⟩
              have HL11 := Lib.hid (HL10.out.kept H11.out.below)
              have HS11 := Lib.hid (HS10.out.kept H11.out.below)
              have HB11 := Lib.hid (HB10.out.trans (H11.out.below.mono HB10.out.size))
              clear HL10 HS10 HB10
              have HO11 := Lib.hid (HO10.out.kept H11.out.below)
              clear HO10 H10
              go_wp2_with fail
              refine Calls.mono (back_r C11 q11 f11 _ w11 H11.out.rows (by omega)) ?_
              rintro e12 w12 ⟨C12, f12, rfl, H12⟩
              have HL12 := Lib.hid (HL11.out.kept H12.out.below)
              have HS12 := Lib.hid (HS11.out.kept H12.out.below)
              have HB12 := Lib.hid (HB11.out.trans (H12.out.below.mono HB11.out.size))
              clear HL11 HS11 HB11
              have HO12 := Lib.hid (HO11.out.kept H12.out.below)
              clear HO11 H11
              go_wp2_with fail
              refine Calls.mono (back_r C q f O w12 HO12.out (by omega)) ?_
              rintro e13 w13 ⟨C13, f13, rfl, H13⟩
              have HL13 := Lib.hid (HL12.out.kept H13.out.below)
              have HS13 := Lib.hid (HS12.out.kept H13.out.below)
              have HB13 := Lib.hid (HB12.out.trans (H13.out.below.mono HB12.out.size))
              clear HL12 HS12 HB12
              have HX13 := Lib.hid (H12.out.rows.kept H13.out.below)
              clear HO12 H12
              go_wp2_with fail
              refine Calls.mono (samePairs_any C12 C13 q11 q f12 f13 (ovW O s) O w13 HX13.out H13.out.rows (by omega) true (by rw [HOO.out, twice_eq HRL.out HRS.out]; simp)) ?_
              rintro e14 w14 ⟨rfl, hb14⟩
              have HL14 := Lib.hid (HL13.out.kept hb14)
              have HS14 := Lib.hid (HS13.out.kept hb14)
              have HB14 := Lib.hid (HB13.out.trans (hb14.mono HB13.out.size))
              clear HL13 HS13 HB13 hb14
              clear HX13 H13 HQ11 hq11
              go_wp2_with fail
              refine Calls.mono (theirs_r B i e s w14 HS14.out (by omega)) ?_
              rintro e15 w15 ⟨B15, d15, rfl, H15⟩
              have HL15 := Lib.hid (HL14.out.kept H15.out.below)
              have HS15 := Lib.hid (HS14.out.kept H15.out.below)
              have HB15 := Lib.hid (HB14.out.trans (H15.out.below.mono HB14.out.size))
              clear HL14 HS14 HB14
              go_wp2_with fail
              refine Calls.mono (over_r none 0 0 [] B15 i d15 s w15 (RowsOf.nil _ _ _) (by omega) (by omega) H15.out.rows (by omega) H15.out.le) ?_
              rintro e16 w16 ⟨C16, q16, f16, rfl, H16, HQ16, hq16⟩
              have HL16 := Lib.hid (HL15.out.kept H16.out.below)
              have HS16 := Lib.hid (HS15.out.kept H16.out.below)
              have HB16 := Lib.hid (HB15.out.trans (H16.out.below.mono HB15.out.size))
              clear HL15 HS15 HB15
              have hqc : ((q16 : Int) == (liveN (s.take i) : Int)) = true := by have h1 := HQ16.out; have h2 := HCN.out; rw [h2, h1]; simp
              clear H15 H16
              go_wp2_with fail
              refine Calls.mono (pairs_r A n c l w16 HL16.out (by omega)) ?_
              rintro e17 w17 ⟨A17, c17, rfl, H17⟩
              have HL17 := Lib.hid (HL16.out.kept H17.out.below)
              have HS17 := Lib.hid (HS16.out.kept H17.out.below)
              have HB17 := Lib.hid (HB16.out.trans (H17.out.below.mono HB16.out.size))
              clear HL16 HS16 HB16
              go_wp2_with fail
              refine Calls.mono (over_r A17 n c17 l none 0 0 [] w17 H17.out.rows (by omega) H17.out.le (RowsOf.nil _ _ _) (by omega) (by omega)) ?_
              rintro e18 w18 ⟨C18, q18, f18, rfl, H18, HQ18, hq18⟩
              have HL18 := Lib.hid (HL17.out.kept H18.out.below)
              have HS18 := Lib.hid (HS17.out.kept H18.out.below)
              have HB18 := Lib.hid (HB17.out.trans (H18.out.below.mono HB17.out.size))
              clear HL17 HS17 HB17
              go_wp2_with fail
              refine Calls.mono (back_r C18 q18 f18 _ w18 H18.out.rows (by omega)) ?_
              rintro e19 w19 ⟨C19, f19, rfl, H19⟩
              have HL19 := Lib.hid (HL18.out.kept H19.out.below)
              have HS19 := Lib.hid (HS18.out.kept H19.out.below)
              have HB19 := Lib.hid (HB18.out.trans (H19.out.below.mono HB18.out.size))
              clear HL18 HS18 HB18
              go_wp2_with fail
              refine Calls.mono (samePairs_any C19 A q18 n f19 c (ovW l []) l w19 H19.out.rows HL19.out (by omega) true (by rw [ovW_nil]; simp)) ?_
              rintro e20 w20 ⟨rfl, hb20⟩
              have HB20 := Lib.hid (HB19.out.trans (hb20.mono HB19.out.size))
              clear hqc
              go_wp2_with fail
              go_ret
              exact ⟨rfl, HB20.out⟩


theorem own : ownKnob Try.prog.godebug = none := by kernel_rfl
theorem laidOut : laidOutB Try.prog = true := by kernel_rfl

set_option maxRecDepth 100000 in
theorem lifted (os : Os) (started : os.Started) (H : Type) (enc : TypeId × Value → H) :
    ReturnsInHanded {} Try.checked os 7 .any (Rows.wsetTwiceSpec.pre6 enc Try.prog Try.f7 Rows.wsetTwiceRow.domain false) (Rows.wsetTwiceSpec.post enc Try.prog Try.f7 false true false false) := by
  refine returnsInHanded_of_change (C := Try.checked) own started (by kernel_rfl) Try.func7
    (ChangeSpec.witness6 (enc := enc) (C := Try.checked) false ⟨#[], #[.slice none 0 0, .slice none 0 0], []⟩ 8 (by kernel_rfl) (by kernel_rfl) (by kernel_rfl) (by kernel_rfl)) ?_
  intro W base args ds gs before hval0 hW hcnd _
  have hval : ∀ (j : Nat) t v, Try.f7.params[j]? = some t → args[j]? = some v → Value.okWide Try.prog W .any base t v := hval0
  have hW' := hW
  obtain ⟨p, q, hA0, hV, rfl, hfz, hnd⟩ := hW
  have hA : DataW.TrodAll enc Try.prog W 0 (fun _ => true) true Try.f7.params.toList args.toList ds p := hA0
  rw [Try.params7] at hA hval
  obtain ⟨v0, vs0, d0, ds0, p0, q0, hargs, rfl, rfl, h0, r0⟩ := trodAll_cons hA
  obtain ⟨v1, vs1, d1, ds1, p1, q1, rfl, rfl, rfl, h1, r1⟩ := trodAll_cons r0
  obtain ⟨rfl, rfl, rfl⟩ := trodAll_nil r1
  obtain rfl : args = #[v0, v1] := by cases args; simp_all
  obtain ⟨rfl, rfl⟩ := trodVars_none hV
  clear hA0 hval0
  have lt0 : ∀ x ∈ p0, x.block < W.heap.size := by obtain ⟨m, hm⟩ := h0; exact DataW.trod_lt m _ _ _ hm
  have lt1 : ∀ x ∈ p1, x.block < W.heap.size := by obtain ⟨m, hm⟩ := h1; exact DataW.trod_lt m _ _ _ hm
  simp only [List.append_nil] at hW'
  refine Calls.mono (walk W h0 (hval 0 22 v0 rfl rfl) h1 (hval 1 23 v1 rfl rfl)) ?_
  rintro e W' ⟨rfl, bel⟩
  exact ⟨_, rfl, Post.post_below (pa := _) (pv := []) hW' (fun _ _ _ => (trodAll_cons_mk (shut_bool Try.underlying4 _) trodAll_mk0)) (fun sp hsp => (trodAll_cons_mk (WideElems.Trod_stays laidOut (by kernel_rfl) (of_decide_eq_true (by kernel_rfl)) h0 (fun x hx => bel.same (lt0 x hx)) (fun x hx => hsp x (by simp [hx]))) (trodAll_cons_mk (WideElems.Trod_stays laidOut (by kernel_rfl) (of_decide_eq_true (by kernel_rfl)) h1 (fun x hx => bel.same (lt1 x hx)) (fun x hx => hsp x (by simp [hx]))) trodAll_mk0))) (fun _ _ => rfl) (by simp)
    bel (ok_one (by kernel_rfl) rfl (okWide_bool_mk Try.underlying4 _))⟩

theorem over : Rows.wsetTwiceRow.holds Try.pinned (OpenSpec.ofChange Rows.wsetTwiceSpec) :=
  OpenClaim.holds_of_wide 7 Try.f7 rfl rfl rfl rfl rfl rfl rfl ⟨rfl, rfl, rfl, rfl, rfl⟩ rfl rfl rfl rfl rfl (by kernel_rfl) Try.func7 (by kernel_rfl)
    (of_decide_eq_true (by kernel_rfl)) (by unfold Func.isWrapper; first | (rw [if_pos (by decide +kernel)]; kernel_rfl) | (rw [if_neg (by decide +kernel)]; exact ⟨rfl, rfl⟩))
    (fun os started H enc _ => lifted os started H enc)

/-- The statement. -/
theorem proved : Rows.WsetTwiceSaid :=
  over

end Go.Proofs.Ythbmjhdgflpmgaa.wsetTwice
