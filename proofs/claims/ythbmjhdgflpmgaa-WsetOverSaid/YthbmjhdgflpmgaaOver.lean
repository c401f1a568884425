/- WsetOver: what any set makes of any pairs is the document's, by rising keys. No condition. -/
import Derived.Test.YthbmjhdgflpmgaaRows
import Derived.Test.YthbmjhdgflpmgaaROver
import Derived.Test.YthbmjhdgflpmgaaPost
import Derived.Carry
namespace Go.Proofs.Ythbmjhdgflpmgaa.wsetOver
open Go.ChangeShapes Go.WideShapes Go.ChangeAt Go.RowKit Go.Proofs.Ythbmjhdgflpmgaa.Mem Go.Proofs.Ythbmjhdgflpmgaa.Read Go.Proofs.Ythbmjhdgflpmgaa.Out Go.Proofs.Ythbmjhdgflpmgaa.Copy Go.Proofs.Ythbmjhdgflpmgaa.Key Go.Proofs.Ythbmjhdgflpmgaa.Set Go.Proofs.Ythbmjhdgflpmgaa.Rows3 Go.Proofs.Ythbmjhdgflpmgaa.At15 Go.Proofs.Ythbmjhdgflpmgaa.Res Go.Proofs.Ythbmjhdgflpmgaa.Get15 Go.Proofs.Ythbmjhdgflpmgaa.Put15 Go.Proofs.Ythbmjhdgflpmgaa.Meet15 Go.Proofs.Ythbmjhdgflpmgaa.Over15 Go.Proofs.Ythbmjhdgflpmgaa.Conv Go.Proofs.Ythbmjhdgflpmgaa.Rise Go.Proofs.Ythbmjhdgflpmgaa.Same3 Go.Proofs.Ythbmjhdgflpmgaa.Few15 Go.Proofs.Ythbmjhdgflpmgaa.Open15 Go.Proofs.Ythbmjhdgflpmgaa.Alive15 Go.Proofs.Ythbmjhdgflpmgaa.Ref15 Go.Proofs.Ythbmjhdgflpmgaa.ROver
open Go.Proofs.Ythbmjhdgflpmgaa.wsetTwice (ovW_rs)

set_option maxHeartbeats 2000000 in
set_option maxRecDepth 100000 in
theorem walk {H : Type} {enc : TypeId × Value → H} (W : World) {base : Nat} {v v1 : Value} {d d1 : DataW H} {p p1 : List MemPlace} (h : DataW.Trod enc Try.prog W 0 (fun _ => true) true 22 v d p) (ho : Value.okWide Try.prog W .any base 22 v)
    (h1 : DataW.Trod enc Try.prog W 0 (fun _ => true) true 23 v1 d1 p1) (ho1 : Value.okWide Try.prog W .any base 23 v1) :
    Calls Try.prog 3 #[v, v1] W fun e W' => e = .returned (.bool true) ∧ Below W.heap.size W W' := by
  obtain ⟨A, n, c, l, rfl, hl⟩ := prs_open h ho
  obtain ⟨B, m, e, s, rfl, hs⟩ := wrs_open h1 ho1
  have HL := Lib.hid hl
  have HS := Lib.hid hs
  have hln := hl.1
  have hsn := hs.1
  clear h ho h1 ho1 hl hs
  go_enter Try.func3, Try.ntmps3
  go_wp2_with fail
  refine Calls.mono (alive_true W) ?_
  rintro e2 w2 ⟨rfl, hb2⟩
  have HL2 := Lib.hid (HL.out.kept hb2)
  have HS2 := Lib.hid (HS.out.kept hb2)
  have HB2 := Lib.hid hb2
  clear HL HS hb2
  by_cases h60 : 60 < n
  · have b60 : decide ((60 : Int) < n) = true := decide_eq_true (by omega)
    go_wp2_with fail
    go_ret
    exact ⟨rfl, HB2.out⟩
  · have b60 : decide ((60 : Int) < n) = false := decide_eq_false (by omega)
    obtain ⟨b, hb⟩ := rs_or P2.k l
    have HBB := Lib.hid hb
    clear hb
    go_wp2_with fail
    refine Calls.mono (rise_any A n c l w2 HL2.out (by omega) b HBB.out) ?_
    rintro e3 w3 ⟨rfl, hb3⟩
    have HL3 := Lib.hid (HL2.out.kept hb3)
    have HS3 := Lib.hid (HS2.out.kept hb3)
    have HB3 := Lib.hid (HB2.out.trans (hb3.mono HB2.out.size))
    clear HL2 HS2 HB2 hb3
    cases b with
    | false =>
      go_wp2_with fail
      go_ret
      exact ⟨rfl, HB3.out⟩
    | true =>
      have HRL : Hid (Rs P2.k l) := Lib.hid (HBB.out.1 rfl)
      clear HBB
      go_wp2_with fail
      refine Calls.mono (few_any B m e s w3 HS3.out) ?_
      rintro e4 w4 ⟨rfl, hb4⟩
      have HL4 := Lib.hid (HL3.out.kept hb4)
      have HS4 := Lib.hid (HS3.out.kept hb4)
      have HB4 := Lib.hid (HB3.out.trans (hb4.mono HB3.out.size))
      clear HL3 HS3 HB3 hb4
      cases hf : fewB s with
      | false =>
        go_wp2_with fail
        go_ret
        exact ⟨rfl, HB4.out⟩
      | true =>
        have hm60 : m ≤ 60 := by have := fewB_len hf; omega
        clear hf
        obtain ⟨b', hb'⟩ := rs_or W3.k s
        have HBS := Lib.hid hb'
        clear hb'
        go_wp2_with fail
        refine Calls.mono (riseR_any B m e s w4 HS4.out (by omega) b' HBS.out) ?_
        rintro e5 w5 ⟨rfl, hb5⟩
        have HL5 := Lib.hid (HL4.out.kept hb5)
        have HS5 := Lib.hid (HS4.out.kept hb5)
        have HB5 := Lib.hid (HB4.out.trans (hb5.mono HB4.out.size))
        clear HL4 HS4 HB4 hb5
        cases b' with
        | false =>
          go_wp2_with fail
          go_ret
          exact ⟨rfl, HB5.out⟩
        | true =>
          have HRS : Hid (Rs W3.k s) := Lib.hid (HBS.out.1 rfl)
          clear HBS
          go_wp2_with fail
          go_loopw [30] (fun v30 wr => ∃ i : Nat, i ≤ n ∧ v30 = .int .i64 i ∧ Hid (Below w5.heap.size w5 wr)) (fun v30 _ => n - (intOf v30).toNat)
          case atStart => exact ⟨0, by omega, rfl, Lib.hid (Below.refl _ _)⟩
          case round =>
            obtain ⟨i, hi, rfl, HW⟩ := hrel
            by_cases hin : i < n
            · obtain ⟨bb, off, rfl⟩ := HL5.out.addr (by omega)
              obtain ⟨x, hx⟩ : ∃ x, l[i]? = some x := ⟨l[i]'(by omega), List.getElem?_eq_getElem _⟩
              have hc := (HL5.out.kept HW.out).at hx
              have hc0 := hc 0 _ rfl
              have hc1 := hc 1 _ rfl
              simp only [Nat.add_zero] at hc0
              have HBA : Hid (Below w5.heap.size w5 (wr.alloc (.cells #[.string x.k, .string x.t] 28))) := Lib.hid (HW.out.alloc HW.out.size _)
              clear hc hx
              by_cases h1 : x.k.size ≤ 100
              · have b1 : decide ((100 : Int) < x.k.size) = false := decide_eq_false (by omega)
                by_cases h2 : x.t.size ≤ 100
                · have b2 : decide ((100 : Int) < x.t.size) = false := decide_eq_false (by omega)
                  go_wp2_with fail
                  go_roundw
                  case rel => exact ⟨i + 1, by omega, by go_num, HBA⟩
                  case measure => simp [intOf]; omega
                · have b2 : decide ((100 : Int) < x.t.size) = true := decide_eq_true (by omega)
                  go_wp2_with fail
                  go_ret
                  exact ⟨rfl, HB5.out.trans (HBA.out.mono HB5.out.size)⟩
              · have b1 : decide ((100 : Int) < x.k.size) = true := decide_eq_true (by omega)
                go_wp2_with fail
                go_ret
                exact ⟨rfl, HB5.out.trans (HBA.out.mono HB5.out.size)⟩
            · obtain rfl : i = n := by omega
              have HL6 := Lib.hid (HL5.out.kept HW.out)
              have HS6 := Lib.hid (HS5.out.kept HW.out)
              have HB6 := Lib.hid (HB5.out.trans (HW.out.mono HB5.out.size))
              clear HL5 HS5 HB5 HW
              go_wp2_with fail
              refine Calls.mono (pairs_r A i c l wr HL6.out (by omega)) ?_
              rintro e7 w7 ⟨A7, c7, rfl, H7⟩
              have HL7 := Lib.hid (HL6.out.kept H7.out.below)
              have HS7 := Lib.hid (HS6.out.kept H7.out.below)
              have HB7 := Lib.hid (HB6.out.trans (H7.out.below.mono HB6.out.size))
              clear HL6 HS6 HB6
              go_wp2_with fail
              refine Calls.mono (theirs_r B m e s w7 HS7.out (by omega)) ?_
              rintro e8 w8 ⟨B8, d8, rfl, H8⟩
              have HL8 := Lib.hid (HL7.out.kept H8.out.below)
              have HS8 := Lib.hid (HS7.out.kept H8.out.below)
              have HB8 := Lib.hid (HB7.out.trans (H8.out.below.mono HB7.out.size))
              clear HL7 HS7 HB7
              have HP8 := Lib.hid (H7.out.rows.kept H8.out.below)
              have hle7 := H7.out.le
              clear H7
              go_wp2_with fail
              refine Calls.mono (over_r A7 i c7 l B8 m d8 s w8 HP8.out (by omega) hle7 H8.out.rows (by omega) H8.out.le) ?_
              rintro e9 w9 ⟨C, q, f, rfl, H9, HQ9, hq9⟩
              have HL9 := Lib.hid (HL8.out.kept H9.out.below)
              have HS9 := Lib.hid (HS8.out.kept H9.out.below)
              have HB9 := Lib.hid (HB8.out.trans (H9.out.below.mono HB8.out.size))
              clear HL8 HS8 HB8
              clear HP8 H8
              go_wp2_with fail
              refine Calls.mono (back_r C q f _ w9 H9.out.rows (by omega)) ?_
              rintro e10 w10 ⟨X, g, rfl, H10⟩
              have HL10 := Lib.hid (HL9.out.kept H10.out.below)
              have HS10 := Lib.hid (HS9.out.kept H10.out.below)
              have HB10 := Lib.hid (HB9.out.trans (H10.out.below.mono HB9.out.size))
              clear HL9 HS9 HB9
              have HX10 := Lib.hid H10.out.rows
              clear H9 H10
              go_wp2_with fail
              refine Calls.mono (rover_any A i c l B m e s w10 HL10.out (by omega) HS10.out (by omega) HRL.out HRS.out) ?_
              rintro e11 w11 ⟨v11, q11, rfl, HO11, HQ11⟩
              have hq11 : q11 ≤ 1000 := by
                have h1 := HQ11.out
                rw [rov_eq HRL.out HRS.out, HQ9.out] at h1
                omega
              obtain ⟨Y, y, rfl, H11⟩ := rd_of P2.len HO11.out HQ11.out (by omega)
              have HRD := Lib.hid H11.rows
              have HX11 := Lib.hid (HX10.out.kept H11.below)
              have HB11 := Lib.hid (HB10.out.trans (H11.below.mono HB10.out.size))
              clear H11 HO11 HX10 HL10 HS10 HB10
              go_wp2_with fail
              refine Calls.mono (samePairs_any X Y q q11 g y (ovW l s) (rov l s) w11 HX11.out HRD.out (by omega) true (by rw [rov_eq HRL.out HRS.out]; simp)) ?_
              rintro e12 w12 ⟨rfl, hb12⟩
              have HX12 := Lib.hid (HX11.out.kept hb12)
              have HB12 := Lib.hid (HB11.out.trans (hb12.mono HB11.out.size))
              clear HX11 HRD HB11 hb12
              go_wp2_with fail
              refine Calls.mono (rise_any X q g (ovW l s) w12 HX12.out (by omega) true (by simpa using (ovW_rs HRL.out HRS.out).1)) ?_
              rintro e13 w13 ⟨rfl, hb13⟩
              have HB13 := Lib.hid (HB12.out.trans (hb13.mono HB12.out.size))
              clear hb13
              go_wp2_with fail
              go_ret
              exact ⟨rfl, HB13.out⟩


theorem own : ownKnob Try.prog.godebug = none := by kernel_rfl
theorem laidOut : laidOutB Try.prog = true := by kernel_rfl

set_option maxRecDepth 100000 in
theorem lifted (os : Os) (started : os.Started) (H : Type) (enc : TypeId × Value → H) :
    ReturnsInHanded {} Try.checked os 3 .any (Rows.wsetOverSpec.pre6 enc Try.prog Try.f3 Rows.wsetOverRow.domain false) (Rows.wsetOverSpec.post enc Try.prog Try.f3 false true false false) := by
  refine returnsInHanded_of_change (C := Try.checked) own started (by kernel_rfl) Try.func3
    (ChangeSpec.witness6 (enc := enc) (C := Try.checked) false ⟨#[], #[.slice none 0 0, .slice none 0 0], []⟩ 8 (by kernel_rfl) (by kernel_rfl) (by kernel_rfl) (by kernel_rfl)) ?_
  intro W base args ds gs before hval0 hW hcnd _
  have hval : ∀ (j : Nat) t v, Try.f3.params[j]? = some t → args[j]? = some v → Value.okWide Try.prog W .any base t v := hval0
  have hW' := hW
  obtain ⟨p, q, hA0, hV, rfl, hfz, hnd⟩ := hW
  have hA : DataW.TrodAll enc Try.prog W 0 (fun _ => true) true Try.f3.params.toList args.toList ds p := hA0
  rw [Try.params3] at hA hval
  obtain ⟨v0, vs0, d0, ds0, p0, q0, hargs, rfl, rfl, h0, r0⟩ := trodAll_cons hA
  obtain ⟨v1, vs1, d1, ds1, p1, q1, rfl, rfl, rfl, h1, r1⟩ := trodAll_cons r0
  obtain ⟨rfl, rfl, rfl⟩ := trodAll_nil r1
  obtain rfl : args = #[v0, v1] := by cases args; simp_all
  obtain ⟨rfl, rfl⟩ := trodVars_none hV
  clear hA0 hval0
  have lt0 : ∀ x ∈ p0, x.block < W.heap.size := by obtain ⟨m, hm⟩ := h0; exact DataW.trod_lt m _ _ _ hm
  have lt1 : ∀ x ∈ p1, x.block < W.heap.size := by obtain ⟨m, hm⟩ := h1; exact DataW.trod_lt m _ _ _ hm
  simp only [List.append_nil] at hW'
  refine Calls.mono (walk W h0 (hval 0 22 v0 rfl rfl) h1 (hval 1 23 v1 rfl rfl)) ?_
  rintro e W' ⟨rfl, bel⟩
  exact ⟨_, rfl, Post.post_below (pa := _) (pv := []) hW' (fun _ _ _ => (trodAll_cons_mk (shut_bool Try.underlying4 _) trodAll_mk0)) (fun sp hsp => (trodAll_cons_mk (WideElems.Trod_stays laidOut (by kernel_rfl) (of_decide_eq_true (by kernel_rfl)) h0 (fun x hx => bel.same (lt0 x hx)) (fun x hx => hsp x (by simp [hx]))) (trodAll_cons_mk (WideElems.Trod_stays laidOut (by kernel_rfl) (of_decide_eq_true (by kernel_rfl)) h1 (fun x hx => bel.same (lt1 x hx)) (fun x hx => hsp x (by simp [hx]))) trodAll_mk0))) (fun _ _ => rfl) (by simp)
    bel (ok_one (by kernel_rfl) rfl (okWide_bool_mk Try.underlying4 _))⟩

theorem over : Rows.wsetOverRow.holds Try.pinned (OpenSpec.ofChange Rows.wsetOverSpec) :=
  OpenClaim.holds_of_wide 3 Try.f3 rfl rfl rfl rfl rfl rfl rfl ⟨rfl, rfl, rfl, rfl, rfl⟩ rfl rfl rfl rfl rfl (by kernel_rfl) Try.func3 (by kernel_rfl)
    (of_decide_eq_true (by kernel_rfl)) (by unfold Func.isWrapper; first | (rw [if_pos (by decide +kernel)]; kernel_rfl) | (rw [if_neg (by decide +kernel)]; exact ⟨rfl, rfl⟩))
    (fun os started H enc _ => lifted os started H enc)

/-- The statement. -/
theorem proved : Rows.WsetOverSaid :=
  over

end Go.Proofs.Ythbmjhdgflpmgaa.wsetOver
