/- WsetBoth: Over of two sets, one behind the other, is as of both together. No condition. -/
import Derived.Test.YthbmjhdgflpmgaaTwice
import Derived.Test.YthbmjhdgflpmgaaMeets
namespace Go.Proofs.Ythbmjhdgflpmgaa.wsetBoth
open Go.ChangeShapes Go.WideShapes Go.ChangeAt Go.RowKit Go.Proofs.Ythbmjhdgflpmgaa.Mem Go.Proofs.Ythbmjhdgflpmgaa.Read Go.Proofs.Ythbmjhdgflpmgaa.Out Go.Proofs.Ythbmjhdgflpmgaa.Copy Go.Proofs.Ythbmjhdgflpmgaa.Key Go.Proofs.Ythbmjhdgflpmgaa.Set Go.Proofs.Ythbmjhdgflpmgaa.Rows3 Go.Proofs.Ythbmjhdgflpmgaa.At15 Go.Proofs.Ythbmjhdgflpmgaa.Res Go.Proofs.Ythbmjhdgflpmgaa.Get15 Go.Proofs.Ythbmjhdgflpmgaa.Put15 Go.Proofs.Ythbmjhdgflpmgaa.Meet15 Go.Proofs.Ythbmjhdgflpmgaa.Over15 Go.Proofs.Ythbmjhdgflpmgaa.Conv Go.Proofs.Ythbmjhdgflpmgaa.Rise Go.Proofs.Ythbmjhdgflpmgaa.Same3 Go.Proofs.Ythbmjhdgflpmgaa.Few15 Go.Proofs.Ythbmjhdgflpmgaa.Open15 Go.Proofs.Ythbmjhdgflpmgaa.Alive15
open Go.Proofs.Ythbmjhdgflpmgaa.wsetTwice (ovW_rs)

/-- All of b put to a. -/
def puts (a b : List W3) : List W3 := b.foldl (Set.put W3.k) a

theorem puts_rs {a : List W3} (ha : Rs W3.k a) (b : List W3) : Rs W3.k (puts a b) := by
  induction b generalizing a with
  | nil => exact ha
  | cons x t ih => exact ih (put_rs ha x)

theorem lk_puts {a : List W3} (ha : Rs W3.k a) {b : List W3} (hb : Rs W3.k b) (k : ByteArray) : lk W3.k (puts a b) k = (lk W3.k b k).or (lk W3.k a k) := by
  induction b generalizing a with
  | nil => rfl
  | cons x t ih =>
    show lk W3.k (puts (Set.put W3.k a x) t) k = _
    rw [ih (put_rs ha x) hb.tail, lk_put ha, lk_cons]
    by_cases e : x.k = k
    · rw [if_pos e, if_pos e, lk_none (fun y hy e2 => kl_ne (hb.head hy) (e.trans e2.symm))]
      rfl
    · rw [if_neg e, if_neg e]

theorem puts_snoc (a b : List W3) (x : W3) : puts a (b ++ [x]) = Set.put W3.k (puts a b) x := by simp [puts]

theorem both_eq {l : List P2} {a b : List W3} (hl : Rs P2.k l) (ha : Rs W3.k a) (hb : Rs W3.k b) : ovW (ovW l a) b = ovW l (puts a b) := by
  obtain ⟨h1, h2⟩ := ovW_rs hl ha
  obtain ⟨h3, h4⟩ := ovW_rs h1 hb
  obtain ⟨h5, h6⟩ := ovW_rs hl (puts_rs ha b)
  refine rs_ext h3 h5 (fun k => ?_)
  rw [h4, h2, h6, lk_puts ha hb]
  cases lk W3.k b k with
  | none => rfl
  | some w => rfl


set_option maxHeartbeats 4000000 in
set_option maxRecDepth 100000 in
theorem walk {H : Type} {enc : TypeId × Value → H} (W : World) {base : Nat} {v v1 v2 : Value} {d d1 d2 : DataW H} {p p1 p2 : List MemPlace} (h : DataW.Trod enc Try.prog W 0 (fun _ => true) true 22 v d p) (ho : Value.okWide Try.prog W .any base 22 v)
    (h1 : DataW.Trod enc Try.prog W 0 (fun _ => true) true 23 v1 d1 p1) (ho1 : Value.okWide Try.prog W .any base 23 v1)
    (h2 : DataW.Trod enc Try.prog W 0 (fun _ => true) true 23 v2 d2 p2) (ho2 : Value.okWide Try.prog W .any base 23 v2) :
    Calls Try.prog 5 #[v, v1, v2] W fun e W' => e = .returned (.bool true) ∧ Below W.heap.size W W' := by
  obtain ⟨L, nl, cl, l, rfl, hl⟩ := prs_open h ho
  obtain ⟨A, n, c, s, rfl, hs⟩ := wrs_open h1 ho1
  obtain ⟨B, m, e, o, rfl, hO⟩ := wrs_open h2 ho2
  have hln := hl.1
  have hsn := hs.1
  have hon := hO.1
  have HL0 := Lib.hid hl
  have HS0 := Lib.hid hs
  have HO0 := Lib.hid hO
  have HB0 := Lib.hid (Below.refl W.heap.size W)
  clear h ho h1 ho1 h2 ho2 hs hO hl
  go_enter Try.func5, Try.ntmps5
  go_wp2_with fail
  refine Calls.mono (alive_true W) ?_
  rintro e1 w1 ⟨rfl, hb1⟩
  have HL1 := Lib.hid (HL0.out.kept hb1)
  have HS1 := Lib.hid (HS0.out.kept hb1)
  have HO1 := Lib.hid (HO0.out.kept hb1)
  have HB1 := Lib.hid (HB0.out.trans ((hb1).mono HB0.out.size))
  clear HL0 HS0 HO0 HB0
  clear hb1
  by_cases h60 : 60 < nl
  · have b60 : decide ((60 : Int) < nl) = true := decide_eq_true (by omega)
    go_wp2_with fail
    go_ret
    exact ⟨rfl, HB1.out⟩
  have b60 : decide ((60 : Int) < nl) = false := decide_eq_false (by omega)
  obtain ⟨b, hb⟩ := rs_or P2.k l
  have HBB := Lib.hid hb
  clear hb
  go_wp2_with fail
  refine Calls.mono (rise_any L nl cl l w1 HL1.out (by omega) b HBB.out) ?_
  rintro e2 w2 ⟨rfl, hb2⟩
  have HL2 := Lib.hid (HL1.out.kept hb2)
  have HS2 := Lib.hid (HS1.out.kept hb2)
  have HO2 := Lib.hid (HO1.out.kept hb2)
  have HB2 := Lib.hid (HB1.out.trans ((hb2).mono HB1.out.size))
  clear HL1 HS1 HO1 HB1
  clear hb2
  cases b with
  | false =>
    go_wp2_with fail
    go_ret
    exact ⟨rfl, HB2.out⟩
  | true =>
  have HRL : Hid (Rs P2.k l) := Lib.hid (HBB.out.1 rfl)
  clear HBB
  go_wp2_with fail
  refine Calls.mono (few_any A n c s w2 HS2.out) ?_
  rintro e3 w3 ⟨rfl, hb3⟩
  have HL3 := Lib.hid (HL2.out.kept hb3)
  have HS3 := Lib.hid (HS2.out.kept hb3)
  have HO3 := Lib.hid (HO2.out.kept hb3)
  have HB3 := Lib.hid (HB2.out.trans ((hb3).mono HB2.out.size))
  clear HL2 HS2 HO2 HB2
  clear hb3
  cases hf : fewB s with
  | false =>
    go_wp2_with fail
    go_ret
    exact ⟨rfl, HB3.out⟩
  | true =>
  have hn60 : n ≤ 60 := by have := fewB_len hf; omega
  clear hf
  go_wp2_with fail
  refine Calls.mono (few_any B m e o w3 HO3.out) ?_
  rintro e4 w4 ⟨rfl, hb4⟩
  have HL4 := Lib.hid (HL3.out.kept hb4)
  have HS4 := Lib.hid (HS3.out.kept hb4)
  have HO4 := Lib.hid (HO3.out.kept hb4)
  have HB4 := Lib.hid (HB3.out.trans ((hb4).mono HB3.out.size))
  clear HL3 HS3 HO3 HB3
  clear hb4
  cases hf : fewB o with
  | false =>
    go_wp2_with fail
    go_ret
    exact ⟨rfl, HB4.out⟩
  | true =>
  have hm60 : m ≤ 60 := by have := fewB_len hf; omega
  clear hf
  obtain ⟨b, hb⟩ := rs_or W3.k s
  have HBB := Lib.hid hb
  clear hb
  go_wp2_with fail
  refine Calls.mono (riseR_any A n c s w4 HS4.out (by omega) b HBB.out) ?_
  rintro e5 w5 ⟨rfl, hb5⟩
  have HL5 := Lib.hid (HL4.out.kept hb5)
  have HS5 := Lib.hid (HS4.out.kept hb5)
  have HO5 := Lib.hid (HO4.out.kept hb5)
  have HB5 := Lib.hid (HB4.out.trans ((hb5).mono HB4.out.size))
  clear HL4 HS4 HO4 HB4
  clear hb5
  cases b with
  | false =>
    go_wp2_with fail
    go_ret
    exact ⟨rfl, HB5.out⟩
  | true =>
  have HRS : Hid (Rs W3.k s) := Lib.hid (HBB.out.1 rfl)
  clear HBB
  obtain ⟨b, hb⟩ := rs_or W3.k o
  have HBB := Lib.hid hb
  clear hb
  go_wp2_with fail
  refine Calls.mono (riseR_any B m e o w5 HO5.out (by omega) b HBB.out) ?_
  rintro e6 w6 ⟨rfl, hb6⟩
  have HL6 := Lib.hid (HL5.out.kept hb6)
  have HS6 := Lib.hid (HS5.out.kept hb6)
  have HO6 := Lib.hid (HO5.out.kept hb6)
  have HB6 := Lib.hid (HB5.out.trans ((hb6).mono HB5.out.size))
  clear HL5 HS5 HO5 HB5
  clear hb6
  cases b with
  | false =>
    go_wp2_with fail
    go_ret
    exact ⟨rfl, HB6.out⟩
  | true =>
  have HRO : Hid (Rs W3.k o) := Lib.hid (HBB.out.1 rfl)
  clear HBB
  go_wp2_with fail
  refine Calls.mono (theirs_r A n c s w6 HS6.out (by omega)) ?_
  rintro e7 w7 ⟨A7, c7, rfl, H7⟩
  have HL7 := Lib.hid (HL6.out.kept H7.out.below)
  have HS7 := Lib.hid (HS6.out.kept H7.out.below)
  have HO7 := Lib.hid (HO6.out.kept H7.out.below)
  have HB7 := Lib.hid (HB6.out.trans ((H7.out.below).mono HB6.out.size))
  clear HL6 HS6 HO6 HB6
  have hc7 := H7.out.le
  have HT7 := Lib.hid H7.out.rows
  clear H7
  go_wp2_with fail
  go_loopw [7, 47] (fun v7 v47 wr => ∃ (i : Nat) (C : Option Addr) (q f : Nat), i ≤ m ∧ v47 = .int .i64 i ∧ v7 = .slice C q f ∧ q ≤ f ∧ q ≤ n + i ∧ Hid (RowsOf W3.cells 3 wr C q (puts s (o.take i))) ∧ Hid (Below w7.heap.size w7 wr)) (fun _ v47 _ => m - (intOf v47).toNat)
  case atStart => exact ⟨0, A7, n, c7, by omega, rfl, rfl, hc7, by omega, HT7, Lib.hid (Below.refl _ _)⟩
  case round =>
    clear HT7 hc7
    obtain ⟨i, C, q, f, hi, rfl, rfl, hqf, hqn, HC, HW⟩ := hrel
    by_cases hin : i < m
    · obtain ⟨bb, off, rfl⟩ := HO7.out.addr (by omega)
      obtain ⟨x, hx⟩ : ∃ x, o[i]? = some x := ⟨o[i]'(by omega), List.getElem?_eq_getElem _⟩
      have hc := (HO7.out.kept HW.out).at hx
      have hc0 := hc 0 _ rfl
      have hc1 := hc 1 _ rfl
      have hc2 := hc 2 _ rfl
      simp only [Nat.add_zero] at hc0
      have HTK : Hid (puts s (o.take (i + 1)) = Set.put W3.k (puts s (o.take i)) x) := Lib.hid (by rw [List.take_add_one, hx]; exact puts_snoc _ _ _)
      have hba := (Below.refl wr.heap.size wr).alloc (Nat.le_refl _) (.cells #[.string x.k, .string x.t, .bool x.g] 41)
      have HCA := Lib.hid (HC.out.kept hba)
      have HBA := Lib.hid (HW.out.trans (hba.mono HW.out.size))
      have HRP := Lib.hid (puts_rs HRS.out (o.take i))
      clear hc hx hba HC HW
      go_wp2_with fail
      refine Calls.mono (put_r C q f (puts s (o.take i)) x _ HCA.out (by omega) HRP.out) ?_
      rintro e9 w9 ⟨C9, q9, f9, rfl, H9, hq9⟩
      have HBA9 := Lib.hid (HBA.out.trans (H9.out.below.mono HBA.out.size))
      have hqf9 := H9.out.le
      have HC9 := Lib.hid H9.out.rows
      clear HCA HBA H9
      rcases wsetMeets.putL_cases (puts s (o.take i)) x with ⟨hp1, hp2⟩ | ⟨_, hp2 | hp2⟩
      · rw [hp2]
        rw [hp1, ← HTK.out] at HC9
        clear hp1 hp2
        go_wp2_with fail
        go_roundw
        case rel => exact ⟨i + 1, C9, q9, f9, by omega, by go_num, rfl, hqf9, by omega, HC9, HBA9⟩
        case measure => simp [intOf]; omega
      · rw [hp2]
        clear hp2
        go_wp2_with fail
        go_ret
        exact ⟨rfl, HB7.out.trans (HBA9.out.mono HB7.out.size)⟩
      · rw [hp2]
        clear hp2
        go_wp2_with fail
        go_ret
        exact ⟨rfl, HB7.out.trans (HBA9.out.mono HB7.out.size)⟩
    · obtain rfl : i = m := by omega
      have HC' : Hid (RowsOf W3.cells 3 wr C q (puts s o)) := Lib.hid (by have := HC.out; rwa [List.take_of_length_le (by omega)] at this)
      have HL8 := Lib.hid (HL7.out.kept HW.out)
      have HS8 := Lib.hid (HS7.out.kept HW.out)
      have HO8 := Lib.hid (HO7.out.kept HW.out)
      have HB8 := Lib.hid (HB7.out.trans ((HW.out).mono HB7.out.size))
      clear HL7 HS7 HO7 HB7
      clear HW HC
      go_wp2_with fail
      refine Calls.mono (pairs_r L nl cl l wr HL8.out (by omega)) ?_
      rintro e9 w9 ⟨A9, c9, rfl, H9⟩
      have HL9 := Lib.hid (HL8.out.kept H9.out.below)
      have HS9 := Lib.hid (HS8.out.kept H9.out.below)
      have HO9 := Lib.hid (HO8.out.kept H9.out.below)
      have HB9 := Lib.hid (HB8.out.trans ((H9.out.below).mono HB8.out.size))
      clear HL8 HS8 HO8 HB8
      have HC9 := Lib.hid (HC'.out.kept H9.out.below)
      clear HC'
      go_wp2_with fail
      refine Calls.mono (theirs_r A n c s w9 HS9.out (by omega)) ?_
      rintro e10 w10 ⟨A10, c10, rfl, H10⟩
      have HL10 := Lib.hid (HL9.out.kept H10.out.below)
      have HS10 := Lib.hid (HS9.out.kept H10.out.below)
      have HO10 := Lib.hid (HO9.out.kept H10.out.below)
      have HB10 := Lib.hid (HB9.out.trans ((H10.out.below).mono HB9.out.size))
      clear HL9 HS9 HO9 HB9
      have HC10 := Lib.hid (HC9.out.kept H10.out.below)
      have HP10 := Lib.hid (H9.out.rows.kept H10.out.below)
      have hle9 := H9.out.le
      clear HC9 H9
      go_wp2_with fail
      refine Calls.mono (over_r A9 nl c9 l A10 n c10 s w10 HP10.out (by omega) hle9 H10.out.rows (by omega) H10.out.le) ?_
      rintro e11 w11 ⟨C11, q11, f11, rfl, H11, HQ11, hq11⟩
      have HL11 := Lib.hid (HL10.out.kept H11.out.below)
      have HS11 := Lib.hid (HS10.out.kept H11.out.below)
      have HO11 := Lib.hid (HO10.out.kept H11.out.below)
      have HB11 := Lib.hid (HB10.out.trans ((H11.out.below).mono HB10.out.size))
      clear HL10 HS10 HO10 HB10
      have HC11 := Lib.hid (HC10.out.kept H11.out.below)
      clear HC10 HP10 H10
      go_wp2_with fail
      refine Calls.mono (theirs_r B i e o w11 HO11.out (by omega)) ?_
      rintro e12 w12 ⟨A12, c12, rfl, H12⟩
      have HL12 := Lib.hid (HL11.out.kept H12.out.below)
      have HS12 := Lib.hid (HS11.out.kept H12.out.below)
      have HO12 := Lib.hid (HO11.out.kept H12.out.below)
      have HB12 := Lib.hid (HB11.out.trans ((H12.out.below).mono HB11.out.size))
      clear HL11 HS11 HO11 HB11
      have HC12 := Lib.hid (HC11.out.kept H12.out.below)
      have HP12 := Lib.hid (H11.out.rows.kept H12.out.below)
      have hle11 := H11.out.le
      clear HC11 H11
      go_wp2_with fail
      refine Calls.mono (over_r C11 q11 f11 _ A12 i c12 o w12 HP12.out (by omega) hle11 H12.out.rows (by omega) H12.out.le) ?_
      rintro e13 w13 ⟨C13, q13, f13, rfl, H13, HQ13, hq13⟩
      have HL13 := Lib.hid (HL12.out.kept H13.out.below)
      have HS13 := Lib.hid (HS12.out.kept H13.out.below)
      have HO13 := Lib.hid (HO12.out.kept H13.out.below)
      have HB13 := Lib.hid (HB12.out.trans ((H13.out.below).mono HB12.out.size))
      clear HL12 HS12 HO12 HB12
      have HC13 := Lib.hid (HC12.out.kept H13.out.below)
      clear HC12 HP12 H12
      go_wp2_with fail
      refine Calls.mono (back_r C13 q13 f13 _ w13 H13.out.rows (by omega)) ?_
      rintro e14 w14 ⟨C14, f14, rfl, H14⟩
      have HL14 := Lib.hid (HL13.out.kept H14.out.below)
      have HS14 := Lib.hid (HS13.out.kept H14.out.below)
      have HO14 := Lib.hid (HO13.out.kept H14.out.below)
      have HB14 := Lib.hid (HB13.out.trans ((H14.out.below).mono HB13.out.size))
      clear HL13 HS13 HO13 HB13
      have HC14 := Lib.hid (HC13.out.kept H14.out.below)
      have HR14 := Lib.hid H14.out.rows
      clear HC13 H13 H14
      go_wp2_with fail
      refine Calls.mono (pairs_r L nl cl l w14 HL14.out (by omega)) ?_
      rintro e15 w15 ⟨A15, c15, rfl, H15⟩
      have HL15 := Lib.hid (HL14.out.kept H15.out.below)
      have HS15 := Lib.hid (HS14.out.kept H15.out.below)
      have HO15 := Lib.hid (HO14.out.kept H15.out.below)
      have HB15 := Lib.hid (HB14.out.trans ((H15.out.below).mono HB14.out.size))
      clear HL14 HS14 HO14 HB14
      have HC15 := Lib.hid (HC14.out.kept H15.out.below)
      have HR15 := Lib.hid (HR14.out.kept H15.out.below)
      clear HC14 HR14
      go_wp2_with fail
      refine Calls.mono (over_r A15 nl c15 l C q f (puts s o) w15 H15.out.rows (by omega) H15.out.le HC15.out (by omega) hqf) ?_
      rintro e16 w16 ⟨C16, q16, f16, rfl, H16, HQ16, hq16⟩
      have HL16 := Lib.hid (HL15.out.kept H16.out.below)
      have HS16 := Lib.hid (HS15.out.kept H16.out.below)
      have HO16 := Lib.hid (HO15.out.kept H16.out.below)
      have HB16 := Lib.hid (HB15.out.trans ((H16.out.below).mono HB15.out.size))
      clear HL15 HS15 HO15 HB15
      have HR16 := Lib.hid (HR15.out.kept H16.out.below)
      clear HC15 HR15 H15
      go_wp2_with fail
      refine Calls.mono (back_r C16 q16 f16 _ w16 H16.out.rows (by omega)) ?_
      rintro e17 w17 ⟨C17, f17, rfl, H17⟩
      have HL17 := Lib.hid (HL16.out.kept H17.out.below)
      have HS17 := Lib.hid (HS16.out.kept H17.out.below)
      have HO17 := Lib.hid (HO16.out.kept H17.out.below)
      have HB17 := Lib.hid (HB16.out.trans ((H17.out.below).mono HB16.out.size))
      clear HL16 HS16 HO16 HB16
      have HR17 := Lib.hid (HR16.out.kept H17.out.below)
      clear HR16 H16
      go_wp2_with fail
      refine Calls.mono (samePairs_any C14 C17 q13 q16 f14 f17 (ovW (ovW l s) o) (ovW l (puts s o)) w17 HR17.out H17.out.rows (by omega) true (by rw [both_eq HRL.out HRS.out HRO.out]; simp)) ?_
      rintro e18 w18 ⟨rfl, hb18⟩
      have HL18 := Lib.hid (HL17.out.kept hb18)
      have HS18 := Lib.hid (HS17.out.kept hb18)
      have HO18 := Lib.hid (HO17.out.kept hb18)
      have HB18 := Lib.hid (HB17.out.trans ((hb18).mono HB17.out.size))
      clear HL17 HS17 HO17 HB17
      clear hb18
      go_wp2_with fail
      go_ret
      exact ⟨rfl, HB18.out⟩


theorem own : ownKnob Try.prog.godebug = none := by kernel_rfl
theorem laidOut : laidOutB Try.prog = true := by kernel_rfl

set_option maxRecDepth 100000 in
theorem lifted (os : Os) (started : os.Started) (H : Type) (enc : TypeId × Value → H) :
    ReturnsInHanded {} Try.checked os 5 .any (Rows.wsetBothSpec.pre6 enc Try.prog Try.f5 Rows.wsetBothRow.domain false) (Rows.wsetBothSpec.post enc Try.prog Try.f5 false true false false) := by
  refine returnsInHanded_of_change (C := Try.checked) own started (by kernel_rfl) Try.func5
    (ChangeSpec.witness6 (enc := enc) (C := Try.checked) false ⟨#[], #[.slice none 0 0, .slice none 0 0, .slice none 0 0], []⟩ 8 (by kernel_rfl) (by kernel_rfl) (by kernel_rfl) (by kernel_rfl)) ?_
  intro W base args ds gs before hval0 hW hcnd _
  have hval : ∀ (j : Nat) t v, Try.f5.params[j]? = some t → args[j]? = some v → Value.okWide Try.prog W .any base t v := hval0
  have hW' := hW
  obtain ⟨p, q, hA0, hV, rfl, hfz, hnd⟩ := hW
  have hA : DataW.TrodAll enc Try.prog W 0 (fun _ => true) true Try.f5.params.toList args.toList ds p := hA0
  rw [Try.params5] at hA hval
  obtain ⟨v0, vs0, d0, ds0, p0, q0, hargs, rfl, rfl, h0, r0⟩ := trodAll_cons hA
  obtain ⟨v1, vs1, d1, ds1, p1, q1, rfl, rfl, rfl, h1, r1⟩ := trodAll_cons r0
  obtain ⟨v2, vs2, d2, ds2, p2, q2, rfl, rfl, rfl, h2, r2⟩ := trodAll_cons r1
  obtain ⟨rfl, rfl, rfl⟩ := trodAll_nil r2
  obtain rfl : args = #[v0, v1, v2] := by cases args; simp_all
  obtain ⟨rfl, rfl⟩ := trodVars_none hV
  clear hA0 hval0
  have lt0 : ∀ x ∈ p0, x.block < W.heap.size := by obtain ⟨m, hm⟩ := h0; exact DataW.trod_lt m _ _ _ hm
  have lt1 : ∀ x ∈ p1, x.block < W.heap.size := by obtain ⟨m, hm⟩ := h1; exact DataW.trod_lt m _ _ _ hm
  have lt2 : ∀ x ∈ p2, x.block < W.heap.size := by obtain ⟨m, hm⟩ := h2; exact DataW.trod_lt m _ _ _ hm
  simp only [List.append_nil] at hW'
  refine Calls.mono (walk W h0 (hval 0 22 v0 rfl rfl) h1 (hval 1 23 v1 rfl rfl) h2 (hval 2 23 v2 rfl rfl)) ?_
  rintro e W' ⟨rfl, bel⟩
  exact ⟨_, rfl, Post.post_below (pa := _) (pv := []) hW' (fun _ _ _ => (trodAll_cons_mk (shut_bool Try.underlying4 _) trodAll_mk0)) (fun sp hsp => (trodAll_cons_mk (WideElems.Trod_stays laidOut (by kernel_rfl) (of_decide_eq_true (by kernel_rfl)) h0 (fun x hx => bel.same (lt0 x hx)) (fun x hx => hsp x (by simp [hx]))) (trodAll_cons_mk (WideElems.Trod_stays laidOut (by kernel_rfl) (of_decide_eq_true (by kernel_rfl)) h1 (fun x hx => bel.same (lt1 x hx)) (fun x hx => hsp x (by simp [hx]))) (trodAll_cons_mk (WideElems.Trod_stays laidOut (by kernel_rfl) (of_decide_eq_true (by kernel_rfl)) h2 (fun x hx => bel.same (lt2 x hx)) (fun x hx => hsp x (by simp [hx]))) trodAll_mk0)))) (fun _ _ => rfl) (by simp)
    bel (ok_one (by kernel_rfl) rfl (okWide_bool_mk Try.underlying4 _))⟩

theorem over : Rows.wsetBothRow.holds Try.pinned (OpenSpec.ofChange Rows.wsetBothSpec) :=
  OpenClaim.holds_of_wide 5 Try.f5 rfl rfl rfl rfl rfl rfl rfl ⟨rfl, rfl, rfl, rfl, rfl⟩ rfl rfl rfl rfl rfl (by kernel_rfl) Try.func5 (by kernel_rfl)
    (of_decide_eq_true (by kernel_rfl)) (by unfold Func.isWrapper; first | (rw [if_pos (by decide +kernel)]; kernel_rfl) | (rw [if_neg (by decide +kernel)]; exact ⟨rfl, rfl⟩))
    (fun os started H enc _ => lifted os started H enc)

/-- The statement. -/
theorem proved : Rows.WsetBothSaid :=
  over

end Go.Proofs.Ythbmjhdgflpmgaa.wsetBoth
