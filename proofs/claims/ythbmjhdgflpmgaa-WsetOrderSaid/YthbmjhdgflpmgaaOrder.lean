/- WsetOrder: writes of unlike keys make the same set in whatever order. No condition. -/
import Derived.Test.YthbmjhdgflpmgaaOrdLaw
namespace Go.Proofs.Ythbmjhdgflpmgaa.wsetOrder
open Go.ChangeShapes Go.WideShapes Go.ChangeAt Go.RowKit Go.Proofs.Ythbmjhdgflpmgaa.Mem Go.Proofs.Ythbmjhdgflpmgaa.Read Go.Proofs.Ythbmjhdgflpmgaa.Out Go.Proofs.Ythbmjhdgflpmgaa.Copy Go.Proofs.Ythbmjhdgflpmgaa.Key Go.Proofs.Ythbmjhdgflpmgaa.Set Go.Proofs.Ythbmjhdgflpmgaa.Rows3 Go.Proofs.Ythbmjhdgflpmgaa.At15 Go.Proofs.Ythbmjhdgflpmgaa.Res Go.Proofs.Ythbmjhdgflpmgaa.Get15 Go.Proofs.Ythbmjhdgflpmgaa.Put15 Go.Proofs.Ythbmjhdgflpmgaa.Meet15 Go.Proofs.Ythbmjhdgflpmgaa.Over15 Go.Proofs.Ythbmjhdgflpmgaa.Conv Go.Proofs.Ythbmjhdgflpmgaa.Rise Go.Proofs.Ythbmjhdgflpmgaa.Same3 Go.Proofs.Ythbmjhdgflpmgaa.Few15 Go.Proofs.Ythbmjhdgflpmgaa.Open15 Go.Proofs.Ythbmjhdgflpmgaa.Alive15 Go.Proofs.Ythbmjhdgflpmgaa.Map Go.Proofs.Ythbmjhdgflpmgaa.RowMap

theorem zero_int (w : World) : (zeroValue 3).run Try.prog w = .ok (.int .i64 0) w := by kernel_rfl

/-- While the law counts. -/
structure Cn (W w : World) (b : Nat) (m : List (ByteArray × Int)) : Prop where
  map : MapOf ks (Value.int .i64) w b m
  below : Below W.heap.size W w
  ge : W.heap.size ≤ b

theorem Cn.kept {W w w' : World} {b : Nat} {m : List (ByteArray × Int)} (h : Cn W w b m) (hb : Below w.heap.size w w') : Cn W w' b m :=
  ⟨h.map.kept (Chg.of_below (F := fun _ => False) hb) (fun f => f), h.below.trans (hb.mono h.below.size), h.ge⟩

theorem Cn.next {W w w' : World} {b : Nat} {m m' : List (ByteArray × Int)} (h : Cn W w b m) (hm : MapOf ks (Value.int .i64) w' b m') (hc : Chg (· = b) w w') : Cn W w' b m' :=
  ⟨hm, below_chg h.below hc (fun _ e => e ▸ h.ge), h.ge⟩

set_option maxHeartbeats 4000000 in
set_option maxRecDepth 100000 in
theorem walk {H : Type} {enc : TypeId × Value → H} (W : World) {base : Nat} {v v1 : Value} {d d1 : DataW H} {p p1 : List MemPlace} (h : DataW.Trod enc Try.prog W 0 (fun _ => true) true 23 v d p) (ho : Value.okWide Try.prog W .any base 23 v)
    (h1 : DataW.Trod enc Try.prog W 0 (fun _ => true) true 5 v1 d1 p1) (ho1 : Value.okWide Try.prog W .any base 5 v1) :
    Calls Try.prog 6 #[v, v1] W fun e W' => e = .returned (.bool true) ∧ Below W.heap.size W W' := by
  obtain ⟨A, n, c, l, rfl, hl⟩ := wrs_open h ho
  obtain ⟨at8, rfl, _, _, hwf⟩ := open_int Try.underlying5 ho1 h1
  have h8 := bounds_u8 hwf
  obtain ⟨K8, rfl⟩ : ∃ K8 : Nat, at8 = K8 := ⟨at8.toNat, by omega⟩
  have hln := hl.1
  have HL0 := Lib.hid hl
  clear h ho hl h1 ho1 hwf
  have hmm := @run_makeMap Try.prog
  go_enter Try.func6, Try.ntmps6
  go_wp2_with fail
  refine Calls.mono (alive_true W) ?_
  rintro e1 w1 ⟨rfl, hb1⟩
  have HL1 := Lib.hid (HL0.out.kept hb1)
  have HB1 := Lib.hid hb1
  clear hb1
  go_wp2_with fail
  refine Calls.mono (few_any A n c l w1 HL1.out) ?_
  rintro e2 w2 ⟨rfl, hb2⟩
  have HB2 := Lib.hid (HB1.out.trans (hb2.mono HB1.out.size))
  clear hb2 HL1
  cases hf : fewB l with
  | false =>
    go_wp2_with fail
    go_ret
    exact ⟨rfl, HB2.out⟩
  | true =>
  clear hf
  by_cases h16 : 16 < n
  · have b16 : decide ((16 : Int) < n) = true := decide_eq_true (by omega)
    go_wp2_with fail
    go_ret
    exact ⟨rfl, HB2.out⟩
  have b16 : decide ((16 : Int) < n) = false := decide_eq_false (by omega)
  by_cases h0 : n = 0
  · subst h0
    go_wp2_with fail
    go_ret
    exact ⟨rfl, HB2.out⟩
  have b0 : ((n : Int) == 0) = false := by simp; omega
  have HA3 : Hid (Cn W (w2.alloc (.map #[] 0)) w2.heap.size []) := Lib.hid ⟨MapOf.new _ _ _, HB2.out.alloc HB2.out.size _, HB2.out.size⟩
  have HN := Lib.hid hln
  clear hln
  go_wp2_with fail
  generalize hW : World.alloc w2 _ = w3 at *
  generalize w2.heap.size = mb at *
  clear hW
  go_loopw [30] (fun v30 wr => ∃ (i : Nat) (m : List (ByteArray × Int)), i ≤ n ∧ v30 = .int .i64 i ∧ Hid (Cn W wr mb m) ∧ Hid (Seen l i m)) (fun v30 _ => n - (intOf v30).toNat)
  case atStart => exact ⟨0, [], by omega, rfl, HA3, Lib.hid (Seen.nil _)⟩
  case round =>
    clear HA3
    obtain ⟨i, m, hi, rfl, HA, HS⟩ := hrel
    by_cases hin : i < n
    · obtain ⟨bb, off, rfl⟩ := HL0.out.addr (by omega)
      obtain ⟨x, hx⟩ : ∃ x, l[i]? = some x := ⟨l[i]'(by have := HN.out; omega), List.getElem?_eq_getElem _⟩
      have hc := (HL0.out.kept HA.out.below).at hx
      have hc0 := hc 0 _ rfl
      have hc1 := hc 1 _ rfl
      have hc2 := hc 2 _ rfl
      simp only [Nat.add_zero] at hc0
      have hba := (Below.refl wr.heap.size wr).alloc (Nat.le_refl _) (.cells #[.string x.k, .string x.t, .bool x.g] 41)
      have HAA := Lib.hid (HA.out.kept hba)
      have HX0 : Hid (Cells (wr.alloc (.cells #[.string x.k, .string x.t, .bool x.g] 41)) wr.heap.size 41 x.cells) := Lib.hid (Cells.new wr x.cells _)
      have HXX := Lib.hid hx
      clear hc hx hba
      rcases HS.out.one (k := x.k) with hg | hg
      · have HG := Lib.hid hg
        clear hg
        have hg0 := HX0.out.cell 0
        simp only [W3.cells, List.getElem?_cons_zero] at hg0
        go_wp2_with (first | (at_lookup; refine wpList_mlook rfl _ _ 51 rfl 9 3 Try.underlying51 Try.underlying9 keyed_string HAA.out.map x.k (.int .i64 0) (zero_int _) rfl rfl (.int .i64 0) (by rw [HG.out]; rfl) ?_) | (at_mapUpdate; refine wpList_mput rfl _ _ _ 51 rfl 9 3 Try.underlying51 Try.underlying9 keyed_string HAA.out.map x.k 1 rfl rfl rfl ?_; intro w4 HM4 HC4; have HX4 : Hid (Cells w4 wr.heap.size 41 x.cells) := Lib.hid (HX0.out.kept HC4.out (fun e => by have := HA.out.map.lt; omega)); have hg0 := HX4.out.cell 0; simp only [W3.cells, List.getElem?_cons_zero] at hg0) | (at_lookup; refine wpList_mlook rfl _ _ 51 rfl 9 3 Try.underlying51 Try.underlying9 keyed_string HM4.out x.k (.int .i64 0) (zero_int _) rfl rfl (.int .i64 1) (by rw [Map.get_put, if_pos rfl]; rfl) ?_))
        go_roundw
        case rel => exact ⟨i + 1, _, by omega, by go_num, Lib.hid (HAA.out.next HM4.out HC4.out), Lib.hid (HS.out.step HXX.out HG.out)⟩
        case measure => simp [intOf]; omega
      · have HG := Lib.hid hg
        clear hg
        have hg0 := HX0.out.cell 0
        simp only [W3.cells, List.getElem?_cons_zero] at hg0
        go_wp2_with (first | (at_lookup; refine wpList_mlook rfl _ _ 51 rfl 9 3 Try.underlying51 Try.underlying9 keyed_string HAA.out.map x.k (.int .i64 0) (zero_int _) rfl rfl (.int .i64 1) (by rw [HG.out]; rfl) ?_) | (at_mapUpdate; refine wpList_mput rfl _ _ _ 51 rfl 9 3 Try.underlying51 Try.underlying9 keyed_string HAA.out.map x.k 2 rfl rfl rfl ?_; intro w4 HM4 HC4; have HX4 : Hid (Cells w4 wr.heap.size 41 x.cells) := Lib.hid (HX0.out.kept HC4.out (fun e => by have := HA.out.map.lt; omega)); have hg0 := HX4.out.cell 0; simp only [W3.cells, List.getElem?_cons_zero] at hg0) | (at_lookup; refine wpList_mlook rfl _ _ 51 rfl 9 3 Try.underlying51 Try.underlying9 keyed_string HM4.out x.k (.int .i64 0) (zero_int _) rfl rfl (.int .i64 2) (by rw [Map.get_put, if_pos rfl]; rfl) ?_))
        go_ret
        exact ⟨rfl, (HAA.out.next HM4.out HC4.out).below⟩
    · obtain rfl : i = n := by omega
      clear hmm hin hi
      have HAP : Hid (Apart l i) := Lib.hid HS.out.1
      clear HS
      go_wp2_with fail
      obtain ⟨K, hK, hKi⟩ : ∃ K : Nat, (K8 : Int) % (i : Int) = (K : Int) ∧ K < i := ⟨K8 % i, rfl, Nat.mod_lt _ (by omega)⟩
      rw [hK]
      clear hK h8
      go_loopw [8, 9, 52] (fun v8 v9 v52 wt => ∃ (j : Nat) (C : Option Addr) (q f : Nat) (s : List W3) (D : Option Addr) (r g : Nat) (t : List W3), j ≤ i ∧ v52 = .int .i64 j ∧ v8 = .slice C q f ∧ v9 = .slice D r g ∧ Hid (RowsOf W3.cells 3 wt C q s) ∧ Hid (RowsOf W3.cells 3 wt D r t) ∧ q ≤ f ∧ r ≤ g ∧ Hid (Good (Of l i 0 j) j s) ∧ Hid (Good (Of l i K j) j t) ∧ Hid (Below W.heap.size W wt)) (fun _ _ v52 _ => i - (intOf v52).toNat)
      case atStart => exact ⟨0, none, 0, 0, [], none, 0, 0, [], by omega, rfl, rfl, rfl, Lib.hid (RowsOf.nil _ _ _), Lib.hid (RowsOf.nil _ _ _), by omega, by omega, Lib.hid (Good.nil (of_zero _ _ _)), Lib.hid (Good.nil (of_zero _ _ _)), Lib.hid HA.out.below⟩
      case round =>
        obtain ⟨j, C, q, f, s, D, r, g, t, hj, rfl, rfl, rfl, HC, HD, hqf, hrg, HGS, HGT, HW⟩ := hrel
        by_cases hji : j < i
        · obtain ⟨bb, off, rfl⟩ := HL0.out.addr (by omega)
          obtain ⟨x, hx⟩ : ∃ x, l[j]? = some x := ⟨l[j]'(by have := HN.out; omega), List.getElem?_eq_getElem _⟩
          obtain ⟨J, hJ, hJi⟩ : ∃ J, J = (j + K) % i ∧ J < i := ⟨_, rfl, Nat.mod_lt _ (by omega)⟩
          have hJZ : ((j : Int) + (K : Int)) % (i : Int) = (J : Int) := by rw [hJ]; rfl
          have hz0 : (0 : Int) ≤ ((j : Int) + (K : Int)) % (i : Int) := by rw [hJZ]; omega
          have hz1 : ((j : Int) + (K : Int)) % (i : Int) < (i : Int) := by rw [hJZ]; omega
          have hz2 : (((j : Int) + (K : Int)) % (i : Int)).toNat = J := by rw [hJZ]; rfl
          clear hJZ
          obtain ⟨y, hy⟩ : ∃ y, l[J]? = some y := ⟨l[J]'(by have := HN.out; omega), List.getElem?_eq_getElem _⟩
          have HXX : Hid (l[(j + 0) % i]? = some x) := Lib.hid (by rw [Nat.add_zero, Nat.mod_eq_of_lt hji]; exact hx)
          have HYY : Hid (l[(j + K) % i]? = some y) := Lib.hid (by rw [← hJ]; exact hy)
          have hc := (HL0.out.kept HW.out).at hx
          have hc0 := hc 0 _ rfl
          have hc1 := hc 1 _ rfl
          have hc2 := hc 2 _ rfl
          simp only [Nat.add_zero] at hc0
          clear hc hx hy
          have hg1 := HGS.out.2.1
          have hg2 := HGT.out.2.1
          have hr1 := HC.out.1
          have hr2 := HD.out.1
          have hq16 : q ≤ 16 := by omega
          have hr16 : r ≤ 16 := by omega
          clear hg1 hg2 hr1 hr2
          go_wp2_with fail
          refine Calls.mono (put_r C q f s x wr HC.out (by omega) HGS.out.1) ?_
          rintro e5 w5 ⟨C5, q5, f5, rfl, H5, hq5⟩
          have HD5 := Lib.hid (HD.out.kept H5.out.below)
          have HW5 := Lib.hid (HW.out.trans (H5.out.below.mono HW.out.size))
          have hqf5 := H5.out.le
          have HC5 := Lib.hid H5.out.rows
          clear H5 HC HD HW hc0 hc1 hc2
          have hc := (HL0.out.kept HW5.out).at HYY.out
          have hc0 := hc 0 _ rfl
          have hc1 := hc 1 _ rfl
          have hc2 := hc 2 _ rfl
          simp only [Nat.add_zero] at hc0
          clear hc
          obtain ⟨E5, hE5⟩ : ∃ E, E = (putL s x).2 := ⟨_, rfl⟩
          rw [← hE5]
          clear hE5
          go_wp2_with fail
          refine Calls.mono (put_r D r g t y w5 HD5.out (by omega) HGT.out.1) ?_
          rintro e6 w6 ⟨D6, r6, g6, rfl, H6, hr6⟩
          have HC6 := Lib.hid (HC5.out.kept H6.out.below)
          have HW6 := Lib.hid (HW5.out.trans (H6.out.below.mono HW5.out.size))
          have hrg6 := H6.out.le
          have HD6 := Lib.hid H6.out.rows
          clear H6 HC5 HD5 HW5 hc0 hc1 hc2
          obtain ⟨E6, hE6⟩ : ∃ E, E = (putL t y).2 := ⟨_, rfl⟩
          rw [← hE6]
          clear hE6
          go_wp2_with fail
          go_roundw
          case rel => exact ⟨j + 1, C5, q5, f5, _, D6, r6, g6, _, by omega, by go_num, rfl, rfl, HC6, HD6, hqf5, hrg6, Lib.hid (good_step HGS.out HAP.out hji (by omega) HXX.out), Lib.hid (good_step HGT.out HAP.out hji (by omega) HYY.out), HW6⟩
          case measure => simp [intOf]; omega
        · obtain rfl : j = i := by omega
          have HE : Hid (s = t) := Lib.hid (HGS.out.same HGT.out (of_all HN.out))
          have hg1 := HGS.out.2.1
          have hg2 := HGT.out.2.1
          have hr1 := HC.out.1
          have hr2 := HD.out.1
          have hq16 : q ≤ 16 := by omega
          have hr16 : r ≤ 16 := by omega
          clear hg1 hg2 hr1 hr2 HAP HGS HGT
          go_wp2_with fail
          refine Calls.mono (ours_r C q f s wr HC.out (by omega)) ?_
          rintro e10 w10 ⟨A10, c10, rfl, H10⟩
          have HD10 := Lib.hid (HD.out.kept H10.out.below)
          have HW10 := Lib.hid (HW.out.trans (H10.out.below.mono HW.out.size))
          clear HC HD HW
          go_wp2_with fail
          refine Calls.mono (ours_r D r g t w10 HD10.out (by omega)) ?_
          rintro e11 w11 ⟨A11, c11, rfl, H11⟩
          have HR11 := Lib.hid (H10.out.rows.kept H11.out.below)
          have HW11 := Lib.hid (HW10.out.trans (H11.out.below.mono HW10.out.size))
          clear H10 HD10 HW10
          go_wp2_with fail
          refine Calls.mono (same_any A10 A11 q r c10 c11 s t w11 HR11.out H11.out.rows (by omega) true (by simp [HE.out])) ?_
          rintro e12 w12 ⟨rfl, hb12⟩
          have HW12 := Lib.hid (HW11.out.trans (hb12.mono HW11.out.size))
          clear hb12
          go_wp2_with fail
          go_ret
          exact ⟨rfl, HW12.out⟩


theorem own : ownKnob Try.prog.godebug = none := by kernel_rfl
theorem laidOut : laidOutB Try.prog = true := by kernel_rfl

set_option maxRecDepth 100000 in
theorem lifted (os : Os) (started : os.Started) (H : Type) (enc : TypeId × Value → H) :
    ReturnsInHanded {} Try.checked os 6 .any (Rows.wsetOrderSpec.pre6 enc Try.prog Try.f6 Rows.wsetOrderRow.domain false) (Rows.wsetOrderSpec.post enc Try.prog Try.f6 false true false false) := by
  refine returnsInHanded_of_change (C := Try.checked) own started (by kernel_rfl) Try.func6
    (ChangeSpec.witness6 (enc := enc) (C := Try.checked) false ⟨#[], #[.slice none 0 0, .int .u8 0], []⟩ 8 (by kernel_rfl) (by kernel_rfl) (by kernel_rfl) (by kernel_rfl)) ?_
  intro W base args ds gs before hval0 hW hcnd _
  have hval : ∀ (j : Nat) t v, Try.f6.params[j]? = some t → args[j]? = some v → Value.okWide Try.prog W .any base t v := hval0
  have hW' := hW
  obtain ⟨p, q, hA0, hV, rfl, hfz, hnd⟩ := hW
  have hA : DataW.TrodAll enc Try.prog W 0 (fun _ => true) true Try.f6.params.toList args.toList ds p := hA0
  rw [Try.params6] at hA hval
  obtain ⟨v0, vs0, d0, ds0, p0, q0, hargs, rfl, rfl, h0, r0⟩ := trodAll_cons hA
  obtain ⟨v1, vs1, d1, ds1, p1, q1, rfl, rfl, rfl, h1, r1⟩ := trodAll_cons r0
  obtain ⟨rfl, rfl, rfl⟩ := trodAll_nil r1
  obtain rfl : args = #[v0, v1] := by cases args; simp_all
  obtain ⟨rfl, rfl⟩ := trodVars_none hV
  clear hA0 hval0
  have lt0 : ∀ x ∈ p0, x.block < W.heap.size := by obtain ⟨m, hm⟩ := h0; exact DataW.trod_lt m _ _ _ hm
  have lt1 : ∀ x ∈ p1, x.block < W.heap.size := by obtain ⟨m, hm⟩ := h1; exact DataW.trod_lt m _ _ _ hm
  simp only [List.append_nil] at hW'
  refine Calls.mono (walk W h0 (hval 0 23 v0 rfl rfl) h1 (hval 1 5 v1 rfl rfl)) ?_
  rintro e W' ⟨rfl, bel⟩
  exact ⟨_, rfl, Post.post_below (pa := _) (pv := []) hW' (fun _ _ _ => (trodAll_cons_mk (shut_bool Try.underlying4 _) trodAll_mk0)) (fun sp hsp => (trodAll_cons_mk (WideElems.Trod_stays laidOut (by kernel_rfl) (of_decide_eq_true (by kernel_rfl)) h0 (fun x hx => bel.same (lt0 x hx)) (fun x hx => hsp x (by simp [hx]))) (trodAll_cons_mk (WideElems.Trod_stays laidOut (by kernel_rfl) (of_decide_eq_true (by kernel_rfl)) h1 (fun x hx => bel.same (lt1 x hx)) (fun x hx => hsp x (by simp [hx]))) trodAll_mk0))) (fun _ _ => rfl) (by simp)
    bel (ok_one (by kernel_rfl) rfl (okWide_bool_mk Try.underlying4 _))⟩

theorem over : Rows.wsetOrderRow.holds Try.pinned (OpenSpec.ofChange Rows.wsetOrderSpec) :=
  OpenClaim.holds_of_wide 6 Try.f6 rfl rfl rfl rfl rfl rfl rfl ⟨rfl, rfl, rfl, rfl, rfl⟩ rfl rfl rfl rfl rfl (by kernel_rfl) Try.func6 (by kernel_rfl)
    (of_decide_eq_true (by kernel_rfl)) (by unfold Func.isWrapper; first | (rw [if_pos (by decide +kernel)]; kernel_rfl) | (rw [if_neg (by decide +kernel)]; exact ⟨rfl, rfl⟩))
    (fun os started H enc _ => lifted os started H enc)

/-- The statement. -/
theorem proved : Rows.WsetOrderSaid :=
  over

end Go.Proofs.Ythbmjhdgflpmgaa.wsetOrder
