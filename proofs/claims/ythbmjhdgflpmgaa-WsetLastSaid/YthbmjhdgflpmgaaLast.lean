/- WsetLast: what was put last of a key is got. No condition. -/
import Derived.Test.YthbmjhdgflpmgaaRowMap
namespace Go.Proofs.Ythbmjhdgflpmgaa.wsetLast
open Go.ChangeShapes Go.WideShapes Go.ChangeAt Go.RowKit Go.Proofs.Ythbmjhdgflpmgaa.Mem Go.Proofs.Ythbmjhdgflpmgaa.Read Go.Proofs.Ythbmjhdgflpmgaa.Out Go.Proofs.Ythbmjhdgflpmgaa.Copy Go.Proofs.Ythbmjhdgflpmgaa.Key Go.Proofs.Ythbmjhdgflpmgaa.Set Go.Proofs.Ythbmjhdgflpmgaa.Rows3 Go.Proofs.Ythbmjhdgflpmgaa.At15 Go.Proofs.Ythbmjhdgflpmgaa.Res Go.Proofs.Ythbmjhdgflpmgaa.Get15 Go.Proofs.Ythbmjhdgflpmgaa.Put15 Go.Proofs.Ythbmjhdgflpmgaa.Meet15 Go.Proofs.Ythbmjhdgflpmgaa.Over15 Go.Proofs.Ythbmjhdgflpmgaa.Conv Go.Proofs.Ythbmjhdgflpmgaa.Rise Go.Proofs.Ythbmjhdgflpmgaa.Same3 Go.Proofs.Ythbmjhdgflpmgaa.Few15 Go.Proofs.Ythbmjhdgflpmgaa.Open15 Go.Proofs.Ythbmjhdgflpmgaa.Alive15 Go.Proofs.Ythbmjhdgflpmgaa.Map Go.Proofs.Ythbmjhdgflpmgaa.RowMap
open Go.Proofs.Ythbmjhdgflpmgaa.wsetMeets (putL_cases)

/-- While the law puts: the set, the map. -/
structure At (W w : World) (C : Option Addr) (q : Nat) (s : List W3) (b : Nat) (m : List (ByteArray × W3)) : Prop where
  rows : RowsOf W3.cells 3 w C q s
  map : MapOf ks wv w b m
  last : LastOf s m
  below : Below W.heap.size W w
  ge : W.heap.size ≤ b

theorem At.le {W w : World} {C : Option Addr} {q b : Nat} {s : List W3} {m : List (ByteArray × W3)} (h : At W w C q s b m) : q ≤ 16 := by
  have h1 := h.rows.1
  have h2 := h.last.2.2.2.2
  omega

theorem At.kept {W w w' : World} {C : Option Addr} {q b : Nat} {s : List W3} {m : List (ByteArray × W3)} (h : At W w C q s b m) (hb : Below w.heap.size w w') : At W w' C q s b m :=
  ⟨h.rows.kept hb, h.map.kept (Chg.of_below (F := fun _ => False) hb) (fun f => f), h.last, h.below.trans (hb.mono h.below.size), h.ge⟩

theorem At.next {W w w' : World} {C C2 : Option Addr} {q q2 b : Nat} {s : List W3} {m : List (ByteArray × W3)} {x : W3} (h : At W w C q s b m) (h2 : RowsOf W3.cells 3 w C2 q2 (putL s x).1) (hp : (putL s x).2 = 0) (hm : MapOf ks wv w' b (Map.put m x.k x)) (hc : Chg (· = b) w w') : At W w' C2 q2 (putL s x).1 b (Map.put m x.k x) :=
  ⟨rows_map h2 h.map hc W3.len (by decide), hm, h.last.put hp, below_chg h.below hc (fun k e => e ▸ h.ge), h.ge⟩

/-- The range over the map at work. -/
structure It (W w : World) (C : Option Addr) (q : Nat) (s : List W3) (b r : Nat) (m left : List (ByteArray × W3)) : Prop where
  atl : At W w C q s b m
  iter : IterOf ks wv w b r m left
  ge : W.heap.size ≤ r
  rows : ∃ w0, RowsOf W3.cells 3 w0 C q s ∧ Below w0.heap.size w0 w ∧ w0.heap.size ≤ r
  sub : ∀ p ∈ left, p ∈ m

theorem It.start {W w w' : World} {C : Option Addr} {q b : Nat} {s : List W3} {m : List (ByteArray × W3)} (h : At W w C q s b m) (hi : IterOf ks wv w' b w.heap.size m m) (hb : Below w.heap.size w w') : It W w' C q s b w.heap.size m m :=
  ⟨h.kept hb, hi, h.below.size, ⟨w, h.rows, hb, Nat.le_refl _⟩, fun _ h => h⟩

theorem It.kept {W w w' : World} {C : Option Addr} {q b r : Nat} {s : List W3} {m left : List (ByteArray × W3)} (h : It W w C q s b r m left) (hb : Below w.heap.size w w') : It W w' C q s b r m left := by
  obtain ⟨w0, h1, h2, h3⟩ := h.rows
  exact ⟨h.atl.kept hb, h.iter.kept (Chg.of_below (F := fun _ => False) hb) (fun f => f) (fun f => f), h.ge, ⟨w0, h1, h2.trans (hb.mono h2.size), h3⟩, h.sub⟩

theorem It.next {W w w' : World} {C : Option Addr} {q b r : Nat} {s : List W3} {m left left' : List (ByteArray × W3)} (h : It W w C q s b r m left) (hi : IterOf ks wv w' b r m left') (hc : Chg (· = r) w w') (hs : ∀ p ∈ left', p ∈ left) : It W w' C q s b r m left' := by
  obtain ⟨w0, h1, h2, h3⟩ := h.rows
  have hb := below_chg h2 hc (fun k e => e ▸ h3)
  exact ⟨⟨h1.kept hb, hi.map, h.atl.last, below_chg h.atl.below hc (fun k e => e ▸ h.ge), h.atl.ge⟩, hi, h.ge, ⟨w0, h1, hb, h3⟩, fun p hp => h.sub p (hs p hp)⟩

set_option maxHeartbeats 4000000 in
set_option maxRecDepth 100000 in
theorem walk {H : Type} {enc : TypeId × Value → H} (W : World) {base : Nat} {v : Value} {d : DataW H} {p : List MemPlace} (h : DataW.Trod enc Try.prog W 0 (fun _ => true) true 23 v d p) (ho : Value.okWide Try.prog W .any base 23 v) :
    Calls Try.prog 4 #[v] W fun e W' => e = .returned (.bool true) ∧ Below W.heap.size W W' := by
  obtain ⟨A, n, c, l, rfl, hl⟩ := wrs_open h ho
  have hln := hl.1
  have HL0 := Lib.hid hl
  clear h ho hl
  have hmm := @run_makeMap Try.prog
  go_enter Try.func4, Try.ntmps4
  go_wp2_with fail
  refine Calls.mono (alive_true W) ?_
  rintro e1 w1 ⟨rfl, hb1⟩
  have HL1 := Lib.hid (HL0.out.kept hb1)
  have HB1 := Lib.hid hb1
  clear hb1
  go_wp2_with fail
  refine Calls.mono (few_any A n c l w1 HL1.out) ?_
  rintro e2 w2 ⟨rfl, hb2⟩
  have HB2 := Lib.hid (HB1.out.trans (hb2.mono HB1.out.size))
  clear hb2 HL1
  cases hf : fewB l with
  | false =>
    go_wp2_with fail
    go_ret
    exact ⟨rfl, HB2.out⟩
  | true =>
  have hn60 : n ≤ 60 := by have := fewB_len hf; omega
  clear hf
  have HA3 : Hid (At W (w2.alloc (.map #[] 0)) none 0 [] w2.heap.size []) := Lib.hid ⟨RowsOf.nil _ _ _, MapOf.new _ _ _, LastOf.nil, HB2.out.alloc HB2.out.size _, HB2.out.size⟩
  go_wp2_with fail
  generalize hW : World.alloc w2 _ = w3 at *
  generalize w2.heap.size = mb at *
  clear hW
  go_loopw [3, 21] (fun v3 v21 wr => ∃ (i : Nat) (C : Option Addr) (q f : Nat) (s : List W3) (m : List (ByteArray × W3)), i ≤ n ∧ v21 = .int .i64 i ∧ v3 = .slice C q f ∧ q ≤ f ∧ Hid (At W wr C q s mb m)) (fun _ v21 _ => n - (intOf v21).toNat)
  case atStart => exact ⟨0, none, 0, 0, [], [], by omega, rfl, rfl, by omega, HA3⟩
  case round =>
    clear HA3
    obtain ⟨i, C, q, f, s, m, hi, rfl, rfl, hqf, HA⟩ := hrel
    have hq16 := HA.out.le
    by_cases hin : i < n
    · obtain ⟨bb, off, rfl⟩ := HL0.out.addr (by omega)
      obtain ⟨x, hx⟩ : ∃ x, l[i]? = some x := ⟨l[i]'(by omega), List.getElem?_eq_getElem _⟩
      have hc := (HL0.out.kept HA.out.below).at hx
      have hc0 := hc 0 _ rfl
      have hc1 := hc 1 _ rfl
      have hc2 := hc 2 _ rfl
      simp only [Nat.add_zero] at hc0
      have hba := (Below.refl wr.heap.size wr).alloc (Nat.le_refl _) (.cells #[.string x.k, .string x.t, .bool x.g] 41)
      have HAA := Lib.hid (HA.out.kept hba)
      have HX0 : Hid (Cells (wr.alloc (.cells #[.string x.k, .string x.t, .bool x.g] 41)) wr.heap.size 41 x.cells) := Lib.hid (Cells.new wr x.cells _)
      clear hc hx hba
      go_wp2_with fail
      refine Calls.mono (put_r C q f s x _ HAA.out.rows (by omega) HAA.out.last.1) ?_
      rintro e9 w9 ⟨C9, q9, f9, rfl, H9, hq9⟩
      have HA9 := Lib.hid (HAA.out.kept H9.out.below)
      have HX9 := Lib.hid (HX0.out.kept (Chg.of_below (F := fun _ => False) H9.out.below) (fun f => f))
      have hqf9 := H9.out.le
      have HC9 := Lib.hid H9.out.rows
      clear HAA HX0 H9 HA hc0 hc1 hc2
      generalize wr.heap.size = g at *
      rcases putL_cases s x with ⟨_, hp2⟩ | ⟨hp1, hp2⟩
      · have HP := Lib.hid hp2
        rw [hp2]
        clear hp2
        have hg0 := HX9.out.cell 0
        have hg1 := HX9.out.cell 1
        have hg2 := HX9.out.cell 2
        simp only [W3.cells, List.getElem?_cons_zero, List.getElem?_cons_succ] at hg0 hg1 hg2
        go_wp2_with (at_mapUpdate; refine wpList_mput rfl _ _ _ 39 rfl 9 41 Try.underlying39 Try.underlying9 keyed_string HA9.out.map x.k x rfl rfl rfl ?_; intro w4 HM4 HC4)
        go_roundw
        case rel => exact ⟨i + 1, C9, q9, f9, _, _, by omega, by go_num, rfl, hqf9, Lib.hid (HA9.out.next HC9.out HP.out HM4.out HC4.out)⟩
        case measure => simp [intOf]; omega
      · obtain ⟨E, hE⟩ : ∃ E, E = (putL s x).2 := ⟨_, rfl⟩
        rw [← hE] at hp2 ⊢
        clear hE
        rw [hp1] at HC9
        rcases hp2 with rfl | rfl
        all_goals
          go_wp2_with fail
          refine Calls.mono (ours_r C9 q9 f9 s w9 HC9.out (by omega)) ?_
          rintro e10 w10 ⟨A10, c10, rfl, H10⟩
          have HA10 := Lib.hid (HA9.out.kept H10.out.below)
          go_wp2_with fail
          refine Calls.mono (ours_r C q f s w10 HA10.out.rows (by omega)) ?_
          rintro e11 w11 ⟨A11, c11, rfl, H11⟩
          have HA11 := Lib.hid (HA10.out.kept H11.out.below)
          have HR11 := Lib.hid (H10.out.rows.kept H11.out.below)
          go_wp2_with fail
          refine Calls.mono (same_any A10 A11 q9 q c10 c11 s s w11 HR11.out H11.out.rows (by omega) true (by simp)) ?_
          rintro e12 w12 ⟨rfl, hb12⟩
          have HA12 := Lib.hid (HA11.out.kept hb12)
          go_wp2_with fail
          go_roundw
          case rel => exact ⟨i + 1, C, q, f, s, m, by omega, by go_num, rfl, hqf, HA12⟩
          case measure => simp [intOf]; omega
    · obtain rfl : i = n := by omega
      clear hmm hln
      go_wp2_with (at_range; refine wpList_mrange rfl _ 39 rfl 9 41 Try.underlying39 HA.out.map rfl ?_; intro w6 HI6 HB6)
      have HIT := Lib.hid (It.start HA.out HI6.out HB6.out)
      clear HI6 HB6 HA
      generalize wr.heap.size = r at HIT ⊢
      go_frame
      go_loopg [48] m.length (fun k v48 wt => ∃ left : List (ByteArray × W3), k = left.length ∧ Hid (It W wt C q s mb r m left))
      case atStart => exact ⟨m, rfl, HIT⟩
      case round =>
        clear HIT
        obtain ⟨left, hk, HIT⟩ := hrel
        cases left with
        | nil =>
          clear hk
          have hsl := HIT.out.atl.rows.1
          have hml := HIT.out.atl.last.2.2.2.1
          have hlb : ((q : Int) == (m.length : Int)) = true := by rw [← hml, hsl]; simp
          have hlq : decide ((q : Int) ≤ 16) = true := decide_eq_true (by omega)
          clear hsl hml
          go_wp2_with (first | (at_next; refine wpList_mnext rfl _ rfl HIT.out.iter rfl (fun _ => ?_) (fun x y p w6 hh => absurd hh.out (by simp))) | (at_len; refine wpList_mlen rfl _ 39 rfl 9 41 Try.underlying39 HIT.out.atl.map rfl ?_))
          refine Calls.mono (ours_r C q f s wr HIT.out.atl.rows (by omega)) ?_
          rintro e11 w11 ⟨A11, c11, rfl, H11⟩
          have HI11 := Lib.hid (HIT.out.kept H11.out.below)
          go_wp2_with fail
          refine Calls.mono (riseR_any A11 q c11 s w11 H11.out.rows (by omega) true (by simp [HIT.out.atl.last.1])) ?_
          rintro e12 w12 ⟨rfl, hb12⟩
          have HI12 := Lib.hid (HI11.out.kept hb12)
          clear hb12
          go_wp2_with fail
          go_ret
          exact ⟨rfl, HI12.out.atl.below⟩
        | cons p0 left =>
          have HK := Lib.hid hk
          clear hk
          go_wp2_with (at_next; refine wpList_mnext rfl _ rfl HIT.out.iter rfl (fun hh => absurd hh (by simp)) ?_; intro z y p w6 HX6 HI6 HC6 hen; obtain ⟨key, x⟩ := p; simp only [ks, wv] at hen; have hbx := (Below.refl w6.heap.size w6).alloc (Nat.le_refl _) (.cells #[.string x.k, .string x.t, .bool x.g] 41); have HIN := Lib.hid ((HIT.out.next HI6.out HC6.out (fun p hp => by rw [HX6.out]; rcases List.mem_append.1 hp with h | h; exact List.mem_append_left _ h; exact List.mem_append_right _ (List.mem_cons_of_mem _ h))).kept hbx); have HXB : Hid (Cells (w6.alloc (.cells #[.string x.k, .string x.t, .bool x.g] 41)) w6.heap.size 41 x.cells) := Lib.hid (Cells.new w6 x.cells _); clear hbx)
          have hg := HIN.out.atl.last.got (HIT.out.sub (key, x) (by rw [HX6.out]; simp))
          have HG := Lib.hid hg
          clear hg
          refine Calls.mono (get_any C q f s key _ HIN.out.atl.rows (by omega) HIN.out.atl.last.1) ?_
          rw [HG.out.1, HG.out.2]
          rintro e9 w9 ⟨rfl, hb9⟩
          have HI9 := Lib.hid (HIN.out.kept hb9)
          have HX9 := Lib.hid (HXB.out.kept (Chg.of_below (F := fun _ => False) hb9) (fun f => f))
          clear hb9 HIN HXB
          generalize w6.heap.size = g at *
          have hbx := (Below.refl w9.heap.size w9).alloc (Nat.le_refl _) (.cells #[.string x.k, .string x.t, .bool x.g] 45)
          have HI10 := Lib.hid (HI9.out.kept hbx)
          have HX10 := Lib.hid (HX9.out.kept (Chg.of_below (F := fun _ => False) hbx) (fun f => f))
          have HY10 : Hid (Cells (w9.alloc (.cells #[.string x.k, .string x.t, .bool x.g] 45)) w9.heap.size 45 x.cells) := Lib.hid (Cells.new w9 x.cells _)
          clear hbx
          have hg0 := HX10.out.cell 0
          have hg1 := HX10.out.cell 1
          have hg2 := HX10.out.cell 2
          simp only [W3.cells, List.getElem?_cons_zero, List.getElem?_cons_succ] at hg0 hg1 hg2
          go_wp2_with fail
          go_roundg (z ++ y).length
          case measure => have := HK.out; have := congrArg List.length HX6.out; simp at *; omega
          case rel => exact ⟨_, rfl, HI10⟩


theorem own : ownKnob Try.prog.godebug = none := by kernel_rfl
theorem laidOut : laidOutB Try.prog = true := by kernel_rfl

set_option maxRecDepth 100000 in
theorem lifted (os : Os) (started : os.Started) (H : Type) (enc : TypeId × Value → H) :
    ReturnsInHanded {} Try.checked os 4 .any (Rows.wsetLastSpec.pre6 enc Try.prog Try.f4 Rows.wsetLastRow.domain false) (Rows.wsetLastSpec.post enc Try.prog Try.f4 false true false false) := by
  refine returnsInHanded_of_change (C := Try.checked) own started (by kernel_rfl) Try.func4
    (ChangeSpec.witness6 (enc := enc) (C := Try.checked) false ⟨#[], #[.slice none 0 0], []⟩ 8 (by kernel_rfl) (by kernel_rfl) (by kernel_rfl) (by kernel_rfl)) ?_
  intro W base args ds gs before hval0 hW hcnd _
  have hval : ∀ (j : Nat) t v, Try.f4.params[j]? = some t → args[j]? = some v → Value.okWide Try.prog W .any base t v := hval0
  have hW' := hW
  obtain ⟨p, q, hA0, hV, rfl, hfz, hnd⟩ := hW
  have hA : DataW.TrodAll enc Try.prog W 0 (fun _ => true) true Try.f4.params.toList args.toList ds p := hA0
  rw [Try.params4] at hA hval
  obtain ⟨v0, vs0, d0, ds0, p0, q0, hargs, rfl, rfl, h0, r0⟩ := trodAll_cons hA
  obtain ⟨rfl, rfl, rfl⟩ := trodAll_nil r0
  obtain rfl : args = #[v0] := by cases args; simp_all
  obtain ⟨rfl, rfl⟩ := trodVars_none hV
  clear hA0 hval0
  have lt0 : ∀ x ∈ p0, x.block < W.heap.size := by obtain ⟨m, hm⟩ := h0; exact DataW.trod_lt m _ _ _ hm
  simp only [List.append_nil] at hW'
  refine Calls.mono (walk W h0 (hval 0 23 v0 rfl rfl)) ?_
  rintro e W' ⟨rfl, bel⟩
  exact ⟨_, rfl, Post.post_below (pa := _) (pv := []) hW' (fun _ _ _ => (trodAll_cons_mk (shut_bool Try.underlying4 _) trodAll_mk0)) (fun sp hsp => (trodAll_cons_mk (WideElems.Trod_stays laidOut (by kernel_rfl) (of_decide_eq_true (by kernel_rfl)) h0 (fun x hx => bel.same (lt0 x hx)) (fun x hx => hsp x (by simp [hx]))) trodAll_mk0)) (fun _ _ => rfl) (by simp)
    bel (ok_one (by kernel_rfl) rfl (okWide_bool_mk Try.underlying4 _))⟩

theorem over : Rows.wsetLastRow.holds Try.pinned (OpenSpec.ofChange Rows.wsetLastSpec) :=
  OpenClaim.holds_of_wide 4 Try.f4 rfl rfl rfl rfl rfl rfl rfl ⟨rfl, rfl, rfl, rfl, rfl⟩ rfl rfl rfl rfl rfl (by kernel_rfl) Try.func4 (by kernel_rfl)
    (of_decide_eq_true (by kernel_rfl)) (by unfold Func.isWrapper; first | (rw [if_pos (by decide +kernel)]; kernel_rfl) | (rw [if_neg (by decide +kernel)]; exact ⟨rfl, rfl⟩))
    (fun os started H enc _ => lifted os started H enc)

/-- The statement. -/
theorem proved : Rows.WsetLastSaid :=
  over

end Go.Proofs.Ythbmjhdgflpmgaa.wsetLast
