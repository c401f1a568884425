/- StampGone: what is closed does not count, in whatever order. No condition. -/
import Derived.Test.YtdjppnfbpnfgaaaNumbers
import Derived.Test.YtdjppnfbpnfgaaaLeast
namespace Go.Proofs.Ytdjppnfbpnfgaaa.stampGone
open Go.ChangeShapes Go.WideShapes Go.ChangeAt Go.RowKit Go.Proofs.Ytdjppnfbpnfgaaa.Mem Go.Proofs.Ytdjppnfbpnfgaaa.Q Go.Proofs.Ytdjppnfbpnfgaaa.Watch Go.Proofs.Ytdjppnfbpnfgaaa.Read Go.Proofs.Ytdjppnfbpnfgaaa.Map
open Go.Proofs.Ytdjppnfbpnfgaaa.stampNumbers (Link LiveM HalfM mopen_yes mclose_yes mclose_no mleast mlen getD_wf)
open Go.Proofs.Ytdjppnfbpnfgaaa.stampLeast (begun_at begun_lo begun_set cells8)

theorem zero23 (w : World) : (zeroValue 23).run Try.prog w = .ok (.int .u64 0) w := by kernel_rfl

/-- A watch, a map beside it, and a range over that map at work. -/
def LiveI (w0 w : World) (b N : Nat) (st : List (Option Int)) (mb : Nat) (l : List (Int × Int)) (r : Nat) (left : List (Int × Int)) : Prop :=
  ∃ F, WatchAt w b F N st ∧ (∀ k, F k → w0.heap.size ≤ k) ∧ ¬ F mb ∧ w0.heap.size ≤ mb ∧ ¬ F r ∧ w0.heap.size ≤ r ∧ r ≠ mb ∧ IterOf (Value.int .i64) (Value.int .u64) w mb r l left ∧ Link id st l ∧ Below w0.heap.size w0 w

section
variable {w0 w : World} {b N mb r : Nat} {st : List (Option Int)} {l left : List (Int × Int)}

theorem LiveI.iter (h : LiveI w0 w b N st mb l r left) : IterOf (Value.int .i64) (Value.int .u64) w mb r l left := by
  obtain ⟨F, _, _, _, _, _, _, _, h, _⟩ := h; exact h

theorem LiveI.live (h : LiveI w0 w b N st mb l r left) : LiveM id .u64 w0 w b N st mb l := by
  obtain ⟨F, h1, h2, h3, h4, _, _, _, h5, h6, h7⟩ := h
  exact ⟨F, h1, h2, h3, h4, h5.map, h6, h7⟩

theorem ranged {w' : World} (h : LiveM id .u64 w0 w b N st mb l) (hi : IterOf (Value.int .i64) (Value.int .u64) w' mb w.heap.size l l) (hb : Below w.heap.size w w') : LiveI w0 w' b N st mb l w.heap.size l := by
  obtain ⟨F, h1, h2, h3, h4, h5, h6, h7⟩ := h
  have hlt := h5.lt
  exact ⟨F, h1.kept (Chg.of_below (F := fun _ => False) hb) (fun _ _ f => f), h2, h3, h4, fun f => by have := h1.lt _ f; omega, h7.size, by omega, hi, h6, h7.trans (hb.mono h7.size)⟩

theorem LiveI.next {w' : World} {left' : List (Int × Int)} (h : LiveI w0 w b N st mb l r left) (hi : IterOf (Value.int .i64) (Value.int .u64) w' mb r l left') (hc : Chg (· = r) w w') : LiveI w0 w' b N st mb l r left' := by
  obtain ⟨F, h1, h2, h3, h4, h8, h9, h10, h5, h6, h7⟩ := h
  exact ⟨F, h1.kept hc (fun k hk e => h8 (e ▸ hk)), h2, h3, h4, h8, h9, h10, hi, h6, below_chg h7 hc (fun k e => e ▸ h9)⟩
end

/-- The least one of the values so far: m, and none came yet just if 'fl'. -/
def Lst (none : Int) (seen : List (Int × Int)) (m : Int) (fl : Bool) : Prop :=
  (fl = true ∧ m = none ∧ seen = []) ∨ (fl = false ∧ (∃ k, (k, m) ∈ seen) ∧ ∀ p ∈ seen, m ≤ p.2)

theorem Lst.step_yes {none m : Int} {seen : List (Int × Int)} {fl : Bool} (h : Lst none seen m fl) {p : Int × Int} (hp : fl = true ∨ p.2 < m) : Lst none (p :: seen) p.2 false := by
  refine .inr ⟨rfl, ⟨p.1, List.mem_cons_self⟩, fun q hq => ?_⟩
  rcases List.mem_cons.1 hq with rfl | hq
  · exact Int.le_refl _
  · rcases h with ⟨_, _, rfl⟩ | ⟨h0, _, h2⟩
    · cases hq
    · have := h2 q hq
      rcases hp with hp | hp
      · rw [h0] at hp; cases hp
      · omega

theorem Lst.step_no {none m : Int} {seen : List (Int × Int)} (h : Lst none seen m false) {p : Int × Int} (hp : ¬ p.2 < m) : Lst none (p :: seen) m false := by
  rcases h with ⟨h0, _⟩ | ⟨_, ⟨k, hk⟩, h2⟩
  · cases h0
  · refine .inr ⟨rfl, ⟨k, List.mem_cons_of_mem _ hk⟩, fun q hq => ?_⟩
    rcases List.mem_cons.1 hq with rfl | hq
    · omega
    · exact h2 q hq

theorem mem_get {l : List (Int × Int)} (hn : (l.map (·.1)).Nodup) : ∀ {k v : Int}, (k, v) ∈ l → Map.get l k = some v := by
  induction l with
  | nil => intro k v h; cases h
  | cons p l ih =>
    obtain ⟨a, u⟩ := p
    intro k v h
    simp only [List.map_cons, List.nodup_cons] at hn
    rcases List.mem_cons.1 h with h | h
    · cases h; simp [Map.get]
    · have : a ≠ k := fun e => hn.1 (e ▸ List.mem_map.2 ⟨_, h, rfl⟩)
      simp [Map.get, this, ih hn.2 h]

theorem get_mem {l : List (Int × Int)} {k v : Int} (h : Map.get l k = some v) : (k, v) ∈ l := by
  induction l with
  | nil => cases h
  | cons p l ih =>
    obtain ⟨a, u⟩ := p
    simp only [Map.get] at h
    split at h
    · rename_i e; cases h; subst e; exact List.mem_cons_self
    · exact List.mem_cons_of_mem _ (ih h)

theorem Lst.least {none m : Int} {fl : Bool} {st : List (Option Int)} {l seen : List (Int × Int)} (h : Lst none seen m fl) (hp : seen.Perm l) (hl : Link id st l) : IsLeast st none m := by
  have at8 : ∀ (i : Nat) (x : Int), st[i]? = some (some x) → ((i : Int), x) ∈ seen := by
    intro i x hx
    have i8 : i < 8 := by have := (List.getElem?_eq_some_iff.1 hx).1; rw [hl.len8] at this; exact this
    have hb : hasB st i = true := by rw [hasB_at i8, List.getD_eq_getElem?_getD, hx]; rfl
    refine hp.mem_iff.2 (get_mem ?_)
    rw [hl.got, hb]
    simp [List.getD_eq_getElem?_getD, hx]
  rcases h with ⟨_, rfl, rfl⟩ | ⟨_, ⟨k, hk⟩, h2⟩
  · exact .inr ⟨fun i x hx => by have := at8 i x hx; simp at this, rfl⟩
  · refine .inl ⟨?_, fun i x hx => h2 _ (at8 i x hx)⟩
    have hg := mem_get hl.nodup (hp.mem_iff.1 hk)
    rw [hl.got] at hg
    split at hg
    · rename_i hb
      refine ⟨k.toNat, ?_⟩
      rw [Option.map_id] at hg
      rw [List.getD_eq_getElem?_getD] at hg
      cases hq : st[k.toNat]? with
      | none => rw [hq] at hg; simp at hg
      | some o => rw [hq] at hg; simp at hg; rw [hg]
    · cases hg

theorem perm_step {x y seen l : List (Int × Int)} {p : Int × Int} (h : (seen ++ (x ++ p :: y)).Perm l) : ((p :: seen) ++ (x ++ y)).Perm l := by
  refine List.Perm.trans (List.Perm.symm ?_) h
  refine (List.Perm.append_left seen List.perm_middle).trans ?_
  exact List.perm_middle

theorem flag_or (fl : Bool) (a b : Int) : fl = true ∨ (fl = false ∧ decide (a < b) = true) ∨ (fl = false ∧ decide (a < b) = false) := by
  cases fl <;> cases decide (a < b) <;> simp

theorem mclose_any {f : Int → Int} {vk : IntKind} {w0 w : World} {b N mb : Nat} {st : List (Option Int)} {l : List (Int × Int)} (I : Int) (h : LiveM f vk w0 w b N st mb l) :
    Calls Try.prog 11 #[ptr b, .int .i64 I] w fun e w' => ∃ r st', e = .returned (.int .i64 r) ∧ Hid (HalfM f vk w0 w' b N st st' mb l) ∧ Hid (Link f st' (del l I)) := by
  cases hr : hasB st I with
  | true =>
    refine Calls.mono (mclose_yes I h hr) ?_
    rintro e w' ⟨rfl, H⟩
    exact ⟨0, _, rfl, H, h.link.del_yes hr⟩
  | false =>
    refine Calls.mono (mclose_no I h hr) ?_
    rintro e w' ⟨rfl, rfl⟩
    exact ⟨7, st, rfl, h, by rw [h.link.del_no hr]; exact h.link⟩

set_option maxRecDepth 100000 in
set_option maxHeartbeats 4000000 in
theorem walk {H : Type} {enc : TypeId × Value → H} (W : World) {base : Nat} {v v1 v2 : Value} {d d1 d2 : DataW H} {p p1 p2 : List MemPlace} (h : DataW.Trod enc Try.prog W 0 (fun _ => true) true 52 v d p) (ho : Value.okWide Try.prog W .any base 52 v)
    (h1 : DataW.Trod enc Try.prog W 0 (fun _ => true) true 56 v1 d1 p1) (ho1 : Value.okWide Try.prog W .any base 56 v1) (h2 : DataW.Trod enc Try.prog W 0 (fun _ => true) true 23 v2 d2 p2) (ho2 : Value.okWide Try.prog W .any base 23 v2) :
    Calls Try.prog 7 #[v, v1, v2] W fun e W' => e = .returned (.bool true) ∧ Below W.heap.size W W' := by
  obtain ⟨A, n, c, xs, rfl, hx⟩ := ints_open Try.underlying52 Try.underlying23 cells8 h ho
  obtain ⟨A1, n1, c1, ys, rfl, hy⟩ := ints_open Try.underlying56 Try.underlying5 (by kernel_rfl) h1 ho1
  obtain ⟨none, rfl, _, _, _⟩ := open_int Try.underlying23 ho2 h2
  have HX := Lib.hid hx
  have HY := Lib.hid hy
  clear h ho hx h1 ho1 hy h2 ho2
  have hmm := @run_makeMap Try.prog
  go_enter Try.func7, Try.ntmps7
  go_wp2_with fail
  refine Calls.mono (alive_true W) ?_
  rintro e w1 ⟨rfl, hb⟩
  have HB := Lib.hid hb
  clear hb
  by_cases h8 : 8 < n
  · have hb8 : decide ((8 : Int) < n) = true := decide_eq_true (by omega)
    go_wp2_with fail
    go_ret
    exact ⟨rfl, HB.out⟩
  by_cases h50 : 50 < n1
  · have hb8 : decide ((8 : Int) < n) = false := decide_eq_false (by omega)
    have hb50 : decide ((50 : Int) < n1) = true := decide_eq_true (by omega)
    go_wp2_with fail
    go_ret
    exact ⟨rfl, HB.out⟩
  · have hb8 : decide ((8 : Int) < n) = false := decide_eq_false (by omega)
    have hb50 : decide ((50 : Int) < n1) = false := decide_eq_false (by omega)
    go_wp2_with fail
    generalize hW : World.alloc (World.alloc w1 _) _ = W1
    have HL : Hid (LiveM id .u64 W W1 w1.heap.size 0 (List.replicate 8 .none) (w1.heap.size + 1) []) := by
      rw [← hW]
      exact LiveM.new _ _ W w1 HB.out
    clear hW
    go_loopw [32] (fun v32 wr => ∃ (i : Nat) (l : List (Int × Int)), i ≤ n ∧ v32 = .int .i64 i ∧ Hid (LiveM id .u64 W wr w1.heap.size i (stampLeast.begun xs i) (w1.heap.size + 1) l)) (fun v32 _ => n - (intOf v32).toNat)
    case atStart => exact ⟨0, [], Nat.zero_le _, rfl, HL⟩
    case round =>
      obtain ⟨i, l, hi, rfl, HL1⟩ := hrel
      by_cases hin : i < n
      · obtain ⟨b, off, rfl, hlt, hc⟩ := (HX.out.kept HL1.out.below).2.2.2 (by omega)
        have hc0 := hc i hin
        have hlx := HX.out.1
        obtain ⟨x, hx, hs⟩ : ∃ x, x = xs.getD i 0 ∧ (stampLeast.begun xs i).set i (some x) = stampLeast.begun xs (i + 1) := ⟨_, rfl, begun_set xs i (by omega) (by omega)⟩
        have HS := Lib.hid hs
        rw [← hx] at hc0
        have HF1 := Lib.hid (begun_at xs i (by omega) (by omega))
        have HF2 := Lib.hid (begun_lo xs i (by omega))
        clear hx hc hs
        go_wp2_with fail
        refine Calls.mono (mopen_yes i x HL1.out (by omega) HF1.out HF2.out) ?_
        rintro e w3 ⟨rfl, HH⟩
        go_wp2_with (at_mapUpdate; refine wpList_mput rfl _ _ _ 59 rfl 3 23 Try.underlying59 Try.underlying3 (keyed_int .i64) HH.out.map i x rfl rfl rfl ?_; intro w4 HM4 HC4)
        go_roundw
        case rel => exact ⟨i + 1, _, by omega, by go_num, by have := HH.out.whole HM4.out HC4.out (HL1.out.link.set HF1.out x); rw [HS.out] at this; exact Lib.hid this⟩
        case measure => simp [intOf]; omega
      · obtain rfl : i = n := by omega
        go_wp2_with fail
        go_loopw [49] (fun v49 wr => ∃ (j : Nat) (st : List (Option Int)) (l : List (Int × Int)), j ≤ n1 ∧ v49 = .int .i64 j ∧ Hid (LiveM id .u64 W wr w1.heap.size i st (w1.heap.size + 1) l)) (fun v49 _ => n1 - (intOf v49).toNat)
        case atStart => exact ⟨0, _, _, Nat.zero_le _, rfl, HL1⟩
        case round =>
          obtain ⟨j, st, l2, hj, rfl, HL2⟩ := hrel
          by_cases hjn : j < n1
          · obtain ⟨b, off, rfl, hlt, hc⟩ := (HY.out.kept HL2.out.below).2.2.2 (by omega)
            have hc0 := hc j hjn
            obtain ⟨x, hx⟩ : ∃ x, x = ys.getD j 0 := ⟨_, rfl⟩
            have hxw : (Lit.int .u8 x).wf = true := by rw [hx]; exact getD_wf HY.out hjn
            have hxb := bounds_u8 hxw
            rw [← hx] at hc0
            clear hx hc hxw
            obtain ⟨I, hI⟩ : ∃ I, I = x % 8 := ⟨_, rfl⟩
            have HI := Lib.hid hI
            clear hI
            go_wp2_with fail
            refine Calls.mono (mclose_any (x % 8) HL2.out) ?_
            rintro e w3 ⟨r, st', rfl, HH, HLK⟩
            go_wp2_with (first | (at_delete; refine wpList_mdel rfl _ _ 59 3 rfl 3 23 Try.underlying59 Try.underlying3 (keyed_int .i64) HH.out.map (x % 8) rfl rfl ?_; intro w4 HM4 HC4; have HL5 := Lib.hid (HH.out.whole HM4.out HC4.out HLK.out); clear HM4 HC4) | (at_range; refine wpList_mrange rfl _ 59 rfl 3 23 Try.underlying59 HL5.out.map rfl ?_; intro w6 HI6 HB6))
            have HLI := Lib.hid (ranged HL5.out HI6.out HB6.out)
            clear HI6 HB6
            go_frame
            go_loopg [15, 16] (del l2 (x % 8)).length (fun k v15 v16 wr => ∃ (m : Int) (fl : Bool) (seen left : List (Int × Int)), v15 = .int .u64 m ∧ v16 = .bool fl ∧ k = left.length ∧ Hid (Lst none seen m fl) ∧ Hid ((seen ++ left).Perm (del l2 (x % 8))) ∧ Hid (LiveI W wr w1.heap.size i st' (w1.heap.size + 1) (del l2 (x % 8)) w4.heap.size left))
            case atStart => exact ⟨none, true, [], _, rfl, rfl, rfl, Lib.hid (.inl ⟨rfl, rfl, rfl⟩), Lib.hid (List.Perm.refl _), HLI⟩
            case round =>
              obtain ⟨m, fl, seen, left, rfl, rfl, hk, HM, HP, HLI2⟩ := hrel
              cases left with
              | nil =>
                clear hk
                go_wp2_with (at_next; refine wpList_mnext rfl _ rfl HLI2.out.iter rfl (fun _ => ?_) (fun x y p w6 hh => absurd hh.out (by simp)))
                have HLE : Hid (IsLeast st' none m) := Lib.hid (HM.out.least (by have := HP.out; rwa [List.append_nil] at this) HLK.out)
                refine Calls.mono (mleast none m HLI2.out.live (by omega) HLE.out) ?_
                rintro e w7 ⟨rfl, HL7⟩
                go_wp2_with fail
                refine Calls.mono (mlen HL7.out) ?_
                rintro e w8 ⟨rfl, rfl⟩
                have hlen := HLK.out.len
                have hlb : ((cntB st' : Int) == ((del l2 (x % 8)).length : Int)) = true := by simp [hlen]
                have hrl := run_len (P := Try.prog) Try.underlying59 HL7.out.map 3
                go_wp2_with fail
                go_roundw
                case rel => exact ⟨j + 1, _, _, by omega, by go_num, HL7⟩
                case measure => simp [intOf]; omega
              | cons q left =>
                have HK := Lib.hid hk
                clear hk
                go_wp2_with (at_next; refine wpList_mnext rfl _ rfl HLI2.out.iter rfl (fun hh => absurd hh (by simp)) ?_; intro z y p w6 HX6 HI6 HC6 hen; rcases flag_or fl p.2 m with rfl | ⟨rfl, hlt⟩ | ⟨rfl, hlt⟩)
                · go_roundg (z ++ y).length
                  case measure => have := HK.out; have := congrArg List.length HX6.out; simp at *; omega
                  case rel => exact ⟨p.2, false, p :: seen, _, rfl, rfl, rfl, Lib.hid (HM.out.step_yes (.inl rfl)), Lib.hid (perm_step (by rw [← HX6.out]; exact HP.out)), Lib.hid (HLI2.out.next HI6.out HC6.out)⟩
                · go_roundg (z ++ y).length
                  case measure => have := HK.out; have := congrArg List.length HX6.out; simp at *; omega
                  case rel => exact ⟨p.2, false, p :: seen, _, rfl, rfl, rfl, Lib.hid (HM.out.step_yes (.inr (of_decide_eq_true hlt))), Lib.hid (perm_step (by rw [← HX6.out]; exact HP.out)), Lib.hid (HLI2.out.next HI6.out HC6.out)⟩
                · go_roundg (z ++ y).length
                  case measure => have := HK.out; have := congrArg List.length HX6.out; simp at *; omega
                  case rel => exact ⟨m, false, p :: seen, _, rfl, rfl, rfl, Lib.hid (HM.out.step_no (of_decide_eq_false hlt)), Lib.hid (perm_step (by rw [← HX6.out]; exact HP.out)), Lib.hid (HLI2.out.next HI6.out HC6.out)⟩
          · go_wp2_with fail
            go_ret
            exact ⟨rfl, HL2.out.below⟩


theorem own : ownKnob Try.prog.godebug = none := by kernel_rfl
theorem laidOut : laidOutB Try.prog = true := by kernel_rfl

set_option maxRecDepth 100000 in
theorem lifted (os : Os) (started : os.Started) (H : Type) (enc : TypeId × Value → H) :
    ReturnsInHanded {} Try.checked os 7 .any (Rows.stampGoneSpec.pre6 enc Try.prog Try.f7 Rows.stampGoneRow.domain false) (Rows.stampGoneSpec.post enc Try.prog Try.f7 false true false false) := by
  refine returnsInHanded_of_change (C := Try.checked) own started (by kernel_rfl) Try.func7
    (ChangeSpec.witness6 (enc := enc) (C := Try.checked) false ⟨#[], #[.slice none 0 0, .slice none 0 0, .int .u64 0], []⟩ 8 (by kernel_rfl) (by kernel_rfl) (by kernel_rfl) (by kernel_rfl)) ?_
  intro W base args ds gs before hval0 hW hcnd _
  have hval : ∀ (j : Nat) t v, Try.f7.params[j]? = some t → args[j]? = some v → Value.okWide Try.prog W .any base t v := hval0
  have hW' := hW
  obtain ⟨p, q, hA0, hV, rfl, hfz, hnd⟩ := hW
  have hA : DataW.TrodAll enc Try.prog W 0 (fun _ => true) true Try.f7.params.toList args.toList ds p := hA0
  rw [Try.params7] at hA hval
  obtain ⟨v0, vs0, d0, ds0, p0, q0, hargs, rfl, rfl, h0, r0⟩ := trodAll_cons hA
  obtain ⟨v1, vs1, d1, ds1, p1, q1, rfl, rfl, rfl, h1, r1⟩ := trodAll_cons r0
  obtain ⟨v2, vs2, d2, ds2, p2, q2, rfl, rfl, rfl, h2, r2⟩ := trodAll_cons r1
  obtain ⟨rfl, rfl, rfl⟩ := trodAll_nil r2
  obtain rfl : args = #[v0, v1, v2] := by cases args; simp_all
  obtain ⟨rfl, rfl⟩ := trodVars_none hV
  clear hA0 hval0
  have lt0 : ∀ x ∈ p0, x.block < W.heap.size := by obtain ⟨m, hm⟩ := h0; exact DataW.trod_lt m _ _ _ hm
  have lt1 : ∀ x ∈ p1, x.block < W.heap.size := by obtain ⟨m, hm⟩ := h1; exact DataW.trod_lt m _ _ _ hm
  have lt2 : ∀ x ∈ p2, x.block < W.heap.size := by obtain ⟨m, hm⟩ := h2; exact DataW.trod_lt m _ _ _ hm
  simp only [List.append_nil] at hW'
  refine Calls.mono (walk W h0 (hval 0 52 v0 rfl rfl) h1 (hval 1 56 v1 rfl rfl) h2 (hval 2 23 v2 rfl rfl)) ?_
  rintro e W' ⟨rfl, bel⟩
  exact ⟨_, rfl, Post.post_below (pa := _) (pv := []) hW' (fun _ _ _ => (trodAll_cons_mk (shut_bool Try.underlying4 _) trodAll_mk0)) (fun sp hsp => (trodAll_cons_mk (WideElems.Trod_stays laidOut (by kernel_rfl) (of_decide_eq_true (by kernel_rfl)) h0 (fun x hx => bel.same (lt0 x hx)) (fun x hx => hsp x (by simp [hx]))) (trodAll_cons_mk (WideElems.Trod_stays laidOut (by kernel_rfl) (of_decide_eq_true (by kernel_rfl)) h1 (fun x hx => bel.same (lt1 x hx)) (fun x hx => hsp x (by simp [hx]))) (trodAll_cons_mk (WideElems.Trod_stays laidOut (by kernel_rfl) (of_decide_eq_true (by kernel_rfl)) h2 (fun x hx => bel.same (lt2 x hx)) (fun x hx => hsp x (by simp [hx]))) trodAll_mk0)))) (fun _ _ => rfl) (by simp)
    bel (ok_one (by kernel_rfl) rfl (okWide_bool_mk Try.underlying4 _))⟩

theorem over : Rows.stampGoneRow.holds Try.pinned (OpenSpec.ofChange Rows.stampGoneSpec) :=
  OpenClaim.holds_of_wide 7 Try.f7 rfl rfl rfl rfl rfl rfl rfl ⟨rfl, rfl, rfl, rfl, rfl⟩ rfl rfl rfl rfl rfl (by kernel_rfl) Try.func7 (by kernel_rfl)
    (of_decide_eq_true (by kernel_rfl)) (by unfold Func.isWrapper; first | (rw [if_pos (by decide +kernel)]; kernel_rfl) | (rw [if_neg (by decide +kernel)]; exact ⟨rfl, rfl⟩))
    (fun os started H enc _ => lifted os started H enc)

/-- The statement. -/
theorem proved : Rows.StampGoneSaid :=
  over

end Go.Proofs.Ytdjppnfbpnfgaaa.stampGone
