/- TxnOpens: who begins is open, till it ends. -/
import Derived.Test.YtfbldpppjnnblaaLink17
import Derived.Test.YtfbldpppjnnblaaOpen17
import Derived.Maps.OwnOps
import Derived.Maps.RangeWalk
import Derived.Maps.OwnSet
namespace Go.Proofs.Ytfbldpppjnnblaa.txnOpens
open Go.ChangeShapes Go.WideShapes Go.ChangeAt Go.RowKit Go.Proofs.Ytfbldpppjnnblaa.Mem Go.Proofs.Ytfbldpppjnnblaa.Q Go.Proofs.Ytfbldpppjnnblaa.Watch Go.Proofs.Ytfbldpppjnnblaa.Read Go.Proofs.Ytfbldpppjnnblaa.Out Go.Proofs.Ytfbldpppjnnblaa.Rows3 Go.Proofs.Ytfbldpppjnnblaa.Map Go.Proofs.Ytfbldpppjnnblaa.Tab Go.Proofs.Ytfbldpppjnnblaa.Liv Go.Proofs.Ytfbldpppjnnblaa.Link17
set_option maxRecDepth 100000
set_option maxHeartbeats 4000000

/-- A table, and a map beside it. -/
structure OS (W w : World) (tb mb N : Nat) (S : Nat → Prop) (st : List (Option Int)) (ss : List (List W3)) (l : List (Int × Int)) : Prop where
  liv : Liv W w tb N S st ss []
  map : MapOf (Value.int .i64) (Value.int .u64) w mb l
  off : ¬ S mb
  ge : W.heap.size ≤ mb

section
variable {W w w' : World} {tb mb N N' : Nat} {S : Nat → Prop} {st st' : List (Option Int)} {ss ss' : List (List W3)} {l l' : List (Int × Int)}

theorem OS.kept (h : OS W w tb mb N S st ss l) (hb : Below w.heap.size w w') : OS W w' tb mb N S st ss l :=
  ⟨h.liv.kept hb, h.map.kept (Chg.of_below (F := fun _ => False) hb) (fun f => f), h.off, h.ge⟩

theorem OS.turn (h : OS W w tb mb N S st ss l) (ht : Turn w S w' tb N' st' ss' []) : ∃ S', Hid (OS W w' tb mb N' S' st' ss' l) := by
  obtain ⟨S', h1, h2, h3⟩ := h.liv.turn ht
  exact ⟨S', h1.out, h.map.kept h3.out h.off, fun hs => (h2.out mb hs).elim h.off (fun e => by have := h.map.lt; omega), h.ge⟩

theorem OS.mapped (h : OS W w tb mb N S st ss l) (hm : MapOf (Value.int .i64) (Value.int .u64) w' mb l') (hc : Chg (· = mb) w w') : OS W w' tb mb N S st ss l' :=
  ⟨⟨h.liv.tab.kept hc (fun _ hs e => h.off (e ▸ hs)), h.liv.new, Liv.below_chg h.liv.below hc (fun _ e => e ▸ h.ge)⟩, hm, h.off, h.ge⟩
end

/-- The range over the map at work, in block r. -/
structure ItO (W w : World) (tb mb r N : Nat) (S : Nat → Prop) (st : List (Option Int)) (ss : List (List W3)) (l left : List (Int × Int)) : Prop where
  os : OS W w tb mb N S st ss l
  iter : IterOf (Value.int .i64) (Value.int .u64) w mb r l left
  off : ¬ S r
  ge : W.heap.size ≤ r

theorem ItO.start {W w w' : World} {tb mb N : Nat} {S : Nat → Prop} {st : List (Option Int)} {ss : List (List W3)} {l : List (Int × Int)} (h : OS W w tb mb N S st ss l) (hi : IterOf (Value.int .i64) (Value.int .u64) w' mb w.heap.size l l) (hb : Below w.heap.size w w') : ItO W w' tb mb w.heap.size N S st ss l l :=
  ⟨h.kept hb, hi, fun hs => by have := h.liv.tab.lt hs; omega, h.liv.below.size⟩

theorem ItO.next {W w w' : World} {tb mb r N : Nat} {S : Nat → Prop} {st : List (Option Int)} {ss : List (List W3)} {l left left' : List (Int × Int)} (h : ItO W w tb mb r N S st ss l left) (hi : IterOf (Value.int .i64) (Value.int .u64) w' mb r l left') (hc : Chg (· = r) w w') : ItO W w' tb mb r N S st ss l left' :=
  ⟨⟨⟨h.os.liv.tab.kept hc (fun _ hs e => h.off (e ▸ hs)), h.os.liv.new, Liv.below_chg h.os.liv.below hc (fun _ e => e ▸ h.ge)⟩, hi.map, h.os.off, h.os.ge⟩, hi, h.off, h.ge⟩

/-- The map goes with the numbers; all stamps are below 1000. -/
def LK (st : List (Option Int)) (l : List (Int × Int)) (i : Nat) : Prop := Link id st l ∧ ∀ p ∈ l, p.2 < i

theorem get_lt {l : List (Int × Int)} {i : Nat} (h : ∀ p ∈ l, p.2 < (i : Int)) : ∀ {k v : Int}, Map.get l k = some v → v < i := fun hg => h _ (get_mem hg)

theorem mem_put {l : List (Int × Int)} {k v : Int} : ∀ p ∈ Map.put l k v, p ∈ l ∨ p = (k, v) := by
  induction l with
  | nil => intro p hp; exact .inr (by simpa [Map.put] using hp)
  | cons q l ih =>
    obtain ⟨a, u⟩ := q
    intro p hp
    simp only [Map.put] at hp
    split at hp
    · rcases List.mem_cons.1 hp with rfl | hp
      · exact .inr rfl
      · exact .inl (List.mem_cons_of_mem _ hp)
    · rcases List.mem_cons.1 hp with rfl | hp
      · exact .inl List.mem_cons_self
      · exact (ih p hp).imp (List.mem_cons_of_mem _) id

theorem LK.put {st : List (Option Int)} {l : List (Int × Int)} {i j : Nat} (h : LK st l i) (hj : st[j]? = some none) : LK (st.set j (some (i : Int))) (Map.put l (j : Int) (i : Int)) (i + 1) :=
  ⟨h.1.set hj i, fun p hp => by
    rcases mem_put p hp with hp | rfl
    · have := h.2 p hp; omega
    · show (i : Int) < _; omega⟩

theorem LK.more {st : List (Option Int)} {l : List (Int × Int)} {i : Nat} (h : LK st l i) : LK st l (i + 1) := ⟨h.1, fun p hp => by have := h.2 p hp; omega⟩

theorem mem_del {l : List (Int × Int)} {k : Int} : ∀ p ∈ Map.del l k, p ∈ l := by
  induction l with
  | nil => intro p hp; simp [Map.del] at hp
  | cons q l ih =>
    obtain ⟨a, u⟩ := q
    intro p hp
    simp only [Map.del] at hp
    split at hp
    · exact List.mem_cons_of_mem _ hp
    · rcases List.mem_cons.1 hp with rfl | hp
      · exact List.mem_cons_self
      · exact List.mem_cons_of_mem _ (ih p hp)

theorem LK.del {st : List (Option Int)} {l : List (Int × Int)} {i j : Nat} (h : LK st l i) (hj : hasB st j = true) : LK (st.set j none) (Map.del l (j : Int)) (i + 1) :=
  ⟨by have := h.1.del_yes hj; rwa [Int.toNat_natCast] at this, fun p hp => by have := h.2 p (mem_del p hp); omega⟩

theorem LK.full {st : List (Option Int)} {l : List (Int × Int)} {i : Nat} (h : LK st l i) (hf : ∀ j : Nat, st[j]? ≠ some none) : l.length = 8 := by
  rw [h.1.len]
  have h8 := h.1.len8
  unfold cntB
  rw [List.filter_eq_self.2 (fun o ho => by
    obtain ⟨j, hj, rfl⟩ := List.getElem_of_mem ho
    have := hf j
    rw [List.getElem?_eq_getElem hj] at this
    cases hx : st[j] with
    | none => rw [hx] at this; exact absurd rfl this
    | some x => rfl), h8]

theorem link_at {st : List (Option Int)} {l : List (Int × Int)} (h : Link id st l) {k v : Int} (hm : (k, v) ∈ l) : hasB st k = true ∧ st.getD k.toNat none = some v := by
  have hg := mem_get h.nodup hm
  rw [h.got] at hg
  split at hg
  · rename_i hb
    rw [Option.map_id] at hg
    exact ⟨hb, hg⟩
  · cases hg

theorem opens_cnt {st : List (Option Int)} (h : st.length = 8) : (opensL st 8).length = cntB st := by
  have key : ∀ i, i ≤ 8 → (opensL st i).length = cntB (st.take i) := by
    intro i
    induction i with
    | zero => intro _; simp [opensL, cntB]
    | succ i ih =>
      intro hi
      rw [cnt_take st i (by omega), ← ih (by omega)]
      cases hb : hasB st i with
      | true =>
        rw [opens_yes hb, List.length_append]
        rw [hasB_at (by omega)] at hb
        rw [if_pos hb]; rfl
      | false =>
        rw [opens_no hb]
        rw [hasB_at (by omega)] at hb
        rw [if_neg (by rw [hb]; simp)]; rfl
  rw [key 8 (Nat.le_refl _), List.take_of_length_le (by omega)]

theorem getD_wf {w : World} {k : IntKind} {A : Option Addr} {n : Nat} {xs : List Int} (h : Ints w k A n xs) {i : Nat} (hi : i < n) : (Lit.int k (xs.getD i 0)).wf = true := by
  have hl := h.1
  rw [List.getD_eq_getElem?_getD, List.getElem?_eq_getElem (show i < xs.length by omega)]
  exact h.2.2.1 _ (List.getElem_mem _)

theorem run_has {l : List (Int × Int)} {w : World} {mb : Nat} (h : MapOf (Value.int .i64) (Value.int .u64) w mb l) (I : Int) (b : Bool) (hb : (Map.get l I).isSome = b) :
    Calls Try.prog 32 #[.map (some mb), .int .i64 I] w fun e w' => e = .returned (.bool b) ∧ w = w' := by
  have H := Lib.hid h
  have HB := Lib.hid hb
  clear h hb
  go_enter Try.func32, Try.ntmps32
  go_wp2_with (at_lookup; refine wpList_mlook_ok rfl _ _ 81 rfl 3 23 Try.underlying81 Try.underlying3 (keyed_int .i64) H.out I (.int .u64 0) (zero_u64 _) rfl rfl _ rfl b HB.out ?_)
  go_ret
  exact ⟨rfl, rfl⟩

theorem walk {H : Type} {enc : TypeId × Value → H} (W : World) {base : Nat} {v : Value} {d : DataW H} {p : List MemPlace} (h : DataW.Trod enc Try.prog W 0 (fun _ => true) true 80 v d p) (ho : Value.okWide Try.prog W .any base 80 v) :
    Calls Try.prog 6 #[v] W fun e W' => e = .returned (.bool true) ∧ Below W.heap.size W W' := by
  obtain ⟨A, n, c, xs, rfl, hx⟩ := ints_open Try.underlying80 Try.underlying5 (by kernel_rfl) h ho
  have HX := Lib.hid hx
  clear h ho hx
  have hmm := @run_makeMap Try.prog
  go_enter Try.func6, Try.ntmps6
  go_wp2_with fail
  refine Calls.mono (alive_true W) ?_
  rintro e1 w1 ⟨rfl, hb1⟩
  have HB1 := Lib.hid hb1
  clear hb1
  by_cases h200 : 200 < n
  · have b200 : decide ((200 : Int) < n) = true := decide_eq_true (by omega)
    go_wp2_with fail
    go_ret
    exact ⟨rfl, HB1.out⟩
  have b200 : decide ((200 : Int) < n) = false := decide_eq_false (by omega)
  go_wp2_with fail
  refine Calls.mono (tnew w1) ?_
  rintro e3 w3 ⟨tb, S3, rfl, HT, HN, hb⟩
  have HA3 : Hid (Liv W w3 tb 0 S3 (List.replicate 8 none) (List.replicate 8 []) []) := Lib.hid ⟨HT.out, fun k hk => Nat.le_trans HB1.out.size (HN.out k hk), HB1.out.trans (hb.mono HB1.out.size)⟩
  have HO4 : Hid (OS W (w3.alloc (.map #[] 0)) tb w3.heap.size 0 S3 (List.replicate 8 none) (List.replicate 8 []) []) := Lib.hid ⟨HA3.out.kept ((Below.refl _ _).alloc (Nat.le_refl _) _), MapOf.new _ _ w3, fun hs => by have := HA3.out.tab.lt hs; omega, HA3.out.below.size⟩
  clear HT HN hb HA3
  go_wp2_with fail
  generalize hW : World.alloc w3 _ = w4 at *
  generalize w3.heap.size = mb at *
  clear hW
  go_loopw [25] (fun v25 wr => ∃ (i N : Nat) (S : Nat → Prop) (st : List (Option Int)) (ss : List (List W3)) (l : List (Int × Int)), i ≤ n ∧ N ≤ i ∧ v25 = .int .i64 i ∧ Hid (OS W wr tb mb N S st ss l) ∧ Hid (LK st l i)) (fun v25 _ => n - (intOf v25).toNat)
  case atStart => exact ⟨0, 0, S3, _, _, [], by omega, by omega, rfl, HO4, Lib.hid ⟨Link.nil id, fun p hp => by simp at hp⟩⟩
  case round =>
    clear HO4
    obtain ⟨i, N, S, st, ss, l, hi, hNi, rfl, HO, HK⟩ := hrel
    by_cases hin : i < n
    · obtain ⟨bb, off, rfl, hlt, hc⟩ := (HX.out.kept HO.out.liv.below).2.2.2 (by omega)
      have hc0 := hc i hin
      obtain ⟨x, hx⟩ : ∃ x, x = xs.getD i 0 := ⟨_, rfl⟩
      have hxw : (Lit.int .u8 x).wf = true := by rw [hx]; exact getD_wf HX.out hin
      have hxb := bounds_u8 hxw
      rw [← hx] at hc0
      clear hx hc hxw hmm
      by_cases hk : 0 < x % 3
      · have bk : decide ((0 : Int) < x % 3) = true := decide_eq_true hk
        go_wp2_with fail
        rcases first_free HK.out.1.len8 with ⟨j, j8, hj, hlo, _, _⟩ | ⟨hf, _, _⟩
        · have HJ := Lib.hid hj
          refine Calls.mono (tbegin_yes j i HO.out.liv.tab (by omega) hj hlo) ?_
          rintro e5 w5 ⟨rfl, HT⟩
          obtain ⟨S5, HO5⟩ := HO.out.turn HT.out
          have HK5 := Lib.hid (HK.out.put HJ.out)
          clear HT hj hlo HO HK
          go_wp2_with (first | (at_mapUpdate; refine wpList_mput rfl _ _ _ 81 rfl 3 23 Try.underlying81 Try.underlying3 (keyed_int .i64) HO5.out.map (j : Int) (i : Int) rfl rfl rfl ?_; intro w6 HM6 HC6; have HO6 := Lib.hid (HO5.out.mapped HM6.out HC6.out); clear HM6 HC6) | (at_range; refine wpList_mrange rfl _ 81 rfl 3 23 Try.underlying81 HO6.out.map rfl ?_; intro w7 HI6 HB6))
          have HIT0 := Lib.hid (ItO.start HO6.out HI6.out HB6.out)
          clear HI6 HB6
          generalize w6.heap.size = rb at HIT0 ⊢
          go_frame
          go_loopg [9] ((Map.put l (j : Int) (i : Int))).length (fun k v9 wt => ∃ (m : Int) (seen left : List (Int × Int)), v9 = .int .u64 m ∧ k = left.length ∧ Hid (Lmin seen m) ∧ Hid ((seen ++ left).Perm ((Map.put l (j : Int) (i : Int)))) ∧ Hid (ItO W wt tb mb rb (N + 1) S5 (st.set j (some (i : Int))) (ss.set j []) ((Map.put l (j : Int) (i : Int))) left))
          case atStart => exact ⟨1000, [], (Map.put l (j : Int) (i : Int)), rfl, rfl, Lib.hid Lmin.nil, Lib.hid (List.Perm.refl _), HIT0⟩
          case round =>
            clear HIT0
            obtain ⟨m, seen, left, rfl, hk9, HM, HP, HIT⟩ := hrel
            cases left with
            | nil =>
              clear hk9
              have HLE : Hid (IsLeast (st.set j (some (i : Int))) 1000 m) := Lib.hid (HM.out.least (by have := HP.out; rwa [List.append_nil] at this) HK5.out.1)
              go_wp2_with (at_next; refine wpList_mnext rfl _ rfl HIT.out.iter rfl (fun _ => ?_) (fun x y p w6 hh => absurd hh.out (by simp)))
              refine Calls.mono (topen HIT.out.os.liv.tab) ?_
              rintro e8 w8 ⟨A8, c8, rfl, _, hb8⟩
              have HO8 := Lib.hid (HIT.out.os.kept hb8)
              have hcn : (opensL (st.set j (some (i : Int))) 8).length = ((Map.put l (j : Int) (i : Int))).length := by rw [opens_cnt HK5.out.1.len8, HK5.out.1.len]
              rw [hcn]
              clear hcn hb8 HIT
              go_wp2_with (at_len; refine wpList_mlen rfl _ 81 rfl 3 23 Try.underlying81 HO8.out.map rfl ?_)
              refine Calls.mono (tleast 1000 m HO8.out.liv.tab (by omega) HLE.out) ?_
              rintro e9 w9 ⟨rfl, HT⟩
              obtain ⟨S9, HO9⟩ := HO8.out.turn HT.out
              clear HT HO8
              go_wp2_with fail
              go_roundw
              case rel => exact ⟨i + 1, (N + 1), S9, _, _, _, by omega, by omega, by go_num, HO9, HK5⟩
              case measure => simp [intOf]; omega
            | cons q left =>
              have HK9 := Lib.hid hk9
              clear hk9
              go_wp2_with (at_next; refine wpList_mnext rfl _ rfl HIT.out.iter rfl (fun hh => absurd hh (by simp)) ?_; intro z y p w6 HX6 HI6 HC6 hen)
              have HIN := Lib.hid (HIT.out.next HI6.out HC6.out)
              have hpl : (p.1, p.2) ∈ (Map.put l (j : Int) (i : Int)) := HP.out.mem_iff.1 (List.mem_append_right _ (by rw [HX6.out]; simp))
              have HAT := Lib.hid (link_at HK5.out.1 hpl)
              have hp2 : p.2 < 1000 := by have := HK5.out.2 _ hpl; omega
              have HLM := Lib.hid (HM.out.step p hp2)
              clear hpl
              refine Calls.mono (tat_yes p.1 p.2 HIN.out.os.liv.tab HAT.out.1 HAT.out.2) ?_
              rintro e9 w9 ⟨rfl, rfl⟩
              go_wp2_with fail
              all_goals
                go_roundg (z ++ y).length
                case measure => have := HK9.out; have := congrArg List.length HX6.out; simp at *; omega
                case rel => first | exact ⟨p.2, p :: seen, z ++ y, rfl, rfl, Lib.hid (by have := HLM.out; rwa [if_neg (by omega)] at this), Lib.hid (perm_step (by rw [← HX6.out]; exact HP.out)), HIN⟩ | exact ⟨m, p :: seen, z ++ y, rfl, rfl, Lib.hid (by have := HLM.out; rwa [if_pos (by omega)] at this), Lib.hid (perm_step (by rw [← HX6.out]; exact HP.out)), HIN⟩
        · refine Calls.mono (tbegin_no i HO.out.liv.tab hf) ?_
          rintro e5 w5 ⟨rfl, rfl⟩
          have HK5 := Lib.hid HK.out.more
          have hl8 : l.length = 8 := HK.out.full hf
          have hlb : ((l.length : Int) != 8) = false := by rw [hl8]; rfl
          have HO6 := HO
          clear hf HK HO hl8
          go_wp2_with (first | (at_len; refine wpList_mlen rfl _ 81 rfl 3 23 Try.underlying81 HO6.out.map rfl ?_) | (at_range; refine wpList_mrange rfl _ 81 rfl 3 23 Try.underlying81 HO6.out.map rfl ?_; intro w7 HI6 HB6))
          have HIT0 := Lib.hid (ItO.start HO6.out HI6.out HB6.out)
          clear HI6 HB6
          generalize wr.heap.size = rb at HIT0 ⊢
          go_frame
          go_loopg [9] (l).length (fun k v9 wt => ∃ (m : Int) (seen left : List (Int × Int)), v9 = .int .u64 m ∧ k = left.length ∧ Hid (Lmin seen m) ∧ Hid ((seen ++ left).Perm (l)) ∧ Hid (ItO W wt tb mb rb N S st ss (l) left))
          case atStart => exact ⟨1000, [], l, rfl, rfl, Lib.hid Lmin.nil, Lib.hid (List.Perm.refl _), HIT0⟩
          case round =>
            clear HIT0
            obtain ⟨m, seen, left, rfl, hk9, HM, HP, HIT⟩ := hrel
            cases left with
            | nil =>
              clear hk9
              have HLE : Hid (IsLeast st 1000 m) := Lib.hid (HM.out.least (by have := HP.out; rwa [List.append_nil] at this) HK5.out.1)
              go_wp2_with (at_next; refine wpList_mnext rfl _ rfl HIT.out.iter rfl (fun _ => ?_) (fun x y p w6 hh => absurd hh.out (by simp)))
              refine Calls.mono (topen HIT.out.os.liv.tab) ?_
              rintro e8 w8 ⟨A8, c8, rfl, _, hb8⟩
              have HO8 := Lib.hid (HIT.out.os.kept hb8)
              have hcn : (opensL st 8).length = (l).length := by rw [opens_cnt HK5.out.1.len8, HK5.out.1.len]
              rw [hcn]
              clear hcn hb8 HIT
              go_wp2_with (at_len; refine wpList_mlen rfl _ 81 rfl 3 23 Try.underlying81 HO8.out.map rfl ?_)
              refine Calls.mono (tleast 1000 m HO8.out.liv.tab (by omega) HLE.out) ?_
              rintro e9 w9 ⟨rfl, HT⟩
              obtain ⟨S9, HO9⟩ := HO8.out.turn HT.out
              clear HT HO8
              go_wp2_with fail
              go_roundw
              case rel => exact ⟨i + 1, N, S9, _, _, _, by omega, by omega, by go_num, HO9, HK5⟩
              case measure => simp [intOf]; omega
            | cons q left =>
              have HK9 := Lib.hid hk9
              clear hk9
              go_wp2_with (at_next; refine wpList_mnext rfl _ rfl HIT.out.iter rfl (fun hh => absurd hh (by simp)) ?_; intro z y p w6 HX6 HI6 HC6 hen)
              have HIN := Lib.hid (HIT.out.next HI6.out HC6.out)
              have hpl : (p.1, p.2) ∈ l := HP.out.mem_iff.1 (List.mem_append_right _ (by rw [HX6.out]; simp))
              have HAT := Lib.hid (link_at HK5.out.1 hpl)
              have hp2 : p.2 < 1000 := by have := HK5.out.2 _ hpl; omega
              have HLM := Lib.hid (HM.out.step p hp2)
              clear hpl
              refine Calls.mono (tat_yes p.1 p.2 HIN.out.os.liv.tab HAT.out.1 HAT.out.2) ?_
              rintro e9 w9 ⟨rfl, rfl⟩
              go_wp2_with fail
              all_goals
                go_roundg (z ++ y).length
                case measure => have := HK9.out; have := congrArg List.length HX6.out; simp at *; omega
                case rel => first | exact ⟨p.2, p :: seen, z ++ y, rfl, rfl, Lib.hid (by have := HLM.out; rwa [if_neg (by omega)] at this), Lib.hid (perm_step (by rw [← HX6.out]; exact HP.out)), HIN⟩ | exact ⟨m, p :: seen, z ++ y, rfl, rfl, Lib.hid (by have := HLM.out; rwa [if_pos (by omega)] at this), Lib.hid (perm_step (by rw [← HX6.out]; exact HP.out)), HIN⟩
      · have bk : decide ((0 : Int) < x % 3) = false := decide_eq_false hk
        obtain ⟨J, hJ, hJ8⟩ : ∃ J : Nat, x / 3 % 8 = (J : Int) ∧ J < 8 := ⟨(x / 3 % 8).toNat, by omega, by omega⟩
        have HJ := Lib.hid hJ
        clear hJ
        go_wp2_with fail
        cases hb : hasB st J with
        | true =>
          have HB := Lib.hid hb
          have hg : (Map.get l (x / 3 % 8)).isSome = true := by
            rw [HJ.out, HK.out.1.got, if_pos hb, Option.map_id]
            unfold hasB at hb
            simp only [Bool.and_eq_true] at hb
            exact hb.2.2
          have HG := Lib.hid hg
          clear hb hg
          rw [HJ.out]
          refine Calls.mono (tend_yes J HO.out.liv.tab HB.out) ?_
          rintro e5 w5 ⟨rfl, HT⟩
          obtain ⟨S5, HO5⟩ := HO.out.turn HT.out
          have HK5 := Lib.hid (HK.out.del HB.out)
          clear HT HO HK
          go_wp2_with fail
          refine Calls.mono (run_has HO5.out.map (x / 3 % 8) true HG.out) ?_
          rintro e6 w6 ⟨rfl, rfl⟩
          go_wp2_with (first | (at_delete; refine wpList_mdel rfl _ _ 81 3 rfl 3 23 Try.underlying81 Try.underlying3 (keyed_int .i64) HO5.out.map (x / 3 % 8) rfl rfl ?_; intro w6 HM6 HC6; rw [HJ.out] at HM6; have HO6 := Lib.hid (HO5.out.mapped HM6.out HC6.out); clear HM6 HC6) | (at_range; refine wpList_mrange rfl _ 81 rfl 3 23 Try.underlying81 HO6.out.map rfl ?_; intro w7 HI6 HB6))
          have HIT0 := Lib.hid (ItO.start HO6.out HI6.out HB6.out)
          clear HI6 HB6
          generalize w6.heap.size = rb at HIT0 ⊢
          go_frame
          go_loopg [9] ((Map.del l (J : Int))).length (fun k v9 wt => ∃ (m : Int) (seen left : List (Int × Int)), v9 = .int .u64 m ∧ k = left.length ∧ Hid (Lmin seen m) ∧ Hid ((seen ++ left).Perm ((Map.del l (J : Int)))) ∧ Hid (ItO W wt tb mb rb N S5 (st.set J none) (ss.set J []) ((Map.del l (J : Int))) left))
          case atStart => exact ⟨1000, [], (Map.del l (J : Int)), rfl, rfl, Lib.hid Lmin.nil, Lib.hid (List.Perm.refl _), HIT0⟩
          case round =>
            clear HIT0
            obtain ⟨m, seen, left, rfl, hk9, HM, HP, HIT⟩ := hrel
            cases left with
            | nil =>
              clear hk9
              have HLE : Hid (IsLeast (st.set J none) 1000 m) := Lib.hid (HM.out.least (by have := HP.out; rwa [List.append_nil] at this) HK5.out.1)
              go_wp2_with (at_next; refine wpList_mnext rfl _ rfl HIT.out.iter rfl (fun _ => ?_) (fun x y p w6 hh => absurd hh.out (by simp)))
              refine Calls.mono (topen HIT.out.os.liv.tab) ?_
              rintro e8 w8 ⟨A8, c8, rfl, _, hb8⟩
              have HO8 := Lib.hid (HIT.out.os.kept hb8)
              have hcn : (opensL (st.set J none) 8).length = ((Map.del l (J : Int))).length := by rw [opens_cnt HK5.out.1.len8, HK5.out.1.len]
              rw [hcn]
              clear hcn hb8 HIT
              go_wp2_with (at_len; refine wpList_mlen rfl _ 81 rfl 3 23 Try.underlying81 HO8.out.map rfl ?_)
              refine Calls.mono (tleast 1000 m HO8.out.liv.tab (by omega) HLE.out) ?_
              rintro e9 w9 ⟨rfl, HT⟩
              obtain ⟨S9, HO9⟩ := HO8.out.turn HT.out
              clear HT HO8
              go_wp2_with fail
              go_roundw
              case rel => exact ⟨i + 1, N, S9, _, _, _, by omega, by omega, by go_num, HO9, HK5⟩
              case measure => simp [intOf]; omega
            | cons q left =>
              have HK9 := Lib.hid hk9
              clear hk9
              go_wp2_with (at_next; refine wpList_mnext rfl _ rfl HIT.out.iter rfl (fun hh => absurd hh (by simp)) ?_; intro z y p w6 HX6 HI6 HC6 hen)
              have HIN := Lib.hid (HIT.out.next HI6.out HC6.out)
              have hpl : (p.1, p.2) ∈ (Map.del l (J : Int)) := HP.out.mem_iff.1 (List.mem_append_right _ (by rw [HX6.out]; simp))
              have HAT := Lib.hid (link_at HK5.out.1 hpl)
              have hp2 : p.2 < 1000 := by have := HK5.out.2 _ hpl; omega
              have HLM := Lib.hid (HM.out.step p hp2)
              clear hpl
              refine Calls.mono (tat_yes p.1 p.2 HIN.out.os.liv.tab HAT.out.1 HAT.out.2) ?_
              rintro e9 w9 ⟨rfl, rfl⟩
              go_wp2_with fail
              all_goals
                go_roundg (z ++ y).length
                case measure => have := HK9.out; have := congrArg List.length HX6.out; simp at *; omega
                case rel => first | exact ⟨p.2, p :: seen, z ++ y, rfl, rfl, Lib.hid (by have := HLM.out; rwa [if_neg (by omega)] at this), Lib.hid (perm_step (by rw [← HX6.out]; exact HP.out)), HIN⟩ | exact ⟨m, p :: seen, z ++ y, rfl, rfl, Lib.hid (by have := HLM.out; rwa [if_pos (by omega)] at this), Lib.hid (perm_step (by rw [← HX6.out]; exact HP.out)), HIN⟩
        | false =>
          have HB := Lib.hid hb
          have hg : (Map.get l (x / 3 % 8)).isSome = false := by
            rw [HJ.out, HK.out.1.got, if_neg (by rw [hb]; simp)]; rfl
          have HG := Lib.hid hg
          clear hb hg
          rw [HJ.out]
          refine Calls.mono (tend_no J HO.out.liv.tab HB.out) ?_
          rintro e5 w5 ⟨rfl, rfl⟩
          have HK5 := Lib.hid HK.out.more
          have HDL : Hid (Map.del l (J : Int) = l) := Lib.hid (HK.out.1.del_no HB.out)
          clear HK
          go_wp2_with fail
          refine Calls.mono (run_has HO.out.map (x / 3 % 8) false HG.out) ?_
          rintro e6 w6 ⟨rfl, rfl⟩
          go_wp2_with (first | (at_delete; refine wpList_mdel rfl _ _ 81 3 rfl 3 23 Try.underlying81 Try.underlying3 (keyed_int .i64) HO.out.map (x / 3 % 8) rfl rfl ?_; intro w6 HM6 HC6; rw [HJ.out, HDL.out] at HM6; have HO6 := Lib.hid (HO.out.mapped HM6.out HC6.out); clear HM6 HC6) | (at_range; refine wpList_mrange rfl _ 81 rfl 3 23 Try.underlying81 HO6.out.map rfl ?_; intro w7 HI6 HB6))
          have HIT0 := Lib.hid (ItO.start HO6.out HI6.out HB6.out)
          clear HI6 HB6
          generalize w6.heap.size = rb at HIT0 ⊢
          go_frame
          go_loopg [9] (l).length (fun k v9 wt => ∃ (m : Int) (seen left : List (Int × Int)), v9 = .int .u64 m ∧ k = left.length ∧ Hid (Lmin seen m) ∧ Hid ((seen ++ left).Perm (l)) ∧ Hid (ItO W wt tb mb rb N S st ss (l) left))
          case atStart => exact ⟨1000, [], l, rfl, rfl, Lib.hid Lmin.nil, Lib.hid (List.Perm.refl _), HIT0⟩
          case round =>
            clear HIT0
            obtain ⟨m, seen, left, rfl, hk9, HM, HP, HIT⟩ := hrel
            cases left with
            | nil =>
              clear hk9
              have HLE : Hid (IsLeast st 1000 m) := Lib.hid (HM.out.least (by have := HP.out; rwa [List.append_nil] at this) HK5.out.1)
              go_wp2_with (at_next; refine wpList_mnext rfl _ rfl HIT.out.iter rfl (fun _ => ?_) (fun x y p w6 hh => absurd hh.out (by simp)))
              refine Calls.mono (topen HIT.out.os.liv.tab) ?_
              rintro e8 w8 ⟨A8, c8, rfl, _, hb8⟩
              have HO8 := Lib.hid (HIT.out.os.kept hb8)
              have hcn : (opensL st 8).length = (l).length := by rw [opens_cnt HK5.out.1.len8, HK5.out.1.len]
              rw [hcn]
              clear hcn hb8 HIT
              go_wp2_with (at_len; refine wpList_mlen rfl _ 81 rfl 3 23 Try.underlying81 HO8.out.map rfl ?_)
              refine Calls.mono (tleast 1000 m HO8.out.liv.tab (by omega) HLE.out) ?_
              rintro e9 w9 ⟨rfl, HT⟩
              obtain ⟨S9, HO9⟩ := HO8.out.turn HT.out
              clear HT HO8
              go_wp2_with fail
              go_roundw
              case rel => exact ⟨i + 1, N, S9, _, _, _, by omega, by omega, by go_num, HO9, HK5⟩
              case measure => simp [intOf]; omega
            | cons q left =>
              have HK9 := Lib.hid hk9
              clear hk9
              go_wp2_with (at_next; refine wpList_mnext rfl _ rfl HIT.out.iter rfl (fun hh => absurd hh (by simp)) ?_; intro z y p w6 HX6 HI6 HC6 hen)
              have HIN := Lib.hid (HIT.out.next HI6.out HC6.out)
              have hpl : (p.1, p.2) ∈ l := HP.out.mem_iff.1 (List.mem_append_right _ (by rw [HX6.out]; simp))
              have HAT := Lib.hid (link_at HK5.out.1 hpl)
              have hp2 : p.2 < 1000 := by have := HK5.out.2 _ hpl; omega
              have HLM := Lib.hid (HM.out.step p hp2)
              clear hpl
              refine Calls.mono (tat_yes p.1 p.2 HIN.out.os.liv.tab HAT.out.1 HAT.out.2) ?_
              rintro e9 w9 ⟨rfl, rfl⟩
              go_wp2_with fail
              all_goals
                go_roundg (z ++ y).length
                case measure => have := HK9.out; have := congrArg List.length HX6.out; simp at *; omega
                case rel => first | exact ⟨p.2, p :: seen, z ++ y, rfl, rfl, Lib.hid (by have := HLM.out; rwa [if_neg (by omega)] at this), Lib.hid (perm_step (by rw [← HX6.out]; exact HP.out)), HIN⟩ | exact ⟨m, p :: seen, z ++ y, rfl, rfl, Lib.hid (by have := HLM.out; rwa [if_pos (by omega)] at this), Lib.hid (perm_step (by rw [← HX6.out]; exact HP.out)), HIN⟩
    · go_wp2_with fail
      go_ret
      exact ⟨rfl, HO.out.liv.below⟩


theorem own : ownKnob Try.prog.godebug = none := by kernel_rfl
theorem laidOut : laidOutB Try.prog = true := by kernel_rfl

set_option maxRecDepth 100000 in
theorem lifted (os : Os) (started : os.Started) (H : Type) (enc : TypeId × Value → H) :
    ReturnsInHanded {} Try.checked os 6 .any (Rows.txnOpensSpec.pre6 enc Try.prog Try.f6 Rows.txnOpensRow.domain false) (Rows.txnOpensSpec.post enc Try.prog Try.f6 false true false false) := by
  refine returnsInHanded_of_change (C := Try.checked) own started (by kernel_rfl) Try.func6
    (ChangeSpec.witness6 (enc := enc) (C := Try.checked) false ⟨#[], #[.slice none 0 0], []⟩ 8 (by kernel_rfl) (by kernel_rfl) (by kernel_rfl) (by kernel_rfl)) ?_
  intro W base args ds gs before hval0 hW hcnd _
  have hval : ∀ (j : Nat) t v, Try.f6.params[j]? = some t → args[j]? = some v → Value.okWide Try.prog W .any base t v := hval0
  have hW' := hW
  obtain ⟨p, q, hA0, hV, rfl, hfz, hnd⟩ := hW
  have hA : DataW.TrodAll enc Try.prog W 0 (fun _ => true) true Try.f6.params.toList args.toList ds p := hA0
  rw [Try.params6] at hA hval
  obtain ⟨v0, vs0, d0, ds0, p0, q0, hargs, rfl, rfl, h0, r0⟩ := trodAll_cons hA
  obtain ⟨rfl, rfl, rfl⟩ := trodAll_nil r0
  obtain rfl : args = #[v0] := by cases args; simp_all
  obtain ⟨rfl, rfl⟩ := trodVars_none hV
  clear hA0 hval0
  have lt0 : ∀ x ∈ p0, x.block < W.heap.size := by obtain ⟨m, hm⟩ := h0; exact DataW.trod_lt m _ _ _ hm
  simp only [List.append_nil] at hW'
  refine Calls.mono (walk W h0 (hval 0 80 v0 rfl rfl)) ?_
  rintro e W' ⟨rfl, bel⟩
  exact ⟨_, rfl, Post.post_below (pa := _) (pv := []) hW' (fun _ _ _ => (trodAll_cons_mk (shut_bool Try.underlying4 _) trodAll_mk0)) (fun sp hsp => (trodAll_cons_mk (WideElems.Trod_stays laidOut (by kernel_rfl) (of_decide_eq_true (by kernel_rfl)) h0 (fun x hx => bel.same (lt0 x hx)) (fun x hx => hsp x (by simp [hx]))) trodAll_mk0)) (fun _ _ => rfl) (by simp)
    bel (ok_one (by kernel_rfl) rfl (okWide_bool_mk Try.underlying4 _))⟩

theorem over : Rows.txnOpensRow.holds Try.pinned (OpenSpec.ofChange Rows.txnOpensSpec) :=
  OpenClaim.holds_of_wide 6 Try.f6 rfl rfl rfl rfl rfl rfl rfl ⟨rfl, rfl, rfl, rfl, rfl⟩ rfl rfl rfl rfl rfl (by kernel_rfl) Try.func6 (by kernel_rfl)
    (of_decide_eq_true (by kernel_rfl)) (by unfold Func.isWrapper; first | (rw [if_pos (by decide +kernel)]; kernel_rfl) | (rw [if_neg (by decide +kernel)]; exact ⟨rfl, rfl⟩))
    (fun os started H enc _ => lifted os started H enc)

/-- The statement. -/
theorem proved : Rows.TxnOpensSaid :=
  over

end Go.Proofs.Ytfbldpppjnnblaa.txnOpens
