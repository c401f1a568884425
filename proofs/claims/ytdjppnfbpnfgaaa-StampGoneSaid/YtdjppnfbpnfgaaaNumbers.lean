/- StampNumbers: numbers are the least ones that are free; what is closed is given again. No condition. -/
import Derived.Test.YtdjppnfbpnfgaaaRows
import Derived.Test.YtdjppnfbpnfgaaaWatch7
import Derived.Test.YtdjppnfbpnfgaaaPost
import Derived.Carry
import Derived.Test.YtdjppnfbpnfgaaaRead
import Derived.Test.YtdjppnfbpnfgaaaMap2
import Derived.Deep.RegionHeld3
import Derived.Deep.DeepCutAuto
import Derived.Maps.OwnOps
import Derived.Maps.RangeWalk
import Derived.Maps.OwnSet
namespace Go.Proofs.Ytdjppnfbpnfgaaa.stampNumbers
open Go.ChangeShapes Go.WideShapes Go.ChangeAt Go.RowKit Go.Proofs.Ytdjppnfbpnfgaaa.Mem Go.Proofs.Ytdjppnfbpnfgaaa.Q Go.Proofs.Ytdjppnfbpnfgaaa.Watch Go.Proofs.Ytdjppnfbpnfgaaa.Read Go.Proofs.Ytdjppnfbpnfgaaa.Map

/-- The map that goes with a watch: each number that is open, with what f makes of its stamp. -/
structure Link (f : Int → Int) (st : List (Option Int)) (l : List (Int × Int)) : Prop where
  len8 : st.length = 8
  nodup : (l.map (·.1)).Nodup
  len : l.length = cntB st
  got : ∀ I : Int, Map.get l I = if hasB st I then (st.getD I.toNat none).map f else none

theorem Link.nil (f : Int → Int) : Link f (List.replicate 8 none) [] where
  len8 := rfl
  nodup := List.nodup_nil
  len := rfl
  got I := by
    have : hasB (List.replicate 8 none) I = false := by
      unfold hasB
      have : ((List.replicate 8 (none : Option Int)).getD I.toNat none) = none := by
        rw [List.getD_eq_getElem?_getD, List.getElem?_replicate]; split <;> rfl
      rw [this]; simp
    rw [this]; rfl

theorem cnt_set_yes (st : List (Option Int)) : ∀ (i : Nat) (x : Int), st[i]? = some none → cntB (st.set i (some x)) = cntB st + 1 := by
  induction st with
  | nil => intro i x h; simp at h
  | cons o st ih =>
    intro i x h
    cases i with
    | zero =>
      obtain rfl : o = none := by simpa using h
      simp [cntB]
    | succ i =>
      have := ih i x (by simpa using h)
      simp only [List.set_cons_succ]
      unfold cntB at *
      simp only [List.filter_cons]
      split
      · simp only [List.length_cons]; omega
      · omega

theorem cnt_set_no (st : List (Option Int)) : ∀ (i : Nat) (x : Int), st[i]? = some (some x) → cntB (st.set i none) + 1 = cntB st := by
  induction st with
  | nil => intro i x h; simp at h
  | cons o st ih =>
    intro i x h
    cases i with
    | zero =>
      obtain rfl : o = some x := by simpa using h
      simp [cntB]
    | succ i =>
      have := ih i x (by simpa using h)
      simp only [List.set_cons_succ]
      unfold cntB at *
      simp only [List.filter_cons]
      split
      · simp only [List.length_cons]; omega
      · omega

theorem hasB_set {st : List (Option Int)} (hl : st.length = 8) (i : Nat) (o : Option Int) (I : Int) (hi : i < 8) : hasB (st.set i o) I = if (i : Int) = I then o.isSome else hasB st I := by
  unfold hasB
  simp only [List.getD_eq_getElem?_getD, List.getElem?_set]
  by_cases h0 : 0 ≤ I
  · obtain ⟨k, rfl⟩ : ∃ k : Nat, I = k := ⟨I.toNat, by omega⟩
    simp only [Int.toNat_natCast]
    by_cases e : i = k
    · subst e
      simp [hl, hi]
      intro _
      omega
    · have : ¬ (i : Int) = k := by omega
      simp only [if_neg this, if_neg e]
  · have e2 : ¬ ((i : Int) = I) := by omega
    simp [h0, e2]

theorem Link.set {f : Int → Int} {st : List (Option Int)} {l : List (Int × Int)} (h : Link f st l) {i : Nat} (hi : st[i]? = some none) (x : Int) : Link f (st.set i (some x)) (put l (i : Int) (f x)) where
  len8 := by rw [List.length_set]; exact h.len8
  nodup := nodup_put h.nodup _ _
  len := by
    have i8 : i < 8 := by have := (List.getElem?_eq_some_iff.1 hi).1; rw [h.len8] at this; exact this
    have hg : Map.get l (i : Int) = none := by
      rw [h.got, hasB_at i8]
      simp [List.getD_eq_getElem?_getD, hi]
    rw [length_put, hg, cnt_set_yes st i x hi, h.len]
    rfl
  got I := by
    have i8 : i < 8 := by have := (List.getElem?_eq_some_iff.1 hi).1; rw [h.len8] at this; exact this
    rw [get_put, hasB_set h.len8 i _ I i8, h.got]
    by_cases e : (i : Int) = I
    · subst e
      simp [List.getD_eq_getElem?_getD, h.len8, i8]
    · simp only [e, if_false]
      by_cases hb : hasB st I = true
      · have h0 : 0 ≤ I := by unfold hasB at hb; simp at hb; exact hb.1
        have : ¬ i = I.toNat := by omega
        simp [hb, List.getD_eq_getElem?_getD, this]
      · simp [hb]

theorem Link.del_yes {f : Int → Int} {st : List (Option Int)} {l : List (Int × Int)} (h : Link f st l) {I : Int} (hI : hasB st I = true) : Link f (st.set I.toNat none) (del l I) := by
  have h0 : 0 ≤ I ∧ I < 8 ∧ (st.getD I.toNat none).isSome = true := by
    have := hI
    unfold hasB at this
    simpa using this
  obtain ⟨k, rfl⟩ : ∃ k : Nat, I = k := ⟨I.toNat, by omega⟩
  have i8 : k < 8 := by omega
  have hs := h0.2.2
  simp only [Int.toNat_natCast] at hs ⊢
  obtain ⟨x, hx⟩ := Option.isSome_iff_exists.1 hs
  have hat : st[k]? = some (some x) := by
    rw [List.getD_eq_getElem?_getD, List.getElem?_eq_getElem (show k < st.length by rw [h.len8]; exact i8)] at hx
    rw [List.getElem?_eq_getElem (show k < st.length by rw [h.len8]; exact i8)]
    simpa using hx
  refine ⟨by rw [List.length_set]; exact h.len8, nodup_del h.nodup _, ?_, fun J => ?_⟩
  · have h1 := length_del l (k : Int)
    have h2 := cnt_set_no st k x hat
    rw [h.got, if_pos hI, Int.toNat_natCast, hx] at h1
    simp at h1
    have := h.len
    omega
  · rw [get_del h.nodup, hasB_set h.len8 k _ J i8, h.got]
    by_cases e : (k : Int) = J
    · simp [e]
    · simp only [e, if_false]
      by_cases hb : hasB st J = true
      · have h0 : 0 ≤ J := by unfold hasB at hb; simp at hb; exact hb.1
        have : ¬ k = J.toNat := by omega
        simp [hb, List.getD_eq_getElem?_getD, this]
      · simp [hb]

theorem Link.del_no {f : Int → Int} {st : List (Option Int)} {l : List (Int × Int)} (h : Link f st l) {I : Int} (hI : hasB st I = false) : del l I = l := by
  refine del_none ?_
  have := h.got I
  rw [hI, get_idx] at this
  simpa using this

theorem Link.one {st : List (Option Int)} {l : List (Int × Int)} (h : Link (fun _ => 1) st l) {I : Int} (hI : hasB st I = true) : Map.get l I = some 1 := by
  have h0 : (st.getD I.toNat none).isSome = true := by
    unfold hasB at hI
    simp only [Bool.and_eq_true] at hI
    exact hI.2.2
  rw [h.got, hI]
  obtain ⟨y, hy⟩ := Option.isSome_iff_exists.1 h0
  rw [hy]
  rfl

/-- The first number that is free, or 8. -/
theorem first_free {st : List (Option Int)} (h : st.length = 8) : (∃ i : Nat, i < 8 ∧ st[i]? = some none ∧ (∀ j, j < i → st[j]? ≠ some none) ∧ (∀ j : Nat, j < i → hasB st j = true) ∧ hasB st i = false) ∨
    ((∀ i : Nat, st[i]? ≠ some none) ∧ (∀ j : Nat, j < 8 → hasB st j = true) ∧ hasB st 8 = false) := by
  have key : ∀ j : Nat, j < 8 → st[j]? ≠ some none → hasB st j = true := by
    intro j hj hn
    rw [hasB_at hj]
    rw [List.getD_eq_getElem?_getD]
    rw [List.getElem?_eq_getElem (by omega)] at hn ⊢
    cases hx : st[j]'(by omega) with
    | none => exact absurd (by rw [hx]) hn
    | some x => rfl
  by_cases hx : ∃ i : Nat, st[i]? = some none
  · left
    obtain ⟨i, hi⟩ := hx
    induction i using Nat.strongRecOn with
    | ind i ih =>
      by_cases hm : ∃ j, j < i ∧ st[j]? = some none
      · obtain ⟨j, hj, hs⟩ := hm
        exact ih j hj hs
      · have i8 : i < 8 := by have := (List.getElem?_eq_some_iff.1 hi).1; omega
        refine ⟨i, i8, hi, fun j hj hs => hm ⟨j, hj, hs⟩, fun j hj => key j (by omega) (fun hs => hm ⟨j, hj, hs⟩), ?_⟩
        rw [hasB_at i8, List.getD_eq_getElem?_getD, hi]; rfl
  · right
    refine ⟨fun i hi => hx ⟨i, hi⟩, fun j hj => key j hj (fun hs => hx ⟨j, hs⟩), ?_⟩
    unfold hasB; simp

/-- A watch in the call's own memory, and a map beside it. -/
def LiveM (f : Int → Int) (vk : IntKind) (w0 w : World) (b N : Nat) (st : List (Option Int)) (mb : Nat) (l : List (Int × Int)) : Prop :=
  ∃ F, WatchAt w b F N st ∧ (∀ k, F k → w0.heap.size ≤ k) ∧ ¬ F mb ∧ w0.heap.size ≤ mb ∧ MapOf (Value.int .i64) (Value.int vk) w mb l ∧ Link f st l ∧ Below w0.heap.size w0 w

section
variable {f : Int → Int} {vk : IntKind} {w0 w : World} {b N mb : Nat} {st : List (Option Int)} {l : List (Int × Int)}

theorem LiveM.below (h : LiveM f vk w0 w b N st mb l) : Below w0.heap.size w0 w := by
  obtain ⟨F, _, _, _, _, _, _, h⟩ := h; exact h
theorem LiveM.map (h : LiveM f vk w0 w b N st mb l) : MapOf (Value.int .i64) (Value.int vk) w mb l := by
  obtain ⟨F, _, _, _, _, h, _⟩ := h; exact h
theorem LiveM.link (h : LiveM f vk w0 w b N st mb l) : Link f st l := by
  obtain ⟨F, _, _, _, _, _, h, _⟩ := h; exact h

theorem LiveM.kept {w' : World} (h : LiveM f vk w0 w b N st mb l) (hb : Below w.heap.size w w') : LiveM f vk w0 w' b N st mb l := by
  obtain ⟨F, h1, h2, h3, h4, h5, h6, h7⟩ := h
  exact ⟨F, h1.kept (Chg.of_below (F := fun _ => False) hb) (fun _ _ f => f), h2, h3, h4, h5.kept (Chg.of_below (F := fun _ => False) hb) (fun f => f), h6, h7.trans (hb.mono h7.size)⟩

theorem LiveM.drew (h : LiveM f vk w0 w b N st mb l) : LiveM f vk w0 w.drew b N st mb l := h.kept ((Below.refl _ _).drew)

/-- The map changes, and the watch did already. -/
def HalfM (f : Int → Int) (vk : IntKind) (w0 w : World) (b N : Nat) (st : List (Option Int)) (st' : List (Option Int)) (mb : Nat) (l : List (Int × Int)) : Prop :=
  ∃ F, WatchAt w b F N st' ∧ (∀ k, F k → w0.heap.size ≤ k) ∧ ¬ F mb ∧ w0.heap.size ≤ mb ∧ MapOf (Value.int .i64) (Value.int vk) w mb l ∧ Link f st l ∧ Below w0.heap.size w0 w

theorem HalfM.map {st' : List (Option Int)} (h : HalfM f vk w0 w b N st st' mb l) : MapOf (Value.int .i64) (Value.int vk) w mb l := by
  obtain ⟨F, _, _, _, _, h, _⟩ := h; exact h
theorem HalfM.below {st' : List (Option Int)} (h : HalfM f vk w0 w b N st st' mb l) : Below w0.heap.size w0 w := by
  obtain ⟨F, _, _, _, _, _, _, h⟩ := h; exact h
theorem HalfM.link {st' : List (Option Int)} (h : HalfM f vk w0 w b N st st' mb l) : Link f st l := by
  obtain ⟨F, _, _, _, _, _, h, _⟩ := h; exact h
theorem HalfM.drew {st' : List (Option Int)} (h : HalfM f vk w0 w b N st st' mb l) : HalfM f vk w0 w.drew b N st st' mb l := by
  obtain ⟨F, h1, h2, h3, h4, h5, h6, h7⟩ := h
  have hb := (Below.refl w.heap.size w).drew
  exact ⟨F, h1.kept (Chg.of_below (F := fun _ => False) hb) (fun _ _ f => f), h2, h3, h4, h5.kept (Chg.of_below (F := fun _ => False) hb) (fun f => f), h6, h7.trans (hb.mono h7.size)⟩

theorem HalfM.whole {st' : List (Option Int)} {w' : World} {l' : List (Int × Int)} (h : HalfM f vk w0 w b N st st' mb l) (hm : MapOf (Value.int .i64) (Value.int vk) w' mb l') (hc : Chg (· = mb) w w') (hl : Link f st' l') : LiveM f vk w0 w' b N st' mb l' := by
  obtain ⟨F, h1, h2, h3, h4, h5, h6, h7⟩ := h
  exact ⟨F, h1.kept hc (fun k hk e => h3 (e ▸ hk)), h2, h3, h4, hm, hl, below_chg h7 hc (fun k e => e ▸ h4)⟩

theorem LiveM.mapped {w' : World} {l' : List (Int × Int)} (h : LiveM f vk w0 w b N st mb l) (hm : MapOf (Value.int .i64) (Value.int vk) w' mb l') (hc : Chg (· = mb) w w') (hl : Link f st l') : LiveM f vk w0 w' b N st mb l' := by
  obtain ⟨F, h1, h2, h3, h4, h5, h6, h7⟩ := h
  exact ⟨F, h1.kept hc (fun k hk e => h3 (e ▸ hk)), h2, h3, h4, hm, hl, below_chg h7 hc (fun k e => e ▸ h4)⟩

theorem HalfM.step {w' : World} {F' : Nat → Prop} {N' : Nat} {st' : List (Option Int)} {F : Nat → Prop} (h2 : ∀ k, F k → w0.heap.size ≤ k) (h3 : ¬ F mb) (h4 : w0.heap.size ≤ mb) (h5 : MapOf (Value.int .i64) (Value.int vk) w mb l) (hl : Link f st l) (h6 : Below w0.heap.size w0 w)
    (k4 : WatchAt w' b F' N' st') (k5 : ∀ k, F' k → F k ∨ w.heap.size ≤ k) (k6 : Chg F w w') : HalfM f vk w0 w' b N' st st' mb l :=
  ⟨F', k4, fun k hk => (k5 k hk).elim (h2 k) (fun h => Nat.le_trans h6.size h), fun g => (k5 _ g).elim h3 (fun h => by have := h5.lt; omega), h4, h5.kept k6 h3, hl, below_chg h6 k6 h2⟩

theorem mopen_yes (i : Nat) (x : Int) (h : LiveM f vk w0 w b N st mb l) (hN : N < 1000000) (hi : st[i]? = some none) (hlo : ∀ j, j < i → st[j]? ≠ some none) :
    Calls Try.prog 9 #[ptr b, .int .u64 x] w fun e w' => e = .returned (.tuple #[.int .i64 i, .int .i64 0]) ∧ Hid (HalfM f vk w0 w' b (N + 1) st (st.set i (some x)) mb l) := by
  obtain ⟨F, h1, h2, h3, h4, h5, h6, h7⟩ := h
  refine Calls.mono (Watch.open_yes b F N st i x w h1 hN hi hlo) ?_
  rintro e w' ⟨rfl, ⟨F', k4, k5⟩, k6⟩
  exact ⟨rfl, HalfM.step h2 h3 h4 h5 h6 h7 k4 k5 k6⟩

theorem mopen_no (x : Int) (h : LiveM f vk w0 w b N st mb l) (hf : ∀ i : Nat, st[i]? ≠ some none) :
    Calls Try.prog 9 #[ptr b, .int .u64 x] w fun e w' => e = .returned (.tuple #[.int .i64 0, .int .i64 6]) ∧ w = w' := by
  obtain ⟨F, h1, _⟩ := h
  exact Watch.open_no b F N st x w h1 hf

theorem mclose_yes (I : Int) (h : LiveM f vk w0 w b N st mb l) (hr : hasB st I = true) :
    Calls Try.prog 11 #[ptr b, .int .i64 I] w fun e w' => e = .returned (.int .i64 0) ∧ Hid (HalfM f vk w0 w' b N st (st.set I.toNat none) mb l) := by
  obtain ⟨F, h1, h2, h3, h4, h5, h6, h7⟩ := h
  refine Calls.mono (Watch.close_yes b F N st I w h1 hr) ?_
  rintro e w' ⟨rfl, k4, k6⟩
  exact ⟨rfl, HalfM.step h2 h3 h4 h5 h6 h7 k4 (fun k hk => .inl hk) k6⟩

theorem mclose_no (I : Int) (h : LiveM f vk w0 w b N st mb l) (hr : hasB st I = false) :
    Calls Try.prog 11 #[ptr b, .int .i64 I] w fun e w' => e = .returned (.int .i64 7) ∧ w = w' := by
  obtain ⟨F, h1, _⟩ := h
  exact Watch.close_no b F N st I w h1 hr

theorem mlen (h : LiveM f vk w0 w b N st mb l) :
    Calls Try.prog 15 #[ptr b] w fun e w' => e = .returned (.int .i64 (cntB st)) ∧ w = w' := by
  obtain ⟨F, h1, _⟩ := h
  exact len_any' b F N st w h1

theorem mleast (none n : Int) (h : LiveM f vk w0 w b N st mb l) (hN : N < 1000000) (hl : IsLeast st none n) :
    Calls Try.prog 13 #[ptr b, .int .u64 none] w fun e w' => e = .returned (.int .u64 n) ∧ Hid (LiveM f vk w0 w' b N st mb l) := by
  obtain ⟨F, h1, h2, h3, h4, h5, h6, h7⟩ := h
  refine Calls.mono (least_any b F N st none w h1 hN) ?_
  rintro e w' ⟨⟨m, rfl, hm⟩, ⟨F', k4, k5⟩, k6⟩
  refine ⟨by rw [hm.unique hl], ?_⟩
  obtain ⟨F2, g1, g2, g3, g4, g5, g6, g7⟩ := HalfM.step h2 h3 h4 h5 h6 h7 k4 (fun k hk => .inl (k5 k hk)) k6
  exact ⟨F2, g1, g2, g3, g4, g5, g6, g7⟩
end

theorem LiveM.new (f : Int → Int) (vk : IntKind) (w0 w : World) (hb : Below w0.heap.size w0 w) :
    LiveM f vk w0 ((w.alloc (.cells (List.replicate 8 (Value.pointer .none) ++ [Value.slice .none 0 0]).toArray 30)).alloc (.map #[] 0)) w.heap.size 0 (List.replicate 8 none) (w.heap.size + 1) [] := by
  obtain ⟨F, g1, g2, g3⟩ := Live.new w0 w hb
  have hsz : (w.alloc (.cells (List.replicate 8 (Value.pointer .none) ++ [Value.slice .none 0 0]).toArray 30)).heap.size = w.heap.size + 1 := by simp
  have hb2 := (Below.refl (w.heap.size + 1) (w.alloc (.cells (List.replicate 8 (Value.pointer .none) ++ [Value.slice .none 0 0]).toArray 30))).alloc (Nat.le_of_eq hsz.symm) (.map #[] 0)
  have hm := MapOf.new (Value.int .i64) (Value.int vk) (w.alloc (.cells (List.replicate 8 (Value.pointer .none) ++ [Value.slice .none 0 0]).toArray 30))
  rw [hsz] at hm
  refine ⟨F, ?_, g2, fun hF => ?_, ?_, hm, Link.nil f, ?_⟩
  · exact g1.kept (Chg.of_below (F := fun _ => False) (by rw [← hsz] at hb2; exact hb2)) (fun _ _ f => f)
  · have := g1.lt _ hF
    simp at this
  · have := hb.size; omega
  · exact g3.alloc g3.size _

theorem zero3 (w : World) : (zeroValue 3).run Try.prog w = .ok (.int .i64 0) w := by kernel_rfl

theorem getD_wf {w : World} {k : IntKind} {A : Option Addr} {n : Nat} {xs : List Int} (h : Ints w k A n xs) {i : Nat} (hi : i < n) : (Lit.int k (xs.getD i 0)).wf = true := by
  have hl := h.1
  rw [List.getD_eq_getElem?_getD, List.getElem?_eq_getElem (show i < xs.length by omega)]
  exact h.2.2.1 _ (List.getElem_mem _)

abbrev LookIs (w : World) (mb : Nat) (I r : Int) : Prop := (Instr.lookup 57 (.map (some mb)) (.int .i64 I) false).run Try.prog w = .ok (.int .i64 r) w

theorem looks {w : World} {mb : Nat} {I r : Int} {l : List (Int × Int)} (h : MapOf (Value.int .i64) (Value.int .i64) w mb l) (hr : ((Map.get l I).map (Value.int .i64)).getD (.int .i64 0) = .int .i64 r) : LookIs w mb I r := by
  have := run_lookup (P := Try.prog) Try.underlying57 Try.underlying3 (keyed_int .i64) h I (zero3 w)
  rw [hr] at this
  exact this

set_option maxRecDepth 100000 in
set_option maxHeartbeats 4000000 in
theorem walk {H : Type} {enc : TypeId × Value → H} (W : World) {base : Nat} {v : Value} {d : DataW H} {p : List MemPlace} (h : DataW.Trod enc Try.prog W 0 (fun _ => true) true 56 v d p) (ho : Value.okWide Try.prog W .any base 56 v) :
    Calls Try.prog 6 #[v] W fun e W' => e = .returned (.bool true) ∧ Below W.heap.size W W' := by
  obtain ⟨A, n, c, xs, rfl, hx⟩ := ints_open Try.underlying56 Try.underlying5 (by kernel_rfl) h ho
  have HX := Lib.hid hx
  have hwf := Lib.hid hx.2.2.1
  clear h ho hx
  have hmm := @run_makeMap Try.prog
  go_enter Try.func6, Try.ntmps6
  go_wp2_with fail
  refine Calls.mono (alive_true W) ?_
  rintro e w1 ⟨rfl, hb⟩
  have HB := Lib.hid hb
  clear hb
  by_cases h8 : 300 < n
  · have hb8 : decide ((300 : Int) < n) = true := decide_eq_true (by omega)
    go_wp2_with fail
    go_ret
    exact ⟨rfl, HB.out⟩
  · have hb8 : decide ((300 : Int) < n) = false := decide_eq_false (by omega)
    go_wp2_with fail
    generalize hW : World.alloc (World.alloc w1 _) _ = W1
    have HL : Hid (LiveM (fun _ => 1) .i64 W W1 w1.heap.size 0 (List.replicate 8 .none) (w1.heap.size + 1) []) := by
      rw [← hW]
      exact LiveM.new _ _ W w1 HB.out
    clear hW
    go_loopw [19] (fun v24 wr => ∃ (i N : Nat) (st : List (Option Int)) (l : List (Int × Int)), i ≤ n ∧ v24 = .int .i64 i ∧ N ≤ i ∧ Hid (LiveM (fun _ => 1) .i64 W wr w1.heap.size N st (w1.heap.size + 1) l)) (fun v24 _ => n - (intOf v24).toNat)
    case atStart => exact ⟨0, 0, _, _, Nat.zero_le _, rfl, Nat.le_refl _, HL⟩
    case round =>
      obtain ⟨i, N, st, l, hi, rfl, hN, HL1⟩ := hrel
      by_cases hin : i < n
      · obtain ⟨b, off, rfl, hlt, hc⟩ := (HX.out.kept HL1.out.below).2.2.2 (by omega)
        have hc0 := hc i hin
        obtain ⟨x, hx⟩ : ∃ x, x = xs.getD i 0 := ⟨_, rfl⟩
        have hxw : (Lit.int .u8 x).wf = true := by rw [hx]; exact getD_wf HX.out hin
        have hxb := bounds_u8 hxw
        rw [← hx] at hc0
        clear hx hc hxw
        have HLK := Lib.hid HL1.out.link
        by_cases hk : x % 2 = 0
        · have hkb : (x % 2 == 0) = true := by simpa using hk
          rcases first_free HLK.out.len8 with ⟨f, hf8, hf1, hf2, hf3, hf4⟩ | ⟨hf2, hf3, hf4⟩
          · have HF1 := Lib.hid hf1
            have HF2 := Lib.hid hf2
            have HF3 := Lib.hid hf3
            have HF4 := Lib.hid hf4
            clear hf1 hf2 hf3 hf4
            go_wp2_with fail
            refine Calls.mono (mopen_yes f i HL1.out (by omega) HF1.out HF2.out) ?_
            rintro e w3 ⟨rfl, HH⟩
            go_wp2_with fail
            go_loop [9] (fun v => ∃ t : Nat, t ≤ f ∧ v = .int .i64 t) (fun v => f - (intOf v).toNat)
            case atStart => exact ⟨0, by omega, rfl⟩
            case round =>
              obtain ⟨t, ht, rfl⟩ := hrel
              by_cases htf : t < f
              · have hg : Map.get l (t : Int) = some 1 := HLK.out.one (HF3.out t htf)
                have HG := Lib.hid hg
                clear hg
                go_wp2_with (at_lookup; refine wpList_mlook rfl _ _ 57 rfl 3 3 Try.underlying57 Try.underlying3 (keyed_int .i64) HH.out.map t (.int .i64 0) (zero3 _) rfl rfl (.int .i64 1) (by rw [HG.out]; rfl) ?_)
                go_round
                case rel => exact ⟨t + 1, by omega, by go_num⟩
                case measure => simp [intOf]; omega
              · obtain rfl : t = f := by omega
                have hg : Map.get l (t : Int) = none := by rw [HLK.out.got, HF4.out]; rfl
                have HG := Lib.hid hg
                clear hg
                have hf8 : ((t : Int) == 8) = false := by simp; omega
                go_wp2_with (first | (at_lookup; refine wpList_mlook rfl _ _ 57 rfl 3 3 Try.underlying57 Try.underlying3 (keyed_int .i64) HH.out.map t (.int .i64 0) (zero3 _) rfl rfl (.int .i64 0) (by rw [HG.out]; rfl) ?_) | (at_mapUpdate; refine wpList_mput rfl _ _ _ 57 rfl 3 3 Try.underlying57 Try.underlying3 (keyed_int .i64) HH.out.map t 1 rfl rfl rfl ?_; intro w4 HM4 HC4))
                go_roundw
                case rel => exact ⟨i + 1, N + 1, _, _, by omega, by go_num, by omega, Lib.hid (HH.out.whole HM4.out HC4.out (HLK.out.set HF1.out i))⟩
                case measure => simp [intOf]; omega
          · have HF2 := Lib.hid hf2
            have HF3 := Lib.hid hf3
            have HF4 := Lib.hid hf4
            clear hf2 hf3 hf4
            go_wp2_with fail
            refine Calls.mono (mopen_no i HL1.out HF2.out) ?_
            rintro e w3 ⟨rfl, rfl⟩
            go_wp2_with fail
            go_loop [9] (fun v => ∃ t : Nat, t ≤ 8 ∧ v = .int .i64 t) (fun v => 8 - (intOf v).toNat)
            case atStart => exact ⟨0, by omega, rfl⟩
            case round =>
              obtain ⟨t, ht, rfl⟩ := hrel
              by_cases htf : t < 8
              · have hg : Map.get l (t : Int) = some 1 := HLK.out.one (HF3.out t htf)
                have HG := Lib.hid hg
                clear hg
                go_wp2_with (at_lookup; refine wpList_mlook rfl _ _ 57 rfl 3 3 Try.underlying57 Try.underlying3 (keyed_int .i64) HL1.out.map t (.int .i64 0) (zero3 _) rfl rfl (.int .i64 1) (by rw [HG.out]; rfl) ?_)
                go_round
                case rel => exact ⟨t + 1, by omega, by go_num⟩
                case measure => simp [intOf]; omega
              · obtain rfl : t = 8 := by omega
                have hg : Map.get l 8 = none := by rw [HLK.out.got, HF4.out]; rfl
                have HG := Lib.hid hg
                clear hg
                go_wp2_with (at_lookup; refine wpList_mlook rfl _ _ 57 rfl 3 3 Try.underlying57 Try.underlying3 (keyed_int .i64) HL1.out.map 8 (.int .i64 0) (zero3 _) rfl rfl (.int .i64 0) (by rw [HG.out]; rfl) ?_)
                go_roundw
                case rel => exact ⟨i + 1, N, _, _, by omega, by go_num, by omega, HL1⟩
                case measure => simp [intOf]; omega
        · have hkb : (x % 2 == 0) = false := by simpa using hk
          obtain ⟨I, hI⟩ : ∃ I, I = x / 2 % 8 := ⟨_, rfl⟩
          have HI := Lib.hid hI
          clear hI
          cases hv : hasB st I with
          | true =>
            have HV := Lib.hid hv
            have HG := Lib.hid (HLK.out.one hv)
            clear hv
            go_wp2_with fail
            rw [← HI.out]
            have hlk : ∀ w' : World, MapOf (Value.int .i64) (Value.int .i64) w' (w1.heap.size + 1) l → LookIs w' (w1.heap.size + 1) I 1 := fun w' hm => looks hm (by rw [HG.out]; rfl)
            have HLK2 := Lib.hid hlk
            clear hlk
            have hlk1 := HLK2.out _ HL1.out.map
            go_region_held3 (fun w' => LookIs w' (w1.heap.size + 1) I 1) (first | exact HLK2.out _ HL1.out.map | exact HLK2.out _ HL1.out.drew.map | assumption) (first | (go_at_call 11; refine Calls.mono (mclose_yes I HL1.out.drew HV.out) ?_; rintro e w3 ⟨rfl, HH⟩; have hlk3 := HLK2.out _ HH.out.map))
            go_wp2_with (at_delete; refine wpList_mdel rfl _ _ 57 3 rfl 3 3 Try.underlying57 Try.underlying3 (keyed_int .i64) HH.out.map I rfl rfl ?_; intro w4 HM4 HC4)
            all_goals exact ⟨⟨i + 1, N, _, _, by omega, by go_num, by omega, Lib.hid (HH.out.whole HM4.out HC4.out (HLK.out.del_yes HV.out))⟩, by simp [intOf]; omega⟩
          | false =>
            have HV := Lib.hid hv
            have HG : Hid (Map.get l I = none) := Lib.hid (by rw [HLK.out.got, hv]; rfl)
            clear hv
            go_wp2_with fail
            rw [← HI.out]
            have hlk : ∀ w' : World, MapOf (Value.int .i64) (Value.int .i64) w' (w1.heap.size + 1) l → LookIs w' (w1.heap.size + 1) I 0 := fun w' hm => looks hm (by rw [HG.out]; rfl)
            have HLK2 := Lib.hid hlk
            clear hlk
            have hlk1 := HLK2.out _ HL1.out.map
            go_region_held3 (fun w' => LookIs w' (w1.heap.size + 1) I 0) (first | exact HLK2.out _ HL1.out.map | exact HLK2.out _ HL1.out.drew.map | assumption) (first | (go_at_call 11; refine Calls.mono (mclose_no I HL1.out.drew HV.out) ?_; rintro e w3 ⟨rfl, rfl⟩; have hlk3 := HLK2.out _ HL1.out.drew.map))
            go_wp2_with (at_delete; refine wpList_mdel rfl _ _ 57 3 rfl 3 3 Try.underlying57 Try.underlying3 (keyed_int .i64) HL1.out.drew.map I rfl rfl ?_; intro w4 HM4 HC4)
            all_goals exact ⟨⟨i + 1, N, _, _, by omega, by go_num, by omega, Lib.hid (HL1.out.drew.mapped HM4.out HC4.out (by rw [HLK.out.del_no HV.out]; exact HLK.out))⟩, by simp [intOf]; omega⟩
      · go_wp2_with fail
        refine Calls.mono (mlen HL1.out) ?_
        rintro e w3 ⟨rfl, rfl⟩
        have hlen := HL1.out.link.len
        have hlb : ((cntB st : Int) == (l.length : Int)) = true := by simp [hlen]
        go_wp2_with (at_len; refine wpList_mlen rfl _ 57 rfl 3 3 Try.underlying57 HL1.out.map rfl ?_)
        go_ret
        exact ⟨by simp, HL1.out.below⟩


theorem own : ownKnob Try.prog.godebug = none := by kernel_rfl
theorem laidOut : laidOutB Try.prog = true := by kernel_rfl

set_option maxRecDepth 100000 in
theorem lifted (os : Os) (started : os.Started) (H : Type) (enc : TypeId × Value → H) :
    ReturnsInHanded {} Try.checked os 6 .any (Rows.stampNumbersSpec.pre6 enc Try.prog Try.f6 Rows.stampNumbersRow.domain false) (Rows.stampNumbersSpec.post enc Try.prog Try.f6 false true false false) := by
  refine returnsInHanded_of_change (C := Try.checked) own started (by kernel_rfl) Try.func6
    (ChangeSpec.witness6 (enc := enc) (C := Try.checked) false ⟨#[], #[.slice none 0 0], []⟩ 8 (by kernel_rfl) (by kernel_rfl) (by kernel_rfl) (by kernel_rfl)) ?_
  intro W base args ds gs before hval0 hW hcnd _
  have hval : ∀ (j : Nat) t v, Try.f6.params[j]? = some t → args[j]? = some v → Value.okWide Try.prog W .any base t v := hval0
  have hW' := hW
  obtain ⟨p, q, hA0, hV, rfl, hfz, hnd⟩ := hW
  have hA : DataW.TrodAll enc Try.prog W 0 (fun _ => true) true Try.f6.params.toList args.toList ds p := hA0
  rw [Try.params6] at hA hval
  obtain ⟨v0, vs0, d0, ds0, p0, q0, hargs, rfl, rfl, h0, r0⟩ := trodAll_cons hA
  obtain ⟨rfl, rfl, rfl⟩ := trodAll_nil r0
  obtain rfl : args = #[v0] := by cases args; simp_all
  obtain ⟨rfl, rfl⟩ := trodVars_none hV
  clear hA0 hval0
  have lt0 : ∀ x ∈ p0, x.block < W.heap.size := by obtain ⟨m, hm⟩ := h0; exact DataW.trod_lt m _ _ _ hm
  simp only [List.append_nil] at hW'
  refine Calls.mono (walk W h0 (hval 0 56 v0 rfl rfl)) ?_
  rintro e W' ⟨rfl, bel⟩
  exact ⟨_, rfl, Post.post_below (pa := _) (pv := []) hW' (fun _ _ _ => (trodAll_cons_mk (shut_bool Try.underlying4 _) trodAll_mk0)) (fun sp hsp => (trodAll_cons_mk (WideElems.Trod_stays laidOut (by kernel_rfl) (of_decide_eq_true (by kernel_rfl)) h0 (fun x hx => bel.same (lt0 x hx)) (fun x hx => hsp x (by simp [hx]))) trodAll_mk0)) (fun _ _ => rfl) (by simp)
    bel (ok_one (by kernel_rfl) rfl (okWide_bool_mk Try.underlying4 _))⟩

theorem over : Rows.stampNumbersRow.holds Try.pinned (OpenSpec.ofChange Rows.stampNumbersSpec) :=
  OpenClaim.holds_of_wide 6 Try.f6 rfl rfl rfl rfl rfl rfl rfl ⟨rfl, rfl, rfl, rfl, rfl⟩ rfl rfl rfl rfl rfl (by kernel_rfl) Try.func6 (by kernel_rfl)
    (of_decide_eq_true (by kernel_rfl)) (by unfold Func.isWrapper; first | (rw [if_pos (by decide +kernel)]; kernel_rfl) | (rw [if_neg (by decide +kernel)]; exact ⟨rfl, rfl⟩))
    (fun os started H enc _ => lifted os started H enc)

/-- The statement. -/
theorem proved : Rows.StampNumbersSaid :=
  over

end Go.Proofs.Ytdjppnfbpnfgaaa.stampNumbers
