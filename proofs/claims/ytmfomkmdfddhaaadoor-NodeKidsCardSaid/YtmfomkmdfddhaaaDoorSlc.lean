/- slices.Equal, slices.Clone, slices.BinarySearch, as layer 9 calls them. -/
import Derived.Test.YtmfomkmdfddhaaaDoorEnc
import Derived.Lib.LazyBuf
namespace Go.Proofs.YtmfomkmdfddhaaaDoor.Slc
open Go.RowKit Go.Proofs.YtmfomkmdfddhaaaDoor.Mem Go.Proofs.YtmfomkmdfddhaaaDoor.Read Go.Proofs.YtmfomkmdfddhaaaDoor.Out Go.Proofs.YtmfomkmdfddhaaaDoor.Nib Go.Proofs.YtmfomkmdfddhaaaDoor.Node

theorem below_drewN {B : Nat} {a w : World} (h : Below B a w) (n : Nat) : Below B a (w.drewN n) := ⟨h.os, h.tape, h.output, h.size, h.block⟩

theorem eq_of_getD {xs ys : List Int} (h : xs.length = ys.length) (hg : ∀ i, i < xs.length → xs.getD i 0 = ys.getD i 0) : xs = ys := by
  apply List.ext_getElem h
  intro i h1 h2
  have := hg i h1
  rw [List.getD_eq_getElem?_getD, List.getElem?_eq_getElem h1, List.getD_eq_getElem?_getD, List.getElem?_eq_getElem h2] at this
  exact this

theorem equal_any (A B : Option Addr) (n m c d : Nat) (xs ys : List Int) (w : World) (h : Ints w .u64 A n xs) (k : Ints w .u64 B m ys) (b : Bool) (hb : b = true ↔ xs = ys) :
    Calls Tryd.prog 27 #[.slice A n c, .slice B m d] w fun e w' => e = .returned (.bool b) ∧ Below w.heap.size w w' := by
  have hl := h.1
  have hl2 := k.1
  have hmax := h.2.1
  simp only [maxLen] at hmax
  have HX := Lib.hid h
  have HK := Lib.hid k
  have HB := Lib.hid hb
  clear h k hb
  by_cases hnm : n = m
  · subst hnm
    have hne : ((n : Int) != (n : Int)) = false := by simp
    go_enter Tryd.func27, Tryd.ntmps27
    go_wp2_with fail
    go_loopw [13] (fun v wr => ∃ i : Nat, i ≤ n ∧ v = .int .i64 i ∧ Hid (∀ j, j < i → xs.getD j 0 = ys.getD j 0) ∧ Hid (Below w.heap.size w wr)) (fun v _ => n - (intOf v).toNat)
    case atStart => exact ⟨0, by omega, rfl, Lib.hid (fun j hj => absurd hj (by omega)), Lib.hid (Below.refl _ _)⟩
    case round =>
      obtain ⟨i, hi, rfl, HI, HW⟩ := hrel
      by_cases hin : i < n
      · obtain ⟨b1, o1, rfl, _, hc⟩ := (HX.out.kept HW.out).2.2.2 (by omega)
        obtain ⟨b2, o2, rfl, _, hd⟩ := (HK.out.kept HW.out).2.2.2 (by omega)
        have hc0 := hc i hin
        have hd0 := hd i hin
        obtain ⟨x, hx⟩ : ∃ x, x = xs.getD i 0 := ⟨_, rfl⟩
        obtain ⟨y, hy⟩ : ∃ y, y = ys.getD i 0 := ⟨_, rfl⟩
        rw [← hx] at hc0
        rw [← hy] at hd0
        have HXX := Lib.hid hx
        have HYY := Lib.hid hy
        clear hc hd hx hy
        by_cases he : x = y
        · have heb : (x != y) = false := by simpa using he
          have hs : ∀ j, j < i + 1 → xs.getD j 0 = ys.getD j 0 := by
            intro j hj
            rcases Nat.lt_succ_iff_lt_or_eq.1 hj with hj | rfl
            · exact HI.out j hj
            · rw [← HXX.out, ← HYY.out, he]
          have HS := Lib.hid hs
          clear hs he
          go_wp2_with fail
          go_quiet (fail)
          go_wp2_with fail
          go_roundw
          case rel => exact ⟨i + 1, by omega, by go_num, HS, Lib.hid (below_drewN HW.out _)⟩
          case measure => simp [intOf]; omega
        · have heb : (x != y) = true := by simpa using he
          have HF : Hid (b = false) := Lib.hid (by
            cases hb : b with
            | false => rfl
            | true => exact absurd (by rw [HXX.out, HYY.out, HB.out.1 hb]) he)
          clear he
          go_wp2_with fail
          go_quiet (fail)
          go_wp2_with fail
          go_ret
          exact ⟨by rw [HF.out]; rfl, below_drewN HW.out _⟩
      · have HF : Hid (b = true) := Lib.hid (HB.out.2 (eq_of_getD (by omega) (fun j hj => HI.out j (by omega))))
        go_wp2_with fail
        go_ret
        exact ⟨by rw [HF.out]; rfl, HW.out⟩
  · have hne : ((n : Int) != (m : Int)) = true := by simp; omega
    have HF : Hid (b = false) := Lib.hid (by cases hb : b with | false => rfl | true => exact absurd (congrArg List.length (HB.out.1 hb)) (by omega))
    go_enter Tryd.func27, Tryd.ntmps27
    go_wp2_with fail
    go_ret
    exact ⟨by rw [HF.out]; rfl, Below.refl _ _⟩

/-- append of as many as there are, none too: what comes is left opaque. -/
theorem wpList_outs {P : Program} {w : World} {ops : Array Oper} {rest : List Oper} {o : Oper} {a : Act} {Q : Exit → Act → World → Prop} (hgd : o.guard = none) (s x : Operand) (t : TypeId)
    (ho : o.op = .call { callee := .builtin .append, args := #[s, x], argTypes := #[t, t] })
    (e : TypeId) (z : Value) (size bytes : Nat) (ht : P.underlying t = some (.slice e)) (hinfo : (P.info? e).map (fun i => (i.zero, i.size, i.bytes)) = some (some z, size, bytes))
    (hzs : z.cells.size = size) (hsz : 0 < size)
    {w0 : World} (v : Value) (n : Nat) (xs : List Value) (hs : a.eval s = v) (hown : Out w0 w e size v n xs)
    (ad : Addr) (m c : Nat) (news : List Value) (hx : a.eval x = .slice (some ad) m c) (hl : news.length = m * size) (hnews : ∀ j u, news[j]? = some u → w.cell? (ad.add j) = some u) (h1 : ∀ u ∈ news, u.oneCell' = true)
    (h63 : n + m ≤ maxLen) (hbytes : (n + m) * bytes ≤ 140737488355328)
    (h : ∀ v' w', Hid (Out w0 w' e size v' (n + m) (xs ++ news)) → Hid (w.grownBy w' v.ownBlock) → wpList P ops Q rest (a.put o.dst v') w') : wpList P ops Q (o :: rest) a w := by
  obtain ⟨i, hi, hz0, hz1, hz2⟩ := info_parts hinfo
  obtain ⟨v', w', hr, h2, h3, h4⟩ := run_append_own (P := P) w w0.heap.size t o.type e i z size bytes ht hi hz0 hz1 hz2 hzs hsz v n xs hown.1 ad m c news hl hnews h1 h63 hbytes hown.2.size
  refine wpList_plain hgd fun K hK => ?_
  unfold Oper.wp execOp
  simp only [ho, resolve, invoke, builtin, Sem.run_bind, Sem.run_pure, Result.andThen_ok, List.map_toArray, List.map_cons, List.map_nil, hs, hx, hr]
  exact hK _ _ (h v' w' ⟨h2, hown.2.grown h3 hown.2.size (fun j hj => hown.ge j hj)⟩ h3)

theorem Out.empty {w0 w : World} (hb : Below w0.heap.size w0 w) (e : TypeId) : Out w0 (w.alloc (.cells #[] e)) e 1 (.slice (some ⟨w.heap.size, 0, none⟩) 0 0) 0 [] :=
  ⟨⟨rfl, .inr ⟨w.heap.size, 0, #[], rfl, hb.size, heap_alloc_new w _, Nat.le_refl _, by decide, rfl, rfl⟩⟩, hb.alloc hb.size _⟩

theorem clone_any (b off : Nat) (n c : Nat) (xs : List Int) (w : World) (h : Ints w .u64 (some ⟨b, off, none⟩) n xs) (hn : n ≤ 1000000) :
    Calls Tryd.prog 26 #[.slice (some ⟨b, off, none⟩) n c] w fun e w' => ∃ v, e = .returned v ∧ Hid (Out w w' 23 1 v n (xs.map (.int .u64))) := by
  have hl := h.1
  have HX := Lib.hid h
  have he := run_eql_slice_nil (P := Tryd.prog) w 24 23 (some ⟨b, off, none⟩) n c Tryd.underlying24
  clear h
  go_enter Tryd.func26, Tryd.ntmps26
  go_wp2_with (at_builtin; refine wpList_outs rfl _ _ 24 rfl 23 (.int .u64 0) 1 8 Tryd.underlying24 info_u64 rfl (by decide) _ _ _ rfl (Out.empty (Below.refl _ w) _) ⟨b, off, none⟩ n c (xs.map (.int .u64)) rfl ?c1 ?c2 ?c3 ?c4 ?c5 ?_)
  case c1 => rw [List.length_map, hl, Nat.mul_one]
  case c2 =>
    intro j u hj
    have hjn : j < xs.length := by have := (List.getElem?_eq_some_iff.1 hj).1; simpa using this
    obtain ⟨b', off', hA, hlt, hc⟩ := HX.out.2.2.2 (by omega)
    cases hA
    rw [add_off, ← hj, List.getElem?_map, List.getElem?_eq_getElem hjn]
    have := hc j (by omega)
    rw [List.getD_eq_getElem?_getD, List.getElem?_eq_getElem hjn] at this
    rw [← World.cell?_of_block (w := w) (Below.heap_alloc w _ _ hlt)] at this
    exact this
  case c3 =>
    intro u hu
    obtain ⟨x, _, rfl⟩ := List.mem_map.1 hu
    rfl
  case c4 => simp only [maxLen]; omega
  case c5 => omega
  intro v' w' HO HG
  clear HG
  go_wp2_with fail
  go_ret
  exact ⟨v', rfl, HO⟩
theorem nan1_any (x : Int) (w : World) : Calls Tryd.prog 52 #[.int .u8 x] w fun e w' => e = .returned (.bool false) ∧ w = w' := by
  go_enter Tryd.func52, Tryd.ntmps52
  go_wp2_with fail
  go_ret
  exact ⟨rfl, rfl⟩

theorem nan2_any (x : Int) (w : World) : Calls Tryd.prog 49 #[.int .u8 x] w fun e w' => e = .returned (.bool false) ∧ w = w' := by
  go_enter Tryd.func49, Tryd.ntmps49
  go_wp2_with fail
  go_ret
  exact ⟨rfl, rfl⟩

theorem less_any (x y : Int) (w : World) : Calls Tryd.prog 48 #[.int .u8 x, .int .u8 y] w fun e w' => e = .returned (.bool (decide (x < y))) ∧ w = w' := by
  go_enter Tryd.func48, Tryd.ntmps48
  go_wp2_with fail
  refine Calls.mono (nan1_any x w) ?_
  rintro e w1 ⟨rfl, rfl⟩
  go_wp2_with fail
  go_ret
  exact ⟨rfl, rfl⟩

theorem lab_mono {l : List Int} (h : LabOk l) {i : Nat} : ∀ {j : Nat}, i ≤ j → j < l.length → l.getD i 0 ≤ l.getD j 0
  | 0, hij, _ => by
    obtain rfl : i = 0 := by omega
    exact Int.le_refl _
  | j + 1, hij, hj => by
    by_cases e : i = j + 1
    · subst e; exact Int.le_refl _
    · have h1 := lab_mono h (i := i) (j := j) (by omega) (by omega)
      have h2 := (h (j + 1) hj).2 (by omega)
      rw [Nat.add_sub_cancel] at h2
      omega

/-- Where a label belongs. -/
def Place (l : List Int) (x : Int) (i : Nat) : Prop := LabOk l → (∀ j, j < i → l.getD j 0 < x) ∧ ∀ j, i ≤ j → j < l.length → x ≤ l.getD j 0

/-- What the search tells. -/
structure Srch (l : List Int) (x : Int) (n i : Nat) (b : Bool) : Prop where
  le : i ≤ n
  is : b = true ↔ i < n ∧ l.getD i 0 = x
  place : Place l x i

theorem search_any (A : Option Addr) (n c : Nat) (l : List Int) (x : Int) (w : World) (h : Ints w .u8 A n l) (hn : n ≤ 1000000) :
    Calls Tryd.prog 41 #[.slice A n c, .int .u8 x] w fun e w' => Hid (∃ (i : Nat) (b : Bool), e = .returned (.tuple #[.int .i64 i, .bool b]) ∧ Hid (Srch l x n i b) ∧ w = w') := by
  have hl := h.1
  have HX := Lib.hid h
  clear h
  go_enter Tryd.func41, Tryd.ntmps41
  go_wp2_with fail
  go_loop [7, 8] (fun v7 v8 => ∃ i j : Nat, i ≤ j ∧ j ≤ n ∧ v7 = .int .i64 i ∧ v8 = .int .i64 j ∧ Hid (LabOk l → (∀ q, q < i → l.getD q 0 < x) ∧ ∀ q, j ≤ q → q < l.length → x ≤ l.getD q 0)) (fun v7 v8 => (intOf v8).toNat - (intOf v7).toNat)
  case atStart => exact ⟨0, n, by omega, by omega, rfl, rfl, Lib.hid (fun _ => ⟨fun q hq => absurd hq (by omega), fun q h1 h2 => absurd h1 (by omega)⟩)⟩
  case round =>
    obtain ⟨i, j, hij, hjn, rfl, rfl, HI⟩ := hrel
    by_cases hlt : i < j
    · obtain ⟨m, hm⟩ : ∃ m : Nat, ((m : Nat) : Int) = ((i : Int) + j) / 2 := ⟨(i + j) / 2, by omega⟩
      have hm1 : i ≤ m := by omega
      have hm2 : m < j := by omega
      obtain ⟨b, off, rfl, _, hc⟩ := HX.out.2.2.2 (by omega)
      have hc0 := hc m (by omega)
      obtain ⟨y, hy⟩ : ∃ y, y = l.getD m 0 := ⟨_, rfl⟩
      rw [← hy] at hc0
      have HY := Lib.hid hy
      have hms := hm.symm
      clear hc hy hm
      by_cases hyx : y < x
      · have hyb : decide (y < x) = true := decide_eq_true hyx
        have HN : Hid (LabOk l → (∀ q, q < m + 1 → l.getD q 0 < x) ∧ ∀ q, j ≤ q → q < l.length → x ≤ l.getD q 0) := Lib.hid (fun hs => by
          refine ⟨fun q hq => ?_, (HI.out hs).2⟩
          have hmono := lab_mono hs (i := q) (j := m) (by omega) (by omega)
          rw [← HY.out] at hmono
          omega)
        go_wp2_with fail
        refine Calls.mono (less_any y x w) ?_
        rintro e w1 ⟨rfl, rfl⟩
        go_wp2_with fail
        go_round
        case rel => exact ⟨m + 1, j, by omega, hjn, by go_num, rfl, HN⟩
        case measure => simp [intOf]; omega
      · have hyb : decide (y < x) = false := decide_eq_false hyx
        have HN : Hid (LabOk l → (∀ q, q < i → l.getD q 0 < x) ∧ ∀ q, m ≤ q → q < l.length → x ≤ l.getD q 0) := Lib.hid (fun hs => by
          refine ⟨(HI.out hs).1, fun q hq hql => ?_⟩
          have hmono := lab_mono hs (i := m) (j := q) (by omega) (by omega)
          rw [← HY.out] at hmono
          omega)
        go_wp2_with fail
        refine Calls.mono (less_any y x w) ?_
        rintro e w1 ⟨rfl, rfl⟩
        go_wp2_with fail
        go_round
        case rel => exact ⟨i, m, by omega, by omega, rfl, by go_num, HN⟩
        case measure => simp [intOf]; omega
    · obtain rfl : i = j := by omega
      have HP : Hid (Place l x i) := HI
      by_cases hin : i < n
      · obtain ⟨b, off, rfl, _, hc⟩ := HX.out.2.2.2 (by omega)
        have hc0 := hc i hin
        obtain ⟨y, hy⟩ : ∃ y, y = l.getD i 0 := ⟨_, rfl⟩
        rw [← hy] at hc0
        have HY := Lib.hid hy
        clear hc hy
        by_cases hyx : y = x
        · have hyb : (y == x) = true := by simpa using hyx
          have HQ : Hid (true = true ↔ i < n ∧ l.getD i 0 = x) := Lib.hid (by rw [← HY.out]; simp [hin, hyx])
          clear hyx
          go_wp2_with fail
          go_ret2
          exact Lib.hid ⟨i, .inr ⟨rfl, Lib.hid ⟨hjn, by simpa using HQ.out, HP.out⟩, rfl⟩⟩
        · have hyb : (y == x) = false := by simpa using hyx
          have HQ : Hid (false = true ↔ i < n ∧ l.getD i 0 = x) := Lib.hid (by rw [← HY.out]; simp [hyx])
          clear hyx
          go_wp2_with fail
          refine Calls.mono (nan2_any y w) ?_
          rintro e w1 ⟨rfl, rfl⟩
          go_wp2_with fail
          go_ret2
          exact Lib.hid ⟨i, false, rfl, Lib.hid ⟨hjn, HQ.out, HP.out⟩, rfl⟩
      · have HQ : Hid (false = true ↔ i < n ∧ l.getD i 0 = x) := Lib.hid (by simp [hin])
        go_wp2_with fail
        go_ret2
        exact Lib.hid ⟨i, .inl ⟨rfl, Lib.hid ⟨hjn, HQ.out, HP.out⟩, rfl⟩⟩
end Go.Proofs.YtmfomkmdfddhaaaDoor.Slc
