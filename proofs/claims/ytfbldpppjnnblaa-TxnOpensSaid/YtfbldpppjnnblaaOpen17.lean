/- Layer 17's laws: arguments opened; what the law's helpers give. -/
import Derived.Test.YtfbldpppjnnblaaFew15
import Derived.Test.YtfbldpppjnnblaaPost
import Derived.Test.YtfbldpppjnnblaaRows
import Derived.Carry
import Derived.BigQuiet
import Derived.WalkLawsBesides
namespace Go.Proofs.Ytfbldpppjnnblaa.Open17
set_option maxRecDepth 100000
open Go.ChangeShapes Go.WideShapes Go.ChangeAt Go.RowKit Go.Proofs.Ytfbldpppjnnblaa.Mem Go.Proofs.Ytfbldpppjnnblaa.Read Go.Proofs.Ytfbldpppjnnblaa.Out Go.Proofs.Ytfbldpppjnnblaa.Copy Go.Proofs.Ytfbldpppjnnblaa.Key Go.Proofs.Ytfbldpppjnnblaa.Set Go.Proofs.Ytfbldpppjnnblaa.Rows3 Go.Proofs.Ytfbldpppjnnblaa.Few15

theorem wrs_open {H : Type} {enc : TypeId × Value → H} {W : World} {base : Nat} {v : Value} {d : DataW H} {p : List MemPlace} (h : DataW.Trod enc Try.prog W 0 (fun _ => true) true 32 v d p) (ho : Value.okWide Try.prog W .any base 32 v) :
    ∃ (A : Option Addr) (n c : Nat) (l : List W3), v = .slice A n c ∧ RowsOf W3.cells 3 W A n l := by
  have := structs_open W3.cells Try.underlying32 Try.underlying38 (by kernel_rfl) (by kernel_rfl) (by decide) (fun row hl hf => by
    match row, hl with
    | [x, y, z], _ =>
      obtain ⟨n0, y0, h0⟩ := hf 0 _ rfl
      obtain ⟨n1, y1, h1⟩ := hf 1 _ rfl
      obtain ⟨n2, y2, h2⟩ := hf 2 _ rfl
      obtain ⟨a, e0, _⟩ := DataW.trod_string Try.underlying9 h0
      obtain ⟨b, e1, _⟩ := DataW.trod_string Try.underlying9 h1
      obtain ⟨c, e2, _⟩ := DataW.trod_bool Try.underlying4 h2
      refine ⟨(⟨a, b, c⟩ : W3), ?_⟩
      simp at e0 e1 e2
      simp [W3.cells, e0, e1, e2]) h ho
  obtain ⟨A, n, c, l, e, hs⟩ := this
  exact ⟨A, n, c, l, e, RowsOf.of_structs hs W3.len⟩

theorem wr_open {H : Type} {enc : TypeId × Value → H} {W : World} {base : Nat} {v : Value} {d : DataW H} {p : List MemPlace} (h : DataW.Trod enc Try.prog W 0 (fun _ => true) true 38 v d p) (ho : Value.okWide Try.prog W .any base 38 v) :
    ∃ x : W3, v = .agg #[.string x.k, .string x.t, .bool x.g] := by
  obtain ⟨cs, rfl, hs⟩ := okWide_struct Try.underlying38 ho
  have c41 : Try.prog.cellsOf 38 = 3 := by kernel_rfl
  have c9 : Try.prog.cellsOf 9 = 1 := by kernel_rfl
  have c4 : Try.prog.cellsOf 4 = 1 := by kernel_rfl
  rw [c41] at hs
  obtain ⟨fuel, hf⟩ := h
  obtain ⟨xs, n, _, _, _, hl, hx⟩ := DataW.trod_struct Try.underlying38 hf
  obtain ⟨x0, x1, x2, rfl⟩ : ∃ x0 x1 x2, cs = #[x0, x1, x2] := by
    obtain ⟨l⟩ := cs
    match l, hs with
    | [a, b, c], _ => exact ⟨a, b, c, rfl⟩
  obtain ⟨y0, y1, y2, rfl⟩ : ∃ y0 y1 y2, xs = [y0, y1, y2] := by
    match xs, hl with
    | [a, b, c], _ => exact ⟨a, b, c, rfl⟩
  have h0 : DataW.trod enc Try.prog W 0 (fun _ => true) true n 9 (([x0, x1, x2].drop 0).take (Try.prog.cellsOf 9)) = some y0 := hx 0 _ rfl
  have h1 : DataW.trod enc Try.prog W 0 (fun _ => true) true n 9 (([x0, x1, x2].drop 1).take (Try.prog.cellsOf 9)) = some y1 := hx 1 _ rfl
  have h2 : DataW.trod enc Try.prog W 0 (fun _ => true) true n 4 (([x0, x1, x2].drop 2).take (Try.prog.cellsOf 4)) = some y2 := hx 2 _ rfl
  rw [c9] at h0 h1
  rw [c4] at h2
  obtain ⟨a, e0, _⟩ := DataW.trod_string Try.underlying9 h0
  obtain ⟨b, e1, _⟩ := DataW.trod_string Try.underlying9 h1
  obtain ⟨c, e2, _⟩ := DataW.trod_bool Try.underlying4 h2
  obtain rfl : x0 = .string a := by simpa using e0
  obtain rfl : x1 = .string b := by simpa using e1
  obtain rfl : x2 = .bool c := by simpa using e2
  exact ⟨⟨a, b, c⟩, rfl⟩

set_option maxHeartbeats 1000000 in
theorem ours_any (A : Option Addr) (n c : Nat) (l : List W3) (w : World) (h : RowsOf W3.cells 3 w A n l) (hn : n ≤ 100000) :
    Calls Try.prog 30 #[.slice A n c] w fun e w' => ∃ v, e = .returned v ∧ Hid (Out w w' 38 3 v n (l.flatMap W3.cells)) := by
  have hl := h.1
  have HX := Lib.hid h
  clear h
  go_enter Try.func30, Try.ntmps30
  go_wp2_with fail
  go_loopw [3, 8] (fun v3 v8 wr => ∃ (i : Nat) (A' : Option Addr) (c' : Nat), i ≤ n ∧ v8 = .int .i64 i ∧ v3 = .slice A' i c' ∧ Hid (Out w wr 38 3 (.slice A' i c') i ((l.take i).flatMap W3.cells))) (fun _ v8 _ => n - (intOf v8).toNat)
  case atStart => exact ⟨0, none, 0, by omega, rfl, rfl, Lib.hid (Out.nil (Below.refl _ _) _ _)⟩
  case round =>
    obtain ⟨i, A', c', hi, rfl, rfl, HO⟩ := hrel
    by_cases hin : i < n
    · obtain ⟨b, off, rfl⟩ := HX.out.addr (by omega)
      obtain ⟨x, hx⟩ : ∃ x, l[i]? = some x := ⟨l[i]'(by omega), List.getElem?_eq_getElem _⟩
      have hc := (HX.out.kept HO.out.below).at hx
      have hc0 := hc 0 _ rfl
      have hc1 := hc 1 _ rfl
      have hc2 := hc 2 _ rfl
      simp only [Nat.add_zero] at hc0
      have hts : (l.take (i + 1)).flatMap W3.cells = (l.take i).flatMap W3.cells ++ x.cells := by
        rw [List.take_add_one, hx]
        simp
      have HTS := Lib.hid hts
      clear hx hc hts
      go_wp2_with (at_builtin; refine wpList_out rfl _ _ 32 rfl 38 (.agg #[.string ⟨#[]⟩, .string ⟨#[]⟩, .bool false]) 3 40 Try.underlying32 info_rw rfl (by decide) _ _ _ rfl ((HO.out.alloc _).alloc _) ⟨wr.heap.size + 1, 0, none⟩ 1 1 x.cells rfl rfl ?c1 ?c2 ?c3 ?c4 (by decide) ?_)
      case c1 => exact two_new wr _ x.cells _
      case c2 => exact x.one
      case c3 => simp only [maxLen]; omega
      case c4 => omega
      intro g kk w1 ho1 hg1 hw1
      clear hg1 hw1
      have HO1 : Hid (Out w w1 38 3 (.slice (some ⟨g, 0, none⟩) (i + 1) kk) (i + 1) ((l.take (i + 1)).flatMap W3.cells)) := Lib.hid (by rw [HTS.out]; exact ho1.out)
      clear ho1
      go_wp2_with fail
      go_roundw
      case rel => exact ⟨i + 1, some ⟨g, 0, none⟩, kk, by omega, by go_num, rfl, HO1⟩
      case measure => simp [intOf]; omega
    · obtain rfl : i = n := by omega
      have HF : Hid (Out w wr 38 3 (.slice A' i c') i (l.flatMap W3.cells)) := Lib.hid (by have := HO.out; rwa [List.take_of_length_le (by omega)] at this)
      go_wp2_with fail
      go_ret
      exact ⟨_, rfl, HF⟩
set_option maxHeartbeats 1000000 in
theorem same_any (A A2 : Option Addr) (n m c d : Nat) (xs ys : List W3) (w : World) (h : RowsOf W3.cells 3 w A n xs) (k : RowsOf W3.cells 3 w A2 m ys) (hn : n ≤ 100000) (b : Bool) (hb : b = true ↔ xs = ys) :
    Calls Try.prog 29 #[.slice A n c, .slice A2 m d] w fun e w' => e = .returned (.bool b) ∧ Below w.heap.size w w' := by
  have hl := h.1
  have hl2 := k.1
  have HX := Lib.hid h
  have HK := Lib.hid k
  have HB := Lib.hid hb
  clear h k hb
  by_cases hnm : n = m
  · subst hnm
    have hne : ((n : Int) != (n : Int)) = false := by simp
    go_enter Try.func29, Try.ntmps29
    go_wp2_with fail
    go_loopw [5] (fun v wr => ∃ i : Nat, i ≤ n ∧ v = .int .i64 i ∧ Hid (∀ j, j < i → xs[j]? = ys[j]?) ∧ Hid (Below w.heap.size w wr)) (fun v _ => n - (intOf v).toNat)
    case atStart => exact ⟨0, by omega, rfl, Lib.hid (fun j hj => absurd hj (by omega)), Lib.hid (Below.refl _ _)⟩
    case round =>
      obtain ⟨i, hi, rfl, HI, HW⟩ := hrel
      by_cases hin : i < n
      · obtain ⟨b1, o1, rfl⟩ := HX.out.addr (by omega)
        obtain ⟨b2, o2, rfl⟩ := HK.out.addr (by omega)
        obtain ⟨x, hx⟩ : ∃ x, xs[i]? = some x := ⟨xs[i]'(by omega), List.getElem?_eq_getElem _⟩
        obtain ⟨y, hy⟩ : ∃ y, ys[i]? = some y := ⟨ys[i]'(by omega), List.getElem?_eq_getElem _⟩
        have hc := (HX.out.kept HW.out).at hx
        have hd := (HK.out.kept HW.out).at hy
        have hc0 := hc 0 _ rfl
        have hc1 := hc 1 _ rfl
        have hc2 := hc 2 _ rfl
        simp only [Nat.add_zero] at hc0
        have hd0 := hd 0 _ rfl
        have hd1 := hd 1 _ rfl
        have hd2 := hd 2 _ rfl
        simp only [Nat.add_zero] at hd0
        have HXX := Lib.hid hx
        have HYY := Lib.hid hy
        clear hc hd hx hy
        by_cases hxy : x = y
        · subst hxy
          have hs : ∀ j, j < i + 1 → xs[j]? = ys[j]? := by
            intro j hj
            by_cases e : j = i
            · subst e; rw [HXX.out, HYY.out]
            · exact HI.out j (by omega)
          have HS := Lib.hid hs
          clear hs
          go_wp2_with fail
          go_quiet (fail)
          go_wp2_with fail
          go_roundw
          case rel => exact ⟨i + 1, by omega, by go_num, HS, Lib.hid (HW.out.trans (Below.mono ⟨rfl, rfl, rfl, Nat.le_refl _, fun _ _ => rfl⟩ HW.out.size))⟩
          case measure => simp [intOf]; omega
        · have HF : Hid (b = false) := Lib.hid (by
            cases hb : b with
            | false => rfl
            | true =>
              have e := HB.out.1 hb
              subst e
              have e2 := HXX.out.symm.trans HYY.out
              cases e2
              exact absurd rfl hxy)
          have hd := W3.differs hxy
          clear hxy
          rcases hd with h1 | ⟨h1, h2⟩ | ⟨h1, h2, h3⟩
          all_goals
            go_wp2_with fail
            go_quiet (fail)
            go_wp2_with fail
            go_ret
            exact ⟨by rw [HF.out]; rfl, HW.out.trans (Below.mono ⟨rfl, rfl, rfl, Nat.le_refl _, fun _ _ => rfl⟩ HW.out.size)⟩
      · have HF : Hid (b = true) := Lib.hid (HB.out.2 (List.ext_getElem? (fun j => by
          by_cases hj : j < n
          · exact HI.out j (by omega)
          · rw [List.getElem?_eq_none (by omega), List.getElem?_eq_none (by omega)])))
        go_wp2_with fail
        go_ret
        exact ⟨by rw [HF.out]; rfl, HW.out⟩
  · have hne : ((n : Int) != (m : Int)) = true := by simp; omega
    have HF : Hid (b = false) := Lib.hid (by cases hb : b with | false => rfl | true => exact absurd (congrArg List.length (HB.out.1 hb)) (by omega))
    go_enter Try.func29, Try.ntmps29
    go_wp2_with fail
    go_ret
    exact ⟨by rw [HF.out]; rfl, Below.refl _ _⟩
end Go.Proofs.Ytfbldpppjnnblaa.Open17
