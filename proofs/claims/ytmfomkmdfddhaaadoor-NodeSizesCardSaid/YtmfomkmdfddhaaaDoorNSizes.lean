/- NodeSizes: a node has as many words as its class has; its kids are all in them, each once. No condition. -/
import Derived.Test.YtmfomkmdfddhaaaDoorRows
import Derived.Test.YtmfomkmdfddhaaaDoorWords
import Derived.Test.YtmfomkmdfddhaaaDoorMap2
import Derived.Test.YtmfomkmdfddhaaaDoorPost
import Derived.Carry
import Derived.Maps.OwnOps
import Derived.Maps.OwnSet
import Derived.IntWalk
namespace Go.Proofs.YtmfomkmdfddhaaaDoor.nodeSizes
open Go.ChangeShapes Go.WideShapes Go.ChangeAt Go.RowKit Go.Proofs.YtmfomkmdfddhaaaDoor.Mem Go.Proofs.YtmfomkmdfddhaaaDoor.Read Go.Proofs.YtmfomkmdfddhaaaDoor.Out Go.Proofs.YtmfomkmdfddhaaaDoor.Nib Go.Proofs.YtmfomkmdfddhaaaDoor.Node Go.Proofs.YtmfomkmdfddhaaaDoor.Slc Go.Proofs.YtmfomkmdfddhaaaDoor.Res Go.Proofs.YtmfomkmdfddhaaaDoor.Dec Go.Proofs.YtmfomkmdfddhaaaDoor.Kid Go.Proofs.YtmfomkmdfddhaaaDoor.Alive Go.Proofs.YtmfomkmdfddhaaaDoor.Open9 Go.Proofs.YtmfomkmdfddhaaaDoor.Words Go.Proofs.YtmfomkmdfddhaaaDoor.Map

/-- The places so far, each once. -/
def hadL (N : ND) (i : Nat) : List (Int × Int) := (List.range i).map fun j => (kidAt N j (N.lab.getD j 0), 1)

theorem had_get {N : ND} {w : World} (h : N.At w) (hr : RightP N) {i : Nat} (hi : i < N.n2) : Map.get (hadL N i) (kidAt N i (N.lab.getD i 0)) = none := by
  refine get_none_of_notin ?_
  intro hm
  simp only [hadL, List.map_map, List.mem_map, List.mem_range, Function.comp_apply] at hm
  obtain ⟨j, hj, e⟩ := hm
  exact kid_apart h hr hj hi e

theorem idx_none {K V : Type} [DecidableEq K] {l : List (K × V)} {k : K} (h : Map.get l k = none) : idx l k = none := by
  rw [get_idx] at h
  cases hi : idx l k with
  | none => rfl
  | some p => rw [hi] at h; cases h

theorem had_put {N : ND} {w : World} (h : N.At w) (hr : RightP N) {i : Nat} (hi : i < N.n2) : put (hadL N i) (kidAt N i (N.lab.getD i 0)) 1 = hadL N (i + 1) := by
  rw [put_none (idx_none (had_get h hr hi))]
  simp [hadL, List.range_succ]

theorem had_len (N : ND) (i : Nat) : (hadL N i).length = i := by simp [hadL]

theorem zero_int (w : World) : (zeroValue 3).run Tryd.prog w = .ok (.int .i64 0) w := by kernel_rfl

theorem class_eq {N : ND} {C : Nat} (h : (C = 1 ∧ N.n3 ≤ 4) ∨ (C = 2 ∧ 4 < N.n3)) : classI N = C := by
  unfold classI
  rcases h with ⟨rfl, h⟩ | ⟨rfl, h⟩
  · rw [if_pos h]; rfl
  · rw [if_neg (by omega)]; rfl

theorem words_q (c r : Int) (hc : (c = 1 ∧ r = 8) ∨ (c = 2 ∧ r = 32)) (w : World) (hl : LinesAt w) (n : Nat) : Calls Tryd.prog 13 #[.int .i64 c] (w.drewN n) fun e w'' => e = .returned (.int .i64 r) ∧ ∃ m, w'' = w.drewN m := by
  have hq : LinesAt (w.drewN n) := hl
  exact (words_any c r hc (w.drewN n) hq).mono fun _ _ h => ⟨h.1, n, h.2.symm⟩

/-- The words, the node and the map, while the kids are asked. -/
structure St (N : ND) (W w : World) (g b m mb i : Nat) : Prop where
  env : Env9 N W w g
  words : Ints w .u64 (some ⟨b, 0, none⟩) m (wordsL N)
  map : MapOf (Value.int .i64) (Value.int .i64) w mb (hadL N i)
  lt : g < mb
  ne : b ≠ mb

theorem St.kept {N : ND} {W w w' : World} {g b m mb i : Nat} (h : St N W w g b m mb i) (hb : Below w.heap.size w w') : St N W w' g b m mb i :=
  ⟨h.env.kept hb, h.words.kept hb, h.map.kept (Chg.of_below (F := fun _ => False) hb) (fun f => f), h.lt, h.ne⟩

theorem St.turn {N : ND} {W w w' : World} {g b m mb i j : Nat} (h : St N W w g b m mb i) (hN : N.At W) (hl : LinesAt W) (hc : Chg (· = mb) w w') (hm : MapOf (Value.int .i64) (Value.int .i64) w' mb (hadL N j)) : St N W w' g b m mb j :=
  have hge := h.env.ge
  have hlt := h.lt
  have hbl : Below W.heap.size W w' := ⟨hc.os.trans h.env.below.os, hc.tape.trans h.env.below.tape, hc.output.trans h.env.below.output, Nat.le_trans h.env.below.size hc.size, fun k hk => (hc.block k (Nat.lt_of_lt_of_le hk h.env.below.size) (by omega)).trans (h.env.below.block k hk)⟩
  ⟨⟨hN.kept hbl, h.env.cells.kept hc (by omega), hl.kept hbl, hbl, h.env.ge⟩, ints_chg h.words hc (fun a e => by cases e; exact h.ne), hm, h.lt, h.ne⟩


set_option maxRecDepth 100000 in
theorem walk {H : Type} {enc : TypeId × Value → H} (W : World) {base : Nat} {v : Value} {d : DataW H} {p : List MemPlace} (h : DataW.Trod enc Tryd.prog W 0 (fun _ => true) true 26 v d p) (ho : Value.okWide Tryd.prog W .any base 26 v) (hl : LinesAt W) :
    Calls Tryd.prog 4 #[v] W fun e W' => e = .returned (.bool true) ∧ Below W.heap.size W W' := by
  obtain ⟨N, rfl, hN⟩ := node_open h ho
  have HN := Lib.hid hN
  have HL := Lib.hid hl
  clear h ho hN hl
  have hmm := @run_makeMap Tryd.prog
  unfold ND.v
  go_enter Tryd.func4, Tryd.ntmps4
  go_wp2_with fail
  have HE := Lib.hid (Env9.enter HN.out HL.out (Below.refl _ W))
  generalize hW : World.alloc W _ = W1 at *
  clear hW
  refine Calls.mono (alive_true W1 HE.out.lines) ?_
  rintro e w2 ⟨rfl, hb2⟩
  have HE2 := Lib.hid (HE.out.kept hb2)
  clear HE hb2
  go_wp2_with (refine wpList_load_row rfl 26 _ rfl _ rfl 26 N.cells.toArray (0, 0) _ HE2.out.cells Tryd.underlying26 rfl rfl ?_)
  refine Calls.mono (few_any N w2) ?_
  rintro e w3 ⟨rfl, hb3⟩
  have HE3 := Lib.hid (HE2.out.kept hb3)
  clear HE2 hb3
  cases hfew : fewB N with
  | false =>
    go_wp2_with fail
    go_ret
    exact ⟨rfl, HE3.out.below⟩
  | true =>
    go_wp2_with (refine wpList_load_row rfl 26 _ rfl _ rfl 26 N.cells.toArray (0, 0) _ HE3.out.cells Tryd.underlying26 rfl rfl ?_)
    by_cases hr : RightP N
    · have HR := Lib.hid hr
      clear hr
      refine Calls.mono (encode_yes N w3 HE3.out.nd HE3.out.lines HR.out) ?_
      rintro e w4 ⟨b, m, rfl, HO, HM⟩
      have HE4 := Lib.hid (HE3.out.kept HO.out.below)
      clear HE3
      have hf0 := HE4.out.cells.cell 0
      have hf1 := HE4.out.cells.cell 1
      have hf2 := HE4.out.cells.cell 2
      have hf3 := HE4.out.cells.cell 3
      simp only [ND.cells, List.getElem?_cons_zero, List.getElem?_cons_succ] at hf0 hf1 hf2 hf3
      obtain ⟨C, hC⟩ : ∃ C : Nat, C = if N.n3 ≤ 4 then 1 else 2 := ⟨_, rfl⟩
      have hcl : (C = 1 ∧ N.n3 ≤ 4) ∨ (C = 2 ∧ 4 < N.n3) := by
        by_cases h4 : N.n3 ≤ 4
        · exact .inl ⟨by rw [hC, if_pos h4], h4⟩
        · exact .inr ⟨by rw [hC, if_neg h4], by omega⟩
      have HC := Lib.hid hC
      clear hC
      have HCC : Hid (classI N = C) := Lib.hid (class_eq hcl)
      have hc12 : (C = 1 ∧ N.n3 ≤ 4) ∨ (C = 2 ∧ 4 < N.n3) := hcl
      have HC12 := Lib.hid hc12
      clear hc12
      go_upto_if 35 with (fail)
      go_cut [5] (fun v5 wc => v5 = .int .i64 C ∧ wc = w4)
      case first =>
        rcases hcl with ⟨rfl, hcb⟩ | ⟨rfl, hcb⟩
        all_goals
          go_wp2_with fail
          all_goals first
            | (exfalso; omega)
            | (go_meet
               case rel => exact ⟨rfl, rfl⟩)
      case rest =>
        obtain ⟨rfl, rfl⟩ := hcut
        clear hcl
        have hml := HM.out.1
        have hmb := HM.out.2
        obtain ⟨A1, d1, f1, hia⟩ := own_ints HO.out (by simp only [maxLen]; omega) (wf_words HE4.out.nd HR.out)
        cases f1
        have hbl : b < wc.heap.size := (hia.2.2.2 (by omega)).elim (fun _ h => h.elim (fun _ h => by obtain ⟨e, h, _⟩ := h; cases e; exact h))
        have HS : Hid (St N W (wc.alloc (.map #[] 0)) W.heap.size b m wc.heap.size 0) := Lib.hid ⟨HE4.out.kept ((Below.refl _ _).alloc (Nat.le_refl _) _), hia.kept ((Below.refl _ _).alloc (Nat.le_refl _) _), MapOf.new _ _ wc, HE4.out.cells.lt, by omega⟩
        have HML := Lib.hid hml
        clear hia hml HE4 HO HM hf0 hf1 hf2 hf3
        go_upto_region 12 with (fail)
        generalize hW : World.alloc wc _ = W5 at *
        generalize wc.heap.size = mb at *
        clear hW
        have hf0 := HS.out.env.cells.cell 0
        have hf1 := HS.out.env.cells.cell 1
        have hf2 := HS.out.env.cells.cell 2
        have hf3 := HS.out.env.cells.cell 3
        simp only [ND.cells, List.getElem?_cons_zero, List.getElem?_cons_succ] at hf0 hf1 hf2 hf3
        go_wp2_with fail
        clear hf0 hf1 hf2 hf3
        go_loopw [40] (fun v wr => ∃ i : Nat, i ≤ N.n2 ∧ v = .int .i64 i ∧ Hid (St N W wr W.heap.size b m mb i)) (fun v _ => N.n2 - (intOf v).toNat)
        case atStart => exact ⟨0, by omega, rfl, HS⟩
        case round =>
          obtain ⟨i, hi, rfl, HI⟩ := hrel
          have hll := HI.out.env.nd.lab.1
          have h23 : N.n2 = N.n3 := by have := HR.out.2.1; have := HI.out.env.nd.kid.1; omega
          have hm2 := HI.out.env.nd.lab.2.1
          simp only [maxLen] at hm2
          have H23 := Lib.hid h23
          clear h23
          have HLL := Lib.hid hll
          clear hll
          by_cases hin : i < N.n2
          · obtain ⟨b2, off2, hA2, _, hcl⟩ := HI.out.env.nd.lab.2.2.2 (by omega)
            have hcl0 := hcl i hin
            obtain ⟨y, hy⟩ : ∃ y, y = N.lab.getD i 0 := ⟨_, rfl⟩
            rw [← hy] at hcl0
            have HY := Lib.hid hy
            have HA2 := Lib.hid hA2
            rw [hA2]
            clear hcl hy hA2
            go_upto_region 15 with (fail)
            go_wp2_with (refine wpList_load_row rfl 26 _ rfl _ rfl 26 N.cells.toArray (0, 0) _ HI.out.env.cells Tryd.underlying26 rfl rfl ?_)
            refine Calls.mono (kid_yes N y i wr HI.out.env.nd HI.out.env.lines HR.out hin HY.out.symm) ?_
            rintro e w6 ⟨rfl, hb6⟩
            have H6 := Lib.hid (HI.out.kept hb6)
            obtain ⟨K, hK1, hK2, hK3, hK4⟩ := words_kid H6.out.env.nd HR.out hin HY.out.symm
            obtain ⟨k, hk⟩ : ∃ k, k = N.kid.getD i 0 := ⟨_, rfl⟩
            have hcw := ints_cell H6.out.words (i := K) (by rw [HML.out]; exact hK3) (x := k) (by rw [hK4, hk])
            rw [Nat.zero_add] at hcw
            obtain ⟨b3, off3, hA3, _, hck⟩ := H6.out.env.nd.kid.2.2.2 (by have := H23.out; omega)
            have hck0 := hck i (by have := H23.out; omega)
            rw [← hk] at hck0
            have hKm : K < m := by rw [HML.out]; exact hK3
            rw [hK1, ← hk]
            have HKA : Hid (kidAt N i (N.lab.getD i 0) = K) := Lib.hid (by rw [← HY.out]; exact hK1)
            have hlt4 : decide ((K : Int) < 4) = false := decide_eq_false (by omega)
            have hin3 : i < N.n3 := by have := H23.out; omega
            have hf0 := H6.out.env.cells.cell 0
            have hf1 := H6.out.env.cells.cell 1
            have hf2 := H6.out.env.cells.cell 2
            have hf3 := H6.out.env.cells.cell 3
            simp only [ND.cells, List.getElem?_cons_zero, List.getElem?_cons_succ] at hf0 hf1 hf2 hf3
            rw [hA3] at hf3
            have HA3 := Lib.hid hA3
            have HG : Hid (Map.get (hadL N i) (K : Int) = none) := Lib.hid (by rw [← HKA.out]; exact had_get H6.out.env.nd HR.out hin)
            clear hb6 HI hK1 hK3 hK4 hk hck hA3
            go_wp2_with (first | (at_lookup; refine wpList_mlook rfl _ _ 40 rfl 3 3 Tryd.underlying40 Tryd.underlying3 (keyed_int .i64) H6.out.map (K : Int) (.int .i64 0) (zero_int _) rfl rfl (.int .i64 0) (by rw [HG.out]; rfl) ?_) | (at_mapUpdate; refine wpList_mput rfl _ _ _ 40 rfl 3 3 Tryd.underlying40 Tryd.underlying3 (keyed_int .i64) H6.out.map (K : Int) 1 rfl rfl rfl ?_; intro w7 HM7 HC7))
            all_goals
              have H7 : Hid (St N W w7 W.heap.size b m mb (i + 1)) := Lib.hid (H6.out.turn HN.out HL.out HC7.out (by have := HM7.out; rw [← HKA.out, had_put H6.out.env.nd HR.out hin] at this; exact this))
              clear hf0 hf1 hf2 hf3 hcw hck0
              go_wp2_with fail
              go_roundw
              case rel => exact ⟨i + 1, by omega, by go_num, H7⟩
              case measure => simp [intOf]; omega
          · obtain rfl : i = N.n2 := by omega
            have h0 := ints_cell HI.out.words (i := 0) (by omega) (x := C + 256 * (N.n3 : Int)) (by rw [(words_head N).1, HCC.out])
            have h2 := ints_cell HI.out.words (i := 2) (by omega) (x := N.val) (by rw [(words_head N).2])
            rw [Nat.zero_add] at h0 h2
            have hmv : (C = 1 ∧ m = 8) ∨ (C = 2 ∧ m = 32) := by
              have hwl := words_len HI.out.env.nd
              rw [← HML.out] at hwl
              rcases HC12.out with ⟨h1, h2⟩ | ⟨h1, h2⟩
              · exact .inl ⟨h1, by rw [hwl, if_pos h2]⟩
              · exact .inr ⟨h1, by rw [hwl, if_neg (by omega)]⟩
            have h16 : N.n3 ≤ 16 := by have := lab_le HR.out.2.2.2 HI.out.env.nd.lab; have := HLL.out; have := H23.out; omega
            have hrl : ∀ nq, (Builtin.len_ #[40] 3 #[.map (some mb)]).run Tryd.prog (wr.drewN nq) = .ok (.int .i64 N.n2) (wr.drewN nq) := fun nq => by
              have hM : MapOf (Value.int .i64) (Value.int .i64) (wr.drewN nq) mb (hadL N N.n2) := HI.out.map
              have := run_len (P := Tryd.prog) Tryd.underlying40 hM 3
              rw [had_len] at this
              exact this
            have hrl0 : (Builtin.len_ #[40] 3 #[.map (some mb)]).run Tryd.prog wr = .ok (.int .i64 N.n2) wr := hrl 0
            have hf0 := HI.out.env.cells.cell 0
            have hf1 := HI.out.env.cells.cell 1
            have hf2 := HI.out.env.cells.cell 2
            have hf3 := HI.out.env.cells.cell 3
            simp only [ND.cells, List.getElem?_cons_zero, List.getElem?_cons_succ] at hf0 hf1 hf2 hf3
            rcases hmv with ⟨rfl, rfl⟩ | ⟨rfl, rfl⟩
            · rw [show (((1 : Nat) : Int)) = 1 from rfl] at h0 ⊢
              have wr1 : IntKind.i64.wrap (256 * (N.n3 : Int)) = 256 * (N.n3 : Int) := IntWalk.i64_in _ (by omega)
              have wr2 : IntKind.i64.wrap (1 + 256 * (N.n3 : Int)) = 1 + 256 * (N.n3 : Int) := IntWalk.i64_in _ (by omega)
              go_wp2_with fail
              go_quiet ((go_at_call 13; exact words_q 1 8 (.inl ⟨rfl, rfl⟩) wr HI.out.env.lines _))
              go_wp2_with fail
              go_ret
              exact ⟨rfl, below_drewN HI.out.env.below _⟩
            · rw [show (((2 : Nat) : Int)) = 2 from rfl] at h0 ⊢
              have wr1 : IntKind.i64.wrap (256 * (N.n3 : Int)) = 256 * (N.n3 : Int) := IntWalk.i64_in _ (by omega)
              have wr2 : IntKind.i64.wrap (2 + 256 * (N.n3 : Int)) = 2 + 256 * (N.n3 : Int) := IntWalk.i64_in _ (by omega)
              go_wp2_with fail
              go_quiet ((go_at_call 13; exact words_q 2 32 (.inr ⟨rfl, rfl⟩) wr HI.out.env.lines _))
              go_wp2_with fail
              go_ret
              exact ⟨rfl, below_drewN HI.out.env.below _⟩
    · have HR := Lib.hid hr
      clear hr
      refine Calls.mono (encode_no N w3 HE3.out.nd HR.out) ?_
      rintro e w4 ⟨rfl, hb4⟩
      have HE4 := Lib.hid (HE3.out.kept hb4)
      clear HE3 hb4
      go_wp2_with (refine wpList_load_row rfl 26 _ rfl _ rfl 26 N.cells.toArray (0, 0) _ HE4.out.cells Tryd.underlying26 rfl rfl ?_)
      refine Calls.mono (right_any N w4 HE4.out.nd false (by simpa using HR.out)) ?_
      rintro e w5 ⟨rfl, hb5⟩
      have HE5 := Lib.hid (HE4.out.kept hb5)
      clear HE4 hb5
      go_wp2_with fail
      go_ret
      exact ⟨rfl, HE5.out.below⟩
end Go.Proofs.YtmfomkmdfddhaaaDoor.nodeSizes
