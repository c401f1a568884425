/- Layer 9's law package: its arguments opened. -/
import Derived.Test.YtmfomkmdfddhaaaDoorAlive
namespace Go.Proofs.YtmfomkmdfddhaaaDoor.Open9
open Go.ChangeShapes Go.WideShapes Go.ChangeAt Go.RowKit Go.Proofs.YtmfomkmdfddhaaaDoor.Mem Go.Proofs.YtmfomkmdfddhaaaDoor.Read Go.Proofs.YtmfomkmdfddhaaaDoor.Out Go.Proofs.YtmfomkmdfddhaaaDoor.Nib Go.Proofs.YtmfomkmdfddhaaaDoor.Node Go.Proofs.YtmfomkmdfddhaaaDoor.Slc Go.Proofs.YtmfomkmdfddhaaaDoor.Res Go.Proofs.YtmfomkmdfddhaaaDoor.Dec Go.Proofs.YtmfomkmdfddhaaaDoor.Kid Go.Proofs.YtmfomkmdfddhaaaDoor.Alive

theorem ints_field {H : Type} {enc : TypeId × Value → H} {P : Program} {W : World} {t e : TypeId} {k : IntKind} {fuel : Nat} {v : Value} {y : DataW H × List MemPlace} (ht : P.underlying t = some (.slice e)) (he : P.underlying e = some (.int k)) (hc : P.cellsOf e = 1)
    (hf : DataW.trod enc P W 0 (fun _ => true) true fuel t [v] = some y) : ∃ A n c xs, v = .slice A n c ∧ Ints W k A n xs ∧ n ≤ c := by
  rcases open_ints ht he hc hf with ⟨hcs, _⟩ | ⟨a, len, cap, zs, hcs, _, hl, hm, hz, _, hcell, hw⟩
  · obtain rfl : v = .slice none 0 0 := by simpa using hcs
    exact ⟨none, 0, 0, [], rfl, ints_nil _ _, Nat.le_refl _⟩
  · obtain rfl : v = .slice (some a) len cap := by simpa using hcs
    simp only [if_true] at hz
    refine ⟨some a, len, cap, zs.take len, rfl, ⟨by simp; omega, by omega, fun x hx => hw x (List.mem_of_mem_take hx), fun h0 => ?_⟩, hl⟩
    obtain ⟨b, off, rfl, hc2⟩ := ints_at hcell (by omega)
    refine ⟨b, off, rfl, World.block_lt_of_cell? W _ (hc2 0 (by omega)), fun i hi => ?_⟩
    rw [hc2 i (by omega)]
    congr 2
    simp [List.getD_eq_getElem?_getD, hi]

theorem c5 : Tryd.prog.cellsOf 5 = 1 := by kernel_rfl
theorem c23 : Tryd.prog.cellsOf 23 = 1 := by kernel_rfl
theorem c22 : Tryd.prog.cellsOf 22 = 1 := by kernel_rfl
theorem c24 : Tryd.prog.cellsOf 24 = 1 := by kernel_rfl
theorem c26 : Tryd.prog.cellsOf 26 = 4 := by kernel_rfl

theorem node_open {H : Type} {enc : TypeId × Value → H} {W : World} {base : Nat} {v : Value} {d : DataW H} {p : List MemPlace} (h : DataW.Trod enc Tryd.prog W 0 (fun _ => true) true 26 v d p) (ho : Value.okWide Tryd.prog W .any base 26 v) :
    ∃ N : ND, v = N.v ∧ N.At W := by
  obtain ⟨cs, rfl, hs⟩ := okWide_struct Tryd.underlying26 ho
  rw [c26] at hs
  obtain ⟨fuel, hf⟩ := h
  obtain ⟨xs, n, _, _, _, hl, hx⟩ := DataW.trod_struct Tryd.underlying26 hf
  obtain ⟨x0, x1, x2, x3, rfl⟩ : ∃ x0 x1 x2 x3, cs = #[x0, x1, x2, x3] := by
    obtain ⟨l⟩ := cs
    match l, hs with
    | [a, b, c, d], _ => exact ⟨a, b, c, d, rfl⟩
  obtain ⟨y0, y1, y2, y3, rfl⟩ : ∃ y0 y1 y2 y3, xs = [y0, y1, y2, y3] := by
    match xs, hl with
    | [a, b, c, d], _ => exact ⟨a, b, c, d, rfl⟩
  have h0 : DataW.trod enc Tryd.prog W 0 (fun _ => true) true n 22 (([x0, x1, x2, x3].drop 0).take (Tryd.prog.cellsOf 22)) = some y0 := hx 0 _ rfl
  have h1 : DataW.trod enc Tryd.prog W 0 (fun _ => true) true n 23 (([x0, x1, x2, x3].drop 1).take (Tryd.prog.cellsOf 23)) = some y1 := hx 1 _ rfl
  have h2 : DataW.trod enc Tryd.prog W 0 (fun _ => true) true n 22 (([x0, x1, x2, x3].drop 2).take (Tryd.prog.cellsOf 22)) = some y2 := hx 2 _ rfl
  have h3 : DataW.trod enc Tryd.prog W 0 (fun _ => true) true n 24 (([x0, x1, x2, x3].drop 3).take (Tryd.prog.cellsOf 24)) = some y3 := hx 3 _ rfl
  rw [c22] at h0 h2
  rw [c23] at h1
  rw [c24] at h3
  obtain ⟨A1, n1, d1, pre, rfl, hp, _⟩ := ints_field Tryd.underlying22 Tryd.underlying5 c5 h0
  obtain ⟨A2, n2, d2, lab, rfl, hl2, _⟩ := ints_field Tryd.underlying22 Tryd.underlying5 c5 h2
  obtain ⟨A3, n3, d3, kid, rfl, hk, _⟩ := ints_field Tryd.underlying24 Tryd.underlying23 c23 h3
  obtain ⟨x, e1, _, w1⟩ := DataW.trod_int Tryd.underlying23 h1
  obtain rfl : x1 = .int .u64 x := by simpa using e1
  exact ⟨⟨A1, n1, d1, x, A2, n2, d2, A3, n3, d3, pre, lab, kid⟩, rfl, hp, hl2, hk, w1⟩
/-- A node of the document's that is a parameter, in block g; its lists; the package's table. -/
structure Env9 (N : ND) (w0 w : World) (g : Nat) : Prop where
  nd : N.At w
  cells : Cells w g 26 N.cells
  lines : LinesAt w
  below : Below w0.heap.size w0 w
  ge : w0.heap.size ≤ g

theorem Env9.enter {N : ND} {w0 w : World} (h : N.At w) (hl : LinesAt w) (hb : Below w0.heap.size w0 w) : Env9 N w0 (w.alloc (.cells #[.slice N.A1 N.n1 N.c1, .int .u64 N.val, .slice N.A2 N.n2 N.c2, .slice N.A3 N.n3 N.c3] 26)) w.heap.size :=
  ⟨h.kept ((Below.refl _ _).alloc (Nat.le_refl _) _), Cells.new w N.cells _, hl.kept ((Below.refl _ _).alloc (Nat.le_refl _) _), hb.alloc hb.size _, hb.size⟩

theorem Env9.kept {N : ND} {w0 w w' : World} {g : Nat} (h : Env9 N w0 w g) (hb : Below w.heap.size w w') : Env9 N w0 w' g :=
  ⟨h.nd.kept hb, h.cells.kept (Chg.of_below (F := fun _ => False) hb) (fun f => f), h.lines.kept hb, h.below.trans (hb.mono h.below.size), h.ge⟩
theorem small_len {N : ND} (h3 : N.kid.length = N.n3) (h4 : N.n3 ≤ 4) : (smallL N).length = 8 := by
  simp only [smallL, List.length_append, List.length_cons, List.length_nil, List.length_replicate, h3]
  omega

theorem encode_yes (N : ND) (w : World) (h : N.At w) (hl : LinesAt w) (hr : RightP N) :
    Calls Tryd.prog 10 #[N.v] w fun e w' => ∃ b m, e = .returned (.tuple #[.slice (some ⟨b, 0, none⟩) m m, .bool true]) ∧ Hid (Out w w' 23 1 (.slice (some ⟨b, 0, none⟩) m m) m ((wordsL N).map (.int .u64))) ∧ Hid (m = (wordsL N).length ∧ 8 ≤ m ∧ m ≤ 32) := by
  by_cases h4 : N.n3 ≤ 4
  · refine Calls.mono (encode_small N w h hl hr h4) ?_
    rintro e w' ⟨b, rfl, HO⟩
    have e1 : wordsL N = smallL N := by unfold wordsL; rw [if_pos h4]
    rw [e1]
    exact ⟨b, 8, rfl, HO, Lib.hid ⟨(small_len h.kid.1 h4).symm, by decide, by decide⟩⟩
  · refine Calls.mono (encode_big N w h hl hr h4) ?_
    rintro e w' ⟨b, rfl, HO⟩
    have e1 : wordsL N = bigL N := by unfold wordsL; rw [if_neg h4]
    rw [e1]
    exact ⟨b, 32, rfl, HO, Lib.hid ⟨(bigTo_len N _).symm, by decide, by decide⟩⟩

theorem wf_bigTo {N : ND} {w : World} (h : N.At w) (hr : RightP N) : ∀ i, i ≤ N.n3 → ∀ x ∈ bigTo N i, (Lit.int .u64 x).wf = true
  | 0, _ => by
    intro x hx
    have hn := lab_le hr.2.2.2 h.lab
    have h1 := hr.2.1
    have h2 := h.kid.1
    simp only [bigTo] at hx
    rcases List.mem_append.1 hx with hx | hx
    · simp only [List.mem_cons, List.not_mem_nil, or_false] at hx
      rcases hx with rfl | rfl | rfl
      · exact u64_wf (by omega) (by omega)
      · exact pack_wf hr.1 (fun x hx => (wf_u8 (h.pre.2.2.1 x hx)).1)
      · exact h.valw
    · have := List.eq_of_mem_replicate hx
      subst this
      exact u64_wf (by omega) (by omega)
  | i + 1, hi => by
    intro x hx
    simp only [bigTo] at hx
    rcases List.mem_or_eq_of_mem_set hx with hx | rfl
    · exact wf_bigTo h hr i (by omega) x hx
    · exact h.kid.2.2.1 _ (getD_mem (by have := h.kid.1; omega))

theorem wf_words {N : ND} {w : World} (h : N.At w) (hr : RightP N) : ∀ x ∈ wordsL N, (Lit.int .u64 x).wf = true := by
  unfold wordsL
  split
  · rename_i h4
    exact wf_small h hr h4
  · exact wf_bigTo h hr _ (Nat.le_refl _)

theorem words_val (N : ND) (x : Int) : wordsL { N with val := x } = (wordsL N).set 2 x := by
  unfold wordsL
  simp only
  split
  · simp [smallL]
  · suffices ∀ i, bigTo { N with val := x } i = (bigTo N i).set 2 x from this _
    intro i
    induction i with
    | zero => simp [bigTo]
    | succ i ih =>
      simp only [bigTo] at ih ⊢
      rw [ih, List.set_comm]
      omega
end Go.Proofs.YtmfomkmdfddhaaaDoor.Open9
