/- Layer 15's wset: a copy of a set; what it has of a key. -/
import Derived.Test.YtfbldpppjnnblaaAt15
import Derived.Test.YtfbldpppjnnblaaRes
import Derived.Lib.LazyBuf
namespace Go.Proofs.Ytfbldpppjnnblaa.Get15
set_option maxRecDepth 100000
open Go.RowKit Go.Proofs.Ytfbldpppjnnblaa.Mem Go.Proofs.Ytfbldpppjnnblaa.Read Go.Proofs.Ytfbldpppjnnblaa.Out Go.Proofs.Ytfbldpppjnnblaa.Copy Go.Proofs.Ytfbldpppjnnblaa.Key Go.Proofs.Ytfbldpppjnnblaa.Set Go.Proofs.Ytfbldpppjnnblaa.Rows3 Go.Proofs.Ytfbldpppjnnblaa.At15 Go.Proofs.Ytfbldpppjnnblaa.Res

theorem size_wr : (Try.prog.info? 50).map (·.size) = some 3 := by kernel_rfl

theorem clone_w (A : Option Addr) (n c : Nat) (l : List W3) (w : World) (h : RowsOf W3.cells 3 w A n l) (hn : n ≤ 100000) :
    Calls Try.prog 47 #[.slice A n c] w fun e w' => ∃ v, e = .returned v ∧ Hid (Out w w' 50 3 v n (l.flatMap W3.cells)) := by
  have hl := h.1
  have HX := Lib.hid h
  have he := run_eql_slice_nil (P := Try.prog) w 52 50 A n c Try.underlying52
  clear h
  cases A with
  | none =>
    have h0 : n = 0 := by
      by_cases h0 : n = 0
      · exact h0
      · obtain ⟨b, off, e, _⟩ := HX.out.2.2 (by omega)
        cases e
    subst h0
    obtain rfl : l = [] := List.eq_nil_of_length_eq_zero hl
    go_enter Try.func47, Try.ntmps47
    go_wp2_with fail
    go_ret
    exact ⟨_, rfl, Lib.hid (Out.nil (Below.refl _ _) _ _)⟩
  | some a =>
    have hfl := flat_len W3.len l
    have hcells : ∀ j u, (l.flatMap W3.cells)[j]? = some u → w.cell? (a.add j) = some u ∧ a.block < w.heap.size := by
      intro j u hj
      have hjl := (List.getElem?_eq_some_iff.1 hj).1
      rw [hfl] at hjl
      obtain ⟨b, off, e, hlt, hc⟩ := HX.out.2.2 (by omega)
      cases e
      have hi : j / 3 < l.length := by omega
      have hx := List.getElem?_eq_getElem hi
      have hm : j % 3 < (W3.cells (l[j / 3]'hi)).length := by rw [W3.len]; omega
      have hv := List.getElem?_eq_getElem hm
      have h1 := flat_at W3.len l (j / 3) _ hx (j % 3) _ hv
      rw [show j / 3 * 3 + j % 3 = j by omega, hj] at h1
      have h2 := hc (j / 3) _ hx (j % 3) _ hv
      rw [Addr.add_lit]
      rw [Nat.add_assoc, show j / 3 * 3 + j % 3 = j by omega] at h2
      exact ⟨h2.trans h1.symm, hlt⟩
    have HC := Lib.hid hcells
    clear hcells
    go_enter Try.func47, Try.ntmps47
    go_wp2_with (at_builtin; refine wpList_outs rfl _ _ 52 rfl 50 (.agg #[.string ⟨#[]⟩, .string ⟨#[]⟩, .bool false]) 3 40 Try.underlying52 info_wr rfl (by decide) _ 0 [] rfl (out_empty (Below.refl _ w) _ _) a n c (l.flatMap W3.cells) rfl ?c1 ?c2 ?c3 ?c4 ?c5 ?_)
    case c1 => rw [hfl, hl]
    case c2 =>
      intro j u hj
      obtain ⟨h1, h2⟩ := HC.out j u hj
      have hb : (w.alloc (.cells #[] 50)).cell? (a.add j) = w.cell? (a.add j) := World.cell?_of_block (Below.heap_alloc w _ _ (by unfold Addr.add; split <;> exact h2))
      exact hb.trans h1
    case c3 => exact flat_one W3.one l
    case c4 => simp only [maxLen]; omega
    case c5 => omega
    intro v' w' HO HG
    clear HG
    go_wp2_with fail
    go_ret
    exact ⟨v', rfl, HO⟩

def noW : W3 := ⟨⟨#[]⟩, ⟨#[]⟩, false⟩
def getW (l : List W3) (k : ByteArray) : W3 := (lk W3.k l k).getD noW

theorem cells_w (x : W3) : Value.agg #[.string x.k, .string x.t, .bool x.g] = .agg x.cells.toArray := rfl

theorem get_any (A : Option Addr) (n c : Nat) (l : List W3) (key : ByteArray) (w : World) (h : RowsOf W3.cells 3 w A n l) (hn : n ≤ 100000) (hr : Rs W3.k l) :
    Calls Try.prog 49 #[.slice A n c, .string key] w fun e w' => e = .returned (.tuple #[.agg #[.string (getW l key).k, .string (getW l key).t, .bool (getW l key).g], .bool (lk W3.k l key).isSome]) ∧ Below w.heap.size w w' := by
  have hl := h.1
  have HX := Lib.hid h
  have HR := Lib.hid hr
  clear h hr
  obtain ⟨I, hI⟩ : ∃ I, I = idx W3.k l key := ⟨_, rfl⟩
  have HI := Lib.hid hI
  obtain ⟨B, hB⟩ : ∃ B, B = (lk W3.k l key).isSome := ⟨_, rfl⟩
  rw [← hB]
  have HBB := Lib.hid hB
  clear hI hB
  go_enter Try.func49, Try.ntmps49
  go_wp2_with fail
  have HC1 : Hid (Cells (w.alloc (.cells #[.string ⟨#[]⟩, .string ⟨#[]⟩, .bool false] 50)) w.heap.size 50 noW.cells) := Lib.hid (Cells.new w noW.cells _)
  have HB1 : Hid (Below w.heap.size w (w.alloc (.cells #[.string ⟨#[]⟩, .string ⟨#[]⟩, .bool false] 50))) := Lib.hid ((Below.refl w.heap.size w).alloc (Nat.le_refl _) _)
  have HX1 := Lib.hid (HX.out.kept HB1.out)
  generalize hW : World.alloc w _ = W1 at *
  clear hW
  refine Calls.mono (at_any A n c l key W1 HX1.out hn HR.out) ?_
  rintro e w2 ⟨rfl, hb2⟩
  have HC2 := Lib.hid (HC1.out.kept (Chg.of_below (F := fun _ => False) hb2) (fun f => f))
  have HB2 := Lib.hid (HB1.out.trans (hb2.mono HB1.out.size))
  have HX2 := Lib.hid (HX1.out.kept hb2)
  clear hb2 HC1 HB1 HX1
  rw [← HI.out, ← HBB.out]
  cases hlk : lk W3.k l key with
  | none =>
    obtain rfl : B = false := by rw [HBB.out, hlk]; rfl
    have HV : Hid (getW l key = noW) := Lib.hid (by unfold getW; rw [hlk]; rfl)
    clear hlk
    have HRS := Lib.hid (row_set HC2.out noW.cells)
    have HRB := Lib.hid (row_below HB2.out noW.cells.toArray (Nat.le_refl _))
    go_wp2_with (refine wpList_store_row rfl 50 _ _ rfl w.heap.size noW.cells.toArray rfl rfl 50 _ HC2.out size_wr rfl (by simp [noW, W3.cells, Value.oneCell']) ?_)
    refine bodyPost_ret (res_one rfl _ _ w.heap.size 50 noW.cells.toArray (0, 0) _ rfl HRS.out Try.underlying50 rfl size_wr) rfl ?_
    exact ⟨by rw [HV.out]; rfl, HRB.out⟩
  | some x =>
    obtain rfl : B = true := by rw [HBB.out, hlk]; rfl
    have HV : Hid (getW l key = x) := Lib.hid (by unfold getW; rw [hlk]; rfl)
    have hxi : l[I]? = some x := by
      have := lk_idx HR.out key
      rw [hlk, ← HI.out] at this
      cases hq : l[I]? with
      | none => rw [hq] at this; cases this
      | some y =>
        rw [hq] at this
        simp only at this
        split at this
        · cases this; rfl
        · cases this
    have hin : I < n := by have := (List.getElem?_eq_some_iff.1 hxi).1; omega
    obtain ⟨b, off, rfl⟩ := HX2.out.addr (by omega)
    have hc := HX2.out.at hxi
    have hc0 := hc 0 _ rfl
    have hc1 := hc 1 _ rfl
    have hc2 := hc 2 _ rfl
    simp only [Nat.add_zero] at hc0
    clear hc hlk hxi
    have HRS := Lib.hid (row_set HC2.out x.cells)
    have HRB := Lib.hid (row_below HB2.out x.cells.toArray (Nat.le_refl _))
    go_wp2_with (refine wpList_store_row rfl 50 _ _ rfl w.heap.size x.cells.toArray rfl rfl 50 _ HC2.out size_wr rfl (by simp [W3.cells, Value.oneCell']) ?_)
    refine bodyPost_ret (res_one rfl _ _ w.heap.size 50 x.cells.toArray (0, 0) _ rfl HRS.out Try.underlying50 rfl size_wr) rfl ?_
    exact ⟨by rw [HV.out]; rfl, HRB.out⟩
end Go.Proofs.Ytfbldpppjnnblaa.Get15
