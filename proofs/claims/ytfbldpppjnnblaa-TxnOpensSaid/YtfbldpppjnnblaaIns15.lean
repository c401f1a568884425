/- slices.Insert at layer 15's sets. -/
import Derived.Test.YtfbldpppjnnblaaCopy
import Derived.Test.YtfbldpppjnnblaaProg
namespace Go.Proofs.Ytfbldpppjnnblaa.Ins
set_option maxRecDepth 100000
open Go.RowKit Go.Proofs.Ytfbldpppjnnblaa.Mem Go.Proofs.Ytfbldpppjnnblaa.Read Go.Proofs.Ytfbldpppjnnblaa.Out Go.Proofs.Ytfbldpppjnnblaa.Copy

theorem info_wr : (Try.prog.info? 50).map (fun i => (i.zero, i.size, i.bytes)) = some (some (.agg #[.string ⟨#[]⟩, .string ⟨#[]⟩, .bool false]), 3, 40) := by kernel_rfl
theorem ins_size : (Try.prog.info? 50).map (·.size) = some 3 := by kernel_rfl
theorem ins_sizeOf (w : World) : (sizeOf 50).run Try.prog w = .ok 3 w := by kernel_rfl
theorem ins_over (w : World) (vb g o lb cb : Nat) (news cur : List Value) (hv : Cells w vb 50 news) (hg : Cells w g 50 cur) (hne : vb ≠ g) (hc : cur.length ≠ 0) :
    (callFunc 64 #[.slice (some ⟨vb, 0, none⟩) 1 1, .slice (some ⟨g, o, none⟩) lb cb]).run Try.prog w = .ok (.value (.bool false)) w := by
  have hsa : w.shape? vb = some (50, news.length) := by unfold Cells at hv; simp [World.shape?, hv]
  have hsb : w.shape? g = some (50, cur.length) := by unfold Cells at hg; simp [World.shape?, hg]
  rw [run_callFunc_extern Try.func64 (by kernel_rfl) (by kernel_rfl) (by kernel_rfl) (e := Extern.SlicesOverlaps.overlaps #[51, 51] #[4]) (by kernel_rfl),
    Lib.run_overlaps_apart w 51 4 50 Try.underlying51 3 ins_sizeOf ⟨vb, 0, none⟩ ⟨g, o, none⟩ 1 1 lb cb hne 50 50 news.length cur.length hsa hsb hc (hv.frozen 0) (hv.frozen _)]
  rfl

set_option maxHeartbeats 1000000 in
set_option maxRecDepth 100000 in
theorem ins_end (w0 w : World) (v : Value) (n : Nat) (xs news : List Value) (vb : Nat) (hown : Out w0 w 50 3 v n xs) (hn : n ≤ 1000) (hv : Cells w vb 50 news) (hnl : news.length = 3) (h1v : ∀ u ∈ news, u.oneCell' = true) :
    Calls Try.prog 55 #[v, .int .i64 n, .slice (some ⟨vb, 0, none⟩) 1 1] w fun e w' => ∃ v', e = .returned v' ∧ Hid (Out w0 w' 50 3 v' (n + 1) (xs ++ news)) ∧ Hid (Chg (fun b => v.ownBlock = some b) w w') := by
  have HO := Lib.hid hown
  have HV := Lib.hid hv
  have HL := Lib.hid hnl
  have H1 := Lib.hid h1v
  have hforms : (v = .slice none 0 0 ∧ n = 0) ∨ (∃ g, v = .slice (some ⟨g, 0, none⟩) n n) ∨ ∃ g c, v = .slice (some ⟨g, 0, none⟩) n c ∧ n < c := by
    rcases hown.1.2 with ⟨rfl, rfl⟩ | ⟨g, c, cur, rfl, _, _, hnc, _⟩
    · exact .inl ⟨rfl, rfl⟩
    · by_cases e : n = c
      · subst e; exact .inr (.inl ⟨g, rfl⟩)
      · exact .inr (.inr ⟨g, c, rfl, by omega⟩)
  clear hown hv hnl h1v
  rcases hforms with ⟨rfl, rfl⟩ | ⟨g, rfl⟩ | ⟨g, c, rfl, hlt⟩
  all_goals
    go_enter Try.func55, Try.ntmps55
    go_wp2_with (at_builtin; refine wpList_out2 rfl _ _ 52 51 rfl 50 (.agg #[.string ⟨#[]⟩, .string ⟨#[]⟩, .bool false]) 3 40 Try.underlying52 Try.underlying51 info_wr rfl (by decide) _ _ _ rfl HO.out ⟨vb, 0, none⟩ 1 1 news rfl (by rw [HL.out]) (fun j u hj => by rw [Addr.add_lit, Nat.zero_add, HV.out.cell]; exact hj) H1.out (by simp only [maxLen]; omega) (by omega) (by decide) ?_; intro g2 k2 w2 ho2 hg2 hw2)
    all_goals
      have HG := Lib.hid (Chg.grown (F := fun b => Value.ownBlock _ = some b) (Chg.refl _ w) hg2.out (fun k e _ => e))
      clear hg2 hw2
      go_wp2_with fail
      go_ret
      exact ⟨_, rfl, ho2, HG⟩

set_option maxHeartbeats 2000000 in
set_option maxRecDepth 100000 in
theorem ins_room (w0 w : World) (g n c i : Nat) (xs news : List Value) (vb : Nat) (hown : Out w0 w 50 3 (.slice (some ⟨g, 0, none⟩) n c) n xs) (hi : i < n) (hc : n < c) (hn : n ≤ 1000) (hv : Cells w vb 50 news) (hnl : news.length = 3) (h1v : ∀ u ∈ news, u.oneCell' = true) (h1x : ∀ u ∈ xs, u.oneCell' = true) (hvb : vb ≠ g) :
    Calls Try.prog 55 #[.slice (some ⟨g, 0, none⟩) n c, .int .i64 i, .slice (some ⟨vb, 0, none⟩) 1 1] w fun e w' => ∃ v', e = .returned v' ∧ Hid (Out w0 w' 50 3 v' (n + 1) (xs.take (i * 3) ++ (news ++ xs.drop (i * 3)))) ∧ Hid (Chg (· = g) w w') := by
  obtain ⟨cur, hge, hg, hcm, hcs, htk⟩ : ∃ cur : List Value, w0.heap.size ≤ g ∧ Cells w g 50 cur ∧ c ≤ maxLen ∧ cur.length = c * 3 ∧ cur.take (n * 3) = xs := by
    rcases hown.1.2 with ⟨h0, _⟩ | ⟨g', c', cur, hv, hb, hg, _, hcm, hcs, ht⟩
    · cases h0
    · injection hv with h1 _ h3
      injection h1 with h1
      injection h1 with h1 _ _
      subst h1 h3
      refine ⟨cur.toList, hb, hg, hcm, by simpa using hcs, ?_⟩
      exact ht
  have hlen := hown.len
  have HO := Lib.hid hown
  have HV := Lib.hid hv
  have HL := Lib.hid hnl
  have H1 := Lib.hid h1v
  have HX1 := Lib.hid h1x
  have HGE := Lib.hid hge
  have HCU := Lib.hid hg
  have HCS := Lib.hid hcs
  have HTK := Lib.hid htk
  have HLN := Lib.hid hlen
  have HCM := Lib.hid hcm
  have hov := fun (o lb cb : Nat) => ins_over w vb g o lb cb news cur hv hg hvb (by rw [hcs]; omega)
  have HOV := Lib.hid hov
  have hz2 : ((i : Int) == (n : Int)) = false := by simp; omega
  have hw1 : IntKind.i64.wrap ((i : Int) + 1) = (i : Int) + 1 := by rw [IntKind.wrap_i64]; omega
  have hb1 : (0 : Int) ≤ (i : Int) + 1 := by omega
  have htn : ((i : Int) + 1).toNat = i + 1 := by omega
  have hb2 : ¬ (c = i + 1) := by omega
  have hb3 : (i : Int) ≤ (n : Int) + 1 := by omega
  have hb4 : ¬ (c = i) := by omega
  have hb5 : i ≤ n := by omega
  clear hown hv hnl h1v hge hg hcs htk hcm hlen hov h1x
  go_enter Try.func55, Try.ntmps55
  go_wp2_with fail
  simp only [HOV.out]
  have HD := Lib.hid (drop_at (i := i * 3) HCU.out HTK.out)
  have HNL : Hid ((xs.drop (i * 3)).length = (n - i) * 3) := Lib.hid (by rw [List.length_drop, HLN.out, Nat.sub_mul])
  have HFIT : Hid ((i + 1) * 3 + (xs.drop (i * 3)).length ≤ cur.length) := Lib.hid (by rw [HNL.out, HCS.out, ← Nat.add_mul]; exact Nat.mul_le_mul_right _ (by omega))
  go_wp2_with fail
  go_region_law (refine step_copyN rfl _ _ 52 52 rfl 50 Try.underlying52 3 ins_size ⟨g, (i + 1) * 3, none⟩ ⟨g, i * 3, none⟩ _ _ _ _ (by simp [Act.eval, Act.put]; exact ⟨rfl, rfl⟩) (by simp [Act.eval, Act.put]; exact ⟨rfl, rfl⟩) g ((i + 1) * 3) g (i * 3) rfl rfl cur 50 HCU.out (n - i) (by simp only [Nat.min_def]; split <;> omega) (xs.drop (i * 3)) HNL.out HD.out HFIT.out (fun u hu => HX1.out u (List.mem_of_mem_drop hu)) ?_; intro w2 HC2 HG2)
  have HGA : Hid (Chg (· = g) w w2) := Lib.hid (((Chg.refl (· = g) w).drew).trans HG2.out (fun _ _ h => h))
  clear HG2
  have HV2 := Lib.hid (HV.out.kept HGA.out hvb)
  have HSL : Hid ((splice cur ((i + 1) * 3) (xs.drop (i * 3))).length = cur.length) := Lib.hid (length_splice _ _ _ HFIT.out)
  have HFI2 : Hid (i * 3 + news.length ≤ (splice cur ((i + 1) * 3) (xs.drop (i * 3))).length) := Lib.hid (by rw [HSL.out, HCS.out, HL.out]; omega)
  go_wp2_with (refine wpList_copyN rfl _ _ 52 51 rfl 50 Try.underlying52 3 ins_size ⟨g, i * 3, none⟩ ⟨vb, 0, none⟩ _ _ _ _ rfl rfl g (i * 3) vb 0 rfl rfl _ 50 HC2.out 1 (by simp only [Nat.min_def]; split <;> omega) news (by rw [HL.out]) (fun j u hj => by rw [Nat.zero_add, HV2.out.cell]; exact hj) HFI2.out H1.out ?_; intro w3 HC3 HG3)
  go_ret
  refine ⟨_, rfl, Lib.hid ?_, Lib.hid (HGA.out.trans HG3.out (fun _ _ h => h))⟩
  have hbl : Below w0.heap.size w0 w3 := by
    have hc : Chg (· = g) w w3 := HGA.out.trans HG3.out (fun _ _ h => h)
    have hb := HO.out.below
    exact ⟨hc.os.trans hb.os, hc.tape.trans hb.tape, hc.output.trans hb.output, Nat.le_trans hb.size hc.size, fun k hk => (hc.block k (Nat.lt_of_lt_of_le hk hb.size) (by have := HGE.out; omega)).trans (hb.block k hk)⟩
  have hxn := HLN.out
  have e1 : (i + 1) * 3 = i * 3 + 3 := by omega
  have e2 : (n + 1) * 3 = n * 3 + 3 := by omega
  have hin := splice_in cur (n * 3) 3 xs news (i * 3) HTK.out hxn HL.out (Nat.mul_le_mul_right _ (Nat.le_of_lt hi)) (by rw [HCS.out]; omega)
  rw [← e1, ← e2] at hin
  refine ⟨⟨?_, .inr ⟨g, c, (splice (splice cur ((i + 1) * 3) (xs.drop (i * 3))) (i * 3) news).toArray, rfl, HGE.out, HC3.out, by omega, HCM.out, ?_, ?_⟩⟩, hbl⟩
  · simp only [List.length_append, List.length_take, List.length_drop, hxn, HL.out]
    omega
  · rw [List.size_toArray, length_splice _ _ _ HFI2.out, HSL.out, HCS.out]
  · exact hin

set_option maxHeartbeats 2000000 in
set_option maxRecDepth 100000 in
theorem ins_grow (w0 w : World) (g n i : Nat) (xs news : List Value) (vb : Nat) (hown : Out w0 w 50 3 (.slice (some ⟨g, 0, none⟩) n n) n xs) (hi : i < n) (hn : n ≤ 1000) (hv : Cells w vb 50 news) (hnl : news.length = 3) (h1v : ∀ u ∈ news, u.oneCell' = true) (h1x : ∀ u ∈ xs, u.oneCell' = true) :
    Calls Try.prog 55 #[.slice (some ⟨g, 0, none⟩) n n, .int .i64 i, .slice (some ⟨vb, 0, none⟩) 1 1] w fun e w' => ∃ v', e = .returned v' ∧ Hid (Out w0 w' 50 3 v' (n + 1) (xs.take (i * 3) ++ (news ++ xs.drop (i * 3)))) ∧ Hid (Below w.heap.size w w') := by
  have hcx : Cells w g 50 xs := by
    rcases hown.1.2 with ⟨h0, _⟩ | ⟨g', c', cur, hv, hb, hg, _, hcm, hcs, ht⟩
    · cases h0
    · injection hv with h1 _ h3
      injection h1 with h1
      injection h1 with h1 _ _
      subst h1 h3
      have hl := hown.len
      unfold Cells
      rw [hg, ← ht]
      congr 2
      apply Array.ext'
      exact (List.take_of_length_le (by simp [hcs])).symm
  have hlen := hown.len
  have HO := Lib.hid hown
  have HV := Lib.hid hv
  have HL := Lib.hid hnl
  have H1 := Lib.hid h1v
  have HX1 := Lib.hid h1x
  have HCX := Lib.hid hcx
  have HLN := Lib.hid hlen
  have HGL := Lib.hid hcx.lt
  have HVL := Lib.hid hv.lt
  have hz2 : ((i : Int) == (n : Int)) = false := by simp; omega
  have hz3 : (n : Int) < (n : Int) + 1 := by omega
  have hw1 : IntKind.i64.wrap ((i : Int) + 1) = (i : Int) + 1 := by rw [IntKind.wrap_i64]; omega
  have hb1 : (0 : Int) ≤ (i : Int) + 1 := by omega
  have htn : ((i : Int) + 1).toNat = i + 1 := by omega
  have hb2 : ¬ (n = i) := by omega
  have hb3 : (i : Int) ≤ (n : Int) + 1 := by omega
  have hb5 : i ≤ n := by omega
  have HNL : Hid ((xs.drop (i * 3)).length = (n - i) * 3) := Lib.hid (by rw [List.length_drop, hlen, Nat.sub_mul])
  clear hown hv hnl h1v hlen h1x hcx
  go_enter Try.func55, Try.ntmps55
  go_wp2_with (first | (at_builtin; refine wpList_zerosN rfl _ _ 52 3 rfl 50 (.agg #[.string ⟨#[]⟩, .string ⟨#[]⟩, .bool false]) 3 40 .i64 Try.underlying52 Try.underlying3 info_wr rfl (by decide) _ i n (n + 1 - i) rfl _ _ rfl (by omega) g rfl xs 50 HCX.out (by rw [HLN.out]; exact Nat.mul_le_mul_right _ hb5) (by omega) (by omega) (by omega) (by simp only [maxLen]; omega) ?_; intro G zs w2 HC2 HZ2 HG2 HB2; rw [show i + (n + 1 - i) = n + 1 from by omega] at HG2 ⊢; have hGi : ¬ (G = i) := (by have := HG2.out; omega); have hGi2 : ¬ (G = i + 1) := (by have := HG2.out; omega); have HV2 := Lib.hid (HV.out.kept (Chg.of_below (F := fun _ => False) HB2.out) (fun f => f)); have HX2 := Lib.hid (HCX.out.kept (Chg.of_below (F := fun _ => False) HB2.out) (fun f => f)); have HTL : Hid ((xs.take (i * 3)).length = i * 3) := Lib.hid ((List.length_take).trans (Nat.min_eq_left (by rw [HLN.out]; exact Nat.mul_le_mul_right _ hb5))); have HRL : Hid ((xs.take (i * 3) ++ zs).length = G * 3) := Lib.hid (cat_len HTL.out HZ2.out (by have := HG2.out; omega)); have HFI1 : Hid (i * 3 + news.length ≤ (xs.take (i * 3) ++ zs).length) := Lib.hid (by have e1 := HRL.out; have e2 := HL.out; have e3 := HG2.out; rw [e1, e2]; omega)) | (refine wpList_copyN rfl _ _ 52 51 rfl 50 Try.underlying52 3 ins_size ⟨w.heap.size, i * 3, none⟩ ⟨vb, 0, none⟩ _ _ _ _ rfl rfl w.heap.size (i * 3) vb 0 rfl rfl _ 50 HC2.out 1 (by simp only [Nat.min_def]; split <;> omega) news (by rw [HL.out]) (fun j u hj => by rw [Nat.zero_add, HV2.out.cell]; exact hj) HFI1.out H1.out ?_; intro w3 HC3 HG3))
  have HSL : Hid ((splice (xs.take (i * 3) ++ zs) (i * 3) news).length = G * 3) := Lib.hid ((length_splice _ _ _ HFI1.out).trans HRL.out)
  have HX3 := Lib.hid (HX2.out.kept HG3.out (by have := HGL.out; omega))
  have HD := Lib.hid (drop_at (i := i * 3) HX3.out (List.take_of_length_le (Nat.le_refl _)))
  have HFI2 : Hid ((i + 1) * 3 + (xs.drop (i * 3)).length ≤ (splice (xs.take (i * 3) ++ zs) (i * 3) news).length) := Lib.hid (by rw [HNL.out, HSL.out, ← Nat.add_mul]; exact Nat.mul_le_mul_right _ (by have := HG2.out; omega))
  go_region_law (refine step_copyN rfl _ _ 52 52 rfl 50 Try.underlying52 3 ins_size ⟨w.heap.size, (i + 1) * 3, none⟩ ⟨g, i * 3, none⟩ _ _ _ _ (by simp [Act.eval, Act.put]; exact ⟨rfl, rfl⟩) (by simp [Act.eval, Act.put]; exact ⟨rfl, rfl⟩) w.heap.size ((i + 1) * 3) g (i * 3) rfl rfl _ 50 HC3.out (n - i) (by simp only [Nat.min_def]; split <;> omega) (xs.drop (i * 3)) HNL.out HD.out HFI2.out (fun u hu => HX1.out u (List.mem_of_mem_drop hu)) ?_; intro w4 HC4 HG4)
  have HBL : Hid (Below w.heap.size w w4) := by
    have hc : Chg (· = w.heap.size) w2 w4 := HG3.out.trans (((Chg.refl (· = w.heap.size) w3).drew).trans HG4.out (fun _ _ h => h)) (fun _ _ h => h)
    have hb := HB2.out
    exact Lib.hid ⟨hc.os.trans hb.os, hc.tape.trans hb.tape, hc.output.trans hb.output, Nat.le_trans hb.size hc.size, fun k hk => (hc.block k (Nat.lt_of_lt_of_le hk hb.size) (by omega)).trans (hb.block k hk)⟩
  go_wp2_with fail
  go_ret
  refine ⟨_, rfl, Lib.hid ?_, HBL⟩
  have hxn := HLN.out
  have e1 : (i + 1) * 3 = i * 3 + 3 := by omega
  have e2 : (n + 1) * 3 = n * 3 + 3 := by omega
  have hin := splice_grown (n * 3) 3 xs news zs (i * 3) hxn HL.out (Nat.mul_le_mul_right _ (Nat.le_of_lt hi))
  rw [← e1, ← e2] at hin
  refine ⟨⟨?_, .inr ⟨w.heap.size, G, (splice (splice (xs.take (i * 3) ++ zs) (i * 3) news) ((i + 1) * 3) (xs.drop (i * 3))).toArray, rfl, HO.out.below.size, HC4.out, HG2.out.1, HG2.out.2, ?_, ?_⟩⟩, HO.out.below.trans (HBL.out.mono HO.out.below.size)⟩
  · simp only [List.length_append, List.length_take, List.length_drop, hxn, HL.out]
    omega
  · rw [List.size_toArray, length_splice _ _ _ HFI2.out, HSL.out]
  · exact hin

/-- One put in at its place, wherever there is room. -/
theorem ins_any (w0 w : World) (v : Value) (n i : Nat) (xs news : List Value) (vb : Nat) (hown : Out w0 w 50 3 v n xs) (hi : i ≤ n) (hn : n ≤ 1000) (hv : Cells w vb 50 news) (hnl : news.length = 3) (h1v : ∀ u ∈ news, u.oneCell' = true) (h1x : ∀ u ∈ xs, u.oneCell' = true) (hvb : v.ownBlock ≠ some vb) :
    Calls Try.prog 55 #[v, .int .i64 i, .slice (some ⟨vb, 0, none⟩) 1 1] w fun e w' => ∃ v', e = .returned v' ∧ Hid (Out w0 w' 50 3 v' (n + 1) (xs.take (i * 3) ++ (news ++ xs.drop (i * 3)))) := by
  have hlen := hown.len
  by_cases e : i = n
  · subst e
    refine Calls.mono (ins_end w0 w v i xs news vb hown hn hv hnl h1v) ?_
    rintro e w' ⟨v', rfl, HO, _⟩
    refine ⟨v', rfl, ?_⟩
    rw [List.take_of_length_le (by omega), List.drop_of_length_le (by omega), List.append_nil]
    exact HO
  · rcases hown.form with ⟨_, h0⟩ | ⟨g, c, rfl⟩
    · omega
    · have hnc : n ≤ c := by
        rcases hown.1.2 with ⟨h0, _⟩ | ⟨g', c', cur, hv', _, _, hnc, _⟩
        · cases h0
        · injection hv' with _ _ h3
          omega
      by_cases ec : n = c
      · subst ec
        exact Calls.mono (ins_grow w0 w g n i xs news vb hown (by omega) hn hv hnl h1v h1x) (fun e w' ⟨v', h1, h2, _⟩ => ⟨v', h1, h2⟩)
      · exact Calls.mono (ins_room w0 w g n c i xs news vb hown (by omega) (by omega) hn hv hnl h1v h1x (fun e => hvb (by rw [e]; rfl))) (fun e w' ⟨v', h1, h2, _⟩ => ⟨v', h1, h2⟩)
end Go.Proofs.Ytfbldpppjnnblaa.Ins
