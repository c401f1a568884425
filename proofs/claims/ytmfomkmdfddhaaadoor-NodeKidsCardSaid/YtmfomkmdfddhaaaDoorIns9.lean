/- slices.Insert, slices.Delete, slices.Clone at a node's lists. -/
import Derived.Test.YtmfomkmdfddhaaaDoorOpen9
import Derived.Test.YtmfomkmdfddhaaaDoorCopy
import Derived.Deep.RegionLaw
namespace Go.Proofs.YtmfomkmdfddhaaaDoor.Ins9
set_option maxRecDepth 100000
open Go.RowKit Go.Joins Go.Lib Go.Proofs.YtmfomkmdfddhaaaDoor.Mem Go.Proofs.YtmfomkmdfddhaaaDoor.Read Go.Proofs.YtmfomkmdfddhaaaDoor.Out Go.Proofs.YtmfomkmdfddhaaaDoor.Copy Go.Proofs.YtmfomkmdfddhaaaDoor.Nib Go.Proofs.YtmfomkmdfddhaaaDoor.Node Go.Proofs.YtmfomkmdfddhaaaDoor.Slc Go.Proofs.YtmfomkmdfddhaaaDoor.Open9

theorem ins8_size : (Tryd.prog.info? 5).map (·.size) = some 1 := by kernel_rfl
theorem ins8_sizeOf (w : World) : (sizeOf 5).run Tryd.prog w = .ok 1 w := by kernel_rfl
theorem ins8_over (w : World) (vb g o lb cb : Nat) (news cur : List Value) (hv : Cells w vb 5 news) (hg : Cells w g 5 cur) (hne : vb ≠ g) (hc : cur.length ≠ 0) :
    (callFunc 44 #[.slice (some ⟨vb, 0, none⟩) 1 1, .slice (some ⟨g, o, none⟩) lb cb]).run Tryd.prog w = .ok (.value (.bool false)) w := by
  have hsa : w.shape? vb = some (5, news.length) := by unfold Cells at hv; simp [World.shape?, hv]
  have hsb : w.shape? g = some (5, cur.length) := by unfold Cells at hg; simp [World.shape?, hg]
  rw [run_callFunc_extern Tryd.func44 (by kernel_rfl) (by kernel_rfl) (by kernel_rfl) (e := Extern.SlicesOverlaps.overlaps #[22, 22] #[4]) (by kernel_rfl),
    Lib.run_overlaps_apart w 22 4 5 Tryd.underlying22 1 ins8_sizeOf ⟨vb, 0, none⟩ ⟨g, o, none⟩ 1 1 lb cb hne 5 5 news.length cur.length hsa hsb hc (hv.frozen 0) (hv.frozen _)]
  rfl

set_option maxHeartbeats 1000000 in
set_option maxRecDepth 100000 in
theorem ins8_end (w0 w : World) (v : Value) (n : Nat) (xs news : List Value) (vb : Nat) (hown : Out w0 w 5 1 v n xs) (hn : n ≤ 1000) (hv : Cells w vb 5 news) (hnl : news.length = 1) (h1v : ∀ u ∈ news, u.oneCell' = true) :
    Calls Tryd.prog 34 #[v, .int .i64 n, .slice (some ⟨vb, 0, none⟩) 1 1] w fun e w' => ∃ v', e = .returned v' ∧ Hid (Out w0 w' 5 1 v' (n + 1) (xs ++ news)) ∧ Hid (Chg (fun b => v.ownBlock = some b) w w') := by
  have HO := Lib.hid hown
  have HV := Lib.hid hv
  have HL := Lib.hid hnl
  have H1 := Lib.hid h1v
  have hforms : (v = .slice none 0 0 ∧ n = 0) ∨ (∃ g, v = .slice (some ⟨g, 0, none⟩) n n) ∨ ∃ g c, v = .slice (some ⟨g, 0, none⟩) n c ∧ n < c := by
    rcases hown.1.2 with ⟨rfl, rfl⟩ | ⟨g, c, cur, rfl, _, _, hnc, _⟩
    · exact .inl ⟨rfl, rfl⟩
    · by_cases e : n = c
      · subst e; exact .inr (.inl ⟨g, rfl⟩)
      · exact .inr (.inr ⟨g, c, rfl, by omega⟩)
  clear hown hv hnl h1v
  rcases hforms with ⟨rfl, rfl⟩ | ⟨g, rfl⟩ | ⟨g, c, rfl, hlt⟩
  all_goals
    go_enter Tryd.func34, Tryd.ntmps34
    go_wp2_with (at_builtin; refine wpList_out2 rfl _ _ 22 22 rfl 5 (.int .u8 0) 1 1 Tryd.underlying22 Tryd.underlying22 info_u8 rfl (by decide) _ _ _ rfl HO.out ⟨vb, 0, none⟩ 1 1 news rfl (by rw [HL.out]) (fun j u hj => by rw [Addr.add_lit, Nat.zero_add, HV.out.cell]; exact hj) H1.out (by simp only [maxLen]; omega) (by omega) (by decide) ?_; intro g2 k2 w2 ho2 hg2 hw2)
    all_goals
      have HG := Lib.hid (Chg.grown (F := fun b => Value.ownBlock _ = some b) (Chg.refl _ w) hg2.out (fun k e _ => e))
      clear hg2 hw2
      go_wp2_with fail
      go_ret
      exact ⟨_, rfl, ho2, HG⟩

set_option maxHeartbeats 2000000 in
set_option maxRecDepth 100000 in
theorem ins8_room (w0 w : World) (g n c i : Nat) (xs news : List Value) (vb : Nat) (hown : Out w0 w 5 1 (.slice (some ⟨g, 0, none⟩) n c) n xs) (hi : i < n) (hc : n < c) (hn : n ≤ 1000) (hv : Cells w vb 5 news) (hnl : news.length = 1) (h1v : ∀ u ∈ news, u.oneCell' = true) (h1x : ∀ u ∈ xs, u.oneCell' = true) (hvb : vb ≠ g) :
    Calls Tryd.prog 34 #[.slice (some ⟨g, 0, none⟩) n c, .int .i64 i, .slice (some ⟨vb, 0, none⟩) 1 1] w fun e w' => ∃ v', e = .returned v' ∧ Hid (Out w0 w' 5 1 v' (n + 1) (xs.take (i) ++ (news ++ xs.drop (i)))) ∧ Hid (Chg (· = g) w w') := by
  obtain ⟨cur, hge, hg, hcm, hcs, htk⟩ : ∃ cur : List Value, w0.heap.size ≤ g ∧ Cells w g 5 cur ∧ c ≤ maxLen ∧ cur.length = c ∧ cur.take (n) = xs := by
    rcases hown.1.2 with ⟨h0, _⟩ | ⟨g', c', cur, hv, hb, hg, _, hcm, hcs, ht⟩
    · cases h0
    · injection hv with h1 _ h3
      injection h1 with h1
      injection h1 with h1 _ _
      subst h1 h3
      refine ⟨cur.toList, hb, hg, hcm, by simpa using hcs, ?_⟩
      simpa using ht
  have hlen : xs.length = n := by simpa using hown.len
  have HO := Lib.hid hown
  have HV := Lib.hid hv
  have HL := Lib.hid hnl
  have H1 := Lib.hid h1v
  have HX1 := Lib.hid h1x
  have HGE := Lib.hid hge
  have HCU := Lib.hid hg
  have HCS := Lib.hid hcs
  have HTK := Lib.hid htk
  have HLN := Lib.hid hlen
  have HCM := Lib.hid hcm
  have hov := fun (o lb cb : Nat) => ins8_over w vb g o lb cb news cur hv hg hvb (by rw [hcs]; omega)
  have HOV := Lib.hid hov
  have hz2 : ((i : Int) == (n : Int)) = false := by simp; omega
  have hw1 : IntKind.i64.wrap ((i : Int) + 1) = (i : Int) + 1 := by rw [IntKind.wrap_i64]; omega
  have hb1 : (0 : Int) ≤ (i : Int) + 1 := by omega
  have htn : ((i : Int) + 1).toNat = i + 1 := by omega
  have hb2 : ¬ (c = i + 1) := by omega
  have hb3 : (i : Int) ≤ (n : Int) + 1 := by omega
  have hb4 : ¬ (c = i) := by omega
  have hb5 : i ≤ n := by omega
  clear hown hv hnl h1v hge hg hcs htk hcm hlen hov h1x
  go_enter Tryd.func34, Tryd.ntmps34
  go_wp2_with fail
  simp only [HOV.out]
  have HD := Lib.hid (drop_at (i := i) HCU.out HTK.out)
  have HNL : Hid ((xs.drop (i)).length = (n - i)) := Lib.hid (by rw [List.length_drop, HLN.out])
  have HFIT : Hid ((i + 1) + (xs.drop (i)).length ≤ cur.length) := Lib.hid (by rw [HNL.out, HCS.out]; omega)
  go_wp2_with fail
  go_region_law (refine step_copyN rfl _ _ 22 22 rfl 5 Tryd.underlying22 1 ins8_size ⟨g, (i + 1), none⟩ ⟨g, i, none⟩ _ _ _ _ (by simp [Act.eval, Act.put]; exact ⟨rfl, rfl⟩) (by simp [Act.eval, Act.put]; exact ⟨rfl, rfl⟩) g ((i + 1)) g (i) rfl rfl cur 5 HCU.out (n - i) (by simp only [Nat.min_def]; split <;> omega) (xs.drop (i)) (by rw [HNL.out, Nat.mul_one]) HD.out HFIT.out (fun u hu => HX1.out u (List.mem_of_mem_drop hu)) ?_; intro w2 HC2 HG2)
  have HGA : Hid (Chg (· = g) w w2) := Lib.hid (((Chg.refl (· = g) w).drew).trans HG2.out (fun _ _ h => h))
  clear HG2
  have HV2 := Lib.hid (HV.out.kept HGA.out hvb)
  have HSL : Hid ((splice cur ((i + 1)) (xs.drop (i))).length = cur.length) := Lib.hid (length_splice _ _ _ HFIT.out)
  have HFI2 : Hid (i + news.length ≤ (splice cur ((i + 1)) (xs.drop (i))).length) := Lib.hid (by rw [HSL.out, HCS.out, HL.out]; omega)
  go_wp2_with (refine wpList_copyN rfl _ _ 22 22 rfl 5 Tryd.underlying22 1 ins8_size ⟨g, i, none⟩ ⟨vb, 0, none⟩ _ _ _ _ rfl rfl g (i) vb 0 rfl rfl _ 5 HC2.out 1 (by simp only [Nat.min_def]; split <;> omega) news (by rw [HL.out]) (fun j u hj => by rw [Nat.zero_add, HV2.out.cell]; exact hj) HFI2.out H1.out ?_; intro w3 HC3 HG3)
  go_ret
  refine ⟨_, rfl, Lib.hid ?_, Lib.hid (HGA.out.trans HG3.out (fun _ _ h => h))⟩
  have hbl : Below w0.heap.size w0 w3 := by
    have hc : Chg (· = g) w w3 := HGA.out.trans HG3.out (fun _ _ h => h)
    have hb := HO.out.below
    exact ⟨hc.os.trans hb.os, hc.tape.trans hb.tape, hc.output.trans hb.output, Nat.le_trans hb.size hc.size, fun k hk => (hc.block k (Nat.lt_of_lt_of_le hk hb.size) (by have := HGE.out; omega)).trans (hb.block k hk)⟩
  have hxn := HLN.out
  have e1 : (i + 1) = i + 1 := by omega
  have e2 : (n + 1) = n + 1 := by omega
  have hin := splice_in cur (n) 1 xs news (i) HTK.out hxn HL.out (Nat.le_of_lt hi) (by rw [HCS.out]; omega)
  rw [← e1, ← e2] at hin
  refine ⟨⟨?_, .inr ⟨g, c, (splice (splice cur ((i + 1)) (xs.drop (i))) (i) news).toArray, rfl, HGE.out, HC3.out, by omega, HCM.out, ?_, ?_⟩⟩, hbl⟩
  · simp only [List.length_append, List.length_take, List.length_drop, hxn, HL.out]
    omega
  · rw [List.size_toArray, length_splice _ _ _ HFI2.out, HSL.out, HCS.out, Nat.mul_one]
  · rw [Nat.mul_one]; exact hin

set_option maxHeartbeats 2000000 in
set_option maxRecDepth 100000 in
theorem ins8_grow (w0 w : World) (g n i : Nat) (xs news : List Value) (vb : Nat) (hown : Out w0 w 5 1 (.slice (some ⟨g, 0, none⟩) n n) n xs) (hi : i < n) (hn : n ≤ 1000) (hv : Cells w vb 5 news) (hnl : news.length = 1) (h1v : ∀ u ∈ news, u.oneCell' = true) (h1x : ∀ u ∈ xs, u.oneCell' = true) :
    Calls Tryd.prog 34 #[.slice (some ⟨g, 0, none⟩) n n, .int .i64 i, .slice (some ⟨vb, 0, none⟩) 1 1] w fun e w' => ∃ v', e = .returned v' ∧ Hid (Out w0 w' 5 1 v' (n + 1) (xs.take (i) ++ (news ++ xs.drop (i)))) ∧ Hid (Below w.heap.size w w') := by
  have hcx : Cells w g 5 xs := by
    rcases hown.1.2 with ⟨h0, _⟩ | ⟨g', c', cur, hv, hb, hg, _, hcm, hcs, ht⟩
    · cases h0
    · injection hv with h1 _ h3
      injection h1 with h1
      injection h1 with h1 _ _
      subst h1 h3
      have hl : xs.length = n := by simpa using hown.len
      unfold Cells
      rw [hg, ← ht]
      congr 2
      apply Array.ext'
      exact (List.take_of_length_le (by simp [hcs])).symm
  have hlen : xs.length = n := by simpa using hown.len
  have HO := Lib.hid hown
  have HV := Lib.hid hv
  have HL := Lib.hid hnl
  have H1 := Lib.hid h1v
  have HX1 := Lib.hid h1x
  have HCX := Lib.hid hcx
  have HLN := Lib.hid hlen
  have HGL := Lib.hid hcx.lt
  have HVL := Lib.hid hv.lt
  have hz2 : ((i : Int) == (n : Int)) = false := by simp; omega
  have hz3 : (n : Int) < (n : Int) + 1 := by omega
  have hw1 : IntKind.i64.wrap ((i : Int) + 1) = (i : Int) + 1 := by rw [IntKind.wrap_i64]; omega
  have hb1 : (0 : Int) ≤ (i : Int) + 1 := by omega
  have htn : ((i : Int) + 1).toNat = i + 1 := by omega
  have hb2 : ¬ (n = i) := by omega
  have hb3 : (i : Int) ≤ (n : Int) + 1 := by omega
  have hb5 : i ≤ n := by omega
  have HNL : Hid ((xs.drop (i)).length = (n - i)) := Lib.hid (by rw [List.length_drop, hlen])
  clear hown hv hnl h1v hlen h1x hcx
  go_enter Tryd.func34, Tryd.ntmps34
  go_wp2_with (first | (at_builtin; refine wpList_zerosN rfl _ _ 22 3 rfl 5 (.int .u8 0) 1 1 .i64 Tryd.underlying22 Tryd.underlying3 info_u8 rfl (by decide) _ i n (n + 1 - i) rfl _ _ rfl (by omega) g rfl xs 5 HCX.out (by rw [HLN.out]; omega) (by omega) (by omega) (by omega) (by simp only [maxLen]; omega) ?_; intro G zs w2 HC2 HZ2 HG2 HB2; simp only [Nat.mul_one] at HC2 HZ2; rw [show i + (n + 1 - i) = n + 1 from by omega] at HG2 ⊢; have hGi : ¬ (G = i) := (by have := HG2.out; omega); have hGi2 : ¬ (G = i + 1) := (by have := HG2.out; omega); have HV2 := Lib.hid (HV.out.kept (Chg.of_below (F := fun _ => False) HB2.out) (fun f => f)); have HX2 := Lib.hid (HCX.out.kept (Chg.of_below (F := fun _ => False) HB2.out) (fun f => f)); have HTL : Hid ((xs.take (i)).length = i) := Lib.hid ((List.length_take).trans (Nat.min_eq_left (by rw [HLN.out]; omega))); have HRL : Hid ((xs.take (i) ++ zs).length = G) := Lib.hid (by rw [List.length_append, HTL.out, HZ2.out]; have := HG2.out; omega); have HFI1 : Hid (i + news.length ≤ (xs.take (i) ++ zs).length) := Lib.hid (by have e1 := HRL.out; have e2 := HL.out; have e3 := HG2.out; rw [e1, e2]; omega)) | (refine wpList_copyN rfl _ _ 22 22 rfl 5 Tryd.underlying22 1 ins8_size ⟨w.heap.size, i, none⟩ ⟨vb, 0, none⟩ _ _ _ _ rfl rfl w.heap.size (i) vb 0 rfl rfl _ 5 HC2.out 1 (by simp only [Nat.min_def]; split <;> omega) news (by rw [HL.out]) (fun j u hj => by rw [Nat.zero_add, HV2.out.cell]; exact hj) HFI1.out H1.out ?_; intro w3 HC3 HG3))
  have HSL : Hid ((splice (xs.take (i) ++ zs) (i) news).length = G) := Lib.hid ((length_splice _ _ _ HFI1.out).trans HRL.out)
  have HX3 := Lib.hid (HX2.out.kept HG3.out (by have := HGL.out; omega))
  have HD := Lib.hid (drop_at (i := i) HX3.out (List.take_of_length_le (Nat.le_refl _)))
  have HFI2 : Hid ((i + 1) + (xs.drop (i)).length ≤ (splice (xs.take (i) ++ zs) (i) news).length) := Lib.hid (by rw [HNL.out, HSL.out]; have := HG2.out; omega)
  go_region_law (refine step_copyN rfl _ _ 22 22 rfl 5 Tryd.underlying22 1 ins8_size ⟨w.heap.size, (i + 1), none⟩ ⟨g, i, none⟩ _ _ _ _ (by simp [Act.eval, Act.put]; exact ⟨rfl, rfl⟩) (by simp [Act.eval, Act.put]; exact ⟨rfl, rfl⟩) w.heap.size ((i + 1)) g (i) rfl rfl _ 5 HC3.out (n - i) (by simp only [Nat.min_def]; split <;> omega) (xs.drop (i)) (by rw [HNL.out, Nat.mul_one]) HD.out HFI2.out (fun u hu => HX1.out u (List.mem_of_mem_drop hu)) ?_; intro w4 HC4 HG4)
  have HBL : Hid (Below w.heap.size w w4) := by
    have hc : Chg (· = w.heap.size) w2 w4 := HG3.out.trans (((Chg.refl (· = w.heap.size) w3).drew).trans HG4.out (fun _ _ h => h)) (fun _ _ h => h)
    have hb := HB2.out
    exact Lib.hid ⟨hc.os.trans hb.os, hc.tape.trans hb.tape, hc.output.trans hb.output, Nat.le_trans hb.size hc.size, fun k hk => (hc.block k (Nat.lt_of_lt_of_le hk hb.size) (by omega)).trans (hb.block k hk)⟩
  go_wp2_with fail
  go_ret
  refine ⟨_, rfl, Lib.hid ?_, HBL⟩
  have hxn := HLN.out
  have e1 : (i + 1) = i + 1 := by omega
  have e2 : (n + 1) = n + 1 := by omega
  have hin := splice_grown (n) 1 xs news zs (i) hxn HL.out (Nat.le_of_lt hi)
  rw [← e1, ← e2] at hin
  refine ⟨⟨?_, .inr ⟨w.heap.size, G, (splice (splice (xs.take (i) ++ zs) (i) news) ((i + 1)) (xs.drop (i))).toArray, rfl, HO.out.below.size, HC4.out, HG2.out.1, HG2.out.2, ?_, ?_⟩⟩, HO.out.below.trans (HBL.out.mono HO.out.below.size)⟩
  · simp only [List.length_append, List.length_take, List.length_drop, hxn, HL.out]
    omega
  · rw [List.size_toArray, length_splice _ _ _ HFI2.out, HSL.out, Nat.mul_one]
  · rw [Nat.mul_one]; exact hin

/-- One put in at its place, wherever there is room. -/
theorem ins8_chg (w0 w : World) (v : Value) (n i : Nat) (xs news : List Value) (vb : Nat) (hown : Out w0 w 5 1 v n xs) (hi : i ≤ n) (hn : n ≤ 1000) (hv : Cells w vb 5 news) (hnl : news.length = 1) (h1v : ∀ u ∈ news, u.oneCell' = true) (h1x : ∀ u ∈ xs, u.oneCell' = true) (hvb : v.ownBlock ≠ some vb) :
    Calls Tryd.prog 34 #[v, .int .i64 i, .slice (some ⟨vb, 0, none⟩) 1 1] w fun e w' => ∃ v', e = .returned v' ∧ Hid (Out w0 w' 5 1 v' (n + 1) (xs.take (i) ++ (news ++ xs.drop (i)))) ∧ Hid (Chg (fun b => v.ownBlock = some b) w w') := by
  have hlen : xs.length = n := by simpa using hown.len
  by_cases e : i = n
  · subst e
    refine Calls.mono (ins8_end w0 w v i xs news vb hown hn hv hnl h1v) ?_
    rintro e w' ⟨v', rfl, HO, HG⟩
    refine ⟨v', rfl, ?_, HG⟩
    rw [List.take_of_length_le (by omega), List.drop_of_length_le (by omega), List.append_nil]
    exact HO
  · rcases hown.form with ⟨_, h0⟩ | ⟨g, c, rfl⟩
    · omega
    · have hnc : n ≤ c := by
        rcases hown.1.2 with ⟨h0, _⟩ | ⟨g', c', cur, hv', _, _, hnc, _⟩
        · cases h0
        · injection hv' with _ _ h3
          omega
      by_cases ec : n = c
      · subst ec
        exact Calls.mono (ins8_grow w0 w g n i xs news vb hown (by omega) hn hv hnl h1v h1x) (fun e w' ⟨v', h1, h2, h3⟩ => ⟨v', h1, h2, Lib.hid (Chg.of_below h3.out)⟩)
      · exact Calls.mono (ins8_room w0 w g n c i xs news vb hown (by omega) (by omega) hn hv hnl h1v h1x (fun e => hvb (by rw [e]; rfl))) (fun e w' ⟨v', h1, h2, h3⟩ => ⟨v', h1, h2, Lib.hid (h3.out.mono (fun b _ e => by show _ = some b; rw [e]; rfl))⟩)

theorem ins8_any (w0 w : World) (v : Value) (n i : Nat) (xs news : List Value) (vb : Nat) (hown : Out w0 w 5 1 v n xs) (hi : i ≤ n) (hn : n ≤ 1000) (hv : Cells w vb 5 news) (hnl : news.length = 1) (h1v : ∀ u ∈ news, u.oneCell' = true) (h1x : ∀ u ∈ xs, u.oneCell' = true) (hvb : v.ownBlock ≠ some vb) :
    Calls Tryd.prog 34 #[v, .int .i64 i, .slice (some ⟨vb, 0, none⟩) 1 1] w fun e w' => ∃ v', e = .returned v' ∧ Hid (Out w0 w' 5 1 v' (n + 1) (xs.take (i) ++ (news ++ xs.drop (i)))) := by
  exact (ins8_chg w0 w v n i xs news vb hown hi hn hv hnl h1v h1x hvb).mono (fun _ _ ⟨v', h1, h2, _⟩ => ⟨v', h1, h2⟩)
theorem ins64_size : (Tryd.prog.info? 23).map (·.size) = some 1 := by kernel_rfl
theorem ins64_sizeOf (w : World) : (sizeOf 23).run Tryd.prog w = .ok 1 w := by kernel_rfl
theorem ins64_over (w : World) (vb g o lb cb : Nat) (news cur : List Value) (hv : Cells w vb 23 news) (hg : Cells w g 23 cur) (hne : vb ≠ g) (hc : cur.length ≠ 0) :
    (callFunc 46 #[.slice (some ⟨vb, 0, none⟩) 1 1, .slice (some ⟨g, o, none⟩) lb cb]).run Tryd.prog w = .ok (.value (.bool false)) w := by
  have hsa : w.shape? vb = some (23, news.length) := by unfold Cells at hv; simp [World.shape?, hv]
  have hsb : w.shape? g = some (23, cur.length) := by unfold Cells at hg; simp [World.shape?, hg]
  rw [run_callFunc_extern Tryd.func46 (by kernel_rfl) (by kernel_rfl) (by kernel_rfl) (e := Extern.SlicesOverlaps.overlaps #[24, 24] #[4]) (by kernel_rfl),
    Lib.run_overlaps_apart w 24 4 23 Tryd.underlying24 1 ins64_sizeOf ⟨vb, 0, none⟩ ⟨g, o, none⟩ 1 1 lb cb hne 23 23 news.length cur.length hsa hsb hc (hv.frozen 0) (hv.frozen _)]
  rfl

set_option maxHeartbeats 1000000 in
set_option maxRecDepth 100000 in
theorem ins64_end (w0 w : World) (v : Value) (n : Nat) (xs news : List Value) (vb : Nat) (hown : Out w0 w 23 1 v n xs) (hn : n ≤ 1000) (hv : Cells w vb 23 news) (hnl : news.length = 1) (h1v : ∀ u ∈ news, u.oneCell' = true) :
    Calls Tryd.prog 35 #[v, .int .i64 n, .slice (some ⟨vb, 0, none⟩) 1 1] w fun e w' => ∃ v', e = .returned v' ∧ Hid (Out w0 w' 23 1 v' (n + 1) (xs ++ news)) ∧ Hid (Chg (fun b => v.ownBlock = some b) w w') := by
  have HO := Lib.hid hown
  have HV := Lib.hid hv
  have HL := Lib.hid hnl
  have H1 := Lib.hid h1v
  have hforms : (v = .slice none 0 0 ∧ n = 0) ∨ (∃ g, v = .slice (some ⟨g, 0, none⟩) n n) ∨ ∃ g c, v = .slice (some ⟨g, 0, none⟩) n c ∧ n < c := by
    rcases hown.1.2 with ⟨rfl, rfl⟩ | ⟨g, c, cur, rfl, _, _, hnc, _⟩
    · exact .inl ⟨rfl, rfl⟩
    · by_cases e : n = c
      · subst e; exact .inr (.inl ⟨g, rfl⟩)
      · exact .inr (.inr ⟨g, c, rfl, by omega⟩)
  clear hown hv hnl h1v
  rcases hforms with ⟨rfl, rfl⟩ | ⟨g, rfl⟩ | ⟨g, c, rfl, hlt⟩
  all_goals
    go_enter Tryd.func35, Tryd.ntmps35
    go_wp2_with (at_builtin; refine wpList_out2 rfl _ _ 24 24 rfl 23 (.int .u64 0) 1 8 Tryd.underlying24 Tryd.underlying24 info_u64 rfl (by decide) _ _ _ rfl HO.out ⟨vb, 0, none⟩ 1 1 news rfl (by rw [HL.out]) (fun j u hj => by rw [Addr.add_lit, Nat.zero_add, HV.out.cell]; exact hj) H1.out (by simp only [maxLen]; omega) (by omega) (by decide) ?_; intro g2 k2 w2 ho2 hg2 hw2)
    all_goals
      have HG := Lib.hid (Chg.grown (F := fun b => Value.ownBlock _ = some b) (Chg.refl _ w) hg2.out (fun k e _ => e))
      clear hg2 hw2
      go_wp2_with fail
      go_ret
      exact ⟨_, rfl, ho2, HG⟩

set_option maxHeartbeats 2000000 in
set_option maxRecDepth 100000 in
theorem ins64_room (w0 w : World) (g n c i : Nat) (xs news : List Value) (vb : Nat) (hown : Out w0 w 23 1 (.slice (some ⟨g, 0, none⟩) n c) n xs) (hi : i < n) (hc : n < c) (hn : n ≤ 1000) (hv : Cells w vb 23 news) (hnl : news.length = 1) (h1v : ∀ u ∈ news, u.oneCell' = true) (h1x : ∀ u ∈ xs, u.oneCell' = true) (hvb : vb ≠ g) :
    Calls Tryd.prog 35 #[.slice (some ⟨g, 0, none⟩) n c, .int .i64 i, .slice (some ⟨vb, 0, none⟩) 1 1] w fun e w' => ∃ v', e = .returned v' ∧ Hid (Out w0 w' 23 1 v' (n + 1) (xs.take (i) ++ (news ++ xs.drop (i)))) ∧ Hid (Chg (· = g) w w') := by
  obtain ⟨cur, hge, hg, hcm, hcs, htk⟩ : ∃ cur : List Value, w0.heap.size ≤ g ∧ Cells w g 23 cur ∧ c ≤ maxLen ∧ cur.length = c ∧ cur.take (n) = xs := by
    rcases hown.1.2 with ⟨h0, _⟩ | ⟨g', c', cur, hv, hb, hg, _, hcm, hcs, ht⟩
    · cases h0
    · injection hv with h1 _ h3
      injection h1 with h1
      injection h1 with h1 _ _
      subst h1 h3
      refine ⟨cur.toList, hb, hg, hcm, by simpa using hcs, ?_⟩
      simpa using ht
  have hlen : xs.length = n := by simpa using hown.len
  have HO := Lib.hid hown
  have HV := Lib.hid hv
  have HL := Lib.hid hnl
  have H1 := Lib.hid h1v
  have HX1 := Lib.hid h1x
  have HGE := Lib.hid hge
  have HCU := Lib.hid hg
  have HCS := Lib.hid hcs
  have HTK := Lib.hid htk
  have HLN := Lib.hid hlen
  have HCM := Lib.hid hcm
  have hov := fun (o lb cb : Nat) => ins64_over w vb g o lb cb news cur hv hg hvb (by rw [hcs]; omega)
  have HOV := Lib.hid hov
  have hz2 : ((i : Int) == (n : Int)) = false := by simp; omega
  have hw1 : IntKind.i64.wrap ((i : Int) + 1) = (i : Int) + 1 := by rw [IntKind.wrap_i64]; omega
  have hb1 : (0 : Int) ≤ (i : Int) + 1 := by omega
  have htn : ((i : Int) + 1).toNat = i + 1 := by omega
  have hb2 : ¬ (c = i + 1) := by omega
  have hb3 : (i : Int) ≤ (n : Int) + 1 := by omega
  have hb4 : ¬ (c = i) := by omega
  have hb5 : i ≤ n := by omega
  clear hown hv hnl h1v hge hg hcs htk hcm hlen hov h1x
  go_enter Tryd.func35, Tryd.ntmps35
  go_wp2_with fail
  simp only [HOV.out]
  have HD := Lib.hid (drop_at (i := i) HCU.out HTK.out)
  have HNL : Hid ((xs.drop (i)).length = (n - i)) := Lib.hid (by rw [List.length_drop, HLN.out])
  have HFIT : Hid ((i + 1) + (xs.drop (i)).length ≤ cur.length) := Lib.hid (by rw [HNL.out, HCS.out]; omega)
  go_wp2_with fail
  go_region_law (refine step_copyN rfl _ _ 24 24 rfl 23 Tryd.underlying24 1 ins64_size ⟨g, (i + 1), none⟩ ⟨g, i, none⟩ _ _ _ _ (by simp [Act.eval, Act.put]; exact ⟨rfl, rfl⟩) (by simp [Act.eval, Act.put]; exact ⟨rfl, rfl⟩) g ((i + 1)) g (i) rfl rfl cur 23 HCU.out (n - i) (by simp only [Nat.min_def]; split <;> omega) (xs.drop (i)) (by rw [HNL.out, Nat.mul_one]) HD.out HFIT.out (fun u hu => HX1.out u (List.mem_of_mem_drop hu)) ?_; intro w2 HC2 HG2)
  have HGA : Hid (Chg (· = g) w w2) := Lib.hid (((Chg.refl (· = g) w).drew).trans HG2.out (fun _ _ h => h))
  clear HG2
  have HV2 := Lib.hid (HV.out.kept HGA.out hvb)
  have HSL : Hid ((splice cur ((i + 1)) (xs.drop (i))).length = cur.length) := Lib.hid (length_splice _ _ _ HFIT.out)
  have HFI2 : Hid (i + news.length ≤ (splice cur ((i + 1)) (xs.drop (i))).length) := Lib.hid (by rw [HSL.out, HCS.out, HL.out]; omega)
  go_wp2_with (refine wpList_copyN rfl _ _ 24 24 rfl 23 Tryd.underlying24 1 ins64_size ⟨g, i, none⟩ ⟨vb, 0, none⟩ _ _ _ _ rfl rfl g (i) vb 0 rfl rfl _ 23 HC2.out 1 (by simp only [Nat.min_def]; split <;> omega) news (by rw [HL.out]) (fun j u hj => by rw [Nat.zero_add, HV2.out.cell]; exact hj) HFI2.out H1.out ?_; intro w3 HC3 HG3)
  go_ret
  refine ⟨_, rfl, Lib.hid ?_, Lib.hid (HGA.out.trans HG3.out (fun _ _ h => h))⟩
  have hbl : Below w0.heap.size w0 w3 := by
    have hc : Chg (· = g) w w3 := HGA.out.trans HG3.out (fun _ _ h => h)
    have hb := HO.out.below
    exact ⟨hc.os.trans hb.os, hc.tape.trans hb.tape, hc.output.trans hb.output, Nat.le_trans hb.size hc.size, fun k hk => (hc.block k (Nat.lt_of_lt_of_le hk hb.size) (by have := HGE.out; omega)).trans (hb.block k hk)⟩
  have hxn := HLN.out
  have e1 : (i + 1) = i + 1 := by omega
  have e2 : (n + 1) = n + 1 := by omega
  have hin := splice_in cur (n) 1 xs news (i) HTK.out hxn HL.out (Nat.le_of_lt hi) (by rw [HCS.out]; omega)
  rw [← e1, ← e2] at hin
  refine ⟨⟨?_, .inr ⟨g, c, (splice (splice cur ((i + 1)) (xs.drop (i))) (i) news).toArray, rfl, HGE.out, HC3.out, by omega, HCM.out, ?_, ?_⟩⟩, hbl⟩
  · simp only [List.length_append, List.length_take, List.length_drop, hxn, HL.out]
    omega
  · rw [List.size_toArray, length_splice _ _ _ HFI2.out, HSL.out, HCS.out, Nat.mul_one]
  · rw [Nat.mul_one]; exact hin

set_option maxHeartbeats 2000000 in
set_option maxRecDepth 100000 in
theorem ins64_grow (w0 w : World) (g n i : Nat) (xs news : List Value) (vb : Nat) (hown : Out w0 w 23 1 (.slice (some ⟨g, 0, none⟩) n n) n xs) (hi : i < n) (hn : n ≤ 1000) (hv : Cells w vb 23 news) (hnl : news.length = 1) (h1v : ∀ u ∈ news, u.oneCell' = true) (h1x : ∀ u ∈ xs, u.oneCell' = true) :
    Calls Tryd.prog 35 #[.slice (some ⟨g, 0, none⟩) n n, .int .i64 i, .slice (some ⟨vb, 0, none⟩) 1 1] w fun e w' => ∃ v', e = .returned v' ∧ Hid (Out w0 w' 23 1 v' (n + 1) (xs.take (i) ++ (news ++ xs.drop (i)))) ∧ Hid (Below w.heap.size w w') := by
  have hcx : Cells w g 23 xs := by
    rcases hown.1.2 with ⟨h0, _⟩ | ⟨g', c', cur, hv, hb, hg, _, hcm, hcs, ht⟩
    · cases h0
    · injection hv with h1 _ h3
      injection h1 with h1
      injection h1 with h1 _ _
      subst h1 h3
      have hl : xs.length = n := by simpa using hown.len
      unfold Cells
      rw [hg, ← ht]
      congr 2
      apply Array.ext'
      exact (List.take_of_length_le (by simp [hcs])).symm
  have hlen : xs.length = n := by simpa using hown.len
  have HO := Lib.hid hown
  have HV := Lib.hid hv
  have HL := Lib.hid hnl
  have H1 := Lib.hid h1v
  have HX1 := Lib.hid h1x
  have HCX := Lib.hid hcx
  have HLN := Lib.hid hlen
  have HGL := Lib.hid hcx.lt
  have HVL := Lib.hid hv.lt
  have hz2 : ((i : Int) == (n : Int)) = false := by simp; omega
  have hz3 : (n : Int) < (n : Int) + 1 := by omega
  have hw1 : IntKind.i64.wrap ((i : Int) + 1) = (i : Int) + 1 := by rw [IntKind.wrap_i64]; omega
  have hb1 : (0 : Int) ≤ (i : Int) + 1 := by omega
  have htn : ((i : Int) + 1).toNat = i + 1 := by omega
  have hb2 : ¬ (n = i) := by omega
  have hb3 : (i : Int) ≤ (n : Int) + 1 := by omega
  have hb5 : i ≤ n := by omega
  have HNL : Hid ((xs.drop (i)).length = (n - i)) := Lib.hid (by rw [List.length_drop, hlen])
  clear hown hv hnl h1v hlen h1x hcx
  go_enter Tryd.func35, Tryd.ntmps35
  go_wp2_with (first | (at_builtin; refine wpList_zerosN rfl _ _ 24 3 rfl 23 (.int .u64 0) 1 8 .i64 Tryd.underlying24 Tryd.underlying3 info_u64 rfl (by decide) _ i n (n + 1 - i) rfl _ _ rfl (by omega) g rfl xs 23 HCX.out (by rw [HLN.out]; omega) (by omega) (by omega) (by omega) (by simp only [maxLen]; omega) ?_; intro G zs w2 HC2 HZ2 HG2 HB2; simp only [Nat.mul_one] at HC2 HZ2; rw [show i + (n + 1 - i) = n + 1 from by omega] at HG2 ⊢; have hGi : ¬ (G = i) := (by have := HG2.out; omega); have hGi2 : ¬ (G = i + 1) := (by have := HG2.out; omega); have HV2 := Lib.hid (HV.out.kept (Chg.of_below (F := fun _ => False) HB2.out) (fun f => f)); have HX2 := Lib.hid (HCX.out.kept (Chg.of_below (F := fun _ => False) HB2.out) (fun f => f)); have HTL : Hid ((xs.take (i)).length = i) := Lib.hid ((List.length_take).trans (Nat.min_eq_left (by rw [HLN.out]; omega))); have HRL : Hid ((xs.take (i) ++ zs).length = G) := Lib.hid (by rw [List.length_append, HTL.out, HZ2.out]; have := HG2.out; omega); have HFI1 : Hid (i + news.length ≤ (xs.take (i) ++ zs).length) := Lib.hid (by have e1 := HRL.out; have e2 := HL.out; have e3 := HG2.out; rw [e1, e2]; omega)) | (refine wpList_copyN rfl _ _ 24 24 rfl 23 Tryd.underlying24 1 ins64_size ⟨w.heap.size, i, none⟩ ⟨vb, 0, none⟩ _ _ _ _ rfl rfl w.heap.size (i) vb 0 rfl rfl _ 23 HC2.out 1 (by simp only [Nat.min_def]; split <;> omega) news (by rw [HL.out]) (fun j u hj => by rw [Nat.zero_add, HV2.out.cell]; exact hj) HFI1.out H1.out ?_; intro w3 HC3 HG3))
  have HSL : Hid ((splice (xs.take (i) ++ zs) (i) news).length = G) := Lib.hid ((length_splice _ _ _ HFI1.out).trans HRL.out)
  have HX3 := Lib.hid (HX2.out.kept HG3.out (by have := HGL.out; omega))
  have HD := Lib.hid (drop_at (i := i) HX3.out (List.take_of_length_le (Nat.le_refl _)))
  have HFI2 : Hid ((i + 1) + (xs.drop (i)).length ≤ (splice (xs.take (i) ++ zs) (i) news).length) := Lib.hid (by rw [HNL.out, HSL.out]; have := HG2.out; omega)
  go_region_law (refine step_copyN rfl _ _ 24 24 rfl 23 Tryd.underlying24 1 ins64_size ⟨w.heap.size, (i + 1), none⟩ ⟨g, i, none⟩ _ _ _ _ (by simp [Act.eval, Act.put]; exact ⟨rfl, rfl⟩) (by simp [Act.eval, Act.put]; exact ⟨rfl, rfl⟩) w.heap.size ((i + 1)) g (i) rfl rfl _ 23 HC3.out (n - i) (by simp only [Nat.min_def]; split <;> omega) (xs.drop (i)) (by rw [HNL.out, Nat.mul_one]) HD.out HFI2.out (fun u hu => HX1.out u (List.mem_of_mem_drop hu)) ?_; intro w4 HC4 HG4)
  have HBL : Hid (Below w.heap.size w w4) := by
    have hc : Chg (· = w.heap.size) w2 w4 := HG3.out.trans (((Chg.refl (· = w.heap.size) w3).drew).trans HG4.out (fun _ _ h => h)) (fun _ _ h => h)
    have hb := HB2.out
    exact Lib.hid ⟨hc.os.trans hb.os, hc.tape.trans hb.tape, hc.output.trans hb.output, Nat.le_trans hb.size hc.size, fun k hk => (hc.block k (Nat.lt_of_lt_of_le hk hb.size) (by omega)).trans (hb.block k hk)⟩
  go_wp2_with fail
  go_ret
  refine ⟨_, rfl, Lib.hid ?_, HBL⟩
  have hxn := HLN.out
  have e1 : (i + 1) = i + 1 := by omega
  have e2 : (n + 1) = n + 1 := by omega
  have hin := splice_grown (n) 1 xs news zs (i) hxn HL.out (Nat.le_of_lt hi)
  rw [← e1, ← e2] at hin
  refine ⟨⟨?_, .inr ⟨w.heap.size, G, (splice (splice (xs.take (i) ++ zs) (i) news) ((i + 1)) (xs.drop (i))).toArray, rfl, HO.out.below.size, HC4.out, HG2.out.1, HG2.out.2, ?_, ?_⟩⟩, HO.out.below.trans (HBL.out.mono HO.out.below.size)⟩
  · simp only [List.length_append, List.length_take, List.length_drop, hxn, HL.out]
    omega
  · rw [List.size_toArray, length_splice _ _ _ HFI2.out, HSL.out, Nat.mul_one]
  · rw [Nat.mul_one]; exact hin

/-- One put in at its place, wherever there is room. -/
theorem ins64_chg (w0 w : World) (v : Value) (n i : Nat) (xs news : List Value) (vb : Nat) (hown : Out w0 w 23 1 v n xs) (hi : i ≤ n) (hn : n ≤ 1000) (hv : Cells w vb 23 news) (hnl : news.length = 1) (h1v : ∀ u ∈ news, u.oneCell' = true) (h1x : ∀ u ∈ xs, u.oneCell' = true) (hvb : v.ownBlock ≠ some vb) :
    Calls Tryd.prog 35 #[v, .int .i64 i, .slice (some ⟨vb, 0, none⟩) 1 1] w fun e w' => ∃ v', e = .returned v' ∧ Hid (Out w0 w' 23 1 v' (n + 1) (xs.take (i) ++ (news ++ xs.drop (i)))) ∧ Hid (Chg (fun b => v.ownBlock = some b) w w') := by
  have hlen : xs.length = n := by simpa using hown.len
  by_cases e : i = n
  · subst e
    refine Calls.mono (ins64_end w0 w v i xs news vb hown hn hv hnl h1v) ?_
    rintro e w' ⟨v', rfl, HO, HG⟩
    refine ⟨v', rfl, ?_, HG⟩
    rw [List.take_of_length_le (by omega), List.drop_of_length_le (by omega), List.append_nil]
    exact HO
  · rcases hown.form with ⟨_, h0⟩ | ⟨g, c, rfl⟩
    · omega
    · have hnc : n ≤ c := by
        rcases hown.1.2 with ⟨h0, _⟩ | ⟨g', c', cur, hv', _, _, hnc, _⟩
        · cases h0
        · injection hv' with _ _ h3
          omega
      by_cases ec : n = c
      · subst ec
        exact Calls.mono (ins64_grow w0 w g n i xs news vb hown (by omega) hn hv hnl h1v h1x) (fun e w' ⟨v', h1, h2, h3⟩ => ⟨v', h1, h2, Lib.hid (Chg.of_below h3.out)⟩)
      · exact Calls.mono (ins64_room w0 w g n c i xs news vb hown (by omega) (by omega) hn hv hnl h1v h1x (fun e => hvb (by rw [e]; rfl))) (fun e w' ⟨v', h1, h2, h3⟩ => ⟨v', h1, h2, Lib.hid (h3.out.mono (fun b _ e => by show _ = some b; rw [e]; rfl))⟩)

theorem ins64_any (w0 w : World) (v : Value) (n i : Nat) (xs news : List Value) (vb : Nat) (hown : Out w0 w 23 1 v n xs) (hi : i ≤ n) (hn : n ≤ 1000) (hv : Cells w vb 23 news) (hnl : news.length = 1) (h1v : ∀ u ∈ news, u.oneCell' = true) (h1x : ∀ u ∈ xs, u.oneCell' = true) (hvb : v.ownBlock ≠ some vb) :
    Calls Tryd.prog 35 #[v, .int .i64 i, .slice (some ⟨vb, 0, none⟩) 1 1] w fun e w' => ∃ v', e = .returned v' ∧ Hid (Out w0 w' 23 1 v' (n + 1) (xs.take (i) ++ (news ++ xs.drop (i)))) := by
  exact (ins64_chg w0 w v n i xs news vb hown hi hn hv hnl h1v h1x hvb).mono (fun _ _ ⟨v', h1, h2, _⟩ => ⟨v', h1, h2⟩)

theorem Cells.many {b : Nat} {T : TypeId} : ∀ (vs : List Value) (o : Nat) (w : World) (cs : List Value), Cells w b T cs → o + vs.length ≤ cs.length → Cells (w.setCells b o vs) b T (splice cs o vs) ∧ Chg (· = b) w (w.setCells b o vs)
  | [], o, w, cs, h, _ => by
    refine ⟨?_, Chg.refl _ _⟩
    have : splice cs o [] = cs := by simp [splice]
    rw [this]
    exact h
  | v :: vs, o, w, cs, h, hl => by
    have ih := Cells.many vs (o + 1) (w.setCell ⟨b, o, none⟩ v) (cs.set o v) (h.set o v) (by simp at hl ⊢; omega)
    have hc : Chg (· = b) w (w.setCell ⟨b, o, none⟩ v) := (Chg.refl (· = b) w).setCell (fun _ => rfl) v
    refine ⟨?_, hc.trans ih.2 (fun _ _ h => h)⟩
    have e : splice (cs.set o v) (o + 1) vs = splice cs o (v :: vs) := by
      simp only [List.length_cons] at hl
      have e1 : cs.set o v = (cs.take o ++ [v]) ++ cs.drop (o + 1) := by
        rw [List.set_eq_take_append_cons_drop, if_pos (by omega)]
        simp
      have e2 : (cs.take o ++ [v]).length = o + 1 := by simp; omega
      unfold splice
      rw [e1, List.take_left' e2, List.drop_append, e2, List.drop_eq_nil_of_le (by omega), List.drop_drop, List.length_cons, List.nil_append]
      rw [show o + 1 + (o + 1 + vs.length - (o + 1)) = o + (vs.length + 1) by omega]
      simp
    rw [← e]
    exact ih.1

/-- clear, as the walk meets it. -/
theorem wpList_clear {P : Program} {w : World} {ops : Array Oper} {rest : List Oper} {o : Oper} {a : Act} {Q : Exit → Act → World → Prop} (hgd : o.guard = none) (s : Operand) (t : TypeId)
    (ho : o.op = .call { callee := .builtin .clear, args := #[s], argTypes := #[t] }) (e : TypeId) (z : Value) (ht : P.underlying t = some (.slice e)) (hv : ∀ w, (zeroValue e).run P w = .ok z w) (hz : z.cells = #[z]) (h1 : z.oneCell' = true)
    (b off n c : Nat) (hs : a.eval s = .slice (some ⟨b, off, none⟩) n c) (hn : 0 < n) (T : TypeId) (cs : List Value) (hC : Cells w b T cs) (hfit : off + n ≤ cs.length)
    (h : ∀ w', Hid (Cells w' b T (splice cs off (List.replicate n z))) → Hid (Chg (· = b) w w') → wpList P ops Q rest (a.put o.dst (.tuple #[])) w') : wpList P ops Q (o :: rest) a w := by
  refine wpList_plain hgd fun K hK => ?_
  have hrun := run_clear_slice (P := P) w t e o.type z ht hv hz h1 b off n c hn (fun j hj => by rw [hC.cell, List.getElem?_eq_getElem (by omega)]; rfl) (fun j _ => hC.frozen _)
  unfold Oper.wp
  simp [execOp, ho, resolve, invoke, builtin, hs, hrun, Result.andThen]
  obtain ⟨h2, h3⟩ := Cells.many (List.replicate n z) off w cs hC (by simpa using hfit)
  exact hK _ _ (h _ (Lib.hid h2) (Lib.hid h3))

/-- append where there is room, as a step of a region that draws its order. -/
theorem step_room {P : Program} {ops : Array Oper} {o : Oper} {a : Act} {w : World} {K : Act → World → Prop} {Q : Exit → Act → World → Prop} {E : Prop} (hgd : o.guard = none) (s x : Operand) (t : TypeId)
    (ho : o.op = .call { callee := .builtin .append, args := #[s, x], argTypes := #[t, t] }) (e : TypeId) (i : TypeInfo) (h1 : P.underlying t = some (.slice e)) (h2 : P.info? e = some i) (h4 : i.size = 1)
    (b n cap : Nat) (hs : a.eval s = .slice (some ⟨b, 0, none⟩) n cap) (ad : Addr) (m c : Nat) (hx : a.eval x = .slice (some ad) m c) (news : List Value) (hn : news.length = m) (hc : ∀ j u, news[j]? = some u → w.cell? (ad.add j) = some u) (h1c : ∀ u ∈ news, u.oneCell' = true)
    (hroom : n + m ≤ cap) (T : TypeId) (cur : List Value) (hC : Cells w b T cur) (hcs : cur.length = cap)
    (h : ∀ w', Hid (Cells w' b T (splice cur n news)) → Hid (Chg (· = b) w w') → K (a.put o.dst (.slice (some ⟨b, 0, none⟩) (n + m) cap)) w') : if Region.wanted o (yielded ops a.tmps) = true then Oper.wp P o a w K Q else E := by
  refine step_append_room hgd s x t ho e i 1 h1 h2 h4 b 0 n cap hs ad m c news hx (by rw [hn, Nat.mul_one]) hc h1c hroom (fun j hj => ⟨by rw [hC.cell, List.getElem?_eq_getElem (by omega)]; rfl, hC.frozen _⟩) ?_
  obtain ⟨h5, h6⟩ := Cells.many news n w cur hC (by omega)
  rw [show 0 + n * 1 = n by omega]
  exact h _ (Lib.hid h5) (Lib.hid h6)

theorem take_splice {α : Type} (L : List α) (o : Nat) (cs : List α) (h : o + cs.length ≤ L.length) : (splice L o cs).take (o + cs.length) = L.take o ++ cs := by
  unfold splice
  rw [← List.append_assoc, List.take_left' (by simp; omega)]

theorem take_splice_le {α : Type} (L : List α) (o k : Nat) (cs : List α) (h : k ≤ o) (ho : o ≤ L.length) : (splice L o cs).take k = L.take k := by
  unfold splice
  rw [List.take_append_of_le_length (by simp; omega), List.take_take, Nat.min_eq_left h]

theorem del64_zero (w : World) : (zeroValue 23).run Tryd.prog w = .ok (.int .u64 0) w := by kernel_rfl

set_option maxHeartbeats 2000000 in
theorem del64_any (w0 w : World) (v : Value) (n i : Nat) (xs : List Int) (hown : Out w0 w 23 1 v n (xs.map (.int .u64))) (hi : i < n) (hn : n ≤ 1000) :
    Calls Tryd.prog 37 #[v, .int .i64 i, .int .i64 (i + 1)] w fun e w' => ∃ v', e = .returned v' ∧ Hid (Out w0 w' 23 1 v' (n - 1) ((xs.eraseIdx i).map (.int .u64))) ∧ Hid (Chg (fun b => v.ownBlock = some b) w w') := by
  obtain ⟨m, rfl⟩ : ∃ m, n = i + 1 + m := ⟨n - (i + 1), by omega⟩
  obtain ⟨g, c, cur, rfl, hge, hg, hnc, hcm, hcs, htk⟩ : ∃ g c cur, v = .slice (some ⟨g, 0, none⟩) (i + 1 + m) c ∧ w0.heap.size ≤ g ∧ Cells w g 23 cur ∧ i + 1 + m ≤ c ∧ c ≤ maxLen ∧ cur.length = c ∧ cur.take (i + 1 + m) = xs.map (.int .u64) := by
    rcases hown.1.2 with ⟨h0, h1⟩ | ⟨g, c, cur, hv, hge, hg, hnc, hcm, hcs, ht⟩
    · omega
    · exact ⟨g, c, cur.toList, hv, hge, hg, hnc, hcm, by simpa using hcs, by simpa using ht⟩
  have hl : xs.length = i + 1 + m := by simpa using hown.len
  have HO := Lib.hid hown
  have HCU := Lib.hid hg
  have HTK := Lib.hid htk
  have HCS := Lib.hid hcs
  have HL := Lib.hid hl
  have HGE := Lib.hid hge
  have HCM := Lib.hid hcm
  have HNL : Hid (((xs.drop (i + 1)).map (Value.int .u64)).length = m) := Lib.hid (by rw [List.length_map, List.length_drop]; omega)
  have HN1 : Hid (∀ u ∈ (xs.drop (i + 1)).map (Value.int .u64), u.oneCell' = true) := Lib.hid (fun u hu => by obtain ⟨x, _, rfl⟩ := List.mem_map.1 hu; rfl)
  have HNC : Hid (∀ j u, ((xs.drop (i + 1)).map (Value.int .u64))[j]? = some u → w.cell? ⟨g, i + 1 + j, none⟩ = some u) := Lib.hid (fun j u hj => by
    rw [List.map_drop] at hj
    exact drop_at hg htk j u hj)
  have hb2 : ((i : Int) == (i : Int) + 1) = false := by simp; omega
  have hb3 : (i : Int) ≤ (i : Int) + 1 := by omega
  have hb4 : (i : Int) + 1 ≤ ((i + 1 + m : Nat) : Int) := by omega
  have hb5 : (0 : Int) ≤ (i : Int) + 1 := by omega
  have hb6 : (i : Int) ≤ ((i + 1 + m : Nat) : Int) := by omega
  have hb7 : (i : Int) ≤ (c : Int) := by omega
  have hb8 : (i : Int) + 1 ≤ (i : Int) + 1 + (m : Int) := by omega
  have hb9 : (i : Int) + (m : Int) ≤ (i : Int) + 1 + (m : Int) := by omega
  have hb10 : (0 : Int) ≤ (i : Int) + (m : Int) := by omega
  have hw1 : IntKind.i64.wrap ((i : Int) + 1) = (i : Int) + 1 := by rw [IntKind.wrap_i64]; omega
  have ht1 : ((i : Int) + 1).toNat = i + 1 := by omega
  obtain ⟨newsL, hnews⟩ : ∃ q, q = (xs.drop (i + 1)).map (Value.int .u64) := ⟨_, rfl⟩
  rw [← hnews] at HNL HN1 HNC
  have HNW := Lib.hid hnews
  obtain ⟨i0, hi0, hz0, hz1, hz2⟩ := info_parts info_u64
  clear hown hg htk hcs hl hge hcm hz0 hz2 hnews
  have fin : ∀ w3, Hid (Cells w3 g 23 (splice (splice cur i newsL) (i + m) (List.replicate 1 (.int .u64 0)))) → Hid (Chg (· = g) w w3) → Hid (Out w0 w3 23 1 (.slice (some ⟨g, 0, none⟩) (i + m) c) (i + 1 + m - 1) ((xs.eraseIdx i).map (.int .u64))) ∧ Hid (Chg (fun b => (Value.slice (some ⟨g, 0, none⟩) (i + 1 + m) c).ownBlock = some b) w w3) := by
    intro w3 h3 h4
    have hc1 := HCS.out
    have hl1 := HL.out
    have hn1 := HNL.out
    have hxl : (xs.eraseIdx i).length = i + m := by rw [List.length_eraseIdx, if_pos (by omega)]; omega
    have hs1 : (splice cur i newsL).length = c := by rw [length_splice _ _ _ (by omega)]; exact hc1
    refine ⟨Lib.hid ⟨⟨by rw [List.length_map, hxl]; omega, .inr ⟨g, c, _, by rw [show i + 1 + m - 1 = i + m by omega], HGE.out, h3.out, by omega, HCM.out, ?_, ?_⟩⟩, ?_⟩, Lib.hid (h4.out.mono (fun b _ e => by show _ = some b; rw [e]; rfl))⟩
    · rw [List.size_toArray, length_splice _ _ _ (by rw [hs1]; simp; omega), hs1, Nat.mul_one]
    · rw [show (i + 1 + m - 1) * 1 = i + m by omega]
      show (splice (splice cur i newsL) (i + m) _).take (i + m) = _
      rw [take_splice_le _ _ _ _ (Nat.le_refl _) (by rw [hs1]; omega), show i + m = i + newsL.length by rw [hn1], take_splice _ _ _ (by omega)]
      have ht : cur.take i = (xs.map (Value.int .u64)).take i := by rw [← HTK.out, List.take_take, Nat.min_eq_left (by omega)]
      rw [ht, HNW.out, List.eraseIdx_eq_take_drop_succ, List.map_append, List.map_take, List.map_drop]
    · have hb := HO.out.below
      exact ⟨h4.out.os.trans hb.os, h4.out.tape.trans hb.tape, h4.out.output.trans hb.output, Nat.le_trans hb.size h4.out.size, fun k hk => (h4.out.block k (Nat.lt_of_lt_of_le hk hb.size) (by have := HGE.out; omega)).trans (hb.block k hk)⟩
  have FIN := Lib.hid fin
  clear fin
  have tail : ∀ w2, Hid (Cells w2 g 23 (splice cur i newsL)) → (splice cur i newsL).length = c := fun w2 _ => by rw [length_splice _ _ _ (by have := HNL.out; have := HCS.out; omega)]; exact HCS.out
  have TAIL := Lib.hid tail
  clear tail
  by_cases hcap : c = i + 1
  · subst hcap
    obtain rfl : m = 0 := by omega
    go_enter Tryd.func37, Tryd.ntmps37
    go_wp2_with fail
    go_region_law (refine step_room rfl _ _ 24 (by rfl) 23 i0 Tryd.underlying24 hi0 hz1 g i (i + 1) (by first | (simp [Act.eval, Act.put]; done) | (simp [Act.eval, Act.put]; exact ⟨rfl, rfl⟩)) ⟨g, 0, none⟩ 0 0 (by first | (simp [Act.eval, Act.put]; done) | (simp [Act.eval, Act.put]; exact ⟨rfl, rfl⟩)) newsL HNL.out (fun j u hj => absurd (List.getElem?_eq_some_iff.1 hj).1 (by have := HNL.out; omega)) HN1.out (by omega) 23 cur HCU.out HCS.out ?_; intro w2 HC2 HG2)
    have HT2 := Lib.hid (TAIL.out w2 HC2)
    go_wp2_with (refine wpList_clear rfl _ 24 rfl 23 (.int .u64 0) Tryd.underlying24 del64_zero rfl rfl g (i + 0) 1 _ rfl (by decide) 23 _ HC2.out (by have := HT2.out; omega) ?_; intro w3 HC3 HG3)
    go_ret
    obtain ⟨f1, f2⟩ := FIN.out w3 HC3 (Lib.hid (((Chg.refl (· = g) w).drew.trans HG2.out (fun _ _ h => h)).trans HG3.out (fun _ _ h => h)))
    exact ⟨_, rfl, f1, f2⟩
  · go_enter Tryd.func37, Tryd.ntmps37
    go_wp2_with fail
    go_region_law (refine step_room rfl _ _ 24 (by rfl) 23 i0 Tryd.underlying24 hi0 hz1 g i c (by first | (simp [Act.eval, Act.put]; done) | (simp [Act.eval, Act.put]; exact ⟨rfl, rfl⟩)) ⟨g, i + 1, none⟩ m (c - (i + 1)) (by first | (simp [Act.eval, Act.put]; done) | (simp [Act.eval, Act.put]; exact ⟨rfl, rfl⟩)) newsL HNL.out (fun j u hj => by rw [Addr.add_lit]; exact HNC.out j u hj) HN1.out (by omega) 23 cur HCU.out HCS.out ?_; intro w2 HC2 HG2)
    have HT2 := Lib.hid (TAIL.out w2 HC2)
    go_wp2_with (refine wpList_clear rfl _ 24 rfl 23 (.int .u64 0) Tryd.underlying24 del64_zero rfl rfl g (i + m) (i + 1 + m - (i + m)) _ rfl (by omega) 23 _ HC2.out (by have := HT2.out; omega) ?_; intro w3 HC3 HG3; rw [show i + 1 + m - (i + m) = 1 by omega] at HC3)
    go_ret
    obtain ⟨f1, f2⟩ := FIN.out w3 HC3 (Lib.hid (((Chg.refl (· = g) w).drew.trans HG2.out (fun _ _ h => h)).trans HG3.out (fun _ _ h => h)))
    exact ⟨_, rfl, f1, f2⟩
theorem del8_zero (w : World) : (zeroValue 5).run Tryd.prog w = .ok (.int .u8 0) w := by kernel_rfl

set_option maxHeartbeats 2000000 in
theorem del8_any (w0 w : World) (v : Value) (n i : Nat) (xs : List Int) (hown : Out w0 w 5 1 v n (xs.map (.int .u8))) (hi : i < n) (hn : n ≤ 1000) :
    Calls Tryd.prog 36 #[v, .int .i64 i, .int .i64 (i + 1)] w fun e w' => ∃ v', e = .returned v' ∧ Hid (Out w0 w' 5 1 v' (n - 1) ((xs.eraseIdx i).map (.int .u8))) ∧ Hid (Chg (fun b => v.ownBlock = some b) w w') := by
  obtain ⟨m, rfl⟩ : ∃ m, n = i + 1 + m := ⟨n - (i + 1), by omega⟩
  obtain ⟨g, c, cur, rfl, hge, hg, hnc, hcm, hcs, htk⟩ : ∃ g c cur, v = .slice (some ⟨g, 0, none⟩) (i + 1 + m) c ∧ w0.heap.size ≤ g ∧ Cells w g 5 cur ∧ i + 1 + m ≤ c ∧ c ≤ maxLen ∧ cur.length = c ∧ cur.take (i + 1 + m) = xs.map (.int .u8) := by
    rcases hown.1.2 with ⟨h0, h1⟩ | ⟨g, c, cur, hv, hge, hg, hnc, hcm, hcs, ht⟩
    · omega
    · exact ⟨g, c, cur.toList, hv, hge, hg, hnc, hcm, by simpa using hcs, by simpa using ht⟩
  have hl : xs.length = i + 1 + m := by simpa using hown.len
  have HO := Lib.hid hown
  have HCU := Lib.hid hg
  have HTK := Lib.hid htk
  have HCS := Lib.hid hcs
  have HL := Lib.hid hl
  have HGE := Lib.hid hge
  have HCM := Lib.hid hcm
  have HNL : Hid (((xs.drop (i + 1)).map (Value.int .u8)).length = m) := Lib.hid (by rw [List.length_map, List.length_drop]; omega)
  have HN1 : Hid (∀ u ∈ (xs.drop (i + 1)).map (Value.int .u8), u.oneCell' = true) := Lib.hid (fun u hu => by obtain ⟨x, _, rfl⟩ := List.mem_map.1 hu; rfl)
  have HNC : Hid (∀ j u, ((xs.drop (i + 1)).map (Value.int .u8))[j]? = some u → w.cell? ⟨g, i + 1 + j, none⟩ = some u) := Lib.hid (fun j u hj => by
    rw [List.map_drop] at hj
    exact drop_at hg htk j u hj)
  have hb2 : ((i : Int) == (i : Int) + 1) = false := by simp; omega
  have hb3 : (i : Int) ≤ (i : Int) + 1 := by omega
  have hb4 : (i : Int) + 1 ≤ ((i + 1 + m : Nat) : Int) := by omega
  have hb5 : (0 : Int) ≤ (i : Int) + 1 := by omega
  have hb6 : (i : Int) ≤ ((i + 1 + m : Nat) : Int) := by omega
  have hb7 : (i : Int) ≤ (c : Int) := by omega
  have hb8 : (i : Int) + 1 ≤ (i : Int) + 1 + (m : Int) := by omega
  have hb9 : (i : Int) + (m : Int) ≤ (i : Int) + 1 + (m : Int) := by omega
  have hb10 : (0 : Int) ≤ (i : Int) + (m : Int) := by omega
  have hw1 : IntKind.i64.wrap ((i : Int) + 1) = (i : Int) + 1 := by rw [IntKind.wrap_i64]; omega
  have ht1 : ((i : Int) + 1).toNat = i + 1 := by omega
  obtain ⟨newsL, hnews⟩ : ∃ q, q = (xs.drop (i + 1)).map (Value.int .u8) := ⟨_, rfl⟩
  rw [← hnews] at HNL HN1 HNC
  have HNW := Lib.hid hnews
  obtain ⟨i0, hi0, hz0, hz1, hz2⟩ := info_parts info_u8
  clear hown hg htk hcs hl hge hcm hz0 hz2 hnews
  have fin : ∀ w3, Hid (Cells w3 g 5 (splice (splice cur i newsL) (i + m) (List.replicate 1 (.int .u8 0)))) → Hid (Chg (· = g) w w3) → Hid (Out w0 w3 5 1 (.slice (some ⟨g, 0, none⟩) (i + m) c) (i + 1 + m - 1) ((xs.eraseIdx i).map (.int .u8))) ∧ Hid (Chg (fun b => (Value.slice (some ⟨g, 0, none⟩) (i + 1 + m) c).ownBlock = some b) w w3) := by
    intro w3 h3 h4
    have hc1 := HCS.out
    have hl1 := HL.out
    have hn1 := HNL.out
    have hxl : (xs.eraseIdx i).length = i + m := by rw [List.length_eraseIdx, if_pos (by omega)]; omega
    have hs1 : (splice cur i newsL).length = c := by rw [length_splice _ _ _ (by omega)]; exact hc1
    refine ⟨Lib.hid ⟨⟨by rw [List.length_map, hxl]; omega, .inr ⟨g, c, _, by rw [show i + 1 + m - 1 = i + m by omega], HGE.out, h3.out, by omega, HCM.out, ?_, ?_⟩⟩, ?_⟩, Lib.hid (h4.out.mono (fun b _ e => by show _ = some b; rw [e]; rfl))⟩
    · rw [List.size_toArray, length_splice _ _ _ (by rw [hs1]; simp; omega), hs1, Nat.mul_one]
    · rw [show (i + 1 + m - 1) * 1 = i + m by omega]
      show (splice (splice cur i newsL) (i + m) _).take (i + m) = _
      rw [take_splice_le _ _ _ _ (Nat.le_refl _) (by rw [hs1]; omega), show i + m = i + newsL.length by rw [hn1], take_splice _ _ _ (by omega)]
      have ht : cur.take i = (xs.map (Value.int .u8)).take i := by rw [← HTK.out, List.take_take, Nat.min_eq_left (by omega)]
      rw [ht, HNW.out, List.eraseIdx_eq_take_drop_succ, List.map_append, List.map_take, List.map_drop]
    · have hb := HO.out.below
      exact ⟨h4.out.os.trans hb.os, h4.out.tape.trans hb.tape, h4.out.output.trans hb.output, Nat.le_trans hb.size h4.out.size, fun k hk => (h4.out.block k (Nat.lt_of_lt_of_le hk hb.size) (by have := HGE.out; omega)).trans (hb.block k hk)⟩
  have FIN := Lib.hid fin
  clear fin
  have tail : ∀ w2, Hid (Cells w2 g 5 (splice cur i newsL)) → (splice cur i newsL).length = c := fun w2 _ => by rw [length_splice _ _ _ (by have := HNL.out; have := HCS.out; omega)]; exact HCS.out
  have TAIL := Lib.hid tail
  clear tail
  by_cases hcap : c = i + 1
  · subst hcap
    obtain rfl : m = 0 := by omega
    go_enter Tryd.func36, Tryd.ntmps36
    go_wp2_with fail
    go_region_law (refine step_room rfl _ _ 22 (by rfl) 5 i0 Tryd.underlying22 hi0 hz1 g i (i + 1) (by first | (simp [Act.eval, Act.put]; done) | (simp [Act.eval, Act.put]; exact ⟨rfl, rfl⟩)) ⟨g, 0, none⟩ 0 0 (by first | (simp [Act.eval, Act.put]; done) | (simp [Act.eval, Act.put]; exact ⟨rfl, rfl⟩)) newsL HNL.out (fun j u hj => absurd (List.getElem?_eq_some_iff.1 hj).1 (by have := HNL.out; omega)) HN1.out (by omega) 5 cur HCU.out HCS.out ?_; intro w2 HC2 HG2)
    have HT2 := Lib.hid (TAIL.out w2 HC2)
    go_wp2_with (refine wpList_clear rfl _ 22 rfl 5 (.int .u8 0) Tryd.underlying22 del8_zero rfl rfl g (i + 0) 1 _ rfl (by decide) 5 _ HC2.out (by have := HT2.out; omega) ?_; intro w3 HC3 HG3)
    go_ret
    obtain ⟨f1, f2⟩ := FIN.out w3 HC3 (Lib.hid (((Chg.refl (· = g) w).drew.trans HG2.out (fun _ _ h => h)).trans HG3.out (fun _ _ h => h)))
    exact ⟨_, rfl, f1, f2⟩
  · go_enter Tryd.func36, Tryd.ntmps36
    go_wp2_with fail
    go_region_law (refine step_room rfl _ _ 22 (by rfl) 5 i0 Tryd.underlying22 hi0 hz1 g i c (by first | (simp [Act.eval, Act.put]; done) | (simp [Act.eval, Act.put]; exact ⟨rfl, rfl⟩)) ⟨g, i + 1, none⟩ m (c - (i + 1)) (by first | (simp [Act.eval, Act.put]; done) | (simp [Act.eval, Act.put]; exact ⟨rfl, rfl⟩)) newsL HNL.out (fun j u hj => by rw [Addr.add_lit]; exact HNC.out j u hj) HN1.out (by omega) 5 cur HCU.out HCS.out ?_; intro w2 HC2 HG2)
    have HT2 := Lib.hid (TAIL.out w2 HC2)
    go_wp2_with (refine wpList_clear rfl _ 22 rfl 5 (.int .u8 0) Tryd.underlying22 del8_zero rfl rfl g (i + m) (i + 1 + m - (i + m)) _ rfl (by omega) 5 _ HC2.out (by have := HT2.out; omega) ?_; intro w3 HC3 HG3; rw [show i + 1 + m - (i + m) = 1 by omega] at HC3)
    go_ret
    obtain ⟨f1, f2⟩ := FIN.out w3 HC3 (Lib.hid (((Chg.refl (· = g) w).drew.trans HG2.out (fun _ _ h => h)).trans HG3.out (fun _ _ h => h)))
    exact ⟨_, rfl, f1, f2⟩
end Go.Proofs.YtmfomkmdfddhaaaDoor.Ins9
