/- Layer 9: nodes and their words, plain: each node comes back from its words. -/
import Derived.Test.YtmfomkmdfddhaaaDoorWords
namespace Go.Proofs.YtmfomkmdfddhaaaDoor.Back
open Go.RowKit Go.Proofs.YtmfomkmdfddhaaaDoor.Mem Go.Proofs.YtmfomkmdfddhaaaDoor.Read Go.Proofs.YtmfomkmdfddhaaaDoor.Out Go.Proofs.YtmfomkmdfddhaaaDoor.Nib Go.Proofs.YtmfomkmdfddhaaaDoor.Node Go.Proofs.YtmfomkmdfddhaaaDoor.Slc Go.Proofs.YtmfomkmdfddhaaaDoor.Res Go.Proofs.YtmfomkmdfddhaaaDoor.Dec Go.Proofs.YtmfomkmdfddhaaaDoor.Kid Go.Proofs.YtmfomkmdfddhaaaDoor.Open9 Go.Proofs.YtmfomkmdfddhaaaDoor.Words

theorem digs_num : ∀ (l : List Int), Nibs l → digs (num l) l.length = l
  | [], _ => rfl
  | x :: l, h => by
    have h1 := h x List.mem_cons_self
    simp only [num, List.length_cons, digs]
    rw [show (x + 16 * num l) % 16 = x by omega, show (x + 16 * num l) / 16 = num l by omega, digs_num l (fun y hy => h y (List.mem_cons_of_mem _ hy))]

theorem unp_pack {l : List Int} (h : packB l = true) (h0 : ∀ x ∈ l, 0 ≤ x) : unpL (packV l) = l := by
  obtain ⟨h15, h16⟩ := packB_take h
  have hn : Nibs l := fun x hx => ⟨h0 x hx, h16 x hx⟩
  have hb := num_bound hn
  have e1 : packV l % 16 = l.length := by unfold packV; omega
  have e2 : packV l / 16 = num l := by unfold packV; omega
  have e3 : unp (packV l) = l := by unfold unp; rw [e1, e2, Int.toNat_natCast]; exact digs_num l hn
  have e4 : unpB (packV l) = true := by
    unfold unpB
    rw [e1, e2, Int.toNat_natCast]
    exact decide_eq_true (Int.ediv_eq_zero_of_lt hb.1 hb.2)
  unfold unpL
  rw [if_pos e4, e3]

/-- What stands at a place, for each place that has something, rising. -/
def scan (f : Nat → Int) : Nat → List (Int × Int)
  | 0 => []
  | n + 1 => if f n = 0 then scan f n else scan f n ++ [((n : Int), f n)]

theorem scan_len (f : Nat → Int) : ∀ n, (scan f n).length ≤ n
  | 0 => Nat.le_refl _
  | n + 1 => by
    have := scan_len f n
    unfold scan
    split
    · omega
    · simp; omega

theorem scan_lt (f : Nat → Int) : ∀ n, ∀ z ∈ scan f n, 0 ≤ z.1 ∧ z.1 < n ∧ z.2 ≠ 0
  | 0, z, h => by simp [scan] at h
  | n + 1, z, h => by
    unfold scan at h
    split at h
    · have := scan_lt f n z h; omega
    · rename_i hf
      rcases List.mem_append.1 h with h | h
      · have := scan_lt f n z h; omega
      · obtain rfl := List.mem_singleton.1 h
        exact ⟨by simp, by simp; omega, hf⟩

theorem scan_rise (f : Nat → Int) : ∀ n, (scan f n).Pairwise (fun a b => a.1 < b.1)
  | 0 => List.Pairwise.nil
  | n + 1 => by
    unfold scan
    split
    · exact scan_rise f n
    · rw [List.pairwise_append]
      refine ⟨scan_rise f n, List.pairwise_singleton _ _, fun a ha b hb => ?_⟩
      obtain rfl := List.mem_singleton.1 hb
      exact (scan_lt f n a ha).2.1

theorem scan_is (f : Nat → Int) : ∀ (n : Nat) (Z : List (Int × Int)), Z.Pairwise (fun a b => a.1 < b.1) → (∀ z ∈ Z, 0 ≤ z.1 ∧ z.1 < n ∧ f z.1.toNat = z.2 ∧ z.2 ≠ 0) → (∀ i : Nat, i < n → (∀ z ∈ Z, z.1 ≠ i) → f i = 0) → scan f n = Z
  | 0, Z, _, h, _ => by
    cases Z with
    | nil => rfl
    | cons z Z => have := h z List.mem_cons_self; omega
  | n + 1, Z, hs, h, h0 => by
    rcases List.eq_nil_or_concat Z with rfl | ⟨Y, z, rfl⟩
    · unfold scan
      rw [if_pos (h0 n (by omega) (by simp))]
      exact scan_is f n [] List.Pairwise.nil (by simp) (fun i hi _ => h0 i (by omega) (by simp))
    · rw [List.concat_eq_append] at hs h h0 ⊢
      obtain ⟨hs1, _, hs2⟩ := List.pairwise_append.1 hs
      have hz := h z (by simp)
      by_cases e : z.1 = n
      · have hf : f n = z.2 := by have := hz.2.2.1; rwa [e, Int.toNat_natCast] at this
        unfold scan
        rw [if_neg (by rw [hf]; exact hz.2.2.2), scan_is f n Y hs1 (fun y hy => ?_) (fun i hi hy => ?_), hf]
        · rw [← e]
        · have h1 := h y (by simp [hy])
          have h2 := hs2 y hy z (by simp)
          exact ⟨h1.1, by omega, h1.2.2⟩
        · refine h0 i (by omega) (fun y hy' => ?_)
          rcases List.mem_append.1 hy' with hy' | hy'
          · exact hy y hy'
          · obtain rfl := List.mem_singleton.1 hy'
            omega
      · have hlt : ∀ y ∈ Y ++ [z], y.1 < n := fun y hy => by
          rcases List.mem_append.1 hy with hy | hy
          · have := hs2 y hy z (by simp); omega
          · obtain rfl := List.mem_singleton.1 hy
            omega
        unfold scan
        rw [if_pos (h0 n (by omega) (fun y hy => by have := hlt y hy; omega))]
        exact scan_is f n _ hs (fun y hy => ⟨(h y hy).1, hlt y hy, (h y hy).2.2⟩) (fun i hi hy => h0 i (by omega) hy)

theorem scan_succ {f : Nat → Int} {n : Nat} : (f n = 0 → scan f (n + 1) = scan f n) ∧ (f n ≠ 0 → scan f (n + 1) = scan f n ++ [((n : Int), f n)]) := by
  constructor
  · intro h; simp [scan, h]
  · intro h; simp [scan, h]

/-- What a big block's words have for kids. -/
def kidsF (L : List Int) (i : Nat) : Int := L.getD (4 + i) 0
def labsTo (L : List Int) (i : Nat) : List Int := (scan (kidsF L) i).map (·.1)
def kidsTo (L : List Int) (i : Nat) : List Int := (scan (kidsF L) i).map (·.2)
def candB (L : List Int) : List Int × Int × List Int × List Int := (unpL (L.getD 1 0), L.getD 2 0, labsTo L 16, kidsTo L 16)

theorem labs_len (L : List Int) (i : Nat) : (labsTo L i).length = (kidsTo L i).length ∧ (labsTo L i).length ≤ i := by
  have := scan_len (kidsF L) i
  simp [labsTo, kidsTo, this]

theorem labs_yes {L : List Int} {i : Nat} (h : kidsF L i ≠ 0) : labsTo L (i + 1) = labsTo L i ++ [(i : Int)] ∧ kidsTo L (i + 1) = kidsTo L i ++ [kidsF L i] := by
  simp [labsTo, kidsTo, scan_succ.2 h]

theorem labs_no {L : List Int} {i : Nat} (h : kidsF L i = 0) : labsTo L (i + 1) = labsTo L i ∧ kidsTo L (i + 1) = kidsTo L i := by
  simp [labsTo, kidsTo, scan_succ.1 h]

theorem labs_ok (L : List Int) : LabOk (labsTo L 16) := by
  intro i hi
  have hl : i < (scan (kidsF L) 16).length := by simpa [labsTo] using hi
  have h1 := scan_lt (kidsF L) 16 _ (List.getElem_mem hl)
  refine ⟨?_, fun h0 => ?_⟩
  · simp [labsTo, List.getD_eq_getElem?_getD, List.getElem?_eq_getElem hl]; omega
  · have hl2 : i - 1 < (scan (kidsF L) 16).length := by omega
    have := List.pairwise_iff_getElem.1 (scan_rise (kidsF L) 16) (i - 1) i hl2 hl (by omega)
    simp [labsTo, List.getD_eq_getElem?_getD, List.getElem?_eq_getElem hl, List.getElem?_eq_getElem hl2]
    exact this

theorem kids_ok (L : List Int) : (0 : Int) ∉ kidsTo L 16 := by
  intro h
  obtain ⟨z, hz, e⟩ := List.mem_map.1 h
  exact (scan_lt (kidsF L) 16 z hz).2.2 e

theorem labs_nn (L : List Int) (i : Nat) : ∀ x ∈ labsTo L i, 0 ≤ x := by
  intro x hx
  obtain ⟨z, hz, rfl⟩ := List.mem_map.1 hx
  exact (scan_lt (kidsF L) i z hz).1

theorem unpL_ok (x : Int) : packB (unpL x) = true ∧ Nibs (unpL x) := by
  have hn : Nibs (unpL x) := by
    unfold unpL
    split
    · exact unp_nibs x
    · intro _ h; cases h
  refine ⟨?_, hn⟩
  have hl : (unpL x).length ≤ 15 := by
    unfold unpL
    split
    · unfold unp; rw [digs_len]; omega
    · simp
  unfold packB
  rw [decide_eq_true hl, Bool.true_and, List.all_eq_true]
  exact fun y hy => decide_eq_true (hn y hy).2

/-- A node as lists: nothing is below 0. -/
structure Plain (N : ND) : Prop where
  pre : ∀ x ∈ N.pre, 0 ≤ x
  lab : ∀ x ∈ N.lab, 0 ≤ x
  len : N.n3 = N.kid.length

theorem Plain.of {N : ND} {w : World} (h : N.At w) : Plain N := ⟨fun x hx => (wf_u8 (h.pre.2.2.1 x hx)).1, fun x hx => (wf_u8 (h.lab.2.2.1 x hx)).1, h.kid.1.symm⟩

theorem lab_pack {N : ND} (hr : RightP N) (h4 : N.kid.length ≤ 4) : packB N.lab = true := by
  unfold packB
  rw [decide_eq_true (by rw [hr.2.1]; omega), Bool.true_and, List.all_eq_true]
  intro x hx
  obtain ⟨i, hi, rfl⟩ := mem_getD hx
  exact decide_eq_true (hr.2.2.2 i hi).1

theorem small_back {N : ND} (h : Plain N) (hr : RightP N) (h4 : N.n3 ≤ 4) : ND.same N (candS (smallL N)) := by
  have e1 : (smallL N).getD 1 0 = packV N.pre := rfl
  have e2 : (smallL N).getD 2 0 = N.val := rfl
  have e3 : (smallL N).getD 3 0 = packV N.lab := rfl
  have e4 : unpL (packV N.lab) = N.lab := unp_pack (lab_pack hr (by rw [← h.len]; exact h4)) h.lab
  unfold ND.same candS
  rw [e1, e2, e3, unp_pack hr.1 h.pre, e4]
  have e5 : (smallL N).drop 4 = N.kid ++ List.replicate (4 - N.n3) 0 := rfl
  rw [e5, List.take_append_of_le_length (by rw [hr.2.1]; exact Nat.le_refl _), List.take_of_length_le (by rw [hr.2.1]; exact Nat.le_refl _)]

theorem big_yes {N : ND} (h : Plain N) (hr : RightP N) : ∀ i, i ≤ N.n3 → ∀ j, j < i → (bigTo N i).getD (4 + (N.lab.getD j 0).toNat) 0 = N.kid.getD j 0
  | 0, _, j, hj => absurd hj (by omega)
  | i + 1, hi, j, hj => by
    have hl := hr.2.1
    have hk := h.len
    have hb := (hr.2.2.2 i (by omega)).1
    have h0 := h.lab _ (getD_mem (i := i) (by omega))
    simp only [bigTo]
    rw [getD_set (by rw [bigTo_len]; omega)]
    by_cases e : i = j
    · subst e; simp
    · have hs := lab_strict hr.2.2.2 (i := j) (j := i) (by omega) (by omega)
      have h1 := h.lab _ (getD_mem (i := j) (by omega))
      rw [if_neg (by omega)]
      exact big_yes h hr i (by omega) j (by omega)

theorem big_no {N : ND} (h : Plain N) (hr : RightP N) {k : Nat} (hk : k < 28) : ∀ i, i ≤ N.n3 → (∀ j, j < i → N.lab.getD j 0 ≠ k) → (bigTo N i).getD (4 + k) 0 = 0
  | 0, _, _ => by
    rw [show bigTo N 0 = ([2 + 256 * (N.n3 : Int), packV N.pre, N.val] : List Int) ++ List.replicate 29 0 from rfl, List.getD_eq_getElem?_getD, List.getElem?_append_right (by simp; omega), List.getElem?_replicate]
    split <;> rfl
  | i + 1, hi, hn => by
    have hl := hr.2.1
    have hk' := h.len
    have hb := (hr.2.2.2 i (by omega)).1
    have h0 := h.lab _ (getD_mem (i := i) (by omega))
    have h1 := hn i (by omega)
    simp only [bigTo]
    rw [getD_set (by rw [bigTo_len]; omega), if_neg (by omega)]
    exact big_no h hr hk i (by omega) (fun j hj => hn j (by omega))

theorem map_zip {α β : Type} : ∀ (a : List α) (b : List β), a.length = b.length → (a.zip b).map (·.1) = a ∧ (a.zip b).map (·.2) = b
  | [], [], _ => ⟨rfl, rfl⟩
  | x :: a, y :: b, h => by
    have := map_zip a b (by simpa using h)
    simp [this]
  | [], _ :: _, h => by simp at h
  | _ :: _, [], h => by simp at h

theorem big_back {N : ND} (h : Plain N) (hr : RightP N) : ND.same N (candB (bigL N)) := by
  have hl := hr.2.1
  have e1 : (bigL N).getD 1 0 = packV N.pre := big_head (by decide) _
  have e2 : (bigL N).getD 2 0 = N.val := big_head (by decide) _
  have e3 : scan (kidsF (bigL N)) 16 = N.lab.zip N.kid := by
    refine scan_is _ _ _ ?_ ?_ ?_
    · rw [List.pairwise_iff_getElem]
      intro i j hi hj hij
      simp only [List.length_zip] at hi hj
      have hs := lab_strict hr.2.2.2 hij (by omega)
      simp only [List.getElem_zip]
      rw [List.getD_eq_getElem?_getD, List.getD_eq_getElem?_getD, List.getElem?_eq_getElem (by omega), List.getElem?_eq_getElem (by omega)] at hs
      exact hs
    · intro z hz
      obtain ⟨i, hi, rfl⟩ := List.getElem_of_mem hz
      simp only [List.length_zip] at hi
      have hi1 : i < N.lab.length := by omega
      have hi2 : i < N.kid.length := by omega
      have hy := big_yes h hr N.n3 (Nat.le_refl _) i (by rw [h.len]; omega)
      have hb := (hr.2.2.2 i hi1).1
      rw [List.getD_eq_getElem?_getD, List.getElem?_eq_getElem hi1] at hb
      rw [List.getD_eq_getElem?_getD (l := N.lab), List.getElem?_eq_getElem hi1, List.getD_eq_getElem?_getD (l := N.kid), List.getElem?_eq_getElem hi2] at hy
      simp only [Option.getD_some] at hy hb
      simp only [List.getElem_zip]
      exact ⟨h.lab _ (List.getElem_mem _), hb, hy, fun e => hr.2.2.1 (e ▸ List.getElem_mem hi2)⟩
    · intro i hi hz
      refine big_no h hr (by omega) N.n3 (Nat.le_refl _) (fun j hj e => ?_)
      rw [h.len] at hj
      have hj1 : j < N.lab.length := by omega
      have hm : (N.lab.zip N.kid)[j]'(by simp; omega) ∈ N.lab.zip N.kid := List.getElem_mem _
      have := hz _ hm
      simp only [List.getElem_zip] at this
      rw [List.getD_eq_getElem?_getD, List.getElem?_eq_getElem hj1] at e
      exact this e
  unfold ND.same candB labsTo kidsTo
  rw [e1, e2, e3, unp_pack hr.1 h.pre, (map_zip _ _ hl).1, (map_zip _ _ hl).2]

theorem words_len' {N : ND} (h : Plain N) : (wordsL N).length = if N.n3 ≤ 4 then 8 else 32 := by
  unfold wordsL
  split
  · rename_i h4; exact small_len h.len.symm h4
  · exact bigTo_len N _

/-- What Decode tells of words. -/
def DecW (L : List Int) (N : ND) (r : Bool) : Prop := (r = true ∧ RightP N ∧ wordsL N = L) ∨ (r = false ∧ N = ND.nil ∧ ∀ M : ND, Plain M → RightP M → wordsL M ≠ L)

theorem decw_small {L : List Int} {N : ND} {r : Bool} (hL : L.length = 8) (h : DecR L (candS L) N r) : DecW L N r := by
  rcases h with ⟨h1, h2, h3, _⟩ | ⟨h1, h2, h3⟩
  · exact .inl ⟨h1, h2, h3⟩
  · refine .inr ⟨h1, h2, fun M hM hr he => ?_⟩
    have hl := words_len' hM
    rw [he, hL] at hl
    have h4 : M.n3 ≤ 4 := by split at hl <;> omega
    have e : wordsL M = smallL M := by unfold wordsL; rw [if_pos h4]
    have hb := small_back hM hr h4
    rw [← e, he] at hb
    exact h3 M hb hM.len ⟨hr, he⟩

theorem decw_none {L : List Int} (h : ∀ M : ND, Plain M → RightP M → wordsL M ≠ L) : DecW L ND.nil false := .inr ⟨rfl, rfl, h⟩

theorem none_len {L : List Int} (h8 : L.length ≠ 8) (h32 : L.length ≠ 32) : ∀ M : ND, Plain M → RightP M → wordsL M ≠ L := fun M hM _ he => by
  have hl := words_len' hM
  rw [he] at hl
  split at hl
  · exact h8 hl
  · exact h32 hl

theorem none_labs {L : List Int} (h8 : L.length = 8) (h4 : 4 < (unpL (L.getD 3 0)).length) : ∀ M : ND, Plain M → RightP M → wordsL M ≠ L := fun M hM hr he => by
  have hl := words_len' hM
  rw [he, h8] at hl
  have h4' : M.n3 ≤ 4 := by split at hl <;> omega
  have e : wordsL M = smallL M := by unfold wordsL; rw [if_pos h4']
  have e3 : (smallL M).getD 3 0 = packV M.lab := rfl
  rw [← he, e, e3, unp_pack (lab_pack hr (by rw [← hM.len]; exact h4')) hM.lab, hr.2.1, ← hM.len] at h4
  omega

theorem none_few {L : List Int} (h32 : L.length = 32) (h4 : (labsTo L 16).length ≤ 4) : ∀ M : ND, Plain M → RightP M → wordsL M ≠ L := fun M hM hr he => by
  have hl := words_len' hM
  rw [he, h32] at hl
  have h4' : ¬ M.n3 ≤ 4 := by split at hl <;> omega
  have e : wordsL M = bigL M := by unfold wordsL; rw [if_neg h4']
  have hb := big_back hM hr
  rw [← e, he] at hb
  unfold ND.same candB at hb
  simp only [Prod.mk.injEq] at hb
  have := hr.2.1
  rw [hb.2.2.1] at this
  have := hM.len
  omega

theorem none_big {L : List Int} {N : ND} (h32 : L.length = 32) (hc : ND.same N (candB L)) (hn : N.n3 = N.kid.length) (hw : wordsL N ≠ L) : ∀ M : ND, Plain M → RightP M → wordsL M ≠ L := fun M hM hr he => by
  have hl := words_len' hM
  rw [he, h32] at hl
  have h4' : ¬ M.n3 ≤ 4 := by split at hl <;> omega
  have e : wordsL M = bigL M := by unfold wordsL; rw [if_neg h4']
  have hb := big_back hM hr
  rw [← e, he] at hb
  exact hw (((right_same hb hc).2 hM.len hn).symm.trans he)

/-- A node is told by its words. -/
theorem words_inj {M N : ND} (hM : Plain M) (hN : Plain N) (hm : RightP M) (hn : RightP N) (h : wordsL M = wordsL N) : (M.pre, M.val, M.lab, M.kid) = (N.pre, N.val, N.lab, N.kid) := by
  have hl1 := words_len' hM
  have hl2 := words_len' hN
  rw [h, hl2] at hl1
  by_cases h4 : N.n3 ≤ 4
  · rw [if_pos h4] at hl1
    have h4' : M.n3 ≤ 4 := by split at hl1 <;> omega
    have h1 := small_back hM hm h4'
    have h2 := small_back hN hn h4
    unfold wordsL at h
    rw [if_pos h4, if_pos h4'] at h
    rw [h] at h1
    exact h1.trans h2.symm
  · rw [if_neg h4] at hl1
    have h4' : ¬ M.n3 ≤ 4 := by split at hl1 <;> omega
    have h1 := big_back hM hm
    have h2 := big_back hN hn
    unfold wordsL at h
    rw [if_neg h4, if_neg h4'] at h
    rw [h] at h1
    exact h1.trans h2.symm
end Go.Proofs.YtmfomkmdfddhaaaDoor.Back
