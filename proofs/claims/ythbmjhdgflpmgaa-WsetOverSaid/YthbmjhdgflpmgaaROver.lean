/- Layer 15's document: Over. -/
import Derived.Test.YthbmjhdgflpmgaaRef15
import Derived.Test.YthbmjhdgflpmgaaTwice
namespace Go.Proofs.Ythbmjhdgflpmgaa.ROver
open Go.RowKit Go.Joins Go.Proofs.Ythbmjhdgflpmgaa.Mem Go.Proofs.Ythbmjhdgflpmgaa.Read Go.Proofs.Ythbmjhdgflpmgaa.Out Go.Proofs.Ythbmjhdgflpmgaa.Copy Go.Proofs.Ythbmjhdgflpmgaa.Key Go.Proofs.Ythbmjhdgflpmgaa.Set Go.Proofs.Ythbmjhdgflpmgaa.Rows3 Go.Proofs.Ythbmjhdgflpmgaa.At15 Go.Proofs.Ythbmjhdgflpmgaa.Res Go.Proofs.Ythbmjhdgflpmgaa.Get15 Go.Proofs.Ythbmjhdgflpmgaa.Put15 Go.Proofs.Ythbmjhdgflpmgaa.Meet15 Go.Proofs.Ythbmjhdgflpmgaa.Over15 Go.Proofs.Ythbmjhdgflpmgaa.Conv Go.Proofs.Ythbmjhdgflpmgaa.Rise Go.Proofs.Ythbmjhdgflpmgaa.Same3 Go.Proofs.Ythbmjhdgflpmgaa.Few15 Go.Proofs.Ythbmjhdgflpmgaa.Open15 Go.Proofs.Ythbmjhdgflpmgaa.Alive15 Go.Proofs.Ythbmjhdgflpmgaa.Ref15
open Go.Proofs.Ythbmjhdgflpmgaa.wsetTwice (ovW_rs)

def notIn (s : List W3) (p : P2) : Bool := !(lk W3.k s p.k).isSome
def acc1 (o : List P2) (w : W3) : List P2 := if w.g = true then o else Set.put P2.k o (toP w)
def rov (l : List P2) (s : List W3) : List P2 := s.foldl acc1 (l.filter (notIn s))

theorem filter_rs {l : List P2} (h : Rs P2.k l) (f : P2 → Bool) : Rs P2.k (l.filter f) := List.Pairwise.filter f h

theorem lk_filter {l : List P2} (h : Rs P2.k l) (f : P2 → Bool) (k : ByteArray) : lk P2.k (l.filter f) k = match lk P2.k l k with | some x => if f x = true then some x else none | none => none := by
  induction l with
  | nil => rfl
  | cons a l ih =>
    rw [List.filter_cons, lk_cons]
    by_cases e : a.k = k
    · rw [if_pos e]
      simp only
      split
      · rw [lk_cons, if_pos e]
      · rw [lk_none (fun x hx e2 => kl_ne (h.head (List.mem_filter.1 hx).1) (e.trans e2.symm))]
    · rw [if_neg e]
      split
      · rw [lk_cons, if_neg e, ih h.tail]
      · exact ih h.tail

theorem acc_rs {o : List P2} (h : Rs P2.k o) (w : W3) : Rs P2.k (acc1 o w) := by
  unfold acc1
  split
  · exact h
  · exact put_rs h _

theorem fold_rs {s : List W3} : ∀ {o : List P2}, Rs P2.k o → Rs P2.k (s.foldl acc1 o) := by
  induction s with
  | nil => intro o h; exact h
  | cons w s ih => intro o h; exact ih (acc_rs h w)

theorem lk_fold {s : List W3} (hs : Rs W3.k s) : ∀ {o : List P2}, Rs P2.k o → ∀ k, lk P2.k (s.foldl acc1 o) k = match lk W3.k s k with | some w => if w.g = true then lk P2.k o k else some (toP w) | none => lk P2.k o k := by
  induction s with
  | nil => intro o _ k; rfl
  | cons w s ih =>
    intro o ho k
    show lk P2.k (s.foldl acc1 (acc1 o w)) k = _
    rw [ih hs.tail (acc_rs ho w), lk_cons]
    by_cases e : w.k = k
    · rw [if_pos e, lk_none (fun y hy e2 => kl_ne (hs.head hy) (e.trans e2.symm))]
      simp only
      unfold acc1
      split
      · rfl
      · rw [lk_put ho, if_pos (show (toP w).k = k from e)]
    · rw [if_neg e]
      have h1 : lk P2.k (acc1 o w) k = lk P2.k o k := by
        unfold acc1
        split
        · rfl
        · rw [lk_put ho, if_neg (show ¬ (toP w).k = k from e)]
      rw [h1]

theorem rov_eq {l : List P2} {s : List W3} (hl : Rs P2.k l) (hs : Rs W3.k s) : rov l s = ovW l s := by
  obtain ⟨h1, h2⟩ := ovW_rs hl hs
  have hf := filter_rs hl (notIn s)
  refine rs_ext (fold_rs hf) h1 (fun k => ?_)
  rw [h2]
  unfold rov
  rw [lk_fold hs hf, lk_filter hl]
  cases hk : lk W3.k s k with
  | none =>
    simp only [ovk]
    cases hp : lk P2.k l k with
    | none => rfl
    | some p =>
      obtain ⟨_, e⟩ := lk_mem hp
      simp [notIn, e, hk]
  | some w =>
    simp only [ovk]
    split
    · cases hp : lk P2.k l k with
      | none => rfl
      | some p =>
        obtain ⟨_, e⟩ := lk_mem hp
        simp [notIn, e, hk]
    · rfl

theorem fold_len : ∀ (s : List W3) (o : List P2), Rs P2.k o → (s.foldl acc1 o).length ≤ o.length + s.length
  | [], o, _ => by simp
  | w :: s, o, h => by
    have h1 := fold_len s (acc1 o w) (acc_rs h w)
    have h2 : (acc1 o w).length ≤ o.length + 1 := by
      unfold acc1
      split
      · omega
      · rw [length_put h]; split <;> omega
    simp only [List.foldl_cons, List.length_cons]
    omega

set_option maxHeartbeats 4000000 in
set_option maxRecDepth 100000 in
theorem rover_any (A : Option Addr) (n c : Nat) (l : List P2) (B : Option Addr) (m d : Nat) (s : List W3) (w : World) (hl : RowsOf P2.cells 2 w A n l) (hn : n ≤ 100) (hs : RowsOf W3.cells 3 w B m s) (hm : m ≤ 100) (hrl : Rs P2.k l) (hrs : Rs W3.k s) :
    Calls Try.prog 18 #[.slice A n c, .slice B m d] w (RPut (rov l s) w) := by
  have hln := hl.1
  have hsn := hs.1
  have HL := Lib.hid hl
  have HS := Lib.hid hs
  have HRL := Lib.hid hrl
  have HRS := Lib.hid hrs
  obtain ⟨G, hG⟩ : ∃ G, G = rov l s := ⟨_, rfl⟩
  rw [← hG]
  have HG := Lib.hid hG
  clear hl hs hrl hrs hG
  go_enter Try.func18, Try.ntmps18
  go_wp2_with fail
  go_loopw [5, 6] (fun v5 v6 wr => ∃ (i q c5 : Nat) (A5 : Option Addr), i ≤ n ∧ v6 = .int .i64 i ∧ v5 = .slice A5 q c5 ∧ q ≤ i ∧ Hid (Out w wr 28 2 (.slice A5 q c5) q (((l.take i).filter (notIn s)).flatMap P2.cells)) ∧ Hid (((l.take i).filter (notIn s)).length = q)) (fun _ v6 _ => n - (intOf v6).toNat)
  case atStart => exact ⟨0, 0, 0, none, by omega, rfl, rfl, by omega, Lib.hid (Out.nil (Below.refl _ _) _ _), Lib.hid rfl⟩
  case round =>
    obtain ⟨i, q, c5, A5, hi, rfl, rfl, hq, HO, HQ⟩ := hrel
    by_cases hin : i < n
    · obtain ⟨b, off, rfl⟩ := HL.out.addr (by omega)
      obtain ⟨p, hp⟩ : ∃ p, l[i]? = some p := ⟨l[i]'(by omega), List.getElem?_eq_getElem _⟩
      have hc := (HL.out.kept HO.out.below).at hp
      have hc0 := hc 0 _ rfl
      have hc1 := hc 1 _ rfl
      simp only [Nat.add_zero] at hc0
      have htk : (l.take (i + 1)).filter (notIn s) = (l.take i).filter (notIn s) ++ (if notIn s p = true then [p] else []) := by
        rw [List.take_add_one, hp, List.filter_append]
        congr 1
        show List.filter _ [p] = _
        rw [List.filter_cons]
        rfl
      have HTK := Lib.hid htk
      have HPP := Lib.hid hp
      clear hc hp htk
      go_wp2_with fail
      refine Calls.mono (rget_any B m d s p.k wr (HS.out.kept HO.out.below) (by omega)) ?_
      rintro e w1 ⟨y, rfl, hb1⟩
      have HO1 := Lib.hid ((HO.out.kept hb1).alloc (.cells #[.string y.k, .string y.t, .bool y.g] 41))
      clear hc0 hc1 HO hb1
      go_upto_region 6 with (fail)
      generalize hW : World.alloc w1 _ = w2 at *
      clear hW
      have hc := (HL.out.kept HO1.out.below).at HPP.out
      have hc0 := hc 0 _ rfl
      have hc1 := hc 1 _ rfl
      simp only [Nat.add_zero] at hc0
      clear hc
      cases hk : (lk W3.k s p.k).isSome with
      | true =>
        have HN : Hid (notIn s p = false) := Lib.hid (by unfold notIn; rw [hk]; rfl)
        have HE : Hid ((l.take (i + 1)).filter (notIn s) = (l.take i).filter (notIn s)) := Lib.hid (by rw [HTK.out, HN.out]; simp)
        clear hk
        go_wp2_with fail
        go_roundw
        case rel => exact ⟨i + 1, q, c5, A5, by omega, by go_num, rfl, by omega, Lib.hid (by rw [HE.out]; exact HO1.out), Lib.hid (by rw [HE.out]; exact HQ.out)⟩
        case measure => simp [intOf]; omega
      | false =>
        have HN : Hid (notIn s p = true) := Lib.hid (by unfold notIn; rw [hk]; rfl)
        have HE : Hid ((l.take (i + 1)).filter (notIn s) = (l.take i).filter (notIn s) ++ [p]) := Lib.hid (by rw [HTK.out, HN.out]; simp)
        clear hk
        go_wp2_with (at_builtin; refine wpList_out rfl _ _ 22 rfl 28 (.agg #[.string ⟨#[]⟩, .string ⟨#[]⟩]) 2 32 Try.underlying22 info_rp rfl (by decide) _ _ _ rfl (HO1.out.alloc _) ⟨w2.heap.size, 0, none⟩ 1 1 p.cells rfl rfl (one_row _ _ _) p.one (by simp only [maxLen]; omega) (by omega) (by decide) ?_; intro g5 k5 w5 ho5 hg5 hw5)
        clear hg5 hw5
        go_roundw
        case rel => exact ⟨i + 1, q + 1, k5, _, by omega, by go_num, rfl, by omega, Lib.hid (by rw [HE.out, flat_snoc]; exact ho5.out), Lib.hid (by rw [HE.out, List.length_append, HQ.out]; rfl)⟩
        case measure => simp [intOf]; omega
    · obtain rfl : i = n := by omega
      obtain ⟨O, hO⟩ : ∃ O, O = l.filter (notIn s) := ⟨_, rfl⟩
      have HO1 : Hid (Out w wr 28 2 (.slice A5 q c5) q (O.flatMap P2.cells)) := Lib.hid (by have := HO.out; rw [List.take_of_length_le (by omega), ← hO] at this; exact this)
      have HQ1 : Hid (O.length = q) := Lib.hid (by have := HQ.out; rw [List.take_of_length_le (by omega), ← hO] at this; exact this)
      have HRO : Hid (Rs P2.k O) := Lib.hid (by rw [hO]; exact filter_rs HRL.out _)
      have HGO : Hid (G = s.foldl acc1 O) := Lib.hid (by rw [HG.out, hO]; rfl)
      clear HO HQ hO
      go_wp2_with fail
      go_loopw [5, 9] (fun v5 v9 wr => ∃ (j q c5 : Nat) (A5 : Option Addr), j ≤ m ∧ v9 = .int .i64 j ∧ v5 = .slice A5 q c5 ∧ q ≤ i + j ∧ Hid (Out w wr 28 2 (.slice A5 q c5) q (((s.take j).foldl acc1 O).flatMap P2.cells)) ∧ Hid (((s.take j).foldl acc1 O).length = q)) (fun _ v9 _ => m - (intOf v9).toNat)
      case atStart => exact ⟨0, q, c5, A5, by omega, rfl, rfl, by omega, HO1, HQ1⟩
      case round =>
        clear HO1 HQ1 hq
        obtain ⟨j, q, c5, A5, hj, rfl, rfl, hq, HO, HQ⟩ := hrel
        by_cases hjm : j < m
        · obtain ⟨b, off, rfl⟩ := HS.out.addr (by omega)
          obtain ⟨x, hx⟩ : ∃ x, s[j]? = some x := ⟨s[j]'(by omega), List.getElem?_eq_getElem _⟩
          have hc := (HS.out.kept HO.out.below).at hx
          have hc0 := hc 0 _ rfl
          have hc1 := hc 1 _ rfl
          have hc2 := hc 2 _ rfl
          simp only [Nat.add_zero] at hc0
          obtain ⟨T, hT⟩ : ∃ T, T = (s.take j).foldl acc1 O := ⟨_, rfl⟩
          have htk : (s.take (j + 1)).foldl acc1 O = acc1 T x := by
            rw [List.take_add_one, hx, List.foldl_append, ← hT]
            rfl
          have HTK := Lib.hid htk
          have HRT : Hid (Rs P2.k T) := Lib.hid (by rw [hT]; exact fold_rs HRO.out)
          rw [← hT] at HO HQ
          clear hc hx htk hT
          cases hg : x.g with
          | true =>
            rw [hg] at hc2
            have HE : Hid ((s.take (j + 1)).foldl acc1 O = T) := Lib.hid (by rw [HTK.out]; unfold acc1; rw [if_pos hg])
            clear hg
            go_wp2_with fail
            go_roundw
            case rel => exact ⟨j + 1, q, c5, A5, by omega, by go_num, rfl, by omega, Lib.hid (by rw [HE.out]; exact HO.out), Lib.hid (by rw [HE.out]; exact HQ.out)⟩
            case measure => simp [intOf]; omega
          | false =>
            rw [hg] at hc2
            have HE : Hid ((s.take (j + 1)).foldl acc1 O = Set.put P2.k T (toP x)) := Lib.hid (by rw [HTK.out]; unfold acc1; rw [if_neg (by rw [hg]; simp)])
            clear hg
            obtain ⟨_, _, hAq, _, hrq⟩ := own_rows P2.len HO.out HQ.out (by simp only [maxLen]; omega)
            cases hAq
            have HRQ := Lib.hid hrq
            clear hrq
            go_wp2_with fail
            go_still_tail 12, (by kernel_rfl)
            go_wp2_with fail
            refine Calls.mono (rput_any A5 q c5 T (toP x) _ (rows_N HRQ.out 1) (by omega) HRT.out) ?_
            rintro e w1 ⟨v1, q1, rfl, HO1, HQ1⟩
            have HO2 := Lib.hid (HO1.out.mono (W := w) HO.out.below.drew)
            have hq1 : q1 ≤ q + 1 := by
              have h1 := HQ1.out
              rw [length_put HRT.out, HQ.out] at h1
              split at h1 <;> omega
            obtain ⟨A1, k1, rfl⟩ := HO2.out.slice
            clear HO1 hc0 hc1 hc2
            go_wp2_with fail
            go_roundw
            case rel => exact ⟨j + 1, q1, k1, A1, by omega, by go_num, rfl, by omega, Lib.hid (by rw [HE.out]; exact HO2.out), Lib.hid (by rw [HE.out]; exact HQ1.out)⟩
            case measure => simp [intOf]; omega
        · obtain rfl : j = m := by omega
          have HO1 : Hid (Out w wr 28 2 (.slice A5 q c5) q (G.flatMap P2.cells)) := Lib.hid (by have := HO.out; rw [List.take_of_length_le (by omega), ← HGO.out] at this; exact this)
          have HQ1 : Hid (G.length = q) := Lib.hid (by have := HQ.out; rw [List.take_of_length_le (by omega), ← HGO.out] at this; exact this)
          go_wp2_with fail
          go_ret
          exact ⟨_, q, rfl, HO1, HQ1⟩
end Go.Proofs.Ythbmjhdgflpmgaa.ROver
