/- heap.Push and heap.Pop over the queue (stamp). -/
import Derived.Test.YtfbldpppjnnblaaQ4
namespace Go.Proofs.Ytfbldpppjnnblaa.Q
set_option maxRecDepth 100000
open Go.RowKit Go.Proofs.Ytfbldpppjnnblaa.Mem Go.Proofs.Ytfbldpppjnnblaa.HeapLaw

/-- The stamps of a queue's elements, which stand apart from it. -/
def KeysQ (w : World) (b : Nat) (qv : Value) (key : Nat → Int) (q : List Nat) : Prop :=
  ∀ y ∈ q, y ≠ b ∧ qv.ownBlock ≠ some y ∧ w.cell? ⟨y, 0, none⟩ = some (.int .u64 (key y))

theorem frozen_kept {F : Nat → Prop} {w w' : World} (hc : Chg F w w') {a : Addr} {v : Value} (h : w.cell? a = some v) (hb : ¬ F a.block) : w'.frozen? a = w.frozen? a :=
  World.frozen?_of_block (hc.block a.block (World.block_lt_of_cell? w a h) hb)

set_option maxHeartbeats 400000 in
theorem hpush_any (b o x : Nat) (key : Nat → Int) (qv : Value) (q : List Nat) (w : World) (hQ : Que w b o qv q) (hK : KeysQ w b qv key (q ++ [x])) (hH : HeapN key q q.length) (hn : q.length < 1000000) :
    Calls Try.prog 50 #[.iface 112 (.pointer (some ⟨b, o, none⟩)), .iface 87 (ptr x)] w fun e w' => e = .returned (.tuple #[]) ∧
      ∃ qv' q', Que w' b o qv' q' ∧ q'.Perm (q ++ [x]) ∧ HeapN key q' q'.length ∧ (∀ g, qv'.ownBlock = some g → qv.ownBlock = some g ∨ w.heap.size ≤ g) ∧ Chg (fun k => k = b ∨ qv.ownBlock = some k) w w' ∧ Upd w w' b o qv' := by
  have HQ := Lib.hid hQ
  have HK := Lib.hid hK
  have HH := Lib.hid hH
  clear hQ hK hH
  have hm := m_push ⟨b, o, none⟩ w
  go_enter Try.func50, Try.ntmps50
  go_wp2_with fail
  refine Calls.mono (qpush_any b o x qv q w HQ.out hn) ?_
  rintro e w1 ⟨rfl, qv1, hQ1, hw1, hc1, hu1⟩
  obtain ⟨g, n, c, rest, rfl, hR1, hg1⟩ := hQ1.row (by simp)
  have hl : q.length + 1 = n := by rw [← hR1.len]; simp
  have hk1 : Keys w1 g key (q ++ [x]) := fun y hy => by
    obtain ⟨h1, h2, h3⟩ := HK.out y hy
    refine ⟨fun e => ?_, hc1.cell h3 (by rintro (h | h); exact h1 h; exact h2 h)⟩
    have hlt : y < w.heap.size := World.block_lt_of_cell? w _ h3
    rcases hw1 g hg1 with h | h
    · exact h2 (by rw [h, e])
    · omega
  have HU := Lib.hid (UpInv.start key q x HH.out)
  have HK1 := Lib.hid hk1
  have HR1 := Lib.hid hR1
  have HW1 := Lib.hid hw1
  have HC1 := Lib.hid hc1
  have HF := Lib.hid hQ1.free
  have HU1 := Lib.hid hu1
  have hm2 := m_len ⟨b, o, none⟩ w1 _ hR1.head
  clear hk1 hR1 hw1 hc1 hQ1 hg1 hu1
  have HL := Lib.hid hl
  clear hl
  go_wp2_with fail
  refine Calls.mono (len_any (some ⟨g, 0, none⟩) n c w1) ?_
  rintro e w2 ⟨rfl, rfl⟩
  have hn1 : n ≤ 1000000 := by have := HL.out; omega
  have hn0 : 1 ≤ n := by have := HL.out; omega
  go_wp2_with fail
  have e1 : ((n : Int) - 1) = ((n - 1 : Nat) : Int) := by omega
  rw [e1]
  refine Calls.mono (up_any b o g n c (n - 1) key (q ++ [x]) rest w1 HR1.out HK1.out (by omega) (by unfold maxLen; omega) (by have := HU.out; have h2 := HL.out; rw [show n - 1 = q.length by omega]; exact this)) ?_
  rintro e w2 ⟨rfl, q2, hR2, hp2, hh2, hc2⟩
  go_wp2_with fail
  go_end0
  have hbg : b ≠ g := HR1.out.ne
  have hf2 : w2.frozen? ⟨b, o, none⟩ = false := (frozen_kept hc2 HR1.out.head hbg).trans HF.out
  refine ⟨rfl, _, q2, Que.of_row hR2 hf2, hp2, by rw [hR2.len]; exact hh2, HW1.out, ?_, fun T cs h => (HU1.out T cs h).kept hc2 hbg⟩
  refine HC1.out.trans hc2 ?_
  intro i hi e
  subst e
  rcases HW1.out i rfl with h | h
  · exact .inr h
  · omega

theorem swp_last {q : List Nat} {m : Nat} (hl : q.length = m + 1) : (swp q 0 m).getD m 0 = q.getD 0 0 := by
  rw [swp_getD q 0 m m (by omega) (by omega), if_pos rfl]

set_option maxHeartbeats 400000 in
theorem hpop_any (b o : Nat) (key : Nat → Int) (qv : Value) (q : List Nat) (w : World) (hQ : Que w b o qv q) (hK : KeysQ w b qv key q) (hH : HeapN key q q.length) (h0 : 0 < q.length) (hn : q.length < 1000000) :
    Calls Try.prog 66 #[.iface 112 (.pointer (some ⟨b, o, none⟩))] w fun e w' => (∃ v, e = .returned v) ∧
      ∃ qv' q', Que w' b o qv' q' ∧ (q.getD 0 0 :: q').Perm q ∧ HeapN key q' q'.length ∧ qv'.ownBlock = qv.ownBlock ∧ Chg (fun k => k = b ∨ qv.ownBlock = some k) w w' ∧ Upd w w' b o qv' := by
  obtain ⟨g, n, c, rest, rfl, hR, hg⟩ := hQ.row h0
  have hl : q.length = n := hR.len
  obtain ⟨m, rfl⟩ : ∃ m, n = m + 1 := ⟨n - 1, by omega⟩
  have hk1 : Keys w g key q := fun y hy => ⟨fun e => (hK y hy).2.1 (by rw [hg, e]), (hK y hy).2.2⟩
  have hfree := Lib.hid hQ.free
  have hm1 := m_len ⟨b, o, none⟩ w _ hR.head
  have hm2 := m_swap ⟨b, o, none⟩ w _ hR.head
  have HQ := Lib.hid hQ
  have HK := Lib.hid hk1
  have HH := Lib.hid hH
  have HR := Lib.hid hR
  have HL := Lib.hid hl
  have hm : m < 1000000 := by omega
  clear hQ hK hH hR hk1 hl hg hn
  go_enter Try.func66, Try.ntmps66
  go_wp2_with fail
  refine Calls.mono (len_any (some ⟨g, 0, none⟩) (m + 1) c w) ?_
  rintro e w1 ⟨rfl, rfl⟩
  go_wp2_with fail
  refine Calls.mono (swap_row (i := 0) (k := m) HR.out rfl rfl (by omega) (by omega)) ?_
  rintro e w1 ⟨rfl, hR1, hc1⟩
  have HR1 := Lib.hid hR1
  have HC1 := Lib.hid hc1
  have HK1 := Lib.hid (HK.out.kept hc1 (q' := swp q 0 m) (fun x hx => (swp_perm q 0 m (by have := HL.out; omega) (by have := HL.out; omega)).mem_iff.1 hx))
  clear hR1 hc1 hm1 hm2
  go_wp2_with fail
  refine Calls.mono (down_any b o g (m + 1) c m key (swp q 0 m) rest w1 HR1.out HK1.out (by omega) (by omega) (DownInv.start (by have := HH.out; rwa [HL.out] at this) (by have := HL.out; omega))) ?_
  rintro e w2 ⟨⟨r, rfl⟩, q2, hR2, hp2, hh2, hlast, hc2⟩
  have hfr1 : w1.frozen? ⟨b, o, none⟩ = false := (frozen_kept HC1.out HR.out.head HR.out.ne).trans hfree.out
  have hfr2 : w2.frozen? ⟨b, o, none⟩ = false := (frozen_kept hc2 HR1.out.head HR1.out.ne).trans hfr1
  have hm3 := m_pop ⟨b, o, none⟩ w2
  have HR2 := Lib.hid hR2
  have HC2 := Lib.hid hc2
  have HP2 := Lib.hid hp2
  have HH2 := Lib.hid hh2
  have HE2 := Lib.hid hlast
  have HF2 := Lib.hid hfr2
  clear hR2 hc2 hp2 hh2 hlast hfr1 hfr2
  go_wp2_with fail
  refine Calls.mono (qpop_any b o g (m + 1) c q2 rest w2 HR2.out HF2.out (by omega)) ?_
  rintro e w3 ⟨⟨v, rfl⟩, hQ3, hc3, hu3⟩
  go_wp2_with fail
  go_ret
  have hl2 : q2.length = m + 1 := HR2.out.len
  refine ⟨⟨_, rfl⟩, _, q2.take m, hQ3, ?_, ?_, rfl, ?_, fun T cs h => hu3 T cs ((h.kept HC1.out HR.out.ne).kept HC2.out HR1.out.ne)⟩
  · have e1 : q2 = q2.take m ++ [q.getD 0 0] := by
      have h1 := HE2.out
      rw [swp_last HL.out] at h1
      rw [← h1]
      have := List.take_append_drop m q2
      have h2 : q2.drop m = [q2.getD m 0] := by
        rw [List.drop_eq_getElem_cons (by omega), List.drop_eq_nil_of_le (by omega)]
        simp [List.getD_eq_getElem?_getD, List.getElem?_eq_getElem (show m < q2.length by omega)]
      rw [h2] at this
      exact this.symm
    have h3 : (q.getD 0 0 :: q2.take m).Perm q2 := by
      rw [e1]
      simp only [List.take_left' (show (q2.take m).length = m by simp; omega)]
      exact (List.perm_append_singleton _ _).symm
    exact h3.trans (HP2.out.trans (swp_perm q 0 m (by have := HL.out; omega) (by have := HL.out; omega)))
  · have : (q2.take m).length = m := by simp; omega
    rw [this]
    refine HH2.out.congr (fun k hk => ?_)
    simp [List.getD_eq_getElem?_getD, hk]
  · refine (HC1.out.mono (fun i _ e => ?_)).trans ((HC2.out.mono (G := fun k => k = b ∨ k = g) (fun i _ e => .inr e)).trans hc3 (fun i _ e => .inl e)) ?_
    · subst e; exact .inr rfl
    · intro i _ e
      rcases e with e | e
      · exact .inl e
      · subst e; exact .inr rfl
end Go.Proofs.Ytfbldpppjnnblaa.Q
