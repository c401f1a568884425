/- The heap's functions over the queue (stamp), walked: down, and the queue's own Push and Pop. -/
import Derived.Test.YtfbldpppjnnblaaQ2
namespace Go.Proofs.Ytfbldpppjnnblaa.Q
set_option maxRecDepth 100000
open Go.RowKit Go.Proofs.Ytfbldpppjnnblaa.Mem Go.Proofs.Ytfbldpppjnnblaa.HeapLaw


set_option maxHeartbeats 1000000 in
theorem down_any (b o g n c m : Nat) (key : Nat → Int) (q : List Nat) (rest : List Value) (w : World) (hr : Row w b o g n c q rest) (hk : Keys w g key q) (hm : m < n) (hn : n ≤ 4611686018427387903) (hu : DownInv key q 0 m) :
    Calls Try.prog 69 #[.iface 112 (.pointer (some ⟨b, o, none⟩)), .int .i64 0, .int .i64 m] w fun e w' => (∃ r, e = .returned (.bool r)) ∧ ∃ q', Row w' b o g n c q' rest ∧ q'.Perm q ∧ HeapN key q' m ∧ q'.getD m 0 = q.getD m 0 ∧ Chg (· = g) w w' := by
  go_enter Try.func69, Try.ntmps69
  go_wp2_with fail
  have HR := Lib.hid hr
  have HK := Lib.hid hk
  have HU := Lib.hid hu
  clear hr hk hu
  go_loopw [7] (fun v7 w' => ∃ (i : Nat) (q' : List Nat), v7 = .int .i64 i ∧ i < n ∧ Hid (Row w' b o g n c q' rest) ∧ Hid (q'.Perm q) ∧ Hid (DownInv key q' i m) ∧ Hid (q'.getD m 0 = q.getD m 0) ∧ Hid (Chg (· = g) w w')) (fun v7 _ => n - (intOf v7).toNat)
  case atStart => exact ⟨0, q, rfl, by omega, HR, Lib.hid (List.Perm.refl _), HU, Lib.hid rfl, Lib.hid (Chg.refl _ _)⟩
  case round =>
    obtain ⟨i, q', rfl, hi, HR', HP, HU', HE, HC⟩ := hrel
    have hh := HR'.out.head
    have HL := Lib.hid HR'.out.len
    by_cases h0 : m ≤ 2 * i + 1
    · have hb : decide ((m : Int) ≤ 2 * i + 1) = true := decide_eq_true (by omega)
      go_wp2_with fail
      go_ret
      exact ⟨⟨_, rfl⟩, q', HR'.out, HP.out, HU'.out.leaf h0, HE.out, HC.out⟩
    · have hb : decide ((m : Int) ≤ 2 * i + 1) = false := decide_eq_false (by omega)
      have hb2 : decide ((2 * i + 1 : Int) < 0) = false := decide_eq_false (by omega)
      have HK1 := Lib.hid (HK.out.kept HC.out (fun x hx => (HP.out.mem_iff.1 hx)))
      have hm2 := fun t => m_less ⟨b, o, none⟩ (wr.drewN t) _ hh
      by_cases h2 : 2 * i + 2 < m
      · have hb3 : decide ((2 * i + 1 + 1 : Int) < m) = true := decide_eq_true (by omega)
        have hm1 := m_less ⟨b, o, none⟩ wr _ hh
        by_cases hl : key (q'.getD (2 * i + 2) 0) < key (q'.getD (2 * i + 1) 0)
        · have hlk : LessKid key q' i (2 * i + 2) m := ⟨.inr rfl, h2, fun k hk _ => by rcases hk with rfl | rfl <;> omega⟩
          have HT0 := Lib.hid hl
          clear hl
          go_wp2_with fail
          refine Calls.mono (less_row (i := 2 * i + 2) (k := 2 * i + 1) true HR'.out HK1.out (by omega) (by omega) (by omega) (by omega) (decide_eq_true HT0.out)) ?_
          rintro e w1 ⟨rfl, t, rfl⟩
          have HLK := Lib.hid hlk
          clear hlk
          by_cases hlt : key (q'.getD (2 * i + 2) 0) < key (q'.getD i 0)
          · have HT := Lib.hid hlt
            clear hlt
            go_wp2_with fail
            refine Calls.mono (less_row (i := 2 * i + 2) (k := i) (w := wr.drewN t) true (HR'.out.drewN t) HK1.out (by omega) (by omega) (by omega) (by omega) (decide_eq_true HT.out)) ?_
            rintro e w1 ⟨rfl, t1, rfl⟩
            have hm3 := m_swap ⟨b, o, none⟩ (wr.drewN (t + t1)) _ hh
            go_wp2_with fail
            refine Calls.mono (swap_row (i := i) (k := 2 * i + 2) (w := wr.drewN (t + t1)) (rest := rest) (q := q') (HR'.out.drewN (t + t1)) (by omega) (by omega) (by omega) (by omega)) ?_
            rintro e w1 ⟨rfl, hR2, hC2⟩
            have HR2 := Lib.hid hR2
            have HC2 := Lib.hid hC2
            clear hR2 hC2
            go_wp2_with fail
            go_roundw
            case rel => exact ⟨2 * i + 2, _, by go_num, by omega, HR2, Lib.hid ((swp_perm _ _ _ (by have := HL.out; omega) (by have := HL.out; omega)).trans HP.out), Lib.hid (HU'.out.step HLK.out (by have := HL.out; omega) HT.out), Lib.hid (by rw [swp_getD _ _ _ _ (by have := HL.out; omega) (by have := HL.out; omega), if_neg (by omega), if_neg (by omega)]; exact HE.out), Lib.hid (HC.out.trans ((Chg.refl (· = g) wr).drewN (t + t1) |>.trans HC2.out (fun _ _ h => h)) (fun _ _ h => h))⟩
            case measure => simp [intOf]; omega
          · have HT := Lib.hid hlt
            clear hlt
            go_wp2_with fail
            refine Calls.mono (less_row (i := 2 * i + 2) (k := i) (w := wr.drewN t) false (HR'.out.drewN t) HK1.out (by omega) (by omega) (by omega) (by omega) (decide_eq_false (Int.not_lt.2 HT.out))) ?_
            rintro e w1 ⟨rfl, t1, rfl⟩
            go_wp2_with fail
            go_ret
            exact ⟨⟨_, rfl⟩, q', HR'.out.drewN (t + t1), HP.out, HU'.out.done HLK.out (Int.not_lt.2 HT.out), HE.out, HC.out.drewN (t + t1)⟩
        · have hlk : LessKid key q' i (2 * i + 1) m := ⟨.inl rfl, by omega, fun k hk _ => by rcases hk with rfl | rfl <;> omega⟩
          have HT0 := Lib.hid hl
          clear hl
          go_wp2_with fail
          refine Calls.mono (less_row (i := 2 * i + 2) (k := 2 * i + 1) false HR'.out HK1.out (by omega) (by omega) (by omega) (by omega) (decide_eq_false (Int.not_lt.2 HT0.out))) ?_
          rintro e w1 ⟨rfl, t, rfl⟩
          have HLK := Lib.hid hlk
          clear hlk
          by_cases hlt : key (q'.getD (2 * i + 1) 0) < key (q'.getD i 0)
          · have HT := Lib.hid hlt
            clear hlt
            go_wp2_with fail
            refine Calls.mono (less_row (i := 2 * i + 1) (k := i) (w := wr.drewN t) true (HR'.out.drewN t) HK1.out (by omega) (by omega) (by omega) (by omega) (decide_eq_true HT.out)) ?_
            rintro e w1 ⟨rfl, t1, rfl⟩
            have hm3 := m_swap ⟨b, o, none⟩ (wr.drewN (t + t1)) _ hh
            go_wp2_with fail
            refine Calls.mono (swap_row (i := i) (k := 2 * i + 1) (w := wr.drewN (t + t1)) (rest := rest) (q := q') (HR'.out.drewN (t + t1)) (by omega) (by omega) (by omega) (by omega)) ?_
            rintro e w1 ⟨rfl, hR2, hC2⟩
            have HR2 := Lib.hid hR2
            have HC2 := Lib.hid hC2
            clear hR2 hC2
            go_wp2_with fail
            go_roundw
            case rel => exact ⟨2 * i + 1, _, by go_num, by omega, HR2, Lib.hid ((swp_perm _ _ _ (by have := HL.out; omega) (by have := HL.out; omega)).trans HP.out), Lib.hid (HU'.out.step HLK.out (by have := HL.out; omega) HT.out), Lib.hid (by rw [swp_getD _ _ _ _ (by have := HL.out; omega) (by have := HL.out; omega), if_neg (by omega), if_neg (by omega)]; exact HE.out), Lib.hid (HC.out.trans ((Chg.refl (· = g) wr).drewN (t + t1) |>.trans HC2.out (fun _ _ h => h)) (fun _ _ h => h))⟩
            case measure => simp [intOf]; omega
          · have HT := Lib.hid hlt
            clear hlt
            go_wp2_with fail
            refine Calls.mono (less_row (i := 2 * i + 1) (k := i) (w := wr.drewN t) false (HR'.out.drewN t) HK1.out (by omega) (by omega) (by omega) (by omega) (decide_eq_false (Int.not_lt.2 HT.out))) ?_
            rintro e w1 ⟨rfl, t1, rfl⟩
            go_wp2_with fail
            go_ret
            exact ⟨⟨_, rfl⟩, q', HR'.out.drewN (t + t1), HP.out, HU'.out.done HLK.out (Int.not_lt.2 HT.out), HE.out, HC.out.drewN (t + t1)⟩
      · have hb3 : decide ((2 * i + 1 + 1 : Int) < m) = false := decide_eq_false (by omega)
        have hlk : LessKid key q' i (2 * i + 1) m := ⟨.inl rfl, by omega, fun k hk _ => by rcases hk with rfl | rfl <;> omega⟩
        have hm3 := m_less ⟨b, o, none⟩ wr _ hh
        have HLK := Lib.hid hlk
        clear hlk
        by_cases hlt : key (q'.getD (2 * i + 1) 0) < key (q'.getD i 0)
        · have HT := Lib.hid hlt
          clear hlt
          go_wp2_with fail
          refine Calls.mono (less_row (i := 2 * i + 1) (k := i) (w := wr) true HR'.out HK1.out (by omega) (by omega) (by omega) (by omega) (decide_eq_true HT.out)) ?_
          rintro e w1 ⟨rfl, t1, rfl⟩
          have hm3 := m_swap ⟨b, o, none⟩ (wr.drewN (t1)) _ hh
          go_wp2_with fail
          refine Calls.mono (swap_row (i := i) (k := 2 * i + 1) (w := wr.drewN (t1)) (rest := rest) (q := q') (HR'.out.drewN (t1)) (by omega) (by omega) (by omega) (by omega)) ?_
          rintro e w1 ⟨rfl, hR2, hC2⟩
          have HR2 := Lib.hid hR2
          have HC2 := Lib.hid hC2
          clear hR2 hC2
          go_wp2_with fail
          go_roundw
          case rel => exact ⟨2 * i + 1, _, by go_num, by omega, HR2, Lib.hid ((swp_perm _ _ _ (by have := HL.out; omega) (by have := HL.out; omega)).trans HP.out), Lib.hid (HU'.out.step HLK.out (by have := HL.out; omega) HT.out), Lib.hid (by rw [swp_getD _ _ _ _ (by have := HL.out; omega) (by have := HL.out; omega), if_neg (by omega), if_neg (by omega)]; exact HE.out), Lib.hid (HC.out.trans ((Chg.refl (· = g) wr).drewN (t1) |>.trans HC2.out (fun _ _ h => h)) (fun _ _ h => h))⟩
          case measure => simp [intOf]; omega
        · have HT := Lib.hid hlt
          clear hlt
          go_wp2_with fail
          refine Calls.mono (less_row (i := 2 * i + 1) (k := i) (w := wr) false HR'.out HK1.out (by omega) (by omega) (by omega) (by omega) (decide_eq_false (Int.not_lt.2 HT.out))) ?_
          rintro e w1 ⟨rfl, t1, rfl⟩
          go_wp2_with fail
          go_ret
          exact ⟨⟨_, rfl⟩, q', HR'.out.drewN (t1), HP.out, HU'.out.done HLK.out (Int.not_lt.2 HT.out), HE.out, HC.out.drewN (t1)⟩
end Go.Proofs.Ytfbldpppjnnblaa.Q
