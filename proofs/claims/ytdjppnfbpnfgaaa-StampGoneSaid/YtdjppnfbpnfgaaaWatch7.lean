/- The watch (stamp) in one call's own memory; what 'alive' answers. -/
import Derived.Test.YtdjppnfbpnfgaaaWatch6
namespace Go.Proofs.Ytdjppnfbpnfgaaa.Watch
open Go.RowKit Go.Proofs.Ytdjppnfbpnfgaaa.Mem Go.Proofs.Ytdjppnfbpnfgaaa.HeapLaw Go.Proofs.Ytdjppnfbpnfgaaa.Q

/-- A watch whose blocks are all newer than w0, of which nothing has turned. -/
def Live (w0 w : World) (b N : Nat) (st : List (Option Int)) : Prop := ∃ F, WatchAt w b F N st ∧ (∀ k, F k → w0.heap.size ≤ k) ∧ Below w0.heap.size w0 w

theorem below_chg {F : Nat → Prop} {w0 w w' : World} (h : Below w0.heap.size w0 w) (hc : Chg F w w') (hF : ∀ k, F k → w0.heap.size ≤ k) : Below w0.heap.size w0 w' :=
  h.trans (hc.below h.size (fun k hk f => by have := hF k f; omega))

theorem Live.drew {w0 w : World} {b N : Nat} {st : List (Option Int)} (h : Live w0 w b N st) : Live w0 w.drew b N st := by
  obtain ⟨F, h1, h2, h3⟩ := h
  exact ⟨F, h1.kept ((Chg.refl (fun _ => False) w).drew) (fun _ _ f => f), h2, h3.drew⟩

theorem Live.below {w0 w : World} {b N : Nat} {st : List (Option Int)} (h : Live w0 w b N st) : Below w0.heap.size w0 w := by
  obtain ⟨F, h1, h2, h3⟩ := h
  exact h3

theorem Live.kept {w0 w w' : World} {b N : Nat} {st : List (Option Int)} (h : Live w0 w b N st) (hb : Below w.heap.size w w') : Live w0 w' b N st := by
  obtain ⟨F, h1, h2, h3⟩ := h
  exact ⟨F, h1.kept (Chg.of_below (F := fun _ => False) hb) (fun _ _ f => f), h2, h3.trans (hb.mono h3.size)⟩

theorem Live.new (w0 w : World) (hb : Below w0.heap.size w0 w) : Live w0 (w.alloc (.cells #[.pointer none, .pointer none, .pointer none, .pointer none, .pointer none, .pointer none, .pointer none, .pointer none, .slice none 0 0] 30)) w.heap.size 0 (List.replicate 8 none) :=
  ⟨_, WatchAt.new (Cells.new w (List.replicate 8 (.pointer none) ++ [.slice none 0 0]) _), fun k e => by subst e; exact hb.size, hb.alloc hb.size _⟩

theorem open_yes' {w0 w : World} {b N : Nat} {st : List (Option Int)} (i : Nat) (x : Int) (h : Live w0 w b N st) (hN : N < 1000000) (hi : st[i]? = some none) (hlo : ∀ j, j < i → st[j]? ≠ some none) :
    Calls Try.prog 9 #[ptr b, .int .u64 x] w fun e w' => e = .returned (.tuple #[.int .i64 i, .int .i64 0]) ∧ Hid (Live w0 w' b (N + 1) (st.set i (some x))) := by
  obtain ⟨F, h1, h2, h3⟩ := h
  refine Calls.mono (open_yes b F N st i x w h1 hN hi hlo) ?_
  rintro e w' ⟨rfl, ⟨F', h4, h5⟩, h6⟩
  exact ⟨rfl, F', h4, fun k hk => (h5 k hk).elim (h2 k) (fun h => Nat.le_trans h3.size h), below_chg h3 h6 h2⟩

theorem open_no' {w0 w : World} {b N : Nat} {st : List (Option Int)} (x : Int) (h : Live w0 w b N st) (hf : ∀ i : Nat, st[i]? ≠ some none) :
    Calls Try.prog 9 #[ptr b, .int .u64 x] w fun e w' => e = .returned (.tuple #[.int .i64 0, .int .i64 6]) ∧ w = w' := by
  obtain ⟨F, h1, h2, h3⟩ := h
  exact open_no b F N st x w h1 hf

theorem least' {w0 w : World} {b N : Nat} {st : List (Option Int)} (none n : Int) (h : Live w0 w b N st) (hN : N < 1000000) (hl : IsLeast st none n) :
    Calls Try.prog 13 #[ptr b, .int .u64 none] w fun e w' => e = .returned (.int .u64 n) ∧ Hid (Live w0 w' b N st) := by
  obtain ⟨F, h1, h2, h3⟩ := h
  refine Calls.mono (least_any b F N st none w h1 hN) ?_
  rintro e w' ⟨⟨m, rfl, hm⟩, ⟨F', h4, h5⟩, h6⟩
  exact ⟨by rw [hm.unique hl], F', h4, fun k hk => h2 k (h5 k hk), below_chg h3 h6 h2⟩

theorem close_yes' {w0 w : World} {b N : Nat} {st : List (Option Int)} (I : Int) (h : Live w0 w b N st) (hr : hasB st I = true) :
    Calls Try.prog 11 #[ptr b, .int .i64 I] w fun e w' => e = .returned (.int .i64 0) ∧ Hid (Live w0 w' b N (st.set I.toNat none)) := by
  obtain ⟨F, h1, h2, h3⟩ := h
  refine Calls.mono (close_yes b F N st I w h1 hr) ?_
  rintro e w' ⟨rfl, h4, h6⟩
  exact ⟨rfl, F, h4, h2, below_chg h3 h6 h2⟩

theorem close_no' {w0 w : World} {b N : Nat} {st : List (Option Int)} (I : Int) (h : Live w0 w b N st) (hr : hasB st I = false) :
    Calls Try.prog 11 #[ptr b, .int .i64 I] w fun e w' => e = .returned (.int .i64 7) ∧ w = w' := by
  obtain ⟨F, h1, h2, h3⟩ := h
  exact close_no b F N st I w h1 hr

theorem at_no' {w0 w : World} {b N : Nat} {st : List (Option Int)} (I : Int) (h : Live w0 w b N st) (hr : hasB st I = false) :
    Calls Try.prog 17 #[ptr b, .int .i64 I] w fun e w' => e = .returned (.tuple #[.int .u64 0, .bool false]) ∧ w = w' := by
  obtain ⟨F, h1, h2, h3⟩ := h
  exact at_no b F N st I w h1 hr

theorem at_yes' {w0 w : World} {b N : Nat} {st : List (Option Int)} (I x : Int) (h : Live w0 w b N st) (hr : hasB st I = true) (hx : st.getD I.toNat none = some x) :
    Calls Try.prog 17 #[ptr b, .int .i64 I] w fun e w' => e = .returned (.tuple #[.int .u64 x, .bool true]) ∧ w = w' := by
  obtain ⟨F, h1, h2, h3⟩ := h
  exact at_yes b F N st I x w h1 hr hx

theorem len' {w0 w : World} {b N : Nat} {st : List (Option Int)} (h : Live w0 w b N st) :
    Calls Try.prog 15 #[ptr b] w fun e w' => e = .returned (.int .i64 (cntB st)) ∧ w = w' := by
  obtain ⟨F, h1, h2, h3⟩ := h
  exact len_any' b F N st w h1

theorem least_all {st : List (Option Int)} {n : Int} (h : ∀ o ∈ st, ∀ x, o = some x → n ≤ x) : ∀ (i : Nat) x, st[i]? = some (some x) → n ≤ x :=
  fun _ x hx => h _ (List.mem_of_getElem? hx) x rfl

set_option maxHeartbeats 1000000 in
theorem alive_true (w : World) :
    Calls Try.prog 8 #[] w fun e w' => e = .returned (.bool true) ∧ Below w.heap.size w w' := by
  have HL := Lib.hid (Live.new w w (Below.refl _ _))
  go_enter Try.func8, Try.ntmps8
  go_wp2_with fail
  refine Calls.mono (open_yes' 0 5 HL.out (by decide) rfl (by simp)) ?_
  rintro e w1 ⟨rfl, H1⟩
  clear HL
  have HL : Hid (Live w w1 w.heap.size 1 [some 5, none, none, none, none, none, none, none]) := H1
  clear H1
  go_wp2_with fail
  refine Calls.mono (open_yes' 1 3 HL.out (by decide) rfl (by intro j hj; obtain rfl : j = 0 := (by omega); simp)) ?_
  rintro e w2 ⟨rfl, H1⟩
  clear HL
  have HL : Hid (Live w w2 w.heap.size 2 [some 5, some 3, none, none, none, none, none, none]) := H1
  clear H1
  go_wp2_with fail
  refine Calls.mono (least' 9 3 HL.out (by decide) (.inl ⟨⟨1, rfl⟩, least_all (by simp)⟩)) ?_
  rintro e w3 ⟨rfl, H1⟩
  clear HL
  go_wp2_with fail
  refine Calls.mono (close_yes' 1 H1.out rfl) ?_
  rintro e w4 ⟨rfl, H2⟩
  have HL : Hid (Live w w4 w.heap.size 2 [some 5, none, none, none, none, none, none, none]) := H2
  clear H1 H2
  go_wp2_with fail
  refine Calls.mono (at_yes' 0 5 HL.out rfl rfl) ?_
  rintro e w5 ⟨rfl, rfl⟩
  go_wp2_with fail
  refine Calls.mono (at_no' 1 HL.out rfl) ?_
  rintro e w5 ⟨rfl, rfl⟩
  go_wp2_with fail
  refine Calls.mono (least' 9 5 HL.out (by decide) (.inl ⟨⟨0, rfl⟩, least_all (by simp)⟩)) ?_
  rintro e w5 ⟨rfl, H1⟩
  go_wp2_with fail
  refine Calls.mono (len' H1.out) ?_
  rintro e w6 ⟨rfl, rfl⟩
  have hc : cntB [some 5, none, none, none, none, none, none, none] = 1 := rfl
  go_wp2_with fail
  refine Calls.mono (close_no' 7 H1.out rfl) ?_
  rintro e w6 ⟨rfl, rfl⟩
  go_wp2_with fail
  go_ret
  exact ⟨rfl, H1.out.below⟩
end Go.Proofs.Ytdjppnfbpnfgaaa.Watch
