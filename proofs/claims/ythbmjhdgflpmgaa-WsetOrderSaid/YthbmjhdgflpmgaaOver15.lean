/- Layer 15's wset: Over. -/
import Derived.Test.YthbmjhdgflpmgaaConv
import Derived.BigQuiet
import Derived.WalkLawsBesides
namespace Go.Proofs.Ythbmjhdgflpmgaa.Over15
open Go.RowKit Go.Joins Go.Proofs.Ythbmjhdgflpmgaa.Mem Go.Proofs.Ythbmjhdgflpmgaa.Read Go.Proofs.Ythbmjhdgflpmgaa.Out Go.Proofs.Ythbmjhdgflpmgaa.Copy Go.Proofs.Ythbmjhdgflpmgaa.Key Go.Proofs.Ythbmjhdgflpmgaa.Set Go.Proofs.Ythbmjhdgflpmgaa.Rows3 Go.Proofs.Ythbmjhdgflpmgaa.Conv

def toP (w : W3) : P2 := ⟨w.k, w.t⟩
abbrev ovW := ov P2.k W3.k W3.g toP

/-- While Over is at work: what is left of both, and what was told so far. -/
structure OvS (w wr : World) (A : Option Addr) (n : Nat) (l : List P2) (B : Option Addr) (m : Nat) (s : List W3) (v : Value) (q : Nat) (out goal : List P2) : Prop where
  ps : RowsOf P2.cells 2 w A n l
  ws : RowsOf W3.cells 3 w B m s
  own : Out w wr 55 2 v q (out.flatMap P2.cells)
  len : out.length = q
  eq : out ++ ovW l s = goal

theorem rows_if {α : Type} {cells : α → List Value} {sz : Nat} {w : World} {b off n c : Nat} {l : List α} (h : RowsOf cells sz w (some ⟨b, off + sz, none⟩) (n - 1) l) (hnc : n ≤ c) : RowsOf cells sz w (if c = 1 then some ⟨b, off, none⟩ else some ⟨b, off + sz, none⟩) (n - 1) l := by
  split
  · exact ⟨h.1, h.2.1, fun h1 => absurd h1 (by omega)⟩
  · exact h

theorem one_row (w : World) (cs : List Value) (T : TypeId) : ∀ (j : Nat) (u : Value), cs[j]? = some u → (w.alloc (.cells cs.toArray T (0, 0))).cell? ((⟨w.heap.size, 0, none⟩ : Addr).add j) = some u := by
  intro j u h
  rw [add_plain, (Cells.new w cs T).cell j]
  exact h

theorem ovW_nil (l : List P2) : ovW l [] = l := ov_nil l
theorem below_N {B : Nat} {a w : World} (h : Below B a w) (n : Nat) : Below B a (w.drewN n) := ⟨h.os, h.tape, h.output, h.size, h.block⟩
theorem out_N {w0 w : World} {e : TypeId} {size : Nat} {v : Value} {n : Nat} {xs : List Value} (h : Out w0 w e size v n xs) (q : Nat) : Out w0 (w.drewN q) e size v n xs := ⟨h.1, below_N h.2 q⟩
theorem rows_N {α : Type} {cells : α → List Value} {sz : Nat} {w : World} {A : Option Addr} {n : Nat} {l : List α} (h : RowsOf cells sz w A n l) (q : Nat) : RowsOf cells sz (w.drewN q) A n l := h
theorem rows_none {α : Type} {cells : α → List Value} {sz : Nat} {w w' : World} {A A' : Option Addr} {n : Nat} {l : List α} (h : RowsOf cells sz w A n l) (h0 : n = 0) : RowsOf cells sz w' A' n l := ⟨h.1, h.2.1, fun h1 => absurd h1 (by omega)⟩
/-- One more told. -/
theorem app1 {w w1 : World} {g k q : Nat} {out : List P2} {x : P2} (h : Out w w1 55 2 (.slice (some ⟨g, 0, none⟩) (q + 1) k) (q + 1) (out.flatMap P2.cells ++ x.cells)) : Out w w1 55 2 (.slice (some ⟨g, 0, none⟩) (q + 1) k) (q + 1) ((out ++ [x]).flatMap P2.cells) := by
  rw [flat_snoc]; exact h

theorem ov_p {p : P2} {t : List P2} {s : List W3} (h : s = [] ∨ ∃ w u, s = w :: u ∧ kl p.k w.k = true) : ovW (p :: t) s = p :: ovW t s := by
  rcases h with rfl | ⟨w, u, rfl, hk⟩
  · rw [ovW_nil, ovW_nil]
  · rw [ovW, ov, if_pos hk]

theorem ov_w {l t : List P2} {w : W3} {u : List W3} (h : (l = [] ∧ t = []) ∨ (∃ p, l = p :: t ∧ p.k = w.k) ∨ (∃ p r, l = p :: r ∧ t = l ∧ kl p.k w.k = false ∧ p.k ≠ w.k)) : ovW l (w :: u) = if w.g = true then ovW t u else toP w :: ovW t u := by
  rcases h with ⟨rfl, rfl⟩ | ⟨p, rfl, hk⟩ | ⟨p, r, rfl, rfl, hk, hne⟩
  · rw [ovW, ov]
  · rw [ovW, ov, hk, if_neg (by rw [kl_irrefl]; simp), if_pos rfl]
  · rw [ovW, ov, if_neg (by rw [hk]; simp), if_neg hne]

theorem drop1 {α : Type} {cells : α → List Value} {sz : Nat} {w : World} {b off n : Nat} {x : α} {l : List α} (h : RowsOf cells sz w (some ⟨b, off, none⟩) n (x :: l)) : RowsOf cells sz w (some ⟨b, off + sz, none⟩) (n - 1) l := by
  have := h.drop 1
  simpa using this

theorem head1 {α : Type} {cells : α → List Value} {sz : Nat} {w : World} {A : Option Addr} {n : Nat} {l : List α} (h : RowsOf cells sz w A n l) (h0 : 0 < n) : ∃ b off x t, A = some ⟨b, off, none⟩ ∧ l = x :: t ∧ ∀ j v, (cells x)[j]? = some v → w.cell? ⟨b, off + j, none⟩ = some v := by
  obtain ⟨b, off, rfl⟩ := h.addr h0
  cases l with
  | nil => have := h.1; simp at this; omega
  | cons x t =>
    refine ⟨b, off, x, t, rfl, rfl, fun j v hj => ?_⟩
    have := h.at (i := 0) rfl j v hj
    simpa using this










set_option maxHeartbeats 2000000 in
set_option maxRecDepth 100000 in
theorem over_any (A : Option Addr) (n c : Nat) (l : List P2) (B : Option Addr) (m d : Nat) (s : List W3) (w : World) (hl : RowsOf P2.cells 2 w A n l) (hn : n ≤ 1000) (hnc : n ≤ c) (hs : RowsOf W3.cells 3 w B m s) (hm : m ≤ 1000) (hmd : m ≤ d) :
    Calls Try.prog 14 #[.slice A n c, .slice B m d] w fun e w' => ∃ v q, e = .returned v ∧ Hid (Out w w' 55 2 v q ((ovW l s).flatMap P2.cells)) ∧ Hid ((ovW l s).length = q) := by
  obtain ⟨G, hG⟩ : ∃ G, G = ovW l s := ⟨_, rfl⟩
  rw [← hG]
  have HS0 : Hid (OvS w w A n l B m s (.slice none 0 0) 0 [] G) := Lib.hid ⟨hl, hs, Out.nil (Below.refl _ _) _ _, rfl, by rw [hG]; rfl⟩
  have HG := Lib.hid hG
  clear hl hs hG
  go_enter Try.func14, Try.ntmps14
  go_wp2_with fail
  go_loopw [0, 1, 5] (fun v0 v1 v5 wr => ∃ (A : Option Addr) (n c : Nat) (l : List P2) (B : Option Addr) (m d : Nat) (s : List W3) (A5 : Option Addr) (q c5 : Nat) (out : List P2), v0 = .slice A n c ∧ v1 = .slice B m d ∧ v5 = .slice A5 q c5 ∧ n ≤ c ∧ m ≤ d ∧ n + m + q ≤ 2000 ∧ Hid (OvS w wr A n l B m s (.slice A5 q c5) q out G)) (fun v0 v1 _ _ => (match v0 with | .slice _ n _ => n | _ => 0) + (match v1 with | .slice _ m _ => m | _ => 0))
  case atStart => exact ⟨A, n, c, l, B, m, d, s, none, 0, 0, [], rfl, rfl, rfl, hnc, hmd, by omega, HS0⟩
  case round =>
    clear HS0 hn hnc hm hmd HG
    obtain ⟨A, n, c, l, B, m, d, s, A5, q, c5, out, rfl, rfl, rfl, hnc, hmd, hq, HS⟩ := hrel
    by_cases hn0 : n = 0
    · subst hn0
      obtain rfl : l = [] := List.eq_nil_of_length_eq_zero HS.out.ps.1
      by_cases hm0 : m = 0
      · subst hm0
        obtain rfl : s = [] := List.eq_nil_of_length_eq_zero HS.out.ws.1
        go_wp2_with fail
        go_ret
        have he := HS.out.eq
        rw [ovW_nil, List.append_nil] at he
        exact ⟨_, q, rfl, Lib.hid (by rw [← he]; exact HS.out.own), Lib.hid (by rw [← he]; exact HS.out.len)⟩
      · have b1 : decide ((0 : Int) < m) = true := decide_eq_true (by omega)
        have b2 : ((m : Int) == 0) = false := by simpa using hm0
        have b1n : decide (0 < m) = true := decide_eq_true (by omega)
        have hm1 : 1 ≤ m := by omega
        obtain ⟨bw, ow, x, u, rfl, rfl, hx⟩ := head1 (HS.out.ws.kept HS.out.own.below) (by omega)
        have hx0 := hx 0 _ rfl
        have hx1 := hx 1 _ rfl
        have hx2 := hx 2 _ rfl
        simp only [Nat.add_zero] at hx0
        have HWD := Lib.hid (rows_if (drop1 HS.out.ws) hmd)
        clear hx
        have HWW : Hid (ovW [] (x :: u) = if x.g = true then ovW [] u else toP x :: ovW [] u) := Lib.hid (ov_w (.inl ⟨rfl, rfl⟩))
        have HPS : Hid (RowsOf P2.cells 2 w A 0 []) := Lib.hid HS.out.ps
        cases hg : x.g with
        | true =>
          have HEQ : Hid (out ++ ovW ([]) u = G) := Lib.hid (by rw [← HS.out.eq, HWW.out, hg]; rfl)
          rw [hg] at hx2
          clear hg
          go_wp2_with fail
          go_quiet (fail)
          obtain ⟨W2, hW2⟩ : ∃ W2, W2 = wr.drewN nq := ⟨_, rfl⟩
          have hy0 : W2.cell? ⟨bw, ow, none⟩ = some (.string x.k) := by rw [hW2]; exact hx0
          have hy1 : W2.cell? ⟨bw, ow + 1, none⟩ = some (.string x.t) := by rw [hW2]; exact hx1
          have hy2 : W2.cell? ⟨bw, ow + 2, none⟩ = some (.bool true) := by rw [hW2]; exact hx2
          have HO2 : Hid (Out w W2 55 2 (.slice A5 q c5) q (out.flatMap P2.cells)) := Lib.hid (by rw [hW2]; exact out_N HS.out.own nq)
          rw [← hW2]
          clear hW2 hx0 hx1 hx2
          go_upto_region 8 with (fail)
          have HB2 : Hid (Cells (W2.alloc (.cells #[.string x.k, .string x.t, .bool true] 45)) W2.heap.size 45 [.string x.k, .string x.t, .bool true]) := Lib.hid (Cells.new W2 [.string x.k, .string x.t, .bool true] _)
          have HO3 := Lib.hid (HO2.out.alloc (.cells #[.string x.k, .string x.t, .bool true] 45))
          clear hy0 hy1 hy2 HO2
          have hb0 := HB2.out.cell 0
          have hb1 := HB2.out.cell 1
          have hb2 := HB2.out.cell 2
          simp only [List.getElem?_cons_zero, List.getElem?_cons_succ] at hb0 hb1 hb2
          generalize hW3 : World.alloc W2 _ = W3 at *
          clear hW3
          go_quiet (fail)
          go_wp2_with fail
          go_roundw
          case rel => exact ⟨_, 0, c, [], _, m - 1, d - 1, u, A5, q, c5, out, rfl, rfl, rfl, by omega, by omega, by omega, Lib.hid ⟨HPS.out, HWD.out, out_N HO3.out nq, HS.out.len, HEQ.out⟩⟩
          case measure => simp; omega
        | false =>
          have HEQ : Hid (out ++ [toP x] ++ ovW ([]) u = G) := Lib.hid (by rw [← HS.out.eq, HWW.out, hg]; simp)
          rw [hg] at hx2
          clear hg
          go_wp2_with fail
          go_quiet (fail)
          obtain ⟨W2, hW2⟩ : ∃ W2, W2 = wr.drewN nq := ⟨_, rfl⟩
          have hy0 : W2.cell? ⟨bw, ow, none⟩ = some (.string x.k) := by rw [hW2]; exact hx0
          have hy1 : W2.cell? ⟨bw, ow + 1, none⟩ = some (.string x.t) := by rw [hW2]; exact hx1
          have hy2 : W2.cell? ⟨bw, ow + 2, none⟩ = some (.bool false) := by rw [hW2]; exact hx2
          have HO2 : Hid (Out w W2 55 2 (.slice A5 q c5) q (out.flatMap P2.cells)) := Lib.hid (by rw [hW2]; exact out_N HS.out.own nq)
          rw [← hW2]
          clear hW2 hx0 hx1 hx2
          go_upto_region 8 with (fail)
          have HB2 : Hid (Cells (W2.alloc (.cells #[.string x.k, .string x.t, .bool false] 45)) W2.heap.size 45 [.string x.k, .string x.t, .bool false]) := Lib.hid (Cells.new W2 [.string x.k, .string x.t, .bool false] _)
          have HO3 := Lib.hid (HO2.out.alloc (.cells #[.string x.k, .string x.t, .bool false] 45))
          clear hy0 hy1 hy2 HO2
          have hb0 := HB2.out.cell 0
          have hb1 := HB2.out.cell 1
          have hb2 := HB2.out.cell 2
          simp only [List.getElem?_cons_zero, List.getElem?_cons_succ] at hb0 hb1 hb2
          generalize hW3 : World.alloc W2 _ = W3 at *
          clear hW3
          go_quiet (fail)
          go_wp2_with (at_builtin; refine wpList_out rfl _ _ 30 rfl 55 (.agg #[.string ⟨#[]⟩, .string ⟨#[]⟩]) 2 32 Try.underlying30 info_wp rfl (by decide) _ _ _ rfl ((out_N HO3.out nq).alloc _) ⟨W3.heap.size, 0, none⟩ 1 1 (toP x).cells rfl rfl (one_row _ _ _) (toP x).one (by simp only [maxLen]; omega) (by omega) (by decide) ?_; intro g5 k5 w5 ho5 hg5 hw5)
          clear hg5 hw5
          go_roundw
          case rel => exact ⟨_, 0, c, [], _, m - 1, d - 1, u, _, q + 1, k5, out ++ [toP x], rfl, rfl, rfl, by omega, by omega, by omega, Lib.hid ⟨HPS.out, HWD.out, app1 ho5.out, by rw [List.length_append, HS.out.len]; rfl, HEQ.out⟩⟩
          case measure => simp; omega
    · have b0 : decide ((0 : Int) < n) = true := decide_eq_true (by omega)
      have b0n : decide (0 < n) = true := decide_eq_true (by omega)
      have hn1 : 1 ≤ n := by omega
      obtain ⟨bp, op, p, t, rfl, rfl, hp⟩ := head1 (HS.out.ps.kept HS.out.own.below) (by omega)
      have hp0 := hp 0 _ rfl
      have hp1 := hp 1 _ rfl
      simp only [Nat.add_zero] at hp0
      have HPD := Lib.hid (rows_if (drop1 HS.out.ps) hnc)
      by_cases hm0 : m = 0
      · subst hm0
        obtain rfl : s = [] := List.eq_nil_of_length_eq_zero HS.out.ws.1
        have HEQ : Hid (out ++ [p] ++ ovW t [] = G) := Lib.hid (by rw [← HS.out.eq, ov_p (.inl rfl)]; simp)
        clear hp
        go_wp2_with fail
        go_quiet (fail)
        go_wp2_with (at_builtin; refine wpList_out rfl _ _ 30 rfl 55 (.agg #[.string ⟨#[]⟩, .string ⟨#[]⟩]) 2 32 Try.underlying30 info_wp rfl (by decide) _ _ _ rfl ((out_N HS.out.own nq).alloc _) ⟨wr.heap.size, 0, none⟩ 1 1 p.cells rfl rfl (one_row _ _ _) p.one (by simp only [maxLen]; omega) (by omega) (by decide) ?_; intro g5 k5 w5 ho5 hg5 hw5)
        clear hg5 hw5
        go_roundw
        case rel => exact ⟨_, n - 1, c - 1, t, _, _, _, _, _, q + 1, k5, out ++ [p], rfl, rfl, rfl, by omega, hmd, by omega, Lib.hid ⟨HPD.out, HS.out.ws, app1 ho5.out, by rw [List.length_append, HS.out.len]; rfl, HEQ.out⟩⟩
        case measure => simp; omega
      · have b1 : decide ((0 : Int) < m) = true := decide_eq_true (by omega)
        have b2 : ((m : Int) == 0) = false := by simpa using hm0
        have b1n : decide (0 < m) = true := decide_eq_true (by omega)
        have hm1 : 1 ≤ m := by omega
        obtain ⟨bw, ow, x, u, rfl, rfl, hx⟩ := head1 (HS.out.ws.kept HS.out.own.below) (by omega)
        have hx0 := hx 0 _ rfl
        have hx1 := hx 1 _ rfl
        have hx2 := hx 2 _ rfl
        simp only [Nat.add_zero] at hx0
        have HWD := Lib.hid (rows_if (drop1 HS.out.ws) hmd)
        clear hx
        cases hk : Op.bytesLess p.k.toList x.k.toList with
        | true =>
          have HEQ : Hid (out ++ [p] ++ ovW t (x :: u) = G) := Lib.hid (by rw [← HS.out.eq, ov_p (.inr ⟨x, u, rfl, hk⟩)]; simp)
          clear hp
          go_wp2_with fail
          go_quiet (fail)
          go_wp2_with (at_builtin; refine wpList_out rfl _ _ 30 rfl 55 (.agg #[.string ⟨#[]⟩, .string ⟨#[]⟩]) 2 32 Try.underlying30 info_wp rfl (by decide) _ _ _ rfl ((out_N HS.out.own nq).alloc _) ⟨wr.heap.size, 0, none⟩ 1 1 p.cells rfl rfl (one_row _ _ _) p.one (by simp only [maxLen]; omega) (by omega) (by decide) ?_; intro g5 k5 w5 ho5 hg5 hw5)
          clear hg5 hw5
          go_roundw
          case rel => exact ⟨_, n - 1, c - 1, t, _, _, _, _, _, q + 1, k5, out ++ [p], rfl, rfl, rfl, by omega, hmd, by omega, Lib.hid ⟨HPD.out, HS.out.ws, app1 ho5.out, by rw [List.length_append, HS.out.len]; rfl, HEQ.out⟩⟩
          case measure => simp; omega
        | false =>
          cases he : (p.k.toList == x.k.toList) with
          | true =>
            have HWW : Hid (ovW (p :: t) (x :: u) = if x.g = true then ovW t u else toP x :: ovW t u) := Lib.hid (ov_w (.inr (.inl ⟨p, rfl, by rw [eq_beq] at he; simpa using he⟩)))
            cases hg : x.g with
            | true =>
              have HEQ : Hid (out ++ ovW (t) u = G) := Lib.hid (by rw [← HS.out.eq, HWW.out, hg]; rfl)
              rw [hg] at hx2
              clear hg
              go_wp2_with fail
              go_quiet (fail)
              obtain ⟨W2, hW2⟩ : ∃ W2, W2 = wr.drewN nq := ⟨_, rfl⟩
              have hy0 : W2.cell? ⟨bw, ow, none⟩ = some (.string x.k) := by rw [hW2]; exact hx0
              have hy1 : W2.cell? ⟨bw, ow + 1, none⟩ = some (.string x.t) := by rw [hW2]; exact hx1
              have hy2 : W2.cell? ⟨bw, ow + 2, none⟩ = some (.bool true) := by rw [hW2]; exact hx2
              have HO2 : Hid (Out w W2 55 2 (.slice A5 q c5) q (out.flatMap P2.cells)) := Lib.hid (by rw [hW2]; exact out_N HS.out.own nq)
              rw [← hW2]
              clear hW2 hx0 hx1 hx2
              go_upto_region 8 with (fail)
              have HB2 : Hid (Cells (W2.alloc (.cells #[.string x.k, .string x.t, .bool true] 45)) W2.heap.size 45 [.string x.k, .string x.t, .bool true]) := Lib.hid (Cells.new W2 [.string x.k, .string x.t, .bool true] _)
              have HO3 := Lib.hid (HO2.out.alloc (.cells #[.string x.k, .string x.t, .bool true] 45))
              clear hy0 hy1 hy2 HO2
              have hq0 := (head1 (HS.out.ps.kept HO3.out.below) (by omega))
              obtain ⟨bp', op', p', t', e1, e2, hq⟩ := hq0
              obtain ⟨rfl, rfl⟩ : p = p' ∧ t = t' := by cases e2; exact ⟨rfl, rfl⟩
              obtain ⟨rfl, rfl⟩ : bp = bp' ∧ op = op' := by cases e1; exact ⟨rfl, rfl⟩
              have hq0 := hq 0 _ rfl
              have hq1 := hq 1 _ rfl
              simp only [Nat.add_zero] at hq0
              clear hq e1 e2 hp hp0 hp1
              have hb0 := HB2.out.cell 0
              have hb1 := HB2.out.cell 1
              have hb2 := HB2.out.cell 2
              simp only [List.getElem?_cons_zero, List.getElem?_cons_succ] at hb0 hb1 hb2
              generalize hW3 : World.alloc W2 _ = W3 at *
              clear hW3
              go_quiet (fail)
              go_wp2_with fail
              go_roundw
              case rel => exact ⟨_, n - 1, c - 1, t, _, m - 1, d - 1, u, A5, q, c5, out, rfl, rfl, rfl, by omega, by omega, by omega, Lib.hid ⟨HPD.out, HWD.out, out_N HO3.out nq, HS.out.len, HEQ.out⟩⟩
              case measure => simp; omega
            | false =>
              have HEQ : Hid (out ++ [toP x] ++ ovW (t) u = G) := Lib.hid (by rw [← HS.out.eq, HWW.out, hg]; simp)
              rw [hg] at hx2
              clear hg
              go_wp2_with fail
              go_quiet (fail)
              obtain ⟨W2, hW2⟩ : ∃ W2, W2 = wr.drewN nq := ⟨_, rfl⟩
              have hy0 : W2.cell? ⟨bw, ow, none⟩ = some (.string x.k) := by rw [hW2]; exact hx0
              have hy1 : W2.cell? ⟨bw, ow + 1, none⟩ = some (.string x.t) := by rw [hW2]; exact hx1
              have hy2 : W2.cell? ⟨bw, ow + 2, none⟩ = some (.bool false) := by rw [hW2]; exact hx2
              have HO2 : Hid (Out w W2 55 2 (.slice A5 q c5) q (out.flatMap P2.cells)) := Lib.hid (by rw [hW2]; exact out_N HS.out.own nq)
              rw [← hW2]
              clear hW2 hx0 hx1 hx2
              go_upto_region 8 with (fail)
              have HB2 : Hid (Cells (W2.alloc (.cells #[.string x.k, .string x.t, .bool false] 45)) W2.heap.size 45 [.string x.k, .string x.t, .bool false]) := Lib.hid (Cells.new W2 [.string x.k, .string x.t, .bool false] _)
              have HO3 := Lib.hid (HO2.out.alloc (.cells #[.string x.k, .string x.t, .bool false] 45))
              clear hy0 hy1 hy2 HO2
              have hq0 := (head1 (HS.out.ps.kept HO3.out.below) (by omega))
              obtain ⟨bp', op', p', t', e1, e2, hq⟩ := hq0
              obtain ⟨rfl, rfl⟩ : p = p' ∧ t = t' := by cases e2; exact ⟨rfl, rfl⟩
              obtain ⟨rfl, rfl⟩ : bp = bp' ∧ op = op' := by cases e1; exact ⟨rfl, rfl⟩
              have hq0 := hq 0 _ rfl
              have hq1 := hq 1 _ rfl
              simp only [Nat.add_zero] at hq0
              clear hq e1 e2 hp hp0 hp1
              have hb0 := HB2.out.cell 0
              have hb1 := HB2.out.cell 1
              have hb2 := HB2.out.cell 2
              simp only [List.getElem?_cons_zero, List.getElem?_cons_succ] at hb0 hb1 hb2
              generalize hW3 : World.alloc W2 _ = W3 at *
              clear hW3
              go_quiet (fail)
              go_wp2_with (at_builtin; refine wpList_out rfl _ _ 30 rfl 55 (.agg #[.string ⟨#[]⟩, .string ⟨#[]⟩]) 2 32 Try.underlying30 info_wp rfl (by decide) _ _ _ rfl ((out_N HO3.out nq).alloc _) ⟨W3.heap.size, 0, none⟩ 1 1 (toP x).cells rfl rfl (one_row _ _ _) (toP x).one (by simp only [maxLen]; omega) (by omega) (by decide) ?_; intro g5 k5 w5 ho5 hg5 hw5)
              clear hg5 hw5
              go_roundw
              case rel => exact ⟨_, n - 1, c - 1, t, _, m - 1, d - 1, u, _, q + 1, k5, out ++ [toP x], rfl, rfl, rfl, by omega, by omega, by omega, Lib.hid ⟨HPD.out, HWD.out, app1 ho5.out, by rw [List.length_append, HS.out.len]; rfl, HEQ.out⟩⟩
              case measure => simp; omega
          | false =>
            have HWW : Hid (ovW (p :: t) (x :: u) = if x.g = true then ovW (p :: t) u else toP x :: ovW (p :: t) u) := Lib.hid (ov_w (.inr (.inr ⟨p, t, rfl, rfl, hk, by rw [eq_beq] at he; simpa using he⟩)))
            have HPS := Lib.hid HS.out.ps
            cases hg : x.g with
            | true =>
              have HEQ : Hid (out ++ ovW (p :: t) u = G) := Lib.hid (by rw [← HS.out.eq, HWW.out, hg]; rfl)
              rw [hg] at hx2
              clear hg
              go_wp2_with fail
              go_quiet (fail)
              obtain ⟨W2, hW2⟩ : ∃ W2, W2 = wr.drewN nq := ⟨_, rfl⟩
              have hy0 : W2.cell? ⟨bw, ow, none⟩ = some (.string x.k) := by rw [hW2]; exact hx0
              have hy1 : W2.cell? ⟨bw, ow + 1, none⟩ = some (.string x.t) := by rw [hW2]; exact hx1
              have hy2 : W2.cell? ⟨bw, ow + 2, none⟩ = some (.bool true) := by rw [hW2]; exact hx2
              have HO2 : Hid (Out w W2 55 2 (.slice A5 q c5) q (out.flatMap P2.cells)) := Lib.hid (by rw [hW2]; exact out_N HS.out.own nq)
              rw [← hW2]
              clear hW2 hx0 hx1 hx2
              go_upto_region 8 with (fail)
              have HB2 : Hid (Cells (W2.alloc (.cells #[.string x.k, .string x.t, .bool true] 45)) W2.heap.size 45 [.string x.k, .string x.t, .bool true]) := Lib.hid (Cells.new W2 [.string x.k, .string x.t, .bool true] _)
              have HO3 := Lib.hid (HO2.out.alloc (.cells #[.string x.k, .string x.t, .bool true] 45))
              clear hy0 hy1 hy2 HO2
              have hq0 := (head1 (HS.out.ps.kept HO3.out.below) (by omega))
              obtain ⟨bp', op', p', t', e1, e2, hq⟩ := hq0
              obtain ⟨rfl, rfl⟩ : p = p' ∧ t = t' := by cases e2; exact ⟨rfl, rfl⟩
              obtain ⟨rfl, rfl⟩ : bp = bp' ∧ op = op' := by cases e1; exact ⟨rfl, rfl⟩
              have hq0 := hq 0 _ rfl
              have hq1 := hq 1 _ rfl
              simp only [Nat.add_zero] at hq0
              clear hq e1 e2 hp hp0 hp1
              have hb0 := HB2.out.cell 0
              have hb1 := HB2.out.cell 1
              have hb2 := HB2.out.cell 2
              simp only [List.getElem?_cons_zero, List.getElem?_cons_succ] at hb0 hb1 hb2
              generalize hW3 : World.alloc W2 _ = W3 at *
              clear hW3
              go_quiet (fail)
              go_wp2_with fail
              go_roundw
              case rel => exact ⟨_, n, c, p :: t, _, m - 1, d - 1, u, A5, q, c5, out, rfl, rfl, rfl, by omega, by omega, by omega, Lib.hid ⟨HPS.out, HWD.out, out_N HO3.out nq, HS.out.len, HEQ.out⟩⟩
              case measure => simp; omega
            | false =>
              have HEQ : Hid (out ++ [toP x] ++ ovW (p :: t) u = G) := Lib.hid (by rw [← HS.out.eq, HWW.out, hg]; simp)
              rw [hg] at hx2
              clear hg
              go_wp2_with fail
              go_quiet (fail)
              obtain ⟨W2, hW2⟩ : ∃ W2, W2 = wr.drewN nq := ⟨_, rfl⟩
              have hy0 : W2.cell? ⟨bw, ow, none⟩ = some (.string x.k) := by rw [hW2]; exact hx0
              have hy1 : W2.cell? ⟨bw, ow + 1, none⟩ = some (.string x.t) := by rw [hW2]; exact hx1
              have hy2 : W2.cell? ⟨bw, ow + 2, none⟩ = some (.bool false) := by rw [hW2]; exact hx2
              have HO2 : Hid (Out w W2 55 2 (.slice A5 q c5) q (out.flatMap P2.cells)) := Lib.hid (by rw [hW2]; exact out_N HS.out.own nq)
              rw [← hW2]
              clear hW2 hx0 hx1 hx2
              go_upto_region 8 with (fail)
              have HB2 : Hid (Cells (W2.alloc (.cells #[.string x.k, .string x.t, .bool false] 45)) W2.heap.size 45 [.string x.k, .string x.t, .bool false]) := Lib.hid (Cells.new W2 [.string x.k, .string x.t, .bool false] _)
              have HO3 := Lib.hid (HO2.out.alloc (.cells #[.string x.k, .string x.t, .bool false] 45))
              clear hy0 hy1 hy2 HO2
              have hq0 := (head1 (HS.out.ps.kept HO3.out.below) (by omega))
              obtain ⟨bp', op', p', t', e1, e2, hq⟩ := hq0
              obtain ⟨rfl, rfl⟩ : p = p' ∧ t = t' := by cases e2; exact ⟨rfl, rfl⟩
              obtain ⟨rfl, rfl⟩ : bp = bp' ∧ op = op' := by cases e1; exact ⟨rfl, rfl⟩
              have hq0 := hq 0 _ rfl
              have hq1 := hq 1 _ rfl
              simp only [Nat.add_zero] at hq0
              clear hq e1 e2 hp hp0 hp1
              have hb0 := HB2.out.cell 0
              have hb1 := HB2.out.cell 1
              have hb2 := HB2.out.cell 2
              simp only [List.getElem?_cons_zero, List.getElem?_cons_succ] at hb0 hb1 hb2
              generalize hW3 : World.alloc W2 _ = W3 at *
              clear hW3
              go_quiet (fail)
              go_wp2_with (at_builtin; refine wpList_out rfl _ _ 30 rfl 55 (.agg #[.string ⟨#[]⟩, .string ⟨#[]⟩]) 2 32 Try.underlying30 info_wp rfl (by decide) _ _ _ rfl ((out_N HO3.out nq).alloc _) ⟨W3.heap.size, 0, none⟩ 1 1 (toP x).cells rfl rfl (one_row _ _ _) (toP x).one (by simp only [maxLen]; omega) (by omega) (by decide) ?_; intro g5 k5 w5 ho5 hg5 hw5)
              clear hg5 hw5
              go_roundw
              case rel => exact ⟨_, n, c, p :: t, _, m - 1, d - 1, u, _, q + 1, k5, out ++ [toP x], rfl, rfl, rfl, by omega, by omega, by omega, Lib.hid ⟨HPS.out, HWD.out, app1 ho5.out, by rw [List.length_append, HS.out.len]; rfl, HEQ.out⟩⟩
              case measure => simp; omega
end Go.Proofs.Ythbmjhdgflpmgaa.Over15
