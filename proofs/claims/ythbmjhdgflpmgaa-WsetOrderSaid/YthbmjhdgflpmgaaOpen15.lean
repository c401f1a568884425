/- Layer 15's laws: arguments opened; what the program's functions give, as lists that are read. -/
import Derived.Test.YthbmjhdgflpmgaaAlive15
import Derived.Test.YthbmjhdgflpmgaaFew15
import Derived.Test.YthbmjhdgflpmgaaRise
import Derived.Test.YthbmjhdgflpmgaaSame3
namespace Go.Proofs.Ythbmjhdgflpmgaa.Open15
open Go.ChangeShapes Go.WideShapes Go.ChangeAt Go.RowKit Go.Proofs.Ythbmjhdgflpmgaa.Mem Go.Proofs.Ythbmjhdgflpmgaa.Read Go.Proofs.Ythbmjhdgflpmgaa.Out Go.Proofs.Ythbmjhdgflpmgaa.Copy Go.Proofs.Ythbmjhdgflpmgaa.Key Go.Proofs.Ythbmjhdgflpmgaa.Set Go.Proofs.Ythbmjhdgflpmgaa.Rows3 Go.Proofs.Ythbmjhdgflpmgaa.At15 Go.Proofs.Ythbmjhdgflpmgaa.Res Go.Proofs.Ythbmjhdgflpmgaa.Get15 Go.Proofs.Ythbmjhdgflpmgaa.Put15 Go.Proofs.Ythbmjhdgflpmgaa.Meet15 Go.Proofs.Ythbmjhdgflpmgaa.Over15 Go.Proofs.Ythbmjhdgflpmgaa.Conv Go.Proofs.Ythbmjhdgflpmgaa.Rise Go.Proofs.Ythbmjhdgflpmgaa.Same3 Go.Proofs.Ythbmjhdgflpmgaa.Few15

theorem wrs_open {H : Type} {enc : TypeId × Value → H} {W : World} {base : Nat} {v : Value} {d : DataW H} {p : List MemPlace} (h : DataW.Trod enc Try.prog W 0 (fun _ => true) true 23 v d p) (ho : Value.okWide Try.prog W .any base 23 v) :
    ∃ (A : Option Addr) (n c : Nat) (l : List W3), v = .slice A n c ∧ RowsOf W3.cells 3 W A n l := by
  have := structs_open W3.cells Try.underlying23 Try.underlying41 (by kernel_rfl) (by kernel_rfl) (by decide) (fun row hl hf => by
    match row, hl with
    | [x, y, z], _ =>
      obtain ⟨n0, y0, h0⟩ := hf 0 _ rfl
      obtain ⟨n1, y1, h1⟩ := hf 1 _ rfl
      obtain ⟨n2, y2, h2⟩ := hf 2 _ rfl
      obtain ⟨a, e0, _⟩ := DataW.trod_string Try.underlying9 h0
      obtain ⟨b, e1, _⟩ := DataW.trod_string Try.underlying9 h1
      obtain ⟨c, e2, _⟩ := DataW.trod_bool Try.underlying4 h2
      refine ⟨(⟨a, b, c⟩ : W3), ?_⟩
      simp at e0 e1 e2
      simp [W3.cells, e0, e1, e2]) h ho
  obtain ⟨A, n, c, l, e, hs⟩ := this
  exact ⟨A, n, c, l, e, RowsOf.of_structs hs W3.len⟩

theorem prs_open {H : Type} {enc : TypeId × Value → H} {W : World} {base : Nat} {v : Value} {d : DataW H} {p : List MemPlace} (h : DataW.Trod enc Try.prog W 0 (fun _ => true) true 22 v d p) (ho : Value.okWide Try.prog W .any base 22 v) :
    ∃ (A : Option Addr) (n c : Nat) (l : List P2), v = .slice A n c ∧ RowsOf P2.cells 2 W A n l := by
  have := structs_open P2.cells Try.underlying22 Try.underlying28 (by kernel_rfl) (by kernel_rfl) (by decide) (fun row hl hf => by
    match row, hl with
    | [x, y], _ =>
      obtain ⟨n0, y0, h0⟩ := hf 0 _ rfl
      obtain ⟨n1, y1, h1⟩ := hf 1 _ rfl
      obtain ⟨a, e0, _⟩ := DataW.trod_string Try.underlying9 h0
      obtain ⟨b, e1, _⟩ := DataW.trod_string Try.underlying9 h1
      refine ⟨(⟨a, b⟩ : P2), ?_⟩
      simp at e0 e1
      simp [P2.cells, e0, e1]) h ho
  obtain ⟨A, n, c, l, e, hs⟩ := this
  exact ⟨A, n, c, l, e, RowsOf.of_structs hs P2.len⟩

theorem wr_open {H : Type} {enc : TypeId × Value → H} {W : World} {base : Nat} {v : Value} {d : DataW H} {p : List MemPlace} (h : DataW.Trod enc Try.prog W 0 (fun _ => true) true 41 v d p) (ho : Value.okWide Try.prog W .any base 41 v) :
    ∃ x : W3, v = .agg #[.string x.k, .string x.t, .bool x.g] := by
  obtain ⟨cs, rfl, hs⟩ := okWide_struct Try.underlying41 ho
  have c41 : Try.prog.cellsOf 41 = 3 := by kernel_rfl
  have c9 : Try.prog.cellsOf 9 = 1 := by kernel_rfl
  have c4 : Try.prog.cellsOf 4 = 1 := by kernel_rfl
  rw [c41] at hs
  obtain ⟨fuel, hf⟩ := h
  obtain ⟨xs, n, _, _, _, hl, hx⟩ := DataW.trod_struct Try.underlying41 hf
  obtain ⟨x0, x1, x2, rfl⟩ : ∃ x0 x1 x2, cs = #[x0, x1, x2] := by
    obtain ⟨l⟩ := cs
    match l, hs with
    | [a, b, c], _ => exact ⟨a, b, c, rfl⟩
  obtain ⟨y0, y1, y2, rfl⟩ : ∃ y0 y1 y2, xs = [y0, y1, y2] := by
    match xs, hl with
    | [a, b, c], _ => exact ⟨a, b, c, rfl⟩
  have h0 : DataW.trod enc Try.prog W 0 (fun _ => true) true n 9 (([x0, x1, x2].drop 0).take (Try.prog.cellsOf 9)) = some y0 := hx 0 _ rfl
  have h1 : DataW.trod enc Try.prog W 0 (fun _ => true) true n 9 (([x0, x1, x2].drop 1).take (Try.prog.cellsOf 9)) = some y1 := hx 1 _ rfl
  have h2 : DataW.trod enc Try.prog W 0 (fun _ => true) true n 4 (([x0, x1, x2].drop 2).take (Try.prog.cellsOf 4)) = some y2 := hx 2 _ rfl
  rw [c9] at h0 h1
  rw [c4] at h2
  obtain ⟨a, e0, _⟩ := DataW.trod_string Try.underlying9 h0
  obtain ⟨b, e1, _⟩ := DataW.trod_string Try.underlying9 h1
  obtain ⟨c, e2, _⟩ := DataW.trod_bool Try.underlying4 h2
  obtain rfl : x0 = .string a := by simpa using e0
  obtain rfl : x1 = .string b := by simpa using e1
  obtain rfl : x2 = .bool c := by simpa using e2
  exact ⟨⟨a, b, c⟩, rfl⟩

/-- A list of the call's own, that is only read from here on. -/
structure Rd {α : Type} (cells : α → List Value) (sz : Nat) (w w' : World) (A : Option Addr) (n c : Nat) (l : List α) : Prop where
  rows : RowsOf cells sz w' A n l
  le : n ≤ c
  below : Below w.heap.size w w'

theorem rd_of {α : Type} {cells : α → List Value} {sz : Nat} {w w' : World} {e : TypeId} {v : Value} {n : Nat} {l : List α} (hlen : ∀ x, (cells x).length = sz) (h : Out w w' e sz v n (l.flatMap cells)) (hl : l.length = n) (hn : n ≤ 1000000) : ∃ A c, v = .slice A n c ∧ Rd cells sz w w' A n c l := by
  obtain ⟨A, c, e, hnc, hr⟩ := own_rows hlen h hl (by simp only [maxLen]; omega)
  exact ⟨A, c, e, hr, hnc, h.below⟩

theorem theirs_r (A : Option Addr) (n c : Nat) (l : List W3) (w : World) (h : RowsOf W3.cells 3 w A n l) (hn : n ≤ 100000) :
    Calls Try.prog 16 #[.slice A n c] w fun e w' => ∃ B d, e = .returned (.slice B n d) ∧ Hid (Rd W3.cells 3 w w' B n d l) :=
  (theirs_any A n c l w h hn).mono fun e w' ⟨v, he, HO⟩ => by
    obtain ⟨B, d, rfl, hr⟩ := rd_of W3.len HO.out h.1 (by omega)
    exact ⟨B, d, he, hr⟩

theorem ours_r (A : Option Addr) (n c : Nat) (l : List W3) (w : World) (h : RowsOf W3.cells 3 w A n l) (hn : n ≤ 100000) :
    Calls Try.prog 21 #[.slice A n c] w fun e w' => ∃ B d, e = .returned (.slice B n d) ∧ Hid (Rd W3.cells 3 w w' B n d l) :=
  (ours_any A n c l w h hn).mono fun e w' ⟨v, he, HO⟩ => by
    obtain ⟨B, d, rfl, hr⟩ := rd_of W3.len HO.out h.1 (by omega)
    exact ⟨B, d, he, hr⟩

theorem pairs_r (A : Option Addr) (n c : Nat) (l : List P2) (w : World) (h : RowsOf P2.cells 2 w A n l) (hn : n ≤ 100000) :
    Calls Try.prog 15 #[.slice A n c] w fun e w' => ∃ B d, e = .returned (.slice B n d) ∧ Hid (Rd P2.cells 2 w w' B n d l) :=
  (pairs_any A n c l w h hn).mono fun e w' ⟨v, he, HO⟩ => by
    obtain ⟨B, d, rfl, hr⟩ := rd_of P2.len HO.out h.1 (by omega)
    exact ⟨B, d, he, hr⟩

theorem back_r (A : Option Addr) (n c : Nat) (l : List P2) (w : World) (h : RowsOf P2.cells 2 w A n l) (hn : n ≤ 100000) :
    Calls Try.prog 13 #[.slice A n c] w fun e w' => ∃ B d, e = .returned (.slice B n d) ∧ Hid (Rd P2.cells 2 w w' B n d l) :=
  (back_any A n c l w h hn).mono fun e w' ⟨v, he, HO⟩ => by
    obtain ⟨B, d, rfl, hr⟩ := rd_of P2.len HO.out h.1 (by omega)
    exact ⟨B, d, he, hr⟩

theorem ov_len : ∀ (k : Nat) (l : List P2) (s : List W3), l.length + s.length = k → (ovW l s).length ≤ l.length + s.length := by
  intro k
  induction k using Nat.strongRecOn with
  | _ k ih =>
    intro l s hk
    match l, s with
    | l, [] => rw [ovW_nil]; simp
    | [], w :: s =>
      have := ih s.length (by simp at hk; omega) [] s (by simp)
      simp only [List.length_nil, List.length_cons] at this ⊢
      rw [ov_w (.inl ⟨rfl, rfl⟩)]
      split
      · omega
      · simp only [List.length_cons]; omega
    | p :: l, w :: s =>
      have h1 := ih (l.length + (w :: s).length) (by simp at hk ⊢; omega) l (w :: s) rfl
      have h2 := ih (l.length + s.length) (by simp at hk ⊢; omega) l s rfl
      have h3 := ih ((p :: l).length + s.length) (by simp at hk ⊢; omega) (p :: l) s rfl
      simp only [List.length_cons] at h1 h2 h3 ⊢
      cases hlt : kl p.k w.k with
      | true => rw [ov_p (.inr ⟨w, s, rfl, hlt⟩)]; simp only [List.length_cons]; omega
      | false =>
        by_cases he : p.k = w.k
        · rw [ov_w (.inr (.inl ⟨p, rfl, he⟩))]
          split
          · omega
          · simp only [List.length_cons]; omega
        · rw [ov_w (.inr (.inr ⟨p, l, rfl, rfl, hlt, he⟩))]
          split
          · omega
          · simp only [List.length_cons]; omega

theorem over_r (A : Option Addr) (n c : Nat) (l : List P2) (B : Option Addr) (m d : Nat) (s : List W3) (w : World) (hl : RowsOf P2.cells 2 w A n l) (hn : n ≤ 1000) (hnc : n ≤ c) (hs : RowsOf W3.cells 3 w B m s) (hm : m ≤ 1000) (hmd : m ≤ d) :
    Calls Try.prog 14 #[.slice A n c, .slice B m d] w fun e w' => ∃ C q f, e = .returned (.slice C q f) ∧ Hid (Rd P2.cells 2 w w' C q f (ovW l s)) ∧ Hid ((ovW l s).length = q) ∧ q ≤ n + m :=
  (over_any A n c l B m d s w hl hn hnc hs hm hmd).mono fun e w' ⟨v, q, he, HO, HQ⟩ => by
    have hq : q ≤ n + m := by
      have := ov_len _ l s rfl
      have h1 := hl.1
      have h2 := hs.1
      have h3 := HQ.out
      omega
    obtain ⟨C, f, rfl, hr⟩ := rd_of P2.len HO.out HQ.out (by omega)
    exact ⟨C, q, f, he, hr, HQ, hq⟩

theorem put_r (A : Option Addr) (n c : Nat) (l : List W3) (x : W3) (w : World) (h : RowsOf W3.cells 3 w A n l) (hn : n ≤ 1000) (hr : Rs W3.k l) :
    Calls Try.prog 19 #[.slice A n c, .agg #[.string x.k, .string x.t, .bool x.g]] w fun e w' => ∃ B m d, e = .returned (.tuple #[.slice B m d, .int .i64 (putL l x).2]) ∧ Hid (Rd W3.cells 3 w w' B m d (putL l x).1) ∧ m ≤ n + 1 :=
  (put_any A n c l x w h hn hr).mono fun e w' ⟨v, m, he, HO, HM⟩ => by
    obtain ⟨B, d, rfl, hr⟩ := rd_of W3.len HO.out HM.out.1 (by have := HM.out.2; omega)
    exact ⟨B, m, d, he, hr, HM.out.2⟩

/-- Any two ways of a test. -/
theorem rs_or {α : Type} (key : α → ByteArray) (l : List α) : ∃ b : Bool, b = true ↔ Rs key l := by
  by_cases h : Rs key l
  · exact ⟨true, by simpa using h⟩
  · exact ⟨false, by simpa using h⟩
theorem eq_or {α : Type} (l m : List α) : ∃ b : Bool, b = true ↔ l = m := by
  by_cases h : l = m
  · exact ⟨true, by simpa using h⟩
  · exact ⟨false, by simpa using h⟩
end Go.Proofs.Ythbmjhdgflpmgaa.Open15
