/- Lists of rows beside a map of writes. -/
import Derived.Test.YthbmjhdgflpmgaaMeets
import Derived.Test.YthbmjhdgflpmgaaMap2
import Derived.Test.YthbmjhdgflpmgaaFew15
import Derived.Maps.RangeWalk
import Derived.Maps.OwnOps
import Derived.Maps.OwnSet
import Derived.Deep.RegionHeld3
import Derived.Deep.DeepCutAuto
namespace Go.Proofs.Ythbmjhdgflpmgaa.RowMap
open Go.RowKit Go.Proofs.Ythbmjhdgflpmgaa.Mem Go.Proofs.Ythbmjhdgflpmgaa.Read Go.Proofs.Ythbmjhdgflpmgaa.Out Go.Proofs.Ythbmjhdgflpmgaa.Copy Go.Proofs.Ythbmjhdgflpmgaa.Key Go.Proofs.Ythbmjhdgflpmgaa.Set Go.Proofs.Ythbmjhdgflpmgaa.Rows3 Go.Proofs.Ythbmjhdgflpmgaa.At15 Go.Proofs.Ythbmjhdgflpmgaa.Get15 Go.Proofs.Ythbmjhdgflpmgaa.Put15 Go.Proofs.Ythbmjhdgflpmgaa.Map

theorem below_chg {F : Nat → Prop} {w0 w w' : World} (h : Below w0.heap.size w0 w) (hc : Chg F w w') (hF : ∀ k, F k → w0.heap.size ≤ k) : Below w0.heap.size w0 w' :=
  (Chg.trans (Chg.of_below (F := fun _ => False) h) hc (fun k hk f => by have := hF k f; omega)).below (Nat.le_refl _) (fun _ _ f => f)

section
variable {α K V : Type} {cells : α → List Value} {sz : Nat} {w w' : World} {A : Option Addr} {n b : Nat} {l : List α} {kf : K → Value} {vf : V → Value} {m : List (K × V)}

/-- A change to a map does not touch a list of rows. -/
theorem rows_map (h : RowsOf cells sz w A n l) (hm : MapOf kf vf w b m) (hc : Chg (· = b) w w') (hlen : ∀ x, (cells x).length = sz) (h0 : 0 < sz) : RowsOf cells sz w' A n l := by
  refine ⟨h.1, h.2.1, fun hn => ?_⟩
  obtain ⟨g, off, e, hlt, hcell⟩ := h.2.2 hn
  have hne : g ≠ b := by
    intro e2
    subst e2
    have hl := h.1
    obtain ⟨x, hx⟩ : ∃ x, l[0]? = some x := ⟨l[0]'(by omega), List.getElem?_eq_getElem _⟩
    obtain ⟨v, hv⟩ : ∃ v, (cells x)[0]? = some v := ⟨(cells x)[0]'(by rw [hlen]; omega), List.getElem?_eq_getElem _⟩
    have h1 := hcell 0 x hx 0 v hv
    obtain ⟨E, c, hh, _⟩ := hm
    simp [World.cell?, hh] at h1
  exact ⟨g, off, e, Nat.lt_of_lt_of_le hlt hc.size, fun i x hi j v hj => hc.cell (hcell i x hi j v hj) hne⟩
end

/-- A write as a map keeps it. -/
def wv (x : W3) : Value := .agg #[.string x.k, .string x.t, .bool x.g]
def ks (k : ByteArray) : Value := .string k

/-- A set beside the map of what was put last. -/
def LastOf (s : List W3) (m : List (ByteArray × W3)) : Prop := Rs W3.k s ∧ (∀ k, lk W3.k s k = Map.get m k) ∧ (m.map (·.1)).Nodup ∧ s.length = m.length ∧ s.length ≤ 16

theorem LastOf.nil : LastOf [] [] := ⟨Rs.nil, fun _ => rfl, by simp, rfl, by simp⟩

theorem LastOf.put {s : List W3} {m : List (ByteArray × W3)} {x : W3} (h : LastOf s m) (hp : (putL s x).2 = 0) : LastOf (putL s x).1 (Map.put m x.k x) := by
  obtain ⟨h1, h2, h3, h4, h5⟩ := h
  have hlen : (putL s x).1.length ≤ 16 ∧ (putL s x).1 = Set.put W3.k s x := by
    unfold putL at hp ⊢
    split
    · split
      · rename_i hs
        refine ⟨?_, rfl⟩
        rw [Set.length_put h1, if_pos hs]; exact h5
      · split
        · rename_i hr hs hl
          rw [if_pos hr, if_neg hs, if_pos hl] at hp
          cases hp
        · rename_i hs hl
          refine ⟨?_, rfl⟩
          rw [Set.length_put h1, if_neg hs]; show s.length + 1 ≤ 16; omega
    · rename_i hr
      rw [if_neg hr] at hp
      cases hp
  refine ⟨by rw [hlen.2]; exact put_rs h1 x, fun k => ?_, nodup_put h3 _ _, ?_, hlen.1⟩
  · rw [hlen.2, lk_put h1, get_put, h2]
  · rw [hlen.2, Set.length_put h1, Map.length_put, h2, h4]

theorem mem_get {l : List (ByteArray × W3)} (hn : (l.map (·.1)).Nodup) : ∀ {k : ByteArray} {v : W3}, (k, v) ∈ l → Map.get l k = some v := by
  induction l with
  | nil => intro k v h; cases h
  | cons p l ih =>
    obtain ⟨a, u⟩ := p
    intro k v h
    simp only [List.map_cons, List.nodup_cons] at hn
    rcases List.mem_cons.1 h with h | h
    · cases h; simp [Map.get]
    · have : a ≠ k := fun e => hn.1 (e ▸ List.mem_map.2 ⟨_, h, rfl⟩)
      simp [Map.get, this, ih hn.2 h]

theorem LastOf.got {s : List W3} {m : List (ByteArray × W3)} (h : LastOf s m) {k : ByteArray} {v : W3} (hv : (k, v) ∈ m) : lk W3.k s k = some v ∧ getW s k = v := by
  obtain ⟨h1, h2, h3, h4, h5⟩ := h
  have := (h2 k).trans (mem_get h3 hv)
  exact ⟨this, by unfold getW; rw [this]; rfl⟩
end Go.Proofs.Ythbmjhdgflpmgaa.RowMap
