/- Keys: the order of strings, and strings.Compare, as layer 15 asks. -/
import Derived.Test.YtfbldpppjnnblaaProg
import Derived.WalkKit
import Derived.Lib.Bytealg
import Derived.Lib.Hide
import Derived.Laws.Externs
namespace Go.Proofs.Ytfbldpppjnnblaa.Key
open Go.RowKit

/-- The order of keys. -/
def kl (a b : ByteArray) : Bool := Op.bytesLess a.toList b.toList

theorem bl_irrefl : ∀ x : List UInt8, Op.bytesLess x x = false
  | [] => rfl
  | a :: x => by simp [Op.bytesLess, bl_irrefl x]

theorem bl_trans : ∀ x y z : List UInt8, Op.bytesLess x y = true → Op.bytesLess y z = true → Op.bytesLess x z = true
  | _, _, [], _, h => by simp [Op.bytesLess] at h
  | _, [], _ :: _, h, _ => by simp [Op.bytesLess] at h
  | [], _ :: _, _ :: _, _, _ => rfl
  | a :: x, b :: y, c :: z, h1, h2 => by
    simp only [Op.bytesLess, Bool.or_eq_true, Bool.and_eq_true, decide_eq_true_eq, beq_iff_eq] at h1 h2 ⊢
    rcases h1 with h1 | ⟨rfl, h1⟩ <;> rcases h2 with h2 | ⟨rfl, h2⟩
    · exact .inl (UInt8.lt_trans h1 h2)
    · exact .inl h1
    · exact .inl h2
    · exact .inr ⟨rfl, bl_trans x y z h1 h2⟩

theorem bl_tri : ∀ x y : List UInt8, Op.bytesLess x y = true ∨ x = y ∨ Op.bytesLess y x = true
  | [], [] => .inr (.inl rfl)
  | [], _ :: _ => .inl rfl
  | _ :: _, [] => .inr (.inr rfl)
  | a :: x, b :: y => by
    simp only [Op.bytesLess, Bool.or_eq_true, Bool.and_eq_true, decide_eq_true_eq, beq_iff_eq]
    by_cases h1 : a < b
    · exact .inl (.inl h1)
    · by_cases h2 : b < a
      · exact .inr (.inr (.inl h2))
      · have e : a = b := UInt8.le_antisymm (UInt8.not_lt.1 h2) (UInt8.not_lt.1 h1)
        subst e
        rcases bl_tri x y with h | rfl | h
        · exact .inl (.inr ⟨rfl, h⟩)
        · exact .inr (.inl rfl)
        · exact .inr (.inr (.inr ⟨rfl, h⟩))

theorem toList_inj {a b : ByteArray} (h : a.toList = b.toList) : a = b := by
  rw [Lib.toList_data, Lib.toList_data] at h
  cases a; cases b
  congr 1
  exact Array.toList_inj.1 h

theorem kl_irrefl (a : ByteArray) : kl a a = false := bl_irrefl _
theorem kl_trans {a b c : ByteArray} (h : kl a b = true) (h2 : kl b c = true) : kl a c = true := bl_trans _ _ _ h h2
theorem kl_tri (a b : ByteArray) : kl a b = true ∨ a = b ∨ kl b a = true := by
  rcases bl_tri a.toList b.toList with h | h | h
  · exact .inl h
  · exact .inr (.inl (toList_inj h))
  · exact .inr (.inr h)
theorem kl_ne {a b : ByteArray} (h : kl a b = true) : a ≠ b := by
  rintro rfl
  rw [kl_irrefl] at h
  cases h
theorem kl_asymm {a b : ByteArray} (h : kl a b = true) : kl b a = false := by
  cases hb : kl b a with
  | false => rfl
  | true => have := kl_trans h hb; rw [kl_irrefl] at this; cases this
theorem eq_beq (a b : ByteArray) : (a.toList == b.toList) = decide (a = b) := by
  rw [Bool.eq_iff_iff]
  simp only [beq_iff_eq, decide_eq_true_eq]
  exact ⟨toList_inj, fun h => by rw [h]⟩

theorem cmp_cases : ∀ x y : List UInt8, (Op.bytesLess x y = true ∧ Lib.compareBytes x y = -1) ∨ (x = y ∧ Lib.compareBytes x y = 0) ∨ (Op.bytesLess y x = true ∧ Lib.compareBytes x y = 1)
  | [], [] => .inr (.inl ⟨rfl, by simp [Lib.compareBytes]⟩)
  | [], _ :: _ => .inl ⟨rfl, by simp [Lib.compareBytes]⟩
  | _ :: _, [] => .inr (.inr ⟨rfl, by simp [Lib.compareBytes]⟩)
  | a :: x, b :: y => by
    simp only [Op.bytesLess, Lib.compareBytes, Bool.or_eq_true, Bool.and_eq_true, decide_eq_true_eq, beq_iff_eq]
    by_cases h1 : a < b
    · exact .inl ⟨.inl h1, by simp [h1]⟩
    · by_cases h2 : b < a
      · exact .inr (.inr ⟨.inl h2, by simp [h1, h2]⟩)
      · have e : a = b := UInt8.le_antisymm (UInt8.not_lt.1 h2) (UInt8.not_lt.1 h1)
        subst e
        rcases cmp_cases x y with ⟨h, h3⟩ | ⟨rfl, h3⟩ | ⟨h, h3⟩
        · exact .inl ⟨.inr ⟨rfl, h⟩, by simp [h3]⟩
        · exact .inr (.inl ⟨rfl, by simp [h3]⟩)
        · exact .inr (.inr ⟨.inr ⟨rfl, h⟩, by simp [h3]⟩)

/-- What comparing two keys tells. -/
def cmpI (a b : ByteArray) : Int := Lib.compareBytes a.data.toList b.data.toList
theorem cmpI_cases (a b : ByteArray) : (kl a b = true ∧ cmpI a b = -1) ∨ (a = b ∧ cmpI a b = 0) ∨ (kl b a = true ∧ cmpI a b = 1) := by
  unfold kl cmpI
  rw [Lib.toList_data, Lib.toList_data]
  rcases cmp_cases a.data.toList b.data.toList with h | ⟨h, h2⟩ | h
  · exact .inl h
  · exact .inr (.inl ⟨toList_inj (by rw [Lib.toList_data, Lib.toList_data]; exact h), h2⟩)
  · exact .inr (.inr h)
theorem cmpI_lt (a b : ByteArray) : decide (cmpI a b < 0) = kl a b := by
  rcases cmpI_cases a b with ⟨h, h2⟩ | ⟨rfl, h2⟩ | ⟨h, h2⟩
  · rw [h, h2]; rfl
  · rw [h2, kl_irrefl]; rfl
  · rw [h2, kl_asymm h]; rfl
theorem cmpI_eq (a b : ByteArray) : (cmpI a b == 0) = decide (a = b) := by
  rcases cmpI_cases a b with ⟨h, h2⟩ | ⟨rfl, h2⟩ | ⟨h, h2⟩
  · rw [h2, decide_eq_false (kl_ne h)]; rfl
  · rw [h2]; simp
  · rw [h2, decide_eq_false (fun e => kl_ne h e.symm)]; rfl

theorem compareString_any (a b : ByteArray) (w : World) : Calls Try.prog 70 #[.string a, .string b] w fun e w' => e = .returned (.int .i64 (cmpI a b)) ∧ w = w' := by
  unfold cmpI
  go_enter Try.func70, Try.ntmps70
  go_wp2
  rw [run_callFunc_extern Try.func72 (by kernel_rfl) (by kernel_rfl) (by kernel_rfl) (e := Extern.BytealgCompare.compare) (by kernel_rfl), Lib.run_compareString]
  simp only [Result.andThen]
  rw [Oper.upon_value]
  go_wp2
  go_ret
  exact ⟨rfl, rfl⟩

theorem stringsCompare_any (a b : ByteArray) (w : World) : Calls Try.prog 67 #[.string a, .string b] w fun e w' => e = .returned (.int .i64 (cmpI a b)) ∧ w = w' := by
  go_enter Try.func67, Try.ntmps67
  go_wp2_with fail
  refine Calls.mono (compareString_any a b w) ?_
  rintro e w1 ⟨rfl, rfl⟩
  go_wp2_with fail
  go_ret
  exact ⟨rfl, rfl⟩

theorem compare_any (k t b : ByteArray) (g : Bool) (w : World) : Calls Try.prog 63 #[.agg #[.string k, .string t, .bool g], .string b] w fun e w' => e = .returned (.int .i64 (cmpI k b)) ∧ RowKit.Below w.heap.size w w' := by
  go_enter Try.func63, Try.ntmps63
  go_wp2_with fail
  refine Calls.mono (stringsCompare_any k b _) ?_
  rintro e w1 ⟨rfl, rfl⟩
  go_wp2_with fail
  go_ret
  exact ⟨rfl, (Below.refl _ _).alloc (Nat.le_refl _) _⟩
end Go.Proofs.Ytfbldpppjnnblaa.Key
