/- Layer 8's nib: nibbles packed in a word. -/
import Derived.Test.YtmfomkmdfddhaaaDoorProg
import Derived.Test.YtmfomkmdfddhaaaDoorOut
import Derived.Laws.BitsLemmas
import Derived.Laws.Bits64
namespace Go.Proofs.YtmfomkmdfddhaaaDoor.Nib
open Go.RowKit Go.Proofs.YtmfomkmdfddhaaaDoor.Mem Go.Proofs.YtmfomkmdfddhaaaDoor.Read Go.Proofs.YtmfomkmdfddhaaaDoor.Out

/-- The number that nibbles make, the first one lowest. -/
def num : List Int → Int
  | [] => 0
  | x :: l => x + 16 * num l

def Nibs (l : List Int) : Prop := ∀ x ∈ l, 0 ≤ x ∧ x < 16

/-- The word that nibbles are packed in. -/
def packV (l : List Int) : Int := l.length + 16 * num l
def packB (l : List Int) : Bool := decide (l.length ≤ 15) && l.all (fun x => decide (x < 16))

theorem num_bound : ∀ {l : List Int}, Nibs l → 0 ≤ num l ∧ num l < 16 ^ l.length
  | [], _ => by simp [num]
  | x :: l, h => by
    have h1 := h x List.mem_cons_self
    have h2 := num_bound (l := l) (fun y hy => h y (List.mem_cons_of_mem _ hy))
    simp only [num, List.length_cons, Int.pow_succ]
    omega

theorem num_snoc : ∀ (l : List Int) (y : Int), num (l ++ [y]) = num l + y * 16 ^ l.length
  | [], y => by simp [num]
  | x :: l, y => by
    simp only [List.cons_append, num, num_snoc l y, List.length_cons, Int.pow_succ, Int.mul_add]
    have : 16 * (y * 16 ^ l.length) = y * (16 ^ l.length * 16) := by rw [Int.mul_comm (16 ^ l.length) 16, ← Int.mul_assoc, ← Int.mul_assoc, Int.mul_comm 16 y]
    omega

theorem pow_16 (n : Nat) : (2 : Int) ^ (4 * n) = 16 ^ n := by
  rw [Int.pow_mul]; rfl

theorem wraps_u64 (n : Int) (h₀ : 0 ≤ n) (h₁ : n < 2 ^ 64) : IntKind.u64.wrap n = n := by rw [IntKind.wrap_u64]; omega

theorem or_comm (k : IntKind) (x y : Int) : bits .or k x y = bits .or k y x := by
  simp only [bits]
  rw [BitVec.or_comm]

/-- One nibble more is put in. -/
theorem or_step (x y : Int) (i : Nat) (hi : i < 15) (hx0 : 0 ≤ x) (hx : x < 16 ^ (i + 1)) (hy0 : 0 ≤ y) (hy : y < 16) :
    bits BinOp.or IntKind.u64 x (IntKind.u64.wrap (y * 2 ^ (4 * (i + 1)))) = x + y * 16 ^ (i + 1) := by
  have hp : (16 : Int) ^ (i + 1) ≤ 16 ^ 15 := by
    exact_mod_cast Nat.pow_le_pow_right (by decide : 0 < 16) (by omega : i + 1 ≤ 15)
  have hpos : (0 : Int) < 16 ^ (i + 1) := Int.pow_pos (by decide)
  have e15 : (16 : Int) ^ 15 = 1152921504606846976 := by decide
  have h16 : y * 16 ^ (i + 1) ≤ 15 * 16 ^ (i + 1) := Int.mul_le_mul_of_nonneg_right (by omega) (by omega)
  have h0 : 0 ≤ y * 16 ^ (i + 1) := Int.mul_nonneg hy0 (by omega)
  rw [pow_16, wraps_u64 _ h0 (by omega), or_comm]
  rw [bits_join .u64 64 (by decide) wraps_u64 (4 * (i + 1)) (y * 16 ^ (i + 1)) x h0 (by rw [pow_16]; exact Int.mul_emod_left _ _) (by omega) hx0 (by rw [pow_16]; exact hx) (by omega)]
  omega

theorem packB_take {l : List Int} (h : packB l = true) : l.length ≤ 15 ∧ ∀ x ∈ l, x < 16 := by
  unfold packB at h
  simp only [Bool.and_eq_true, decide_eq_true_eq, List.all_eq_true] at h
  exact h

theorem nibble_any (b : Int) (w : World) : Calls Tryd.prog 38 #[.int .u8 b] w fun e w' => e = .returned (.bool (decide (b < 16))) ∧ w = w' := by
  go_enter Tryd.func38, Tryd.ntmps38
  go_wp2_with fail
  go_ret
  exact ⟨rfl, rfl⟩

theorem wf_u8 {x : Int} (h : (Lit.int .u8 x).wf = true) : 0 ≤ x ∧ x ≤ 255 := bounds_u8 h

theorem pack_any (A : Option Addr) (n c : Nat) (xs : List Int) (w : World) (h : Ints w .u8 A n xs) :
    Calls Tryd.prog 24 #[.slice A n c] w fun e w' => e = .returned (.tuple #[.int .u64 (if packB xs = true then packV xs else 0), .bool (packB xs)]) ∧ w = w' := by
  have hl := h.1
  have hwf := h.2.2.1
  have HX := Lib.hid h
  have HW := Lib.hid hwf
  clear h hwf
  by_cases h8 : 15 < n
  · have hb8 : decide ((15 : Int) < n) = true := decide_eq_true (by omega)
    have hp : packB xs = false := by
      unfold packB
      rw [decide_eq_false (by omega)]
      rfl
    rw [hp]
    simp only [Bool.false_eq_true, if_false]
    go_enter Tryd.func24, Tryd.ntmps24
    go_wp2_with fail
    go_ret2
    exact ⟨rfl, rfl⟩
  · have hb8 : decide ((15 : Int) < n) = false := decide_eq_false (by omega)
    obtain ⟨R, hR⟩ : ∃ R, R = packB xs := ⟨_, rfl⟩
    obtain ⟨V, hV⟩ : ∃ V, V = (if packB xs = true then packV xs else 0) := ⟨_, rfl⟩
    rw [← hV, ← hR]
    have HR := Lib.hid hR
    have HV := Lib.hid hV
    clear hR hV
    go_enter Tryd.func24, Tryd.ntmps24
    go_wp2_with fail
    go_loop [4, 15] (fun v4 v15 => ∃ (i : Nat) (x : Int), i ≤ n ∧ v15 = .int .i64 i ∧ v4 = .int .u64 x ∧ Hid (x = n + 16 * num (xs.take i)) ∧ Hid (Nibs (xs.take i))) (fun _ v => n - (intOf v).toNat)
    case atStart => exact ⟨0, n, by omega, rfl, rfl, Lib.hid (by simp [num]), Lib.hid (by simp [Nibs])⟩
    case round =>
      obtain ⟨i, x, hi, rfl, rfl, HN, HB⟩ := hrel
      by_cases hin : i < n
      · obtain ⟨b, off, rfl, hlt, hc⟩ := HX.out.2.2.2 (by omega)
        have hc0 := hc i hin
        clear hc
        obtain ⟨y, hy⟩ : ∃ y, y = xs.getD i 0 := ⟨_, rfl⟩
        have hym : y ∈ xs := by rw [hy, List.getD_eq_getElem?_getD, List.getElem?_eq_getElem (show i < xs.length by omega)]; exact List.getElem_mem _
        have hyb := wf_u8 (HW.out y hym)
        have htk : xs.take (i + 1) = xs.take i ++ [y] := by rw [hy, List.take_succ_eq_append_getElem (show i < xs.length by omega), List.getD_eq_getElem?_getD, List.getElem?_eq_getElem (show i < xs.length by omega)]; rfl
        have HT := Lib.hid htk
        have HM := Lib.hid hym
        rw [← hy] at hc0
        clear hy htk hym
        by_cases hl16 : y < 16
        · have hlb : decide (y < 16) = true := decide_eq_true hl16
          go_wp2_with fail
          refine Calls.mono (nibble_any y w) ?_
          rintro e w1 ⟨rfl, rfl⟩
          go_wp2_with fail
          have hnb := num_bound HB.out
          have htl : (xs.take i).length = i := by rw [List.length_take]; omega
          rw [htl] at hnb
          rw [or_step x y i (by omega) (by rw [HN.out]; omega) (by rw [HN.out, Int.pow_succ]; omega) hyb.1 hl16]
          go_round
          case rel =>
            refine ⟨i + 1, _, by omega, by go_num, rfl, Lib.hid ?_, Lib.hid ?_⟩
            · rw [HN.out, HT.out, num_snoc, htl, Int.pow_succ, Int.mul_add]
              have : 16 * (y * 16 ^ i) = y * (16 ^ i * 16) := by rw [Int.mul_comm (16 ^ i) 16, ← Int.mul_assoc, ← Int.mul_assoc, Int.mul_comm 16 y]
              omega
            · rw [HT.out]
              intro z hz
              rcases List.mem_append.1 hz with hz | hz
              · exact HB.out z hz
              · obtain rfl := List.mem_singleton.1 hz
                exact ⟨hyb.1, hl16⟩
          case measure => simp [intOf]; omega
        · have hlb : decide (y < 16) = false := decide_eq_false hl16
          have hp : packB xs = false := by
            cases hq : packB xs with
            | false => rfl
            | true => exact absurd ((packB_take hq).2 y HM.out) hl16
          go_wp2_with fail
          refine Calls.mono (nibble_any y w) ?_
          rintro e w1 ⟨rfl, rfl⟩
          go_wp2_with fail
          go_ret2
          refine ⟨?_, rfl⟩
          rw [HR.out, HV.out, hp]
          rfl
      · have hp : packB xs = true := by
          unfold packB
          rw [decide_eq_true (by omega), Bool.true_and, List.all_eq_true]
          intro z hz
          have := HB.out
          rw [List.take_of_length_le (by omega)] at this
          exact decide_eq_true (this z hz).2
        have hx : x = V := by
          rw [HN.out, HV.out, hp, List.take_of_length_le (by omega)]
          simp [packV, hl]
        have hr : R = true := by rw [HR.out, hp]
        have HXV := Lib.hid hx
        have HRT := Lib.hid hr
        clear hx hr hp
        go_wp2_with fail
        go_ret2
        refine ⟨?_, rfl⟩
        rw [HXV.out, HRT.out]
        rfl
/-- The nibbles of a word: so many, from the second lowest on. -/
def digs (w : Int) : Nat → List Int
  | 0 => []
  | n + 1 => (w % 16) :: digs (w / 16) n
def unp (w : Int) : List Int := digs (w / 16) (w % 16).toNat
def unpB (w : Int) : Bool := decide (w / 16 / 16 ^ (w % 16).toNat = 0)

theorem digs_len : ∀ (w : Int) (n : Nat), (digs w n).length = n
  | _, 0 => rfl
  | w, n + 1 => by simp [digs, digs_len (w / 16) n]

theorem digs_snoc : ∀ (w : Int) (n : Nat), 0 ≤ w → digs w (n + 1) = digs w n ++ [w / 16 ^ n % 16]
  | w, 0, _ => by simp [digs]
  | w, n + 1, h => by
    have := digs_snoc (w / 16) n (by omega)
    rw [digs, this]
    simp only [digs, List.cons_append]
    rw [Int.ediv_ediv_of_nonneg (by omega : (0 : Int) ≤ 16), Int.pow_succ, Int.mul_comm 16]

theorem digs_nibs : ∀ (w : Int) (n : Nat), Nibs (digs w n)
  | _, 0 => fun _ h => by cases h
  | w, n + 1 => fun x h => by
    rcases List.mem_cons.1 h with rfl | h
    · omega
    · exact digs_nibs (w / 16) n x h

theorem info_u8 : (Tryd.prog.info? 5).map (fun i => (i.zero, i.size, i.bytes)) = some (some (.int .u8 0), 1, 1) := by kernel_rfl

theorem and15 (x : Int) (h0 : 0 ≤ x) (h : x < 2 ^ 64) : bits .and .u64 x 15 = x % 16 := bits_mask .u64 64 (by decide) wraps_u64 4 (by decide) x h0 h

theorem wrap_u8_small (x : Int) (h0 : 0 ≤ x) (h : x < 256) : IntKind.u8.wrap x = x := wraps_u8 x h0 h

/-- What Unpack leaves: the nibbles in memory of its own, or nil. -/
def Unpd (w w' : World) (x : Int) (v : Value) : Prop := (unpB x = true → Out w w' 5 1 v (x % 16).toNat ((unp x).map (.int .u8))) ∧ (unpB x = false → v = .slice none 0 0 ∧ Below w.heap.size w w')

theorem unpack_any (x : Int) (w : World) (hx0 : 0 ≤ x) (hx : x < 2 ^ 64) :
    Calls Tryd.prog 25 #[.int .u64 x] w fun e w' => ∃ v, e = .returned (.tuple #[v, .bool (unpB x)]) ∧ Hid (Unpd w w' x v) := by
  go_enter Tryd.func25, Tryd.ntmps25
  go_wp2_with fail
  rw [and15 x hx0 hx]
  obtain ⟨N, hN⟩ : ∃ N : Nat, (N : Int) = x % 16 := ⟨(x % 16).toNat, by omega⟩
  rw [← hN]
  have hN16 : N < 16 := by omega
  have HN : Hid ((x % 16).toNat = N) := Lib.hid (by omega)
  clear hN
  obtain ⟨X, hX⟩ : ∃ X, X = x / 16 := ⟨_, rfl⟩
  have hX0 : 0 ≤ X := by omega
  have hX1 : X < 2 ^ 60 := by omega
  rw [← hX]
  have HX := Lib.hid hX
  clear hX
  go_loopw [0, 4, 5] (fun v0 v4 v5 wr => ∃ (k : Nat) (y : Int) (A : Option Addr) (c : Nat), k ≤ N ∧ v5 = .int .u64 ((N : Int) - k) ∧ v0 = .int .u64 y ∧ 0 ≤ y ∧ y < 2 ^ 60 ∧ Hid (y = X / 16 ^ k) ∧ v4 = .slice A k c ∧ Hid (Out w wr 5 1 (.slice A k c) k ((digs X k).map (.int .u8)))) (fun _ _ v5 _ => (intOf v5).toNat)
  case atStart => exact ⟨0, X, none, 0, by omega, by simp, rfl, hX0, hX1, Lib.hid (by simp), rfl, Lib.hid (Out.nil (Below.refl _ _) _ _)⟩
  case round =>
    obtain ⟨k, y, A, c, hk, rfl, rfl, hy0, hy1, HY, rfl, HO⟩ := hrel
    by_cases hkn : k < N
    · have hb : decide ((0 : Int) < (N : Int) - k) = true := decide_eq_true (by omega)
      have ha := and15 y hy0 (by omega)
      have hwr := wrap_u8_small (y % 16) (by omega) (by omega)
      go_wp2_with (at_builtin; refine wpList_out rfl _ _ 22 rfl 5 (.int .u8 0) 1 1 Tryd.underlying22 info_u8 rfl (by decide) _ _ _ rfl (HO.out.alloc _) ⟨wr.heap.size, 0, none⟩ 1 1 [.int .u8 (y % 16)] rfl rfl ?c1 ?c2 ?c3 ?c4 (by decide) ?_)
      case c1 => exact one_new wr _ _
      case c2 => simp [Value.oneCell']
      case c3 => simp only [maxLen]; omega
      case c4 => omega
      intro g kk w1 ho1 hg1 hw1
      have hsn := digs_snoc X k hX0
      have HS := Lib.hid hsn
      clear hsn
      go_wp2_with fail
      go_roundw
      case rel =>
        refine ⟨k + 1, _, some ⟨g, 0, none⟩, kk, by omega, by go_num, rfl, by omega, by omega, Lib.hid ?_, rfl, Lib.hid ?_⟩
        · rw [HY.out, Int.ediv_ediv_of_nonneg (Int.pow_nonneg (by decide)), Int.pow_succ]
        · have := ho1.out
          rw [HS.out, List.map_append]
          rw [HY.out] at this
          exact this
      case measure => simp [intOf]; omega
    · obtain rfl : k = N := by omega
      have hb : decide ((0 : Int) < (k : Int) - k) = false := decide_eq_false (by omega)
      have hu : unpB x = decide (y = 0) := by
        unfold unpB
        rw [HN.out, ← HX.out, HY.out]
      have hun : unp x = digs X k := by unfold unp; rw [HN.out, ← HX.out]
      have HU := Lib.hid hu
      have HUN := Lib.hid hun
      clear hu hun
      by_cases hy : y = 0
      · subst hy
        go_wp2_with fail
        go_ret2
        refine ⟨_, by rw [HU.out]; rfl, Lib.hid ⟨fun _ => ?_, fun h => ?_⟩⟩
        · rw [HUN.out, HN.out]
          exact HO.out
        · rw [HU.out] at h
          cases h
      · have hyb : (y == 0) = false := by simpa using hy
        go_wp2_with fail
        go_ret2
        refine ⟨_, by rw [HU.out, decide_eq_false hy]; rfl, Lib.hid ⟨fun h => ?_, fun _ => ⟨rfl, HO.out.below⟩⟩⟩
        rw [HU.out, decide_eq_false hy] at h
        cases h
end Go.Proofs.YtmfomkmdfddhaaaDoor.Nib
