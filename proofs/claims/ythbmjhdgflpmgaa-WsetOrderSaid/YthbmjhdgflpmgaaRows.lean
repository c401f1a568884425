/-
  No cell of these rows narrows 'for every input' (looked for: loops, veiled, ifaces, maps, wideKeys, modest, calm, conditions, laid).
  DERIVED. THE GIVEN ROWS OF THIS SEAT. 6 by the template 'for every input the law returns true; each argument reads behind the call as it read before'; 0 by the template 'total and deterministic' (their statements: YthbmjhdgflpmgaaTotals.lean).
  GIVEN WITH THE SEED: the statements are not yours to turn. If you find one false, say at which input.
  Laid BY PROGRAM, IN A SANDBOX (cutbox-rows.mjs): the forced cells as the released guide's own fill.sh prints them over the translation 7a65f482cba786dc… (all of the seat's roots in one cut). By AI agents, Wed Nov 11 2026. No macro, syntax, notation, axiom, sorry.
-/
import Derived.Test.YthbmjhdgflpmgaaChecked
import GoSem.Claim
import GoSem.ClaimJoined
import GoSem.ClaimMapViews
import Derived.JoinedTies
import Derived.KernelRfl
namespace Go.Proofs.Ythbmjhdgflpmgaa
/- THE CELL 'sum', in the pinned program and in every row, IS THE sha256 OF THE DUMP (.gsa) THAT YthbmjhdgflpmgaaProg.lean LOADS. Nothing in Lean hashes anything: it is a label: what it is worth is what the hold of that sum in a sandbox is worth. -/
noncomputable def Try.pinned : Pinned := { name := "ythbmjhdgflpmgaa", sum := "7a65f482cba786dc28a38c1a538776bb700dcb8c17ffd3b3486dde1318095d31", checked := Try.checked }
namespace Rows
def none {H : Type} : Left H := { results := [], args := [] }

/-- 'stillroomlaw15.WsetOver': WHATEVER THE INPUT: true; the input reads as it did. -/
def wsetOverSpec : ChangeSpec := { name := "wsetOver", fn := fun _ => fun
  | [d1, d2] => { results := [.lit (.bool true)], args := [d1, d2] }
  | _ => none }
def wsetOverRow : OpenClaim := { program := "ythbmjhdgflpmgaa", sum := "7a65f482cba786dc28a38c1a538776bb700dcb8c17ffd3b3486dde1318095d31", func := "stillroom/stillroomlaw15.WsetOver", spec := "wsetOver", inPlace := ["internal/bytealg.abigen_runtime_cmpstring", "slices.overlaps[stillroom/wset.Write]"], unfollowed := true, recurses := true, apart := false }
def WsetOverSaid : Prop := wsetOverRow.holds Try.pinned (OpenSpec.ofChange wsetOverSpec)

/-- ITS FALSE NEIGHBOUR: 'it returns false'. Refute it at one input. -/
def wsetOverWrong : ChangeSpec := { name := "wsetOver", fn := fun _ => fun
  | [d1, d2] => { results := [.lit (.bool false)], args := [d1, d2] }
  | _ => none }
def WsetOverWrongFalsely : Prop := wsetOverRow.holds Try.pinned (OpenSpec.ofChange wsetOverWrong)

/-- 'stillroomlaw15.WsetLast': WHATEVER THE INPUT: true; the input reads as it did. -/
def wsetLastSpec : ChangeSpec := { name := "wsetLast", fn := fun _ => fun
  | [d] => { results := [.lit (.bool true)], args := [d] }
  | _ => none }
def wsetLastRow : OpenClaim := { program := "ythbmjhdgflpmgaa", sum := "7a65f482cba786dc28a38c1a538776bb700dcb8c17ffd3b3486dde1318095d31", func := "stillroom/stillroomlaw15.WsetLast", spec := "wsetLast", inPlace := ["internal/bytealg.abigen_runtime_cmpstring", "slices.overlaps[stillroom/wset.Write]"], unfollowed := true, recurses := true, apart := false }
def WsetLastSaid : Prop := wsetLastRow.holds Try.pinned (OpenSpec.ofChange wsetLastSpec)

/-- ITS FALSE NEIGHBOUR: 'it returns false'. Refute it at one input. -/
def wsetLastWrong : ChangeSpec := { name := "wsetLast", fn := fun _ => fun
  | [d] => { results := [.lit (.bool false)], args := [d] }
  | _ => none }
def WsetLastWrongFalsely : Prop := wsetLastRow.holds Try.pinned (OpenSpec.ofChange wsetLastWrong)

/-- 'stillroomlaw15.WsetBoth': WHATEVER THE INPUT: true; the input reads as it did. -/
def wsetBothSpec : ChangeSpec := { name := "wsetBoth", fn := fun _ => fun
  | [d1, d2, d3] => { results := [.lit (.bool true)], args := [d1, d2, d3] }
  | _ => none }
def wsetBothRow : OpenClaim := { program := "ythbmjhdgflpmgaa", sum := "7a65f482cba786dc28a38c1a538776bb700dcb8c17ffd3b3486dde1318095d31", func := "stillroom/stillroomlaw15.WsetBoth", spec := "wsetBoth", inPlace := ["internal/bytealg.abigen_runtime_cmpstring", "slices.overlaps[stillroom/wset.Write]"], unfollowed := true, recurses := true, apart := false }
def WsetBothSaid : Prop := wsetBothRow.holds Try.pinned (OpenSpec.ofChange wsetBothSpec)

/-- ITS FALSE NEIGHBOUR: 'it returns false'. Refute it at one input. -/
def wsetBothWrong : ChangeSpec := { name := "wsetBoth", fn := fun _ => fun
  | [d1, d2, d3] => { results := [.lit (.bool false)], args := [d1, d2, d3] }
  | _ => none }
def WsetBothWrongFalsely : Prop := wsetBothRow.holds Try.pinned (OpenSpec.ofChange wsetBothWrong)

/-- 'stillroomlaw15.WsetOrder': WHATEVER THE INPUT: true; the input reads as it did. -/
def wsetOrderSpec : ChangeSpec := { name := "wsetOrder", fn := fun _ => fun
  | [d1, d2] => { results := [.lit (.bool true)], args := [d1, d2] }
  | _ => none }
def wsetOrderRow : OpenClaim := { program := "ythbmjhdgflpmgaa", sum := "7a65f482cba786dc28a38c1a538776bb700dcb8c17ffd3b3486dde1318095d31", func := "stillroom/stillroomlaw15.WsetOrder", spec := "wsetOrder", inPlace := ["internal/bytealg.abigen_runtime_cmpstring", "slices.overlaps[stillroom/wset.Write]"], unfollowed := true, recurses := true, apart := false }
def WsetOrderSaid : Prop := wsetOrderRow.holds Try.pinned (OpenSpec.ofChange wsetOrderSpec)

/-- ITS FALSE NEIGHBOUR: 'it returns false'. Refute it at one input. -/
def wsetOrderWrong : ChangeSpec := { name := "wsetOrder", fn := fun _ => fun
  | [d1, d2] => { results := [.lit (.bool false)], args := [d1, d2] }
  | _ => none }
def WsetOrderWrongFalsely : Prop := wsetOrderRow.holds Try.pinned (OpenSpec.ofChange wsetOrderWrong)

/-- 'stillroomlaw15.WsetTwice': WHATEVER THE INPUT: true; the input reads as it did. -/
def wsetTwiceSpec : ChangeSpec := { name := "wsetTwice", fn := fun _ => fun
  | [d1, d2] => { results := [.lit (.bool true)], args := [d1, d2] }
  | _ => none }
def wsetTwiceRow : OpenClaim := { program := "ythbmjhdgflpmgaa", sum := "7a65f482cba786dc28a38c1a538776bb700dcb8c17ffd3b3486dde1318095d31", func := "stillroom/stillroomlaw15.WsetTwice", spec := "wsetTwice", inPlace := ["internal/bytealg.abigen_runtime_cmpstring", "slices.overlaps[stillroom/wset.Write]"], unfollowed := true, recurses := true, apart := false }
def WsetTwiceSaid : Prop := wsetTwiceRow.holds Try.pinned (OpenSpec.ofChange wsetTwiceSpec)

/-- ITS FALSE NEIGHBOUR: 'it returns false'. Refute it at one input. -/
def wsetTwiceWrong : ChangeSpec := { name := "wsetTwice", fn := fun _ => fun
  | [d1, d2] => { results := [.lit (.bool false)], args := [d1, d2] }
  | _ => none }
def WsetTwiceWrongFalsely : Prop := wsetTwiceRow.holds Try.pinned (OpenSpec.ofChange wsetTwiceWrong)

/-- 'stillroomlaw15.WsetMeets': WHATEVER THE INPUT: true; the input reads as it did. -/
def wsetMeetsSpec : ChangeSpec := { name := "wsetMeets", fn := fun _ => fun
  | [d1, d2, d3] => { results := [.lit (.bool true)], args := [d1, d2, d3] }
  | _ => none }
def wsetMeetsRow : OpenClaim := { program := "ythbmjhdgflpmgaa", sum := "7a65f482cba786dc28a38c1a538776bb700dcb8c17ffd3b3486dde1318095d31", func := "stillroom/stillroomlaw15.WsetMeets", spec := "wsetMeets", inPlace := ["internal/bytealg.abigen_runtime_cmpstring", "slices.overlaps[stillroom/wset.Write]"], unfollowed := true, recurses := true, apart := false }
def WsetMeetsSaid : Prop := wsetMeetsRow.holds Try.pinned (OpenSpec.ofChange wsetMeetsSpec)

/-- ITS FALSE NEIGHBOUR: 'it returns false'. Refute it at one input. -/
def wsetMeetsWrong : ChangeSpec := { name := "wsetMeets", fn := fun _ => fun
  | [d1, d2, d3] => { results := [.lit (.bool false)], args := [d1, d2, d3] }
  | _ => none }
def WsetMeetsWrongFalsely : Prop := wsetMeetsRow.holds Try.pinned (OpenSpec.ofChange wsetMeetsWrong)

/- THE SECOND FORM. 'bulk': how many values and letters a reading holds, each counted each time it is reached (what is shared counts as often as it is met; a slice's spare places count too). A statement '..UptoSaid' is the law's where the arguments, and the package variables that the reading takes, are together of bulk at most 1048576: NARROWER than '..Said'. Prove '..Said' where nothing that the law and all that it calls make is longer than what came in: it says more and counts as full. Else prove '..UptoSaid'. A law counts once. -/
mutual
def uptoBulk {H : Type} : DataW H → Nat
  | .lit (.string bytes) => bytes.length + 1
  | .lit _ => 1
  | .nil => 1
  | .ptr d => uptoBulk d + 1
  | .slice elems spare => uptoBulkAll elems + uptoBulkAll spare + 1
  | .agg parts => uptoBulkAll parts + 1
  | .iface _ d => uptoBulk d + 1
  | .map entries => uptoBulkEntries entries + 1
  | .held _ => 1
def uptoBulkAll {H : Type} : List (DataW H) → Nat
  | [] => 0
  | d :: r => uptoBulk d + uptoBulkAll r
def uptoBulkEntries {H : Type} : List (Lit × DataW H) → Nat
  | [] => 0
  | x :: r => uptoBulkEntry x + uptoBulkEntries r
def uptoBulkEntry {H : Type} : Lit × DataW H → Nat
  | (.string bytes, d) => bytes.length + uptoBulk d + 1
  | (_, d) => uptoBulk d + 1
 end
def uptoSmall : (H : Type) → List (DataW H) → Bool := fun _ ds => decide (uptoBulkAll ds ≤ 1048576)
def OpenSpec.upto (s : _root_.Go.ChangeSpec) : _root_.Go.OpenSpec := { _root_.Go.OpenSpec.ofChange s with cond := some uptoSmall }

/-- 'stillroomlaw15.WsetOver', WHERE WHAT IT READS IS OF BULK AT MOST 1048576: true; the input reads as it did. -/
def wsetOverUptoRow : OpenClaim := { program := "ythbmjhdgflpmgaa", sum := "7a65f482cba786dc28a38c1a538776bb700dcb8c17ffd3b3486dde1318095d31", func := "stillroom/stillroomlaw15.WsetOver", spec := "wsetOver", inPlace := ["internal/bytealg.abigen_runtime_cmpstring", "slices.overlaps[stillroom/wset.Write]"], unfollowed := true, recurses := true, apart := false, narrowed := true }
def WsetOverUptoSaid : Prop := wsetOverUptoRow.holds Try.pinned (OpenSpec.upto wsetOverSpec)

/-- 'stillroomlaw15.WsetLast', WHERE WHAT IT READS IS OF BULK AT MOST 1048576: true; the input reads as it did. -/
def wsetLastUptoRow : OpenClaim := { program := "ythbmjhdgflpmgaa", sum := "7a65f482cba786dc28a38c1a538776bb700dcb8c17ffd3b3486dde1318095d31", func := "stillroom/stillroomlaw15.WsetLast", spec := "wsetLast", inPlace := ["internal/bytealg.abigen_runtime_cmpstring", "slices.overlaps[stillroom/wset.Write]"], unfollowed := true, recurses := true, apart := false, narrowed := true }
def WsetLastUptoSaid : Prop := wsetLastUptoRow.holds Try.pinned (OpenSpec.upto wsetLastSpec)

/-- 'stillroomlaw15.WsetBoth', WHERE WHAT IT READS IS OF BULK AT MOST 1048576: true; the input reads as it did. -/
def wsetBothUptoRow : OpenClaim := { program := "ythbmjhdgflpmgaa", sum := "7a65f482cba786dc28a38c1a538776bb700dcb8c17ffd3b3486dde1318095d31", func := "stillroom/stillroomlaw15.WsetBoth", spec := "wsetBoth", inPlace := ["internal/bytealg.abigen_runtime_cmpstring", "slices.overlaps[stillroom/wset.Write]"], unfollowed := true, recurses := true, apart := false, narrowed := true }
def WsetBothUptoSaid : Prop := wsetBothUptoRow.holds Try.pinned (OpenSpec.upto wsetBothSpec)

/-- 'stillroomlaw15.WsetOrder', WHERE WHAT IT READS IS OF BULK AT MOST 1048576: true; the input reads as it did. -/
def wsetOrderUptoRow : OpenClaim := { program := "ythbmjhdgflpmgaa", sum := "7a65f482cba786dc28a38c1a538776bb700dcb8c17ffd3b3486dde1318095d31", func := "stillroom/stillroomlaw15.WsetOrder", spec := "wsetOrder", inPlace := ["internal/bytealg.abigen_runtime_cmpstring", "slices.overlaps[stillroom/wset.Write]"], unfollowed := true, recurses := true, apart := false, narrowed := true }
def WsetOrderUptoSaid : Prop := wsetOrderUptoRow.holds Try.pinned (OpenSpec.upto wsetOrderSpec)

/-- 'stillroomlaw15.WsetTwice', WHERE WHAT IT READS IS OF BULK AT MOST 1048576: true; the input reads as it did. -/
def wsetTwiceUptoRow : OpenClaim := { program := "ythbmjhdgflpmgaa", sum := "7a65f482cba786dc28a38c1a538776bb700dcb8c17ffd3b3486dde1318095d31", func := "stillroom/stillroomlaw15.WsetTwice", spec := "wsetTwice", inPlace := ["internal/bytealg.abigen_runtime_cmpstring", "slices.overlaps[stillroom/wset.Write]"], unfollowed := true, recurses := true, apart := false, narrowed := true }
def WsetTwiceUptoSaid : Prop := wsetTwiceUptoRow.holds Try.pinned (OpenSpec.upto wsetTwiceSpec)

/-- 'stillroomlaw15.WsetMeets', WHERE WHAT IT READS IS OF BULK AT MOST 1048576: true; the input reads as it did. -/
def wsetMeetsUptoRow : OpenClaim := { program := "ythbmjhdgflpmgaa", sum := "7a65f482cba786dc28a38c1a538776bb700dcb8c17ffd3b3486dde1318095d31", func := "stillroom/stillroomlaw15.WsetMeets", spec := "wsetMeets", inPlace := ["internal/bytealg.abigen_runtime_cmpstring", "slices.overlaps[stillroom/wset.Write]"], unfollowed := true, recurses := true, apart := false, narrowed := true }
def WsetMeetsUptoSaid : Prop := wsetMeetsUptoRow.holds Try.pinned (OpenSpec.upto wsetMeetsSpec)

end Rows
end Go.Proofs.Ythbmjhdgflpmgaa
