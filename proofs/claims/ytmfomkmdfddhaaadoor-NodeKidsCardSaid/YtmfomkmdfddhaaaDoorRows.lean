/-
  NARROWER THAN 'FOR EVERY INPUT', by the rows' own cells (each row's printed sentence says how): NodeBack: laid · NodeSizes: laid · NodeValue: laid · NodeKids: laid · NodeTurns: laid.
  DERIVED. THE GIVEN ROWS OF THIS SEAT. 5 by the template 'for every input the law returns true; each argument reads behind the call as it read before'; 0 by the template 'total and deterministic' (their statements: YtmfomkmdfddhaaaDoorTotals.lean).
  GIVEN WITH THE SEED: the statements are not yours to turn. If you find one false, say at which input.
  Laid BY PROGRAM, IN A SANDBOX (cutbox-rows.mjs): the forced cells as the released guide's own fill.sh prints them over the translation ff5dbfe5617a7057… (all of the seat's roots in one cut). By AI agents, Wed Nov 11 2026. No macro, syntax, notation, axiom, sorry.
-/
import Derived.Test.YtmfomkmdfddhaaaDoorChecked
import GoSem.Claim
import GoSem.ClaimJoined
import GoSem.ClaimMapViews
import Derived.JoinedTies
import Derived.KernelRfl
namespace Go.Proofs.YtmfomkmdfddhaaaDoor
/- THE CELL 'sum', in the pinned program and in every row, IS THE sha256 OF THE DUMP (.gsa) THAT YtmfomkmdfddhaaaDoorProg.lean LOADS. Nothing in Lean hashes anything: it is a label: what it is worth is what the hold of that sum in a sandbox is worth. -/
noncomputable def Tryd.pinned : Pinned := { name := "ytmfomkmdfddhaaadoor", sum := "ff5dbfe5617a70570447cf04eec4efa63f24a1b0878a7ccf209bec2fb8037f1f", checked := Tryd.checked }
namespace Rows
def none {H : Type} : Left H := { results := [], args := [] }

/- WHAT THE LISTED PACKAGE-LEVEL VARIABLES READ AS WHEN THE CALL BEGINS. Each datum BY PROGRAM (the guide's laid-datum.mjs) off the statement by which the dump's own 'gosem.cut.vars' lays the variable. In a bare row this is a premise. The card (YtmfomkmdfddhaaaDoorCards.lean) ties it to the program's text. -/
def laid_stillroom_slab_lines {H : Type} : DataW H := .agg [.lit (.int .i64 0), .lit (.int .i64 1), .lit (.int .i64 4)]

/-- 'stillroomlaw09.NodeBack': WHATEVER THE INPUT: true; the input reads as it did. -/
def nodeBackSpec : ChangeSpec := { name := "nodeBack", fn := fun _ => fun
  | [d1, d2] => { results := [.lit (.bool true)], args := [d1, d2] }
  | _ => none }
def nodeBackRow : OpenClaim := { program := "ytmfomkmdfddhaaadoor", sum := "ff5dbfe5617a70570447cf04eec4efa63f24a1b0878a7ccf209bec2fb8037f1f", func := "stillroom/stillroomlaw09.NodeBack", spec := "nodeBack", named := ["stillroom/slab.lines"], apart := false, laid := [("stillroom/slab.lines", laid_stillroom_slab_lines)] }
def NodeBackSaid : Prop := nodeBackRow.holds Tryd.pinned (OpenSpec.ofChange nodeBackSpec)

/-- ITS FALSE NEIGHBOUR: 'it returns false'. Refute it at one input. -/
def nodeBackWrong : ChangeSpec := { name := "nodeBack", fn := fun _ => fun
  | [d1, d2] => { results := [.lit (.bool false)], args := [d1, d2] }
  | _ => none }
def NodeBackWrongFalsely : Prop := nodeBackRow.holds Tryd.pinned (OpenSpec.ofChange nodeBackWrong)

/-- 'stillroomlaw09.NodeSizes': WHATEVER THE INPUT: true; the input reads as it did. -/
def nodeSizesSpec : ChangeSpec := { name := "nodeSizes", fn := fun _ => fun
  | [d] => { results := [.lit (.bool true)], args := [d] }
  | _ => none }
def nodeSizesRow : OpenClaim := { program := "ytmfomkmdfddhaaadoor", sum := "ff5dbfe5617a70570447cf04eec4efa63f24a1b0878a7ccf209bec2fb8037f1f", func := "stillroom/stillroomlaw09.NodeSizes", spec := "nodeSizes", named := ["stillroom/slab.lines"], apart := false, laid := [("stillroom/slab.lines", laid_stillroom_slab_lines)] }
def NodeSizesSaid : Prop := nodeSizesRow.holds Tryd.pinned (OpenSpec.ofChange nodeSizesSpec)

/-- ITS FALSE NEIGHBOUR: 'it returns false'. Refute it at one input. -/
def nodeSizesWrong : ChangeSpec := { name := "nodeSizes", fn := fun _ => fun
  | [d] => { results := [.lit (.bool false)], args := [d] }
  | _ => none }
def NodeSizesWrongFalsely : Prop := nodeSizesRow.holds Tryd.pinned (OpenSpec.ofChange nodeSizesWrong)

/-- 'stillroomlaw09.NodeValue': WHATEVER THE INPUT: true; the input reads as it did. -/
def nodeValueSpec : ChangeSpec := { name := "nodeValue", fn := fun _ => fun
  | [d1, d2] => { results := [.lit (.bool true)], args := [d1, d2] }
  | _ => none }
def nodeValueRow : OpenClaim := { program := "ytmfomkmdfddhaaadoor", sum := "ff5dbfe5617a70570447cf04eec4efa63f24a1b0878a7ccf209bec2fb8037f1f", func := "stillroom/stillroomlaw09.NodeValue", spec := "nodeValue", named := ["stillroom/slab.lines"], apart := false, laid := [("stillroom/slab.lines", laid_stillroom_slab_lines)] }
def NodeValueSaid : Prop := nodeValueRow.holds Tryd.pinned (OpenSpec.ofChange nodeValueSpec)

/-- ITS FALSE NEIGHBOUR: 'it returns false'. Refute it at one input. -/
def nodeValueWrong : ChangeSpec := { name := "nodeValue", fn := fun _ => fun
  | [d1, d2] => { results := [.lit (.bool false)], args := [d1, d2] }
  | _ => none }
def NodeValueWrongFalsely : Prop := nodeValueRow.holds Tryd.pinned (OpenSpec.ofChange nodeValueWrong)

/-- 'stillroomlaw09.NodeKids': WHATEVER THE INPUT: true; the input reads as it did. -/
def nodeKidsSpec : ChangeSpec := { name := "nodeKids", fn := fun _ => fun
  | [d1, d2, d3] => { results := [.lit (.bool true)], args := [d1, d2, d3] }
  | _ => none }
def nodeKidsRow : OpenClaim := { program := "ytmfomkmdfddhaaadoor", sum := "ff5dbfe5617a70570447cf04eec4efa63f24a1b0878a7ccf209bec2fb8037f1f", func := "stillroom/stillroomlaw09.NodeKids", spec := "nodeKids", inPlace := ["slices.overlaps[byte]", "slices.overlaps[uint64]"], named := ["stillroom/slab.lines"], apart := false, laid := [("stillroom/slab.lines", laid_stillroom_slab_lines)] }
def NodeKidsSaid : Prop := nodeKidsRow.holds Tryd.pinned (OpenSpec.ofChange nodeKidsSpec)

/-- ITS FALSE NEIGHBOUR: 'it returns false'. Refute it at one input. -/
def nodeKidsWrong : ChangeSpec := { name := "nodeKids", fn := fun _ => fun
  | [d1, d2, d3] => { results := [.lit (.bool false)], args := [d1, d2, d3] }
  | _ => none }
def NodeKidsWrongFalsely : Prop := nodeKidsRow.holds Tryd.pinned (OpenSpec.ofChange nodeKidsWrong)

/-- 'stillroomlaw09.NodeTurns': WHATEVER THE INPUT: true; the input reads as it did. -/
def nodeTurnsSpec : ChangeSpec := { name := "nodeTurns", fn := fun _ => fun
  | [d1, d2, d3] => { results := [.lit (.bool true)], args := [d1, d2, d3] }
  | _ => none }
def nodeTurnsRow : OpenClaim := { program := "ytmfomkmdfddhaaadoor", sum := "ff5dbfe5617a70570447cf04eec4efa63f24a1b0878a7ccf209bec2fb8037f1f", func := "stillroom/stillroomlaw09.NodeTurns", spec := "nodeTurns", inPlace := ["slices.overlaps[byte]", "slices.overlaps[uint64]"], named := ["stillroom/slab.lines"], apart := false, laid := [("stillroom/slab.lines", laid_stillroom_slab_lines)] }
def NodeTurnsSaid : Prop := nodeTurnsRow.holds Tryd.pinned (OpenSpec.ofChange nodeTurnsSpec)

/-- ITS FALSE NEIGHBOUR: 'it returns false'. Refute it at one input. -/
def nodeTurnsWrong : ChangeSpec := { name := "nodeTurns", fn := fun _ => fun
  | [d1, d2, d3] => { results := [.lit (.bool false)], args := [d1, d2, d3] }
  | _ => none }
def NodeTurnsWrongFalsely : Prop := nodeTurnsRow.holds Tryd.pinned (OpenSpec.ofChange nodeTurnsWrong)

/- THE SECOND FORM. 'bulk': how many values and letters a reading holds, each counted each time it is reached (what is shared counts as often as it is met; a slice's spare places count too). A statement '..UptoSaid' is the law's where the arguments, and the package variables that the reading takes, are together of bulk at most 1048576: NARROWER than '..Said'. Prove '..Said' where nothing that the law and all that it calls make is longer than what came in: it says more and counts as full. Else prove '..UptoSaid'. A law counts once. -/
mutual
def uptoBulk {H : Type} : DataW H → Nat
  | .lit (.string bytes) => bytes.length + 1
  | .lit _ => 1
  | .nil => 1
  | .ptr d => uptoBulk d + 1
  | .slice elems spare => uptoBulkAll elems + uptoBulkAll spare + 1
  | .agg parts => uptoBulkAll parts + 1
  | .iface _ d => uptoBulk d + 1
  | .map entries => uptoBulkEntries entries + 1
  | .held _ => 1
def uptoBulkAll {H : Type} : List (DataW H) → Nat
  | [] => 0
  | d :: r => uptoBulk d + uptoBulkAll r
def uptoBulkEntries {H : Type} : List (Lit × DataW H) → Nat
  | [] => 0
  | x :: r => uptoBulkEntry x + uptoBulkEntries r
def uptoBulkEntry {H : Type} : Lit × DataW H → Nat
  | (.string bytes, d) => bytes.length + uptoBulk d + 1
  | (_, d) => uptoBulk d + 1
 end
def uptoSmall : (H : Type) → List (DataW H) → Bool := fun _ ds => decide (uptoBulkAll ds ≤ 1048576)
def OpenSpec.upto (s : _root_.Go.ChangeSpec) : _root_.Go.OpenSpec := { _root_.Go.OpenSpec.ofChange s with cond := some uptoSmall }

/-- 'stillroomlaw09.NodeBack', WHERE WHAT IT READS IS OF BULK AT MOST 1048576: true; the input reads as it did. -/
def nodeBackUptoRow : OpenClaim := { program := "ytmfomkmdfddhaaadoor", sum := "ff5dbfe5617a70570447cf04eec4efa63f24a1b0878a7ccf209bec2fb8037f1f", func := "stillroom/stillroomlaw09.NodeBack", spec := "nodeBack", named := ["stillroom/slab.lines"], apart := false, laid := [("stillroom/slab.lines", laid_stillroom_slab_lines)], narrowed := true }
def NodeBackUptoSaid : Prop := nodeBackUptoRow.holds Tryd.pinned (OpenSpec.upto nodeBackSpec)

/-- 'stillroomlaw09.NodeSizes', WHERE WHAT IT READS IS OF BULK AT MOST 1048576: true; the input reads as it did. -/
def nodeSizesUptoRow : OpenClaim := { program := "ytmfomkmdfddhaaadoor", sum := "ff5dbfe5617a70570447cf04eec4efa63f24a1b0878a7ccf209bec2fb8037f1f", func := "stillroom/stillroomlaw09.NodeSizes", spec := "nodeSizes", named := ["stillroom/slab.lines"], apart := false, laid := [("stillroom/slab.lines", laid_stillroom_slab_lines)], narrowed := true }
def NodeSizesUptoSaid : Prop := nodeSizesUptoRow.holds Tryd.pinned (OpenSpec.upto nodeSizesSpec)

/-- 'stillroomlaw09.NodeValue', WHERE WHAT IT READS IS OF BULK AT MOST 1048576: true; the input reads as it did. -/
def nodeValueUptoRow : OpenClaim := { program := "ytmfomkmdfddhaaadoor", sum := "ff5dbfe5617a70570447cf04eec4efa63f24a1b0878a7ccf209bec2fb8037f1f", func := "stillroom/stillroomlaw09.NodeValue", spec := "nodeValue", named := ["stillroom/slab.lines"], apart := false, laid := [("stillroom/slab.lines", laid_stillroom_slab_lines)], narrowed := true }
def NodeValueUptoSaid : Prop := nodeValueUptoRow.holds Tryd.pinned (OpenSpec.upto nodeValueSpec)

/-- 'stillroomlaw09.NodeKids', WHERE WHAT IT READS IS OF BULK AT MOST 1048576: true; the input reads as it did. -/
def nodeKidsUptoRow : OpenClaim := { program := "ytmfomkmdfddhaaadoor", sum := "ff5dbfe5617a70570447cf04eec4efa63f24a1b0878a7ccf209bec2fb8037f1f", func := "stillroom/stillroomlaw09.NodeKids", spec := "nodeKids", inPlace := ["slices.overlaps[byte]", "slices.overlaps[uint64]"], named := ["stillroom/slab.lines"], apart := false, laid := [("stillroom/slab.lines", laid_stillroom_slab_lines)], narrowed := true }
def NodeKidsUptoSaid : Prop := nodeKidsUptoRow.holds Tryd.pinned (OpenSpec.upto nodeKidsSpec)

/-- 'stillroomlaw09.NodeTurns', WHERE WHAT IT READS IS OF BULK AT MOST 1048576: true; the input reads as it did. -/
def nodeTurnsUptoRow : OpenClaim := { program := "ytmfomkmdfddhaaadoor", sum := "ff5dbfe5617a70570447cf04eec4efa63f24a1b0878a7ccf209bec2fb8037f1f", func := "stillroom/stillroomlaw09.NodeTurns", spec := "nodeTurns", inPlace := ["slices.overlaps[byte]", "slices.overlaps[uint64]"], named := ["stillroom/slab.lines"], apart := false, laid := [("stillroom/slab.lines", laid_stillroom_slab_lines)], narrowed := true }
def NodeTurnsUptoSaid : Prop := nodeTurnsUptoRow.holds Tryd.pinned (OpenSpec.upto nodeTurnsSpec)

end Rows
end Go.Proofs.YtmfomkmdfddhaaaDoor
