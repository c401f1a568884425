/-
  No cell of these rows narrows 'for every input' (looked for: loops, veiled, ifaces, maps, wideKeys, modest, calm, conditions, laid).
  DERIVED. THE GIVEN ROWS OF THIS SEAT. 7 by the template 'for every input the law returns true; each argument reads behind the call as it read before'; 0 by the template 'total and deterministic' (their statements: YtfbldpppjnnblaaTotals.lean).
  GIVEN WITH THE SEED: the statements are not yours to turn. If you find one false, say at which input.
  Laid BY PROGRAM, IN A SANDBOX (cutbox-rows.mjs): the forced cells as the released guide's own fill.sh prints them over the translation d1149b1aaf1314fa… (all of the seat's roots in one cut). By AI agents, Wed Nov 11 2026. No macro, syntax, notation, axiom, sorry.
-/
import Derived.Test.YtfbldpppjnnblaaChecked
import GoSem.Claim
import GoSem.ClaimJoined
import GoSem.ClaimMapViews
import Derived.JoinedTies
import Derived.KernelRfl
namespace Go.Proofs.Ytfbldpppjnnblaa
/- THE CELL 'sum', in the pinned program and in every row, IS THE sha256 OF THE DUMP (.gsa) THAT YtfbldpppjnnblaaProg.lean LOADS. Nothing in Lean hashes anything: it is a label: what it is worth is what the hold of that sum in a sandbox is worth. -/
noncomputable def Try.pinned : Pinned := { name := "ytfbldpppjnnblaa", sum := "d1149b1aaf1314fa94f643558beaac14ff139f35962d560c2247fd0859b6c014", checked := Try.checked }
namespace Rows
def none {H : Type} : Left H := { results := [], args := [] }

/-- 'stillroomlaw17.TxnActs': WHATEVER THE INPUT: true; the input reads as it did. -/
def txnActsSpec : ChangeSpec := { name := "txnActs", fn := fun _ => fun
  | [d1, d2] => { results := [.lit (.bool true)], args := [d1, d2] }
  | _ => none }
def txnActsRow : OpenClaim := { program := "ytfbldpppjnnblaa", sum := "d1149b1aaf1314fa94f643558beaac14ff139f35962d560c2247fd0859b6c014", func := "stillroom/stillroomlaw17.TxnActs", spec := "txnActs", inPlace := ["internal/bytealg.abigen_runtime_cmpstring", "slices.overlaps[stillroom/wset.Write]"], unfollowed := true, recurses := true, apart := false }
def TxnActsSaid : Prop := txnActsRow.holds Try.pinned (OpenSpec.ofChange txnActsSpec)

/-- ITS FALSE NEIGHBOUR: 'it returns false'. Refute it at one input. -/
def txnActsWrong : ChangeSpec := { name := "txnActs", fn := fun _ => fun
  | [d1, d2] => { results := [.lit (.bool false)], args := [d1, d2] }
  | _ => none }
def TxnActsWrongFalsely : Prop := txnActsRow.holds Try.pinned (OpenSpec.ofChange txnActsWrong)

/-- 'stillroomlaw17.TxnOwn': WHATEVER THE INPUT: true; the input reads as it did. -/
def txnOwnSpec : ChangeSpec := { name := "txnOwn", fn := fun _ => fun
  | [d1, d2] => { results := [.lit (.bool true)], args := [d1, d2] }
  | _ => none }
def txnOwnRow : OpenClaim := { program := "ytfbldpppjnnblaa", sum := "d1149b1aaf1314fa94f643558beaac14ff139f35962d560c2247fd0859b6c014", func := "stillroom/stillroomlaw17.TxnOwn", spec := "txnOwn", inPlace := ["internal/bytealg.abigen_runtime_cmpstring", "slices.overlaps[stillroom/wset.Write]"], unfollowed := true, recurses := true, apart := false }
def TxnOwnSaid : Prop := txnOwnRow.holds Try.pinned (OpenSpec.ofChange txnOwnSpec)

/-- ITS FALSE NEIGHBOUR: 'it returns false'. Refute it at one input. -/
def txnOwnWrong : ChangeSpec := { name := "txnOwn", fn := fun _ => fun
  | [d1, d2] => { results := [.lit (.bool false)], args := [d1, d2] }
  | _ => none }
def TxnOwnWrongFalsely : Prop := txnOwnRow.holds Try.pinned (OpenSpec.ofChange txnOwnWrong)

/-- 'stillroomlaw17.TxnNobody': WHATEVER THE INPUT: true; the input reads as it did. -/
def txnNobodySpec : ChangeSpec := { name := "txnNobody", fn := fun _ => fun
  | [d1, d2, d3] => { results := [.lit (.bool true)], args := [d1, d2, d3] }
  | _ => none }
def txnNobodyRow : OpenClaim := { program := "ytfbldpppjnnblaa", sum := "d1149b1aaf1314fa94f643558beaac14ff139f35962d560c2247fd0859b6c014", func := "stillroom/stillroomlaw17.TxnNobody", spec := "txnNobody", inPlace := ["internal/bytealg.abigen_runtime_cmpstring", "slices.overlaps[stillroom/wset.Write]"], unfollowed := true, recurses := true, apart := false }
def TxnNobodySaid : Prop := txnNobodyRow.holds Try.pinned (OpenSpec.ofChange txnNobodySpec)

/-- ITS FALSE NEIGHBOUR: 'it returns false'. Refute it at one input. -/
def txnNobodyWrong : ChangeSpec := { name := "txnNobody", fn := fun _ => fun
  | [d1, d2, d3] => { results := [.lit (.bool false)], args := [d1, d2, d3] }
  | _ => none }
def TxnNobodyWrongFalsely : Prop := txnNobodyRow.holds Try.pinned (OpenSpec.ofChange txnNobodyWrong)

/-- 'stillroomlaw17.TxnOpens': WHATEVER THE INPUT: true; the input reads as it did. -/
def txnOpensSpec : ChangeSpec := { name := "txnOpens", fn := fun _ => fun
  | [d] => { results := [.lit (.bool true)], args := [d] }
  | _ => none }
def txnOpensRow : OpenClaim := { program := "ytfbldpppjnnblaa", sum := "d1149b1aaf1314fa94f643558beaac14ff139f35962d560c2247fd0859b6c014", func := "stillroom/stillroomlaw17.TxnOpens", spec := "txnOpens", inPlace := ["internal/bytealg.abigen_runtime_cmpstring", "slices.overlaps[stillroom/wset.Write]"], unfollowed := true, recurses := true, apart := false }
def TxnOpensSaid : Prop := txnOpensRow.holds Try.pinned (OpenSpec.ofChange txnOpensSpec)

/-- ITS FALSE NEIGHBOUR: 'it returns false'. Refute it at one input. -/
def txnOpensWrong : ChangeSpec := { name := "txnOpens", fn := fun _ => fun
  | [d] => { results := [.lit (.bool false)], args := [d] }
  | _ => none }
def TxnOpensWrongFalsely : Prop := txnOpensRow.holds Try.pinned (OpenSpec.ofChange txnOpensWrong)

/-- 'stillroomlaw17.TxnNotes': WHATEVER THE INPUT: true; the input reads as it did. -/
def txnNotesSpec : ChangeSpec := { name := "txnNotes", fn := fun _ => fun
  | [d1, d2, d3] => { results := [.lit (.bool true)], args := [d1, d2, d3] }
  | _ => none }
def txnNotesRow : OpenClaim := { program := "ytfbldpppjnnblaa", sum := "d1149b1aaf1314fa94f643558beaac14ff139f35962d560c2247fd0859b6c014", func := "stillroom/stillroomlaw17.TxnNotes", spec := "txnNotes", inPlace := ["internal/bytealg.abigen_runtime_cmpstring", "slices.overlaps[stillroom/wset.Write]"], unfollowed := true, recurses := true, apart := false }
def TxnNotesSaid : Prop := txnNotesRow.holds Try.pinned (OpenSpec.ofChange txnNotesSpec)

/-- ITS FALSE NEIGHBOUR: 'it returns false'. Refute it at one input. -/
def txnNotesWrong : ChangeSpec := { name := "txnNotes", fn := fun _ => fun
  | [d1, d2, d3] => { results := [.lit (.bool false)], args := [d1, d2, d3] }
  | _ => none }
def TxnNotesWrongFalsely : Prop := txnNotesRow.holds Try.pinned (OpenSpec.ofChange txnNotesWrong)

/-- 'stillroomlaw17.TxnAnew': WHATEVER THE INPUT: true; the input reads as it did. -/
def txnAnewSpec : ChangeSpec := { name := "txnAnew", fn := fun _ => fun
  | [d] => { results := [.lit (.bool true)], args := [d] }
  | _ => none }
def txnAnewRow : OpenClaim := { program := "ytfbldpppjnnblaa", sum := "d1149b1aaf1314fa94f643558beaac14ff139f35962d560c2247fd0859b6c014", func := "stillroom/stillroomlaw17.TxnAnew", spec := "txnAnew", inPlace := ["internal/bytealg.abigen_runtime_cmpstring", "slices.overlaps[stillroom/wset.Write]"], unfollowed := true, recurses := true, apart := false }
def TxnAnewSaid : Prop := txnAnewRow.holds Try.pinned (OpenSpec.ofChange txnAnewSpec)

/-- ITS FALSE NEIGHBOUR: 'it returns false'. Refute it at one input. -/
def txnAnewWrong : ChangeSpec := { name := "txnAnew", fn := fun _ => fun
  | [d] => { results := [.lit (.bool false)], args := [d] }
  | _ => none }
def TxnAnewWrongFalsely : Prop := txnAnewRow.holds Try.pinned (OpenSpec.ofChange txnAnewWrong)

/-- 'stillroomlaw17.TxnFirst': WHATEVER THE INPUT: true; the input reads as it did. -/
def txnFirstSpec : ChangeSpec := { name := "txnFirst", fn := fun _ => fun
  | [d1, d2, d3] => { results := [.lit (.bool true)], args := [d1, d2, d3] }
  | _ => none }
def txnFirstRow : OpenClaim := { program := "ytfbldpppjnnblaa", sum := "d1149b1aaf1314fa94f643558beaac14ff139f35962d560c2247fd0859b6c014", func := "stillroom/stillroomlaw17.TxnFirst", spec := "txnFirst", inPlace := ["internal/bytealg.abigen_runtime_cmpstring", "slices.overlaps[stillroom/wset.Write]"], unfollowed := true, recurses := true, apart := false }
def TxnFirstSaid : Prop := txnFirstRow.holds Try.pinned (OpenSpec.ofChange txnFirstSpec)

/-- ITS FALSE NEIGHBOUR: 'it returns false'. Refute it at one input. -/
def txnFirstWrong : ChangeSpec := { name := "txnFirst", fn := fun _ => fun
  | [d1, d2, d3] => { results := [.lit (.bool false)], args := [d1, d2, d3] }
  | _ => none }
def TxnFirstWrongFalsely : Prop := txnFirstRow.holds Try.pinned (OpenSpec.ofChange txnFirstWrong)

/- THE SECOND FORM. 'bulk': how many values and letters a reading holds, each counted each time it is reached (what is shared counts as often as it is met; a slice's spare places count too). A statement '..UptoSaid' is the law's where the arguments, and the package variables that the reading takes, are together of bulk at most 1048576: NARROWER than '..Said'. Prove '..Said' where nothing that the law and all that it calls make is longer than what came in: it says more and counts as full. Else prove '..UptoSaid'. A law counts once. -/
mutual
def uptoBulk {H : Type} : DataW H → Nat
  | .lit (.string bytes) => bytes.length + 1
  | .lit _ => 1
  | .nil => 1
  | .ptr d => uptoBulk d + 1
  | .slice elems spare => uptoBulkAll elems + uptoBulkAll spare + 1
  | .agg parts => uptoBulkAll parts + 1
  | .iface _ d => uptoBulk d + 1
  | .map entries => uptoBulkEntries entries + 1
  | .held _ => 1
def uptoBulkAll {H : Type} : List (DataW H) → Nat
  | [] => 0
  | d :: r => uptoBulk d + uptoBulkAll r
def uptoBulkEntries {H : Type} : List (Lit × DataW H) → Nat
  | [] => 0
  | x :: r => uptoBulkEntry x + uptoBulkEntries r
def uptoBulkEntry {H : Type} : Lit × DataW H → Nat
  | (.string bytes, d) => bytes.length + uptoBulk d + 1
  | (_, d) => uptoBulk d + 1
 end
def uptoSmall : (H : Type) → List (DataW H) → Bool := fun _ ds => decide (uptoBulkAll ds ≤ 1048576)
def OpenSpec.upto (s : _root_.Go.ChangeSpec) : _root_.Go.OpenSpec := { _root_.Go.OpenSpec.ofChange s with cond := some uptoSmall }

/-- 'stillroomlaw17.TxnActs', WHERE WHAT IT READS IS OF BULK AT MOST 1048576: true; the input reads as it did. -/
def txnActsUptoRow : OpenClaim := { program := "ytfbldpppjnnblaa", sum := "d1149b1aaf1314fa94f643558beaac14ff139f35962d560c2247fd0859b6c014", func := "stillroom/stillroomlaw17.TxnActs", spec := "txnActs", inPlace := ["internal/bytealg.abigen_runtime_cmpstring", "slices.overlaps[stillroom/wset.Write]"], unfollowed := true, recurses := true, apart := false, narrowed := true }
def TxnActsUptoSaid : Prop := txnActsUptoRow.holds Try.pinned (OpenSpec.upto txnActsSpec)

/-- 'stillroomlaw17.TxnOwn', WHERE WHAT IT READS IS OF BULK AT MOST 1048576: true; the input reads as it did. -/
def txnOwnUptoRow : OpenClaim := { program := "ytfbldpppjnnblaa", sum := "d1149b1aaf1314fa94f643558beaac14ff139f35962d560c2247fd0859b6c014", func := "stillroom/stillroomlaw17.TxnOwn", spec := "txnOwn", inPlace := ["internal/bytealg.abigen_runtime_cmpstring", "slices.overlaps[stillroom/wset.Write]"], unfollowed := true, recurses := true, apart := false, narrowed := true }
def TxnOwnUptoSaid : Prop := txnOwnUptoRow.holds Try.pinned (OpenSpec.upto txnOwnSpec)

/-- 'stillroomlaw17.TxnNobody', WHERE WHAT IT READS IS OF BULK AT MOST 1048576: true; the input reads as it did. -/
def txnNobodyUptoRow : OpenClaim := { program := "ytfbldpppjnnblaa", sum := "d1149b1aaf1314fa94f643558beaac14ff139f35962d560c2247fd0859b6c014", func := "stillroom/stillroomlaw17.TxnNobody", spec := "txnNobody", inPlace := ["internal/bytealg.abigen_runtime_cmpstring", "slices.overlaps[stillroom/wset.Write]"], unfollowed := true, recurses := true, apart := false, narrowed := true }
def TxnNobodyUptoSaid : Prop := txnNobodyUptoRow.holds Try.pinned (OpenSpec.upto txnNobodySpec)

/-- 'stillroomlaw17.TxnOpens', WHERE WHAT IT READS IS OF BULK AT MOST 1048576: true; the input reads as it did. -/
def txnOpensUptoRow : OpenClaim := { program := "ytfbldpppjnnblaa", sum := "d1149b1aaf1314fa94f643558beaac14ff139f35962d560c2247fd0859b6c014", func := "stillroom/stillroomlaw17.TxnOpens", spec := "txnOpens", inPlace := ["internal/bytealg.abigen_runtime_cmpstring", "slices.overlaps[stillroom/wset.Write]"], unfollowed := true, recurses := true, apart := false, narrowed := true }
def TxnOpensUptoSaid : Prop := txnOpensUptoRow.holds Try.pinned (OpenSpec.upto txnOpensSpec)

/-- 'stillroomlaw17.TxnNotes', WHERE WHAT IT READS IS OF BULK AT MOST 1048576: true; the input reads as it did. -/
def txnNotesUptoRow : OpenClaim := { program := "ytfbldpppjnnblaa", sum := "d1149b1aaf1314fa94f643558beaac14ff139f35962d560c2247fd0859b6c014", func := "stillroom/stillroomlaw17.TxnNotes", spec := "txnNotes", inPlace := ["internal/bytealg.abigen_runtime_cmpstring", "slices.overlaps[stillroom/wset.Write]"], unfollowed := true, recurses := true, apart := false, narrowed := true }
def TxnNotesUptoSaid : Prop := txnNotesUptoRow.holds Try.pinned (OpenSpec.upto txnNotesSpec)

/-- 'stillroomlaw17.TxnAnew', WHERE WHAT IT READS IS OF BULK AT MOST 1048576: true; the input reads as it did. -/
def txnAnewUptoRow : OpenClaim := { program := "ytfbldpppjnnblaa", sum := "d1149b1aaf1314fa94f643558beaac14ff139f35962d560c2247fd0859b6c014", func := "stillroom/stillroomlaw17.TxnAnew", spec := "txnAnew", inPlace := ["internal/bytealg.abigen_runtime_cmpstring", "slices.overlaps[stillroom/wset.Write]"], unfollowed := true, recurses := true, apart := false, narrowed := true }
def TxnAnewUptoSaid : Prop := txnAnewUptoRow.holds Try.pinned (OpenSpec.upto txnAnewSpec)

/-- 'stillroomlaw17.TxnFirst', WHERE WHAT IT READS IS OF BULK AT MOST 1048576: true; the input reads as it did. -/
def txnFirstUptoRow : OpenClaim := { program := "ytfbldpppjnnblaa", sum := "d1149b1aaf1314fa94f643558beaac14ff139f35962d560c2247fd0859b6c014", func := "stillroom/stillroomlaw17.TxnFirst", spec := "txnFirst", inPlace := ["internal/bytealg.abigen_runtime_cmpstring", "slices.overlaps[stillroom/wset.Write]"], unfollowed := true, recurses := true, apart := false, narrowed := true }
def TxnFirstUptoSaid : Prop := txnFirstUptoRow.holds Try.pinned (OpenSpec.upto txnFirstSpec)

end Rows
end Go.Proofs.Ytfbldpppjnnblaa
