/-
  DERIVED. GIVEN WITH THE SEED: THE CARDS: each row of YtmfomkmdfddhaaaDoorRows.lean that lists a variable, with what it lists TIED to the program's text (the seventh form; the later family's looks); each row that meets fmt, with fmt's text TOLD by the authors' own Lean function (tested against real Go, not proved from fmt's source: count such statements apart). THE CARD IS WHAT COUNTS. Prove the row's statement (the work); the ties are given (YtmfomkmdfddhaaaDoorTie.lean); close each card by the builder's one call (the guide's Derived/Test/ToyasCard.lean, 'card_holds'). Laid BY PROGRAM, IN A SANDBOX (cutbox-door.mjs). By AI agents, Wed Nov 11 2026. No macro, syntax, notation, axiom, sorry.
-/
import Derived.Test.YtmfomkmdfddhaaaDoorRows
import GoSem.ClaimSeven
namespace Go.Proofs.YtmfomkmdfddhaaaDoor
namespace Rows

/-- THE TIED CARD OF 'stillroomlaw09.NodeBack'. -/
def nodeBackCard : Claim7 := { stood := { row := nodeBackRow, standIns := [], harness := (true, "bcb4e1f26bd9df4aef64d86f1ec4fd771bab40b30a03e158118bd3a20a46a69c"), looks := false }, kinds := [], alts := [], laidByText := true, laidKinds := [.data], laidTests := true, laidLooks := .later }
def NodeBackCardSaid : Prop := Claim7.holds Tryd.pinned (.plain (OpenSpec.ofChange nodeBackSpec)) nodeBackCard

/-- THE TIED CARD OF 'stillroomlaw09.NodeSizes'. -/
def nodeSizesCard : Claim7 := { stood := { row := nodeSizesRow, standIns := [], harness := (true, "bcb4e1f26bd9df4aef64d86f1ec4fd771bab40b30a03e158118bd3a20a46a69c"), looks := false }, kinds := [], alts := [], laidByText := true, laidKinds := [.data], laidTests := true, laidLooks := .later }
def NodeSizesCardSaid : Prop := Claim7.holds Tryd.pinned (.plain (OpenSpec.ofChange nodeSizesSpec)) nodeSizesCard

/-- THE TIED CARD OF 'stillroomlaw09.NodeValue'. -/
def nodeValueCard : Claim7 := { stood := { row := nodeValueRow, standIns := [], harness := (true, "bcb4e1f26bd9df4aef64d86f1ec4fd771bab40b30a03e158118bd3a20a46a69c"), looks := false }, kinds := [], alts := [], laidByText := true, laidKinds := [.data], laidTests := true, laidLooks := .later }
def NodeValueCardSaid : Prop := Claim7.holds Tryd.pinned (.plain (OpenSpec.ofChange nodeValueSpec)) nodeValueCard

/-- THE TIED CARD OF 'stillroomlaw09.NodeKids'. -/
def nodeKidsCard : Claim7 := { stood := { row := nodeKidsRow, standIns := [], harness := (true, "bcb4e1f26bd9df4aef64d86f1ec4fd771bab40b30a03e158118bd3a20a46a69c"), looks := false }, kinds := [], alts := [], laidByText := true, laidKinds := [.data], laidTests := true, laidLooks := .later }
def NodeKidsCardSaid : Prop := Claim7.holds Tryd.pinned (.plain (OpenSpec.ofChange nodeKidsSpec)) nodeKidsCard

/-- THE TIED CARD OF 'stillroomlaw09.NodeTurns'. -/
def nodeTurnsCard : Claim7 := { stood := { row := nodeTurnsRow, standIns := [], harness := (true, "bcb4e1f26bd9df4aef64d86f1ec4fd771bab40b30a03e158118bd3a20a46a69c"), looks := false }, kinds := [], alts := [], laidByText := true, laidKinds := [.data], laidTests := true, laidLooks := .later }
def NodeTurnsCardSaid : Prop := Claim7.holds Tryd.pinned (.plain (OpenSpec.ofChange nodeTurnsSpec)) nodeTurnsCard

/-- THE SECOND FORM's CARD OF 'stillroomlaw09.NodeBack'. -/
def nodeBackUptoCard : Claim7 := { stood := { row := nodeBackUptoRow, standIns := [], harness := (true, "bcb4e1f26bd9df4aef64d86f1ec4fd771bab40b30a03e158118bd3a20a46a69c"), looks := false }, kinds := [], alts := [], laidByText := true, laidKinds := [.data], laidTests := true, laidLooks := .later }
def NodeBackUptoCardSaid : Prop := Claim7.holds Tryd.pinned (.plain (OpenSpec.upto nodeBackSpec)) nodeBackUptoCard

/-- THE SECOND FORM's CARD OF 'stillroomlaw09.NodeSizes'. -/
def nodeSizesUptoCard : Claim7 := { stood := { row := nodeSizesUptoRow, standIns := [], harness := (true, "bcb4e1f26bd9df4aef64d86f1ec4fd771bab40b30a03e158118bd3a20a46a69c"), looks := false }, kinds := [], alts := [], laidByText := true, laidKinds := [.data], laidTests := true, laidLooks := .later }
def NodeSizesUptoCardSaid : Prop := Claim7.holds Tryd.pinned (.plain (OpenSpec.upto nodeSizesSpec)) nodeSizesUptoCard

/-- THE SECOND FORM's CARD OF 'stillroomlaw09.NodeValue'. -/
def nodeValueUptoCard : Claim7 := { stood := { row := nodeValueUptoRow, standIns := [], harness := (true, "bcb4e1f26bd9df4aef64d86f1ec4fd771bab40b30a03e158118bd3a20a46a69c"), looks := false }, kinds := [], alts := [], laidByText := true, laidKinds := [.data], laidTests := true, laidLooks := .later }
def NodeValueUptoCardSaid : Prop := Claim7.holds Tryd.pinned (.plain (OpenSpec.upto nodeValueSpec)) nodeValueUptoCard

/-- THE SECOND FORM's CARD OF 'stillroomlaw09.NodeKids'. -/
def nodeKidsUptoCard : Claim7 := { stood := { row := nodeKidsUptoRow, standIns := [], harness := (true, "bcb4e1f26bd9df4aef64d86f1ec4fd771bab40b30a03e158118bd3a20a46a69c"), looks := false }, kinds := [], alts := [], laidByText := true, laidKinds := [.data], laidTests := true, laidLooks := .later }
def NodeKidsUptoCardSaid : Prop := Claim7.holds Tryd.pinned (.plain (OpenSpec.upto nodeKidsSpec)) nodeKidsUptoCard

/-- THE SECOND FORM's CARD OF 'stillroomlaw09.NodeTurns'. -/
def nodeTurnsUptoCard : Claim7 := { stood := { row := nodeTurnsUptoRow, standIns := [], harness := (true, "bcb4e1f26bd9df4aef64d86f1ec4fd771bab40b30a03e158118bd3a20a46a69c"), looks := false }, kinds := [], alts := [], laidByText := true, laidKinds := [.data], laidTests := true, laidLooks := .later }
def NodeTurnsUptoCardSaid : Prop := Claim7.holds Tryd.pinned (.plain (OpenSpec.upto nodeTurnsSpec)) nodeTurnsUptoCard
end Rows
end Go.Proofs.YtmfomkmdfddhaaaDoor
