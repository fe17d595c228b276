/-
  DERIVED. GIVEN WITH THE SEED: THE CARDS: each row of YtfadfpcelhdfbaaDoorRows.lean that lists a variable, with what it lists TIED to the program's text (the seventh form; the later family's looks); each row that meets fmt, with fmt's text TOLD by the authors' own Lean function (tested against real Go, not proved from fmt's source: count such statements apart). THE CARD IS WHAT COUNTS. Prove the row's statement (the work); the ties are given (YtfadfpcelhdfbaaDoorTie.lean); close each card by the builder's one call (the guide's Derived/Test/ToyasCard.lean, 'card_holds'). Laid BY PROGRAM, IN A SANDBOX (cutbox-door.mjs). By AI agents, Wed Nov 11 2026. No macro, syntax, notation, axiom, sorry.
-/
import Derived.Test.YtfadfpcelhdfbaaDoorRows
import GoSem.ClaimSeven
namespace Go.Proofs.YtfadfpcelhdfbaaDoor
namespace Rows

/-- THE TIED CARD OF 'barscanlaw27.AztextEncodes'. -/
def aztextEncodesCard : Claim7 := { stood := { row := aztextEncodesRow, standIns := [], harness := (true, "1b40f8732b48c371750c4474507301b92b5888e1bcebe3051960a19545d39640"), looks := false }, kinds := [], alts := [], laidByText := true, laidKinds := [.data, .pinned], laidTests := true, laidLooks := .later }
def AztextEncodesCardSaid : Prop := Claim7.holds Tryd.pinned (.plain (OpenSpec.ofChange aztextEncodesSpec)) aztextEncodesCard

/-- THE TIED CARD OF 'barscanlaw27.AztextDecodes'. -/
def aztextDecodesCard : Claim7 := { stood := { row := aztextDecodesRow, standIns := [], harness := (true, "1b40f8732b48c371750c4474507301b92b5888e1bcebe3051960a19545d39640"), looks := false }, kinds := [], alts := [], laidByText := true, laidKinds := [.data, .pinned], laidTests := true, laidLooks := .later }
def AztextDecodesCardSaid : Prop := Claim7.holds Tryd.pinned (.plain (OpenSpec.ofChange aztextDecodesSpec)) aztextDecodesCard

/-- THE TIED CARD OF 'barscanlaw27.AztextStuffs'. -/
def aztextStuffsCard : Claim7 := { stood := { row := aztextStuffsRow, standIns := [], harness := (true, "1b40f8732b48c371750c4474507301b92b5888e1bcebe3051960a19545d39640"), looks := false }, kinds := [], alts := [], laidByText := true, laidKinds := [.data, .pinned], laidTests := true, laidLooks := .later }
def AztextStuffsCardSaid : Prop := Claim7.holds Tryd.pinned (.plain (OpenSpec.ofChange aztextStuffsSpec)) aztextStuffsCard

/-- THE TIED CARD OF 'barscanlaw27.AztextReturns'. -/
def aztextReturnsCard : Claim7 := { stood := { row := aztextReturnsRow, standIns := [], harness := (true, "1b40f8732b48c371750c4474507301b92b5888e1bcebe3051960a19545d39640"), looks := false }, kinds := [], alts := [], laidByText := true, laidKinds := [.data, .pinned], laidTests := true, laidLooks := .later }
def AztextReturnsCardSaid : Prop := Claim7.holds Tryd.pinned (.plain (OpenSpec.ofChange aztextReturnsSpec)) aztextReturnsCard

/-- THE TIED CARD OF 'barscanlaw27.AztextStuffed'. -/
def aztextStuffedCard : Claim7 := { stood := { row := aztextStuffedRow, standIns := [], harness := (true, "1b40f8732b48c371750c4474507301b92b5888e1bcebe3051960a19545d39640"), looks := false }, kinds := [], alts := [], laidByText := true, laidKinds := [.data, .pinned], laidTests := true, laidLooks := .later }
def AztextStuffedCardSaid : Prop := Claim7.holds Tryd.pinned (.plain (OpenSpec.ofChange aztextStuffedSpec)) aztextStuffedCard

/-- THE TIED CARD OF 'barscanlaw27.AztextThrough'. -/
def aztextThroughCard : Claim7 := { stood := { row := aztextThroughRow, standIns := [], harness := (true, "1b40f8732b48c371750c4474507301b92b5888e1bcebe3051960a19545d39640"), looks := false }, kinds := [], alts := [], laidByText := true, laidKinds := [.data, .pinned], laidTests := true, laidLooks := .later }
def AztextThroughCardSaid : Prop := Claim7.holds Tryd.pinned (.plain (OpenSpec.ofChange aztextThroughSpec)) aztextThroughCard

/-- THE TIED CARD OF 'barscanlaw27.AztextMinimal'. -/
def aztextMinimalCard : Claim7 := { stood := { row := aztextMinimalRow, standIns := [], harness := (true, "1b40f8732b48c371750c4474507301b92b5888e1bcebe3051960a19545d39640"), looks := false }, kinds := [], alts := [], laidByText := true, laidKinds := [.data, .pinned], laidTests := true, laidLooks := .later }
def AztextMinimalCardSaid : Prop := Claim7.holds Tryd.pinned (.plain (OpenSpec.ofChange aztextMinimalSpec)) aztextMinimalCard

/-- THE TIED CARD OF 'barscanlaw27.AztextJoins'. -/
def aztextJoinsCard : Claim7 := { stood := { row := aztextJoinsRow, standIns := [], harness := (true, "1b40f8732b48c371750c4474507301b92b5888e1bcebe3051960a19545d39640"), looks := false }, kinds := [], alts := [], laidByText := true, laidKinds := [.data, .pinned], laidTests := true, laidLooks := .later }
def AztextJoinsCardSaid : Prop := Claim7.holds Tryd.pinned (.plain (OpenSpec.ofChange aztextJoinsSpec)) aztextJoinsCard

/-- THE SECOND FORM's CARD OF 'barscanlaw27.AztextEncodes'. -/
def aztextEncodesUptoCard : Claim7 := { stood := { row := aztextEncodesUptoRow, standIns := [], harness := (true, "1b40f8732b48c371750c4474507301b92b5888e1bcebe3051960a19545d39640"), looks := false }, kinds := [], alts := [], laidByText := true, laidKinds := [.data, .pinned], laidTests := true, laidLooks := .later }
def AztextEncodesUptoCardSaid : Prop := Claim7.holds Tryd.pinned (.plain (OpenSpec.upto aztextEncodesSpec)) aztextEncodesUptoCard

/-- THE SECOND FORM's CARD OF 'barscanlaw27.AztextDecodes'. -/
def aztextDecodesUptoCard : Claim7 := { stood := { row := aztextDecodesUptoRow, standIns := [], harness := (true, "1b40f8732b48c371750c4474507301b92b5888e1bcebe3051960a19545d39640"), looks := false }, kinds := [], alts := [], laidByText := true, laidKinds := [.data, .pinned], laidTests := true, laidLooks := .later }
def AztextDecodesUptoCardSaid : Prop := Claim7.holds Tryd.pinned (.plain (OpenSpec.upto aztextDecodesSpec)) aztextDecodesUptoCard

/-- THE SECOND FORM's CARD OF 'barscanlaw27.AztextStuffs'. -/
def aztextStuffsUptoCard : Claim7 := { stood := { row := aztextStuffsUptoRow, standIns := [], harness := (true, "1b40f8732b48c371750c4474507301b92b5888e1bcebe3051960a19545d39640"), looks := false }, kinds := [], alts := [], laidByText := true, laidKinds := [.data, .pinned], laidTests := true, laidLooks := .later }
def AztextStuffsUptoCardSaid : Prop := Claim7.holds Tryd.pinned (.plain (OpenSpec.upto aztextStuffsSpec)) aztextStuffsUptoCard

/-- THE SECOND FORM's CARD OF 'barscanlaw27.AztextReturns'. -/
def aztextReturnsUptoCard : Claim7 := { stood := { row := aztextReturnsUptoRow, standIns := [], harness := (true, "1b40f8732b48c371750c4474507301b92b5888e1bcebe3051960a19545d39640"), looks := false }, kinds := [], alts := [], laidByText := true, laidKinds := [.data, .pinned], laidTests := true, laidLooks := .later }
def AztextReturnsUptoCardSaid : Prop := Claim7.holds Tryd.pinned (.plain (OpenSpec.upto aztextReturnsSpec)) aztextReturnsUptoCard

/-- THE SECOND FORM's CARD OF 'barscanlaw27.AztextStuffed'. -/
def aztextStuffedUptoCard : Claim7 := { stood := { row := aztextStuffedUptoRow, standIns := [], harness := (true, "1b40f8732b48c371750c4474507301b92b5888e1bcebe3051960a19545d39640"), looks := false }, kinds := [], alts := [], laidByText := true, laidKinds := [.data, .pinned], laidTests := true, laidLooks := .later }
def AztextStuffedUptoCardSaid : Prop := Claim7.holds Tryd.pinned (.plain (OpenSpec.upto aztextStuffedSpec)) aztextStuffedUptoCard

/-- THE SECOND FORM's CARD OF 'barscanlaw27.AztextThrough'. -/
def aztextThroughUptoCard : Claim7 := { stood := { row := aztextThroughUptoRow, standIns := [], harness := (true, "1b40f8732b48c371750c4474507301b92b5888e1bcebe3051960a19545d39640"), looks := false }, kinds := [], alts := [], laidByText := true, laidKinds := [.data, .pinned], laidTests := true, laidLooks := .later }
def AztextThroughUptoCardSaid : Prop := Claim7.holds Tryd.pinned (.plain (OpenSpec.upto aztextThroughSpec)) aztextThroughUptoCard

/-- THE SECOND FORM's CARD OF 'barscanlaw27.AztextMinimal'. -/
def aztextMinimalUptoCard : Claim7 := { stood := { row := aztextMinimalUptoRow, standIns := [], harness := (true, "1b40f8732b48c371750c4474507301b92b5888e1bcebe3051960a19545d39640"), looks := false }, kinds := [], alts := [], laidByText := true, laidKinds := [.data, .pinned], laidTests := true, laidLooks := .later }
def AztextMinimalUptoCardSaid : Prop := Claim7.holds Tryd.pinned (.plain (OpenSpec.upto aztextMinimalSpec)) aztextMinimalUptoCard

/-- THE SECOND FORM's CARD OF 'barscanlaw27.AztextJoins'. -/
def aztextJoinsUptoCard : Claim7 := { stood := { row := aztextJoinsUptoRow, standIns := [], harness := (true, "1b40f8732b48c371750c4474507301b92b5888e1bcebe3051960a19545d39640"), looks := false }, kinds := [], alts := [], laidByText := true, laidKinds := [.data, .pinned], laidTests := true, laidLooks := .later }
def AztextJoinsUptoCardSaid : Prop := Claim7.holds Tryd.pinned (.plain (OpenSpec.upto aztextJoinsSpec)) aztextJoinsUptoCard
end Rows
end Go.Proofs.YtfadfpcelhdfbaaDoor
