/-
  DERIVED. GIVEN WITH THE SEED: THE CARDS: each row of YtcogfonmkfcejaaDoorRows.lean that lists a variable, with what it lists TIED to the program's text (the seventh form; the later family's looks); each row that meets fmt, with fmt's text TOLD by the authors' own Lean function (tested against real Go, not proved from fmt's source: count such statements apart). THE CARD IS WHAT COUNTS. Prove the row's statement (the work); the ties are given (YtcogfonmkfcejaaDoorTie.lean); close each card by the builder's one call (the guide's Derived/Test/ToyasCard.lean, 'card_holds'). Laid BY PROGRAM, IN A SANDBOX (cutbox-door.mjs). By AI agents, Wed Nov 11 2026. No macro, syntax, notation, axiom, sorry.
-/
import Derived.Test.YtcogfonmkfcejaaDoorRows
import GoSem.ClaimSeven
namespace Go.Proofs.YtcogfonmkfcejaaDoor
namespace Rows

/-- THE TIED CARD OF 'assayerlaw16.ModelTexts'. -/
def modelTextsCard : Claim7 := { stood := { row := modelTextsRow, standIns := [], harness := (true, "c2715e0dbc44b9ea3407bdffaaeb0769f827a450cb35cd457d42d2bfd76b0a88"), looks := true }, kinds := [], alts := [], laidByText := true, laidKinds := [.data, .data, .data], laidTests := true, laidLooks := .later }
def ModelTextsCardSaid : Prop := Claim7.holds Tryd.pinned (.plain (OpenSpec.ofChange modelTextsSpec)) modelTextsCard

/-- THE TIED CARD OF 'assayerlaw16.ModelJoins'. -/
def modelJoinsCard : Claim7 := { stood := { row := modelJoinsRow, standIns := [], harness := (true, "c2715e0dbc44b9ea3407bdffaaeb0769f827a450cb35cd457d42d2bfd76b0a88"), looks := true }, kinds := [], alts := [], laidByText := true, laidKinds := [.data, .data, .data], laidTests := true, laidLooks := .later }
def ModelJoinsCardSaid : Prop := Claim7.holds Tryd.pinned (.plain (OpenSpec.ofChange modelJoinsSpec)) modelJoinsCard

/-- THE TIED CARD OF 'assayerlaw16.ModelNobody'. -/
def modelNobodyCard : Claim7 := { stood := { row := modelNobodyRow, standIns := [], harness := (true, "c2715e0dbc44b9ea3407bdffaaeb0769f827a450cb35cd457d42d2bfd76b0a88"), looks := true }, kinds := [], alts := [], laidByText := true, laidKinds := [.data, .data, .data], laidTests := true, laidLooks := .later }
def ModelNobodyCardSaid : Prop := Claim7.holds Tryd.pinned (.plain (OpenSpec.ofChange modelNobodySpec)) modelNobodyCard

/-- THE SECOND FORM's CARD OF 'assayerlaw16.ModelTexts'. -/
def modelTextsUptoCard : Claim7 := { stood := { row := modelTextsUptoRow, standIns := [], harness := (true, "c2715e0dbc44b9ea3407bdffaaeb0769f827a450cb35cd457d42d2bfd76b0a88"), looks := true }, kinds := [], alts := [], laidByText := true, laidKinds := [.data, .data, .data], laidTests := true, laidLooks := .later }
def ModelTextsUptoCardSaid : Prop := Claim7.holds Tryd.pinned (.plain (OpenSpec.upto modelTextsSpec)) modelTextsUptoCard

/-- THE SECOND FORM's CARD OF 'assayerlaw16.ModelJoins'. -/
def modelJoinsUptoCard : Claim7 := { stood := { row := modelJoinsUptoRow, standIns := [], harness := (true, "c2715e0dbc44b9ea3407bdffaaeb0769f827a450cb35cd457d42d2bfd76b0a88"), looks := true }, kinds := [], alts := [], laidByText := true, laidKinds := [.data, .data, .data], laidTests := true, laidLooks := .later }
def ModelJoinsUptoCardSaid : Prop := Claim7.holds Tryd.pinned (.plain (OpenSpec.upto modelJoinsSpec)) modelJoinsUptoCard

/-- THE SECOND FORM's CARD OF 'assayerlaw16.ModelNobody'. -/
def modelNobodyUptoCard : Claim7 := { stood := { row := modelNobodyUptoRow, standIns := [], harness := (true, "c2715e0dbc44b9ea3407bdffaaeb0769f827a450cb35cd457d42d2bfd76b0a88"), looks := true }, kinds := [], alts := [], laidByText := true, laidKinds := [.data, .data, .data], laidTests := true, laidLooks := .later }
def ModelNobodyUptoCardSaid : Prop := Claim7.holds Tryd.pinned (.plain (OpenSpec.upto modelNobodySpec)) modelNobodyUptoCard
end Rows
end Go.Proofs.YtcogfonmkfcejaaDoor
