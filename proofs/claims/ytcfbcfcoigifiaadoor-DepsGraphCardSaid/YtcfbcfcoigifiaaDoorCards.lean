/-
  DERIVED. GIVEN WITH THE SEED: THE CARDS: each row of YtcfbcfcoigifiaaDoorRows.lean that lists a variable, with what it lists TIED to the program's text (the seventh form; the later family's looks); each row that meets fmt, with fmt's text TOLD by the authors' own Lean function (tested against real Go, not proved from fmt's source: count such statements apart). THE CARD IS WHAT COUNTS. Prove the row's statement (the work); the ties are given (YtcfbcfcoigifiaaDoorTie.lean); close each card by the builder's one call (the guide's Derived/Test/ToyasCard.lean, 'card_holds'). Laid BY PROGRAM, IN A SANDBOX (cutbox-door.mjs). By AI agents, Wed Nov 11 2026. No macro, syntax, notation, axiom, sorry.
-/
import Derived.Test.YtcfbcfcoigifiaaDoorRows
import GoSem.ClaimSeven
namespace Go.Proofs.YtcfbcfcoigifiaaDoor
namespace Rows

/-- THE TIED CARD OF 'assayerlaw07.CompsLeads'. -/
def compsLeadsCard : Claim7 := { stood := { row := compsLeadsRow, standIns := [], harness := (true, "5ae26f898c0a09dd37e4718ed64dcd43281a6e6d5bc5f730549b58cf582609e8"), looks := false }, kinds := [], alts := [], laidByText := true, laidKinds := [.data], laidTests := true, laidLooks := .later }
def CompsLeadsCardSaid : Prop := Claim7.holds Tryd.pinned (.plain (OpenSpec.ofChange compsLeadsSpec)) compsLeadsCard

/-- THE TIED CARD OF 'assayerlaw07.CompsOrders'. -/
def compsOrdersCard : Claim7 := { stood := { row := compsOrdersRow, standIns := [], harness := (true, "5ae26f898c0a09dd37e4718ed64dcd43281a6e6d5bc5f730549b58cf582609e8"), looks := false }, kinds := [], alts := [], laidByText := true, laidKinds := [.data], laidTests := true, laidLooks := .later }
def CompsOrdersCardSaid : Prop := Claim7.holds Tryd.pinned (.plain (OpenSpec.ofChange compsOrdersSpec)) compsOrdersCard

/-- THE TIED CARD OF 'assayerlaw14.DepsGraph'. -/
def depsGraphCard : Claim7 := { stood := { row := depsGraphRow, standIns := [], harness := (true, "5ae26f898c0a09dd37e4718ed64dcd43281a6e6d5bc5f730549b58cf582609e8"), looks := false }, kinds := [], alts := [], laidByText := true, laidKinds := [.data], laidTests := true, laidLooks := .later }
def DepsGraphCardSaid : Prop := Claim7.holds Tryd.pinned (.plain (OpenSpec.ofChange depsGraphSpec)) depsGraphCard

/-- THE SECOND FORM's CARD OF 'assayerlaw07.CompsLeads'. -/
def compsLeadsUptoCard : Claim7 := { stood := { row := compsLeadsUptoRow, standIns := [], harness := (true, "5ae26f898c0a09dd37e4718ed64dcd43281a6e6d5bc5f730549b58cf582609e8"), looks := false }, kinds := [], alts := [], laidByText := true, laidKinds := [.data], laidTests := true, laidLooks := .later }
def CompsLeadsUptoCardSaid : Prop := Claim7.holds Tryd.pinned (.plain (OpenSpec.upto compsLeadsSpec)) compsLeadsUptoCard

/-- THE SECOND FORM's CARD OF 'assayerlaw07.CompsOrders'. -/
def compsOrdersUptoCard : Claim7 := { stood := { row := compsOrdersUptoRow, standIns := [], harness := (true, "5ae26f898c0a09dd37e4718ed64dcd43281a6e6d5bc5f730549b58cf582609e8"), looks := false }, kinds := [], alts := [], laidByText := true, laidKinds := [.data], laidTests := true, laidLooks := .later }
def CompsOrdersUptoCardSaid : Prop := Claim7.holds Tryd.pinned (.plain (OpenSpec.upto compsOrdersSpec)) compsOrdersUptoCard

/-- THE SECOND FORM's CARD OF 'assayerlaw14.DepsGraph'. -/
def depsGraphUptoCard : Claim7 := { stood := { row := depsGraphUptoRow, standIns := [], harness := (true, "5ae26f898c0a09dd37e4718ed64dcd43281a6e6d5bc5f730549b58cf582609e8"), looks := false }, kinds := [], alts := [], laidByText := true, laidKinds := [.data], laidTests := true, laidLooks := .later }
def DepsGraphUptoCardSaid : Prop := Claim7.holds Tryd.pinned (.plain (OpenSpec.upto depsGraphSpec)) depsGraphUptoCard
end Rows
end Go.Proofs.YtcfbcfcoigifiaaDoor
