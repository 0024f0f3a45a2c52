/-
  DERIVED. GIVEN WITH THE SEED: THE CARDS: each row of YtdlbmmodlkmofaaGreatDoorRows.lean that lists a variable, with what it lists TIED to the program's text (the seventh form; the later family's looks); each row that meets fmt, with fmt's text TOLD by the authors' own Lean function (tested against real Go, not proved from fmt's source: count such statements apart). THE CARD IS WHAT COUNTS. Prove the row's statement (the work); the ties are given (YtdlbmmodlkmofaaGreatDoorTie.lean); close each card by the builder's one call (the guide's Derived/Test/ToyasCard.lean, 'card_holds'). Laid BY PROGRAM, IN A SANDBOX (cutbox-door.mjs). By AI agents, Wed Nov 11 2026. No macro, syntax, notation, axiom, sorry.
-/
import Derived.Test.YtdlbmmodlkmofaaGreatDoorRows
import GoSem.ClaimSeven
namespace Go.Proofs.YtdlbmmodlkmofaaGreatDoor
namespace Rows

/-- THE TIED CARD OF 'cellarlaw04.PlanPrints'. -/
def planPrintsCard : Claim7 := { stood := { row := planPrintsRow, standIns := [], harness := (true, "572a1d039af38551bfe53ca3c454211403c001fb2f245e9ee3f69cf42c169779"), looks := true }, kinds := [], alts := [], laidByText := true, laidKinds := [.data, .data, .data, .data, .sentinel, .sentinel, .pinned], laidTests := true, laidLooks := .later }
def PlanPrintsCardSaid : Prop := Claim7.holds Tryz.pinned (.plain (OpenSpec.ofChange planPrintsSpec)) planPrintsCard

/-- THE TIED CARD OF 'cellarlaw04.PlanParses'. -/
def planParsesCard : Claim7 := { stood := { row := planParsesRow, standIns := [], harness := (true, "572a1d039af38551bfe53ca3c454211403c001fb2f245e9ee3f69cf42c169779"), looks := true }, kinds := [], alts := [], laidByText := true, laidKinds := [.data, .data, .data, .data, .sentinel, .sentinel, .pinned], laidTests := true, laidLooks := .later }
def PlanParsesCardSaid : Prop := Claim7.holds Tryz.pinned (.plain (OpenSpec.ofChange planParsesSpec)) planParsesCard

/-- THE SECOND FORM's CARD OF 'cellarlaw04.PlanPrints'. -/
def planPrintsUptoCard : Claim7 := { stood := { row := planPrintsUptoRow, standIns := [], harness := (true, "572a1d039af38551bfe53ca3c454211403c001fb2f245e9ee3f69cf42c169779"), looks := true }, kinds := [], alts := [], laidByText := true, laidKinds := [.data, .data, .data, .data, .sentinel, .sentinel, .pinned], laidTests := true, laidLooks := .later }
def PlanPrintsUptoCardSaid : Prop := Claim7.holds Tryz.pinned (.plain (OpenSpec.upto planPrintsSpec)) planPrintsUptoCard

/-- THE SECOND FORM's CARD OF 'cellarlaw04.PlanParses'. -/
def planParsesUptoCard : Claim7 := { stood := { row := planParsesUptoRow, standIns := [], harness := (true, "572a1d039af38551bfe53ca3c454211403c001fb2f245e9ee3f69cf42c169779"), looks := true }, kinds := [], alts := [], laidByText := true, laidKinds := [.data, .data, .data, .data, .sentinel, .sentinel, .pinned], laidTests := true, laidLooks := .later }
def PlanParsesUptoCardSaid : Prop := Claim7.holds Tryz.pinned (.plain (OpenSpec.upto planParsesSpec)) planParsesUptoCard
end Rows
end Go.Proofs.YtdlbmmodlkmofaaGreatDoor
