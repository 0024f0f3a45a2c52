/-
  DERIVED. GIVEN WITH THE SEED: THE CARDS: each row of YtdlbmmodlkmofaaDoorRows.lean that lists a variable, with what it lists TIED to the program's text (the seventh form; the later family's looks); each row that meets fmt, with fmt's text TOLD by the authors' own Lean function (tested against real Go, not proved from fmt's source: count such statements apart). THE CARD IS WHAT COUNTS. Prove the row's statement (the work); the ties are given (YtdlbmmodlkmofaaDoorTie.lean); close each card by the builder's one call (the guide's Derived/Test/ToyasCard.lean, 'card_holds'). Laid BY PROGRAM, IN A SANDBOX (cutbox-door.mjs). By AI agents, Wed Nov 11 2026. No macro, syntax, notation, axiom, sorry.
-/
import Derived.Test.YtdlbmmodlkmofaaDoorRows
import GoSem.ClaimSeven
namespace Go.Proofs.YtdlbmmodlkmofaaDoor
namespace Rows

/-- THE TIED CARD OF 'cellarlaw04.PlanNames'. -/
def planNamesCard : Claim7 := { stood := { row := planNamesRow, standIns := [], harness := (true, "fbc247fc2f7ccca87a8aa9e0aac1b744a630e3a6372c3c61221488237d4a696e"), looks := false }, kinds := [], alts := [], laidByText := true, laidKinds := [.data, .data, .data], laidTests := true, laidLooks := .later }
def PlanNamesCardSaid : Prop := Claim7.holds Tryd.pinned (.plain (OpenSpec.ofChange planNamesSpec)) planNamesCard

/-- THE TIED CARD OF 'cellarlaw04.PlanChecks'. -/
def planChecksCard : Claim7 := { stood := { row := planChecksRow, standIns := [], harness := (true, "fbc247fc2f7ccca87a8aa9e0aac1b744a630e3a6372c3c61221488237d4a696e"), looks := false }, kinds := [], alts := [], laidByText := true, laidKinds := [.data, .data, .data], laidTests := true, laidLooks := .later }
def PlanChecksCardSaid : Prop := Claim7.holds Tryd.pinned (.plain (OpenSpec.ofChange planChecksSpec)) planChecksCard

/-- THE TIED CARD OF 'cellarlaw04.PlanAsks'. -/
def planAsksCard : Claim7 := { stood := { row := planAsksRow, standIns := [], harness := (true, "fbc247fc2f7ccca87a8aa9e0aac1b744a630e3a6372c3c61221488237d4a696e"), looks := false }, kinds := [], alts := [], laidByText := true, laidKinds := [.data, .data, .data], laidTests := true, laidLooks := .later }
def PlanAsksCardSaid : Prop := Claim7.holds Tryd.pinned (.plain (OpenSpec.ofChange planAsksSpec)) planAsksCard

/-- THE TIED CARD OF 'cellarlaw04.PlanCounts'. -/
def planCountsCard : Claim7 := { stood := { row := planCountsRow, standIns := [], harness := (true, "fbc247fc2f7ccca87a8aa9e0aac1b744a630e3a6372c3c61221488237d4a696e"), looks := false }, kinds := [], alts := [], laidByText := true, laidKinds := [.data, .data, .data], laidTests := true, laidLooks := .later }
def PlanCountsCardSaid : Prop := Claim7.holds Tryd.pinned (.plain (OpenSpec.ofChange planCountsSpec)) planCountsCard

/-- THE TIED CARD OF 'cellarlaw04.PlanOutcomes'. -/
def planOutcomesCard : Claim7 := { stood := { row := planOutcomesRow, standIns := [], harness := (true, "fbc247fc2f7ccca87a8aa9e0aac1b744a630e3a6372c3c61221488237d4a696e"), looks := false }, kinds := [], alts := [], laidByText := true, laidKinds := [.data, .data, .data], laidTests := true, laidLooks := .later }
def PlanOutcomesCardSaid : Prop := Claim7.holds Tryd.pinned (.plain (OpenSpec.ofChange planOutcomesSpec)) planOutcomesCard

/-- THE TIED CARD OF 'cellarlaw04.PlanApart'. -/
def planApartCard : Claim7 := { stood := { row := planApartRow, standIns := [], harness := (true, "fbc247fc2f7ccca87a8aa9e0aac1b744a630e3a6372c3c61221488237d4a696e"), looks := false }, kinds := [], alts := [], laidByText := true, laidKinds := [.data, .data, .data], laidTests := true, laidLooks := .later }
def PlanApartCardSaid : Prop := Claim7.holds Tryd.pinned (.plain (OpenSpec.ofChange planApartSpec)) planApartCard

/-- THE TIED CARD OF 'cellarlaw04.PlanSmaller'. -/
def planSmallerCard : Claim7 := { stood := { row := planSmallerRow, standIns := [], harness := (true, "fbc247fc2f7ccca87a8aa9e0aac1b744a630e3a6372c3c61221488237d4a696e"), looks := false }, kinds := [], alts := [], laidByText := true, laidKinds := [.data, .data, .data], laidTests := true, laidLooks := .later }
def PlanSmallerCardSaid : Prop := Claim7.holds Tryd.pinned (.plain (OpenSpec.ofChange planSmallerSpec)) planSmallerCard

/-- THE TIED CARD OF 'cellarlaw04.PlanNorms'. -/
def planNormsCard : Claim7 := { stood := { row := planNormsRow, standIns := [], harness := (true, "fbc247fc2f7ccca87a8aa9e0aac1b744a630e3a6372c3c61221488237d4a696e"), looks := false }, kinds := [], alts := [], laidByText := true, laidKinds := [.data, .data, .data], laidTests := true, laidLooks := .later }
def PlanNormsCardSaid : Prop := Claim7.holds Tryd.pinned (.plain (OpenSpec.ofChange planNormsSpec)) planNormsCard

/-- THE TIED CARD OF 'cellarlaw04.PlanLess'. -/
def planLessCard : Claim7 := { stood := { row := planLessRow, standIns := [], harness := (true, "fbc247fc2f7ccca87a8aa9e0aac1b744a630e3a6372c3c61221488237d4a696e"), looks := false }, kinds := [], alts := [], laidByText := true, laidKinds := [.data, .data, .data], laidTests := true, laidLooks := .later }
def PlanLessCardSaid : Prop := Claim7.holds Tryd.pinned (.plain (OpenSpec.ofChange planLessSpec)) planLessCard

/-- THE SECOND FORM's CARD OF 'cellarlaw04.PlanNames'. -/
def planNamesUptoCard : Claim7 := { stood := { row := planNamesUptoRow, standIns := [], harness := (true, "fbc247fc2f7ccca87a8aa9e0aac1b744a630e3a6372c3c61221488237d4a696e"), looks := false }, kinds := [], alts := [], laidByText := true, laidKinds := [.data, .data, .data], laidTests := true, laidLooks := .later }
def PlanNamesUptoCardSaid : Prop := Claim7.holds Tryd.pinned (.plain (OpenSpec.upto planNamesSpec)) planNamesUptoCard

/-- THE SECOND FORM's CARD OF 'cellarlaw04.PlanChecks'. -/
def planChecksUptoCard : Claim7 := { stood := { row := planChecksUptoRow, standIns := [], harness := (true, "fbc247fc2f7ccca87a8aa9e0aac1b744a630e3a6372c3c61221488237d4a696e"), looks := false }, kinds := [], alts := [], laidByText := true, laidKinds := [.data, .data, .data], laidTests := true, laidLooks := .later }
def PlanChecksUptoCardSaid : Prop := Claim7.holds Tryd.pinned (.plain (OpenSpec.upto planChecksSpec)) planChecksUptoCard

/-- THE SECOND FORM's CARD OF 'cellarlaw04.PlanAsks'. -/
def planAsksUptoCard : Claim7 := { stood := { row := planAsksUptoRow, standIns := [], harness := (true, "fbc247fc2f7ccca87a8aa9e0aac1b744a630e3a6372c3c61221488237d4a696e"), looks := false }, kinds := [], alts := [], laidByText := true, laidKinds := [.data, .data, .data], laidTests := true, laidLooks := .later }
def PlanAsksUptoCardSaid : Prop := Claim7.holds Tryd.pinned (.plain (OpenSpec.upto planAsksSpec)) planAsksUptoCard

/-- THE SECOND FORM's CARD OF 'cellarlaw04.PlanCounts'. -/
def planCountsUptoCard : Claim7 := { stood := { row := planCountsUptoRow, standIns := [], harness := (true, "fbc247fc2f7ccca87a8aa9e0aac1b744a630e3a6372c3c61221488237d4a696e"), looks := false }, kinds := [], alts := [], laidByText := true, laidKinds := [.data, .data, .data], laidTests := true, laidLooks := .later }
def PlanCountsUptoCardSaid : Prop := Claim7.holds Tryd.pinned (.plain (OpenSpec.upto planCountsSpec)) planCountsUptoCard

/-- THE SECOND FORM's CARD OF 'cellarlaw04.PlanOutcomes'. -/
def planOutcomesUptoCard : Claim7 := { stood := { row := planOutcomesUptoRow, standIns := [], harness := (true, "fbc247fc2f7ccca87a8aa9e0aac1b744a630e3a6372c3c61221488237d4a696e"), looks := false }, kinds := [], alts := [], laidByText := true, laidKinds := [.data, .data, .data], laidTests := true, laidLooks := .later }
def PlanOutcomesUptoCardSaid : Prop := Claim7.holds Tryd.pinned (.plain (OpenSpec.upto planOutcomesSpec)) planOutcomesUptoCard

/-- THE SECOND FORM's CARD OF 'cellarlaw04.PlanApart'. -/
def planApartUptoCard : Claim7 := { stood := { row := planApartUptoRow, standIns := [], harness := (true, "fbc247fc2f7ccca87a8aa9e0aac1b744a630e3a6372c3c61221488237d4a696e"), looks := false }, kinds := [], alts := [], laidByText := true, laidKinds := [.data, .data, .data], laidTests := true, laidLooks := .later }
def PlanApartUptoCardSaid : Prop := Claim7.holds Tryd.pinned (.plain (OpenSpec.upto planApartSpec)) planApartUptoCard

/-- THE SECOND FORM's CARD OF 'cellarlaw04.PlanSmaller'. -/
def planSmallerUptoCard : Claim7 := { stood := { row := planSmallerUptoRow, standIns := [], harness := (true, "fbc247fc2f7ccca87a8aa9e0aac1b744a630e3a6372c3c61221488237d4a696e"), looks := false }, kinds := [], alts := [], laidByText := true, laidKinds := [.data, .data, .data], laidTests := true, laidLooks := .later }
def PlanSmallerUptoCardSaid : Prop := Claim7.holds Tryd.pinned (.plain (OpenSpec.upto planSmallerSpec)) planSmallerUptoCard

/-- THE SECOND FORM's CARD OF 'cellarlaw04.PlanNorms'. -/
def planNormsUptoCard : Claim7 := { stood := { row := planNormsUptoRow, standIns := [], harness := (true, "fbc247fc2f7ccca87a8aa9e0aac1b744a630e3a6372c3c61221488237d4a696e"), looks := false }, kinds := [], alts := [], laidByText := true, laidKinds := [.data, .data, .data], laidTests := true, laidLooks := .later }
def PlanNormsUptoCardSaid : Prop := Claim7.holds Tryd.pinned (.plain (OpenSpec.upto planNormsSpec)) planNormsUptoCard

/-- THE SECOND FORM's CARD OF 'cellarlaw04.PlanLess'. -/
def planLessUptoCard : Claim7 := { stood := { row := planLessUptoRow, standIns := [], harness := (true, "fbc247fc2f7ccca87a8aa9e0aac1b744a630e3a6372c3c61221488237d4a696e"), looks := false }, kinds := [], alts := [], laidByText := true, laidKinds := [.data, .data, .data], laidTests := true, laidLooks := .later }
def PlanLessUptoCardSaid : Prop := Claim7.holds Tryd.pinned (.plain (OpenSpec.upto planLessSpec)) planLessUptoCard
end Rows
end Go.Proofs.YtdlbmmodlkmofaaDoor
