/-
  DERIVED. GIVEN WITH THE SEED: THE CARDS: each row of YtglidaifbpjpgaaDoorRows.lean that lists a variable, with what it lists TIED to the program's text (the seventh form; the later family's looks); each row that meets fmt, with fmt's text TOLD by the authors' own Lean function (tested against real Go, not proved from fmt's source: count such statements apart). THE CARD IS WHAT COUNTS. Prove the row's statement (the work); the ties are given (YtglidaifbpjpgaaDoorTie.lean); close each card by the builder's one call (the guide's Derived/Test/ToyasCard.lean, 'card_holds'). Laid BY PROGRAM, IN A SANDBOX (cutbox-door.mjs). By AI agents, Wed Nov 11 2026. No macro, syntax, notation, axiom, sorry.
-/
import Derived.Test.YtglidaifbpjpgaaDoorRows
import GoSem.ClaimSeven
namespace Go.Proofs.YtglidaifbpjpgaaDoor
namespace Rows

/-- THE TIED CARD OF 'cellarlaw28.StatsRatios'. -/
def statsRatiosCard : Claim7 := { stood := { row := statsRatiosRow, standIns := [], harness := (true, "5b118f0df5e34a0baf8529ef13127a5730ac38566aaca464d9ac81031729f93d"), looks := false }, kinds := [], alts := [], laidByText := true, laidKinds := [.data, .data, .data], laidTests := true, laidLooks := .later }
def StatsRatiosCardSaid : Prop := Claim7.holds Tryd.pinned (.plain (OpenSpec.ofChange statsRatiosSpec)) statsRatiosCard

/-- THE TIED CARD OF 'cellarlaw28.StatsSteps'. -/
def statsStepsCard : Claim7 := { stood := { row := statsStepsRow, standIns := [], harness := (true, "5b118f0df5e34a0baf8529ef13127a5730ac38566aaca464d9ac81031729f93d"), looks := false }, kinds := [], alts := [], laidByText := true, laidKinds := [.data, .data, .data], laidTests := true, laidLooks := .later }
def StatsStepsCardSaid : Prop := Claim7.holds Tryd.pinned (.plain (OpenSpec.ofChange statsStepsSpec)) statsStepsCard

/-- THE TIED CARD OF 'cellarlaw28.StatsMerged'. -/
def statsMergedCard : Claim7 := { stood := { row := statsMergedRow, standIns := [], harness := (true, "5b118f0df5e34a0baf8529ef13127a5730ac38566aaca464d9ac81031729f93d"), looks := false }, kinds := [], alts := [], laidByText := true, laidKinds := [.data, .data, .data], laidTests := true, laidLooks := .later }
def StatsMergedCardSaid : Prop := Claim7.holds Tryd.pinned (.plain (OpenSpec.ofChange statsMergedSpec)) statsMergedCard

/-- THE TIED CARD OF 'cellarlaw28.StatsCounts'. -/
def statsCountsCard : Claim7 := { stood := { row := statsCountsRow, standIns := [], harness := (true, "5b118f0df5e34a0baf8529ef13127a5730ac38566aaca464d9ac81031729f93d"), looks := false }, kinds := [], alts := [], laidByText := true, laidKinds := [.data, .data, .data], laidTests := true, laidLooks := .later }
def StatsCountsCardSaid : Prop := Claim7.holds Tryd.pinned (.plain (OpenSpec.ofChange statsCountsSpec)) statsCountsCard

/-- THE TIED CARD OF 'cellarlaw28.StatsClosed'. -/
def statsClosedCard : Claim7 := { stood := { row := statsClosedRow, standIns := [], harness := (true, "5b118f0df5e34a0baf8529ef13127a5730ac38566aaca464d9ac81031729f93d"), looks := false }, kinds := [], alts := [], laidByText := true, laidKinds := [.data, .data, .data], laidTests := true, laidLooks := .later }
def StatsClosedCardSaid : Prop := Claim7.holds Tryd.pinned (.plain (OpenSpec.ofChange statsClosedSpec)) statsClosedCard

/-- THE TIED CARD OF 'cellarlaw28.StatsOf'. -/
def statsOfCard : Claim7 := { stood := { row := statsOfRow, standIns := [], harness := (true, "5b118f0df5e34a0baf8529ef13127a5730ac38566aaca464d9ac81031729f93d"), looks := false }, kinds := [], alts := [], laidByText := true, laidKinds := [.data, .data, .data], laidTests := true, laidLooks := .later }
def StatsOfCardSaid : Prop := Claim7.holds Tryd.pinned (.plain (OpenSpec.ofChange statsOfSpec)) statsOfCard

/-- THE TIED CARD OF 'cellarlaw28.StatsAdds'. -/
def statsAddsCard : Claim7 := { stood := { row := statsAddsRow, standIns := [], harness := (true, "5b118f0df5e34a0baf8529ef13127a5730ac38566aaca464d9ac81031729f93d"), looks := false }, kinds := [], alts := [], laidByText := true, laidKinds := [.data, .data, .data], laidTests := true, laidLooks := .later }
def StatsAddsCardSaid : Prop := Claim7.holds Tryd.pinned (.plain (OpenSpec.ofChange statsAddsSpec)) statsAddsCard

/-- THE SECOND FORM's CARD OF 'cellarlaw28.StatsRatios'. -/
def statsRatiosUptoCard : Claim7 := { stood := { row := statsRatiosUptoRow, standIns := [], harness := (true, "5b118f0df5e34a0baf8529ef13127a5730ac38566aaca464d9ac81031729f93d"), looks := false }, kinds := [], alts := [], laidByText := true, laidKinds := [.data, .data, .data], laidTests := true, laidLooks := .later }
def StatsRatiosUptoCardSaid : Prop := Claim7.holds Tryd.pinned (.plain (OpenSpec.upto statsRatiosSpec)) statsRatiosUptoCard

/-- THE SECOND FORM's CARD OF 'cellarlaw28.StatsSteps'. -/
def statsStepsUptoCard : Claim7 := { stood := { row := statsStepsUptoRow, standIns := [], harness := (true, "5b118f0df5e34a0baf8529ef13127a5730ac38566aaca464d9ac81031729f93d"), looks := false }, kinds := [], alts := [], laidByText := true, laidKinds := [.data, .data, .data], laidTests := true, laidLooks := .later }
def StatsStepsUptoCardSaid : Prop := Claim7.holds Tryd.pinned (.plain (OpenSpec.upto statsStepsSpec)) statsStepsUptoCard

/-- THE SECOND FORM's CARD OF 'cellarlaw28.StatsMerged'. -/
def statsMergedUptoCard : Claim7 := { stood := { row := statsMergedUptoRow, standIns := [], harness := (true, "5b118f0df5e34a0baf8529ef13127a5730ac38566aaca464d9ac81031729f93d"), looks := false }, kinds := [], alts := [], laidByText := true, laidKinds := [.data, .data, .data], laidTests := true, laidLooks := .later }
def StatsMergedUptoCardSaid : Prop := Claim7.holds Tryd.pinned (.plain (OpenSpec.upto statsMergedSpec)) statsMergedUptoCard

/-- THE SECOND FORM's CARD OF 'cellarlaw28.StatsCounts'. -/
def statsCountsUptoCard : Claim7 := { stood := { row := statsCountsUptoRow, standIns := [], harness := (true, "5b118f0df5e34a0baf8529ef13127a5730ac38566aaca464d9ac81031729f93d"), looks := false }, kinds := [], alts := [], laidByText := true, laidKinds := [.data, .data, .data], laidTests := true, laidLooks := .later }
def StatsCountsUptoCardSaid : Prop := Claim7.holds Tryd.pinned (.plain (OpenSpec.upto statsCountsSpec)) statsCountsUptoCard

/-- THE SECOND FORM's CARD OF 'cellarlaw28.StatsClosed'. -/
def statsClosedUptoCard : Claim7 := { stood := { row := statsClosedUptoRow, standIns := [], harness := (true, "5b118f0df5e34a0baf8529ef13127a5730ac38566aaca464d9ac81031729f93d"), looks := false }, kinds := [], alts := [], laidByText := true, laidKinds := [.data, .data, .data], laidTests := true, laidLooks := .later }
def StatsClosedUptoCardSaid : Prop := Claim7.holds Tryd.pinned (.plain (OpenSpec.upto statsClosedSpec)) statsClosedUptoCard

/-- THE SECOND FORM's CARD OF 'cellarlaw28.StatsOf'. -/
def statsOfUptoCard : Claim7 := { stood := { row := statsOfUptoRow, standIns := [], harness := (true, "5b118f0df5e34a0baf8529ef13127a5730ac38566aaca464d9ac81031729f93d"), looks := false }, kinds := [], alts := [], laidByText := true, laidKinds := [.data, .data, .data], laidTests := true, laidLooks := .later }
def StatsOfUptoCardSaid : Prop := Claim7.holds Tryd.pinned (.plain (OpenSpec.upto statsOfSpec)) statsOfUptoCard

/-- THE SECOND FORM's CARD OF 'cellarlaw28.StatsAdds'. -/
def statsAddsUptoCard : Claim7 := { stood := { row := statsAddsUptoRow, standIns := [], harness := (true, "5b118f0df5e34a0baf8529ef13127a5730ac38566aaca464d9ac81031729f93d"), looks := false }, kinds := [], alts := [], laidByText := true, laidKinds := [.data, .data, .data], laidTests := true, laidLooks := .later }
def StatsAddsUptoCardSaid : Prop := Claim7.holds Tryd.pinned (.plain (OpenSpec.upto statsAddsSpec)) statsAddsUptoCard
end Rows
end Go.Proofs.YtglidaifbpjpgaaDoor
