/-
  DERIVED. GIVEN WITH THE SEED: THE CARDS: each row of YtjfafkgjcgbgfaaDoorRows.lean that lists a variable, with what it lists TIED to the program's text (the seventh form; the later family's looks); each row that meets fmt, with fmt's text TOLD by the authors' own Lean function (tested against real Go, not proved from fmt's source: count such statements apart). THE CARD IS WHAT COUNTS. Prove the row's statement (the work); the ties are given (YtjfafkgjcgbgfaaDoorTie.lean); close each card by the builder's one call (the guide's Derived/Test/ToyasCard.lean, 'card_holds'). Laid BY PROGRAM, IN A SANDBOX (cutbox-door.mjs). By AI agents, Wed Nov 11 2026. No macro, syntax, notation, axiom, sorry.
-/
import Derived.Test.YtjfafkgjcgbgfaaDoorRows
import GoSem.ClaimSeven
namespace Go.Proofs.YtjfafkgjcgbgfaaDoor
namespace Rows

/-- THE TIED CARD OF 'cellarlaw24.HistNames'. -/
def histNamesCard : Claim7 := { stood := { row := histNamesRow, standIns := [], harness := (true, "629e9071106d70f137d4dc766d6cb5db7c75957bbb6305d45fe7bcc965fc36d4"), looks := true }, kinds := [], alts := [], laidByText := true, laidKinds := [.data, .data, .data, .data, .sentinel, .sentinel, .pinned], laidTests := true, laidLooks := .later }
def HistNamesCardSaid : Prop := Claim7.holds Tryd.pinned (.plain (OpenSpec.ofChange histNamesSpec)) histNamesCard

/-- THE TIED CARD OF 'cellarlaw24.HistChecks'. -/
def histChecksCard : Claim7 := { stood := { row := histChecksRow, standIns := [], harness := (true, "629e9071106d70f137d4dc766d6cb5db7c75957bbb6305d45fe7bcc965fc36d4"), looks := true }, kinds := [], alts := [], laidByText := true, laidKinds := [.data, .data, .data, .data, .sentinel, .sentinel, .pinned], laidTests := true, laidLooks := .later }
def HistChecksCardSaid : Prop := Claim7.holds Tryd.pinned (.plain (OpenSpec.ofChange histChecksSpec)) histChecksCard

/-- THE TIED CARD OF 'cellarlaw24.HistWidths'. -/
def histWidthsCard : Claim7 := { stood := { row := histWidthsRow, standIns := [], harness := (true, "629e9071106d70f137d4dc766d6cb5db7c75957bbb6305d45fe7bcc965fc36d4"), looks := true }, kinds := [], alts := [], laidByText := true, laidKinds := [.data, .data, .data, .data, .sentinel, .sentinel, .pinned], laidTests := true, laidLooks := .later }
def HistWidthsCardSaid : Prop := Claim7.holds Tryd.pinned (.plain (OpenSpec.ofChange histWidthsSpec)) histWidthsCard

/-- THE TIED CARD OF 'cellarlaw24.HistCuts'. -/
def histCutsCard : Claim7 := { stood := { row := histCutsRow, standIns := [], harness := (true, "629e9071106d70f137d4dc766d6cb5db7c75957bbb6305d45fe7bcc965fc36d4"), looks := true }, kinds := [], alts := [], laidByText := true, laidKinds := [.data, .data, .data, .data, .sentinel, .sentinel, .pinned], laidTests := true, laidLooks := .later }
def HistCutsCardSaid : Prop := Claim7.holds Tryd.pinned (.plain (OpenSpec.ofChange histCutsSpec)) histCutsCard

/-- THE TIED CARD OF 'cellarlaw24.HistTold'. -/
def histToldCard : Claim7 := { stood := { row := histToldRow, standIns := [], harness := (true, "629e9071106d70f137d4dc766d6cb5db7c75957bbb6305d45fe7bcc965fc36d4"), looks := true }, kinds := [], alts := [], laidByText := true, laidKinds := [.data, .data, .data, .data, .sentinel, .sentinel, .pinned], laidTests := true, laidLooks := .later }
def HistToldCardSaid : Prop := Claim7.holds Tryd.pinned (.plain (OpenSpec.ofChange histToldSpec)) histToldCard

/-- THE TIED CARD OF 'cellarlaw24.HistPrints'. -/
def histPrintsCard : Claim7 := { stood := { row := histPrintsRow, standIns := [], harness := (true, "629e9071106d70f137d4dc766d6cb5db7c75957bbb6305d45fe7bcc965fc36d4"), looks := true }, kinds := [], alts := [], laidByText := true, laidKinds := [.data, .data, .data, .data, .sentinel, .sentinel, .pinned], laidTests := true, laidLooks := .later }
def HistPrintsCardSaid : Prop := Claim7.holds Tryd.pinned (.plain (OpenSpec.ofChange histPrintsSpec)) histPrintsCard

/-- THE TIED CARD OF 'cellarlaw24.HistKeys'. -/
def histKeysCard : Claim7 := { stood := { row := histKeysRow, standIns := [], harness := (true, "629e9071106d70f137d4dc766d6cb5db7c75957bbb6305d45fe7bcc965fc36d4"), looks := true }, kinds := [], alts := [], laidByText := true, laidKinds := [.data, .data, .data, .data, .sentinel, .sentinel, .pinned], laidTests := true, laidLooks := .later }
def HistKeysCardSaid : Prop := Claim7.holds Tryd.pinned (.plain (OpenSpec.ofChange histKeysSpec)) histKeysCard

/-- THE SECOND FORM's CARD OF 'cellarlaw24.HistNames'. -/
def histNamesUptoCard : Claim7 := { stood := { row := histNamesUptoRow, standIns := [], harness := (true, "629e9071106d70f137d4dc766d6cb5db7c75957bbb6305d45fe7bcc965fc36d4"), looks := true }, kinds := [], alts := [], laidByText := true, laidKinds := [.data, .data, .data, .data, .sentinel, .sentinel, .pinned], laidTests := true, laidLooks := .later }
def HistNamesUptoCardSaid : Prop := Claim7.holds Tryd.pinned (.plain (OpenSpec.upto histNamesSpec)) histNamesUptoCard

/-- THE SECOND FORM's CARD OF 'cellarlaw24.HistChecks'. -/
def histChecksUptoCard : Claim7 := { stood := { row := histChecksUptoRow, standIns := [], harness := (true, "629e9071106d70f137d4dc766d6cb5db7c75957bbb6305d45fe7bcc965fc36d4"), looks := true }, kinds := [], alts := [], laidByText := true, laidKinds := [.data, .data, .data, .data, .sentinel, .sentinel, .pinned], laidTests := true, laidLooks := .later }
def HistChecksUptoCardSaid : Prop := Claim7.holds Tryd.pinned (.plain (OpenSpec.upto histChecksSpec)) histChecksUptoCard

/-- THE SECOND FORM's CARD OF 'cellarlaw24.HistWidths'. -/
def histWidthsUptoCard : Claim7 := { stood := { row := histWidthsUptoRow, standIns := [], harness := (true, "629e9071106d70f137d4dc766d6cb5db7c75957bbb6305d45fe7bcc965fc36d4"), looks := true }, kinds := [], alts := [], laidByText := true, laidKinds := [.data, .data, .data, .data, .sentinel, .sentinel, .pinned], laidTests := true, laidLooks := .later }
def HistWidthsUptoCardSaid : Prop := Claim7.holds Tryd.pinned (.plain (OpenSpec.upto histWidthsSpec)) histWidthsUptoCard

/-- THE SECOND FORM's CARD OF 'cellarlaw24.HistCuts'. -/
def histCutsUptoCard : Claim7 := { stood := { row := histCutsUptoRow, standIns := [], harness := (true, "629e9071106d70f137d4dc766d6cb5db7c75957bbb6305d45fe7bcc965fc36d4"), looks := true }, kinds := [], alts := [], laidByText := true, laidKinds := [.data, .data, .data, .data, .sentinel, .sentinel, .pinned], laidTests := true, laidLooks := .later }
def HistCutsUptoCardSaid : Prop := Claim7.holds Tryd.pinned (.plain (OpenSpec.upto histCutsSpec)) histCutsUptoCard

/-- THE SECOND FORM's CARD OF 'cellarlaw24.HistTold'. -/
def histToldUptoCard : Claim7 := { stood := { row := histToldUptoRow, standIns := [], harness := (true, "629e9071106d70f137d4dc766d6cb5db7c75957bbb6305d45fe7bcc965fc36d4"), looks := true }, kinds := [], alts := [], laidByText := true, laidKinds := [.data, .data, .data, .data, .sentinel, .sentinel, .pinned], laidTests := true, laidLooks := .later }
def HistToldUptoCardSaid : Prop := Claim7.holds Tryd.pinned (.plain (OpenSpec.upto histToldSpec)) histToldUptoCard

/-- THE SECOND FORM's CARD OF 'cellarlaw24.HistPrints'. -/
def histPrintsUptoCard : Claim7 := { stood := { row := histPrintsUptoRow, standIns := [], harness := (true, "629e9071106d70f137d4dc766d6cb5db7c75957bbb6305d45fe7bcc965fc36d4"), looks := true }, kinds := [], alts := [], laidByText := true, laidKinds := [.data, .data, .data, .data, .sentinel, .sentinel, .pinned], laidTests := true, laidLooks := .later }
def HistPrintsUptoCardSaid : Prop := Claim7.holds Tryd.pinned (.plain (OpenSpec.upto histPrintsSpec)) histPrintsUptoCard

/-- THE SECOND FORM's CARD OF 'cellarlaw24.HistKeys'. -/
def histKeysUptoCard : Claim7 := { stood := { row := histKeysUptoRow, standIns := [], harness := (true, "629e9071106d70f137d4dc766d6cb5db7c75957bbb6305d45fe7bcc965fc36d4"), looks := true }, kinds := [], alts := [], laidByText := true, laidKinds := [.data, .data, .data, .data, .sentinel, .sentinel, .pinned], laidTests := true, laidLooks := .later }
def HistKeysUptoCardSaid : Prop := Claim7.holds Tryd.pinned (.plain (OpenSpec.upto histKeysSpec)) histKeysUptoCard
end Rows
end Go.Proofs.YtjfafkgjcgbgfaaDoor
