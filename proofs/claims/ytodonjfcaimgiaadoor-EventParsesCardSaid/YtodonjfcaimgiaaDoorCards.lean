/-
  DERIVED. GIVEN WITH THE SEED: THE CARDS: each row of YtodonjfcaimgiaaDoorRows.lean that lists a variable, with what it lists TIED to the program's text (the seventh form; the later family's looks); each row that meets fmt, with fmt's text TOLD by the authors' own Lean function (tested against real Go, not proved from fmt's source: count such statements apart). THE CARD IS WHAT COUNTS. Prove the row's statement (the work); the ties are given (YtodonjfcaimgiaaDoorTie.lean); close each card by the builder's one call (the guide's Derived/Test/ToyasCard.lean, 'card_holds'). Laid BY PROGRAM, IN A SANDBOX (cutbox-door.mjs). By AI agents, Wed Nov 11 2026. No macro, syntax, notation, axiom, sorry.
-/
import Derived.Test.YtodonjfcaimgiaaDoorRows
import GoSem.ClaimSeven
namespace Go.Proofs.YtodonjfcaimgiaaDoor
namespace Rows

/-- THE TIED CARD OF 'signalbenchlaw07.EventValid'. -/
def eventValidCard : Claim7 := { stood := { row := eventValidRow, standIns := [], harness := (true, "de29d7ca54979d93f28c58cab31c7c948a46702c4d98264ed9a01863ff072be3"), looks := true }, kinds := [], alts := [], laidByText := true, laidKinds := [.data, .data, .data, .data, .sentinel, .sentinel, .pinned], laidTests := true, laidLooks := .later }
def EventValidCardSaid : Prop := Claim7.holds Tryd.pinned (.plain (OpenSpec.ofChange eventValidSpec)) eventValidCard

/-- THE TIED CARD OF 'signalbenchlaw07.EventClips'. -/
def eventClipsCard : Claim7 := { stood := { row := eventClipsRow, standIns := [], harness := (true, "de29d7ca54979d93f28c58cab31c7c948a46702c4d98264ed9a01863ff072be3"), looks := true }, kinds := [], alts := [], laidByText := true, laidKinds := [.data, .data, .data, .data, .sentinel, .sentinel, .pinned], laidTests := true, laidLooks := .later }
def EventClipsCardSaid : Prop := Claim7.holds Tryd.pinned (.plain (OpenSpec.ofChange eventClipsSpec)) eventClipsCard

/-- THE TIED CARD OF 'signalbenchlaw07.EventLines'. -/
def eventLinesCard : Claim7 := { stood := { row := eventLinesRow, standIns := [], harness := (true, "de29d7ca54979d93f28c58cab31c7c948a46702c4d98264ed9a01863ff072be3"), looks := true }, kinds := [], alts := [], laidByText := true, laidKinds := [.data, .data, .data, .data, .sentinel, .sentinel, .pinned], laidTests := true, laidLooks := .later }
def EventLinesCardSaid : Prop := Claim7.holds Tryd.pinned (.plain (OpenSpec.ofChange eventLinesSpec)) eventLinesCard

/-- THE TIED CARD OF 'signalbenchlaw07.EventParses'. -/
def eventParsesCard : Claim7 := { stood := { row := eventParsesRow, standIns := [], harness := (true, "de29d7ca54979d93f28c58cab31c7c948a46702c4d98264ed9a01863ff072be3"), looks := true }, kinds := [], alts := [], laidByText := true, laidKinds := [.data, .data, .data, .data, .sentinel, .sentinel, .pinned], laidTests := true, laidLooks := .later }
def EventParsesCardSaid : Prop := Claim7.holds Tryd.pinned (.plain (OpenSpec.ofChange eventParsesSpec)) eventParsesCard

/-- THE TIED CARD OF 'signalbenchlaw07.EventRoundTrips'. -/
def eventRoundTripsCard : Claim7 := { stood := { row := eventRoundTripsRow, standIns := [], harness := (true, "de29d7ca54979d93f28c58cab31c7c948a46702c4d98264ed9a01863ff072be3"), looks := true }, kinds := [], alts := [], laidByText := true, laidKinds := [.data, .data, .data, .data, .sentinel, .sentinel, .pinned], laidTests := true, laidLooks := .later }
def EventRoundTripsCardSaid : Prop := Claim7.holds Tryd.pinned (.plain (OpenSpec.ofChange eventRoundTripsSpec)) eventRoundTripsCard

/-- THE TIED CARD OF 'signalbenchlaw07.EventShifts'. -/
def eventShiftsCard : Claim7 := { stood := { row := eventShiftsRow, standIns := [], harness := (true, "de29d7ca54979d93f28c58cab31c7c948a46702c4d98264ed9a01863ff072be3"), looks := true }, kinds := [], alts := [], laidByText := true, laidKinds := [.data, .data, .data, .data, .sentinel, .sentinel, .pinned], laidTests := true, laidLooks := .later }
def EventShiftsCardSaid : Prop := Claim7.holds Tryd.pinned (.plain (OpenSpec.ofChange eventShiftsSpec)) eventShiftsCard

/-- THE SECOND FORM's CARD OF 'signalbenchlaw07.EventValid'. -/
def eventValidUptoCard : Claim7 := { stood := { row := eventValidUptoRow, standIns := [], harness := (true, "de29d7ca54979d93f28c58cab31c7c948a46702c4d98264ed9a01863ff072be3"), looks := true }, kinds := [], alts := [], laidByText := true, laidKinds := [.data, .data, .data, .data, .sentinel, .sentinel, .pinned], laidTests := true, laidLooks := .later }
def EventValidUptoCardSaid : Prop := Claim7.holds Tryd.pinned (.plain (OpenSpec.upto eventValidSpec)) eventValidUptoCard

/-- THE SECOND FORM's CARD OF 'signalbenchlaw07.EventClips'. -/
def eventClipsUptoCard : Claim7 := { stood := { row := eventClipsUptoRow, standIns := [], harness := (true, "de29d7ca54979d93f28c58cab31c7c948a46702c4d98264ed9a01863ff072be3"), looks := true }, kinds := [], alts := [], laidByText := true, laidKinds := [.data, .data, .data, .data, .sentinel, .sentinel, .pinned], laidTests := true, laidLooks := .later }
def EventClipsUptoCardSaid : Prop := Claim7.holds Tryd.pinned (.plain (OpenSpec.upto eventClipsSpec)) eventClipsUptoCard

/-- THE SECOND FORM's CARD OF 'signalbenchlaw07.EventLines'. -/
def eventLinesUptoCard : Claim7 := { stood := { row := eventLinesUptoRow, standIns := [], harness := (true, "de29d7ca54979d93f28c58cab31c7c948a46702c4d98264ed9a01863ff072be3"), looks := true }, kinds := [], alts := [], laidByText := true, laidKinds := [.data, .data, .data, .data, .sentinel, .sentinel, .pinned], laidTests := true, laidLooks := .later }
def EventLinesUptoCardSaid : Prop := Claim7.holds Tryd.pinned (.plain (OpenSpec.upto eventLinesSpec)) eventLinesUptoCard

/-- THE SECOND FORM's CARD OF 'signalbenchlaw07.EventParses'. -/
def eventParsesUptoCard : Claim7 := { stood := { row := eventParsesUptoRow, standIns := [], harness := (true, "de29d7ca54979d93f28c58cab31c7c948a46702c4d98264ed9a01863ff072be3"), looks := true }, kinds := [], alts := [], laidByText := true, laidKinds := [.data, .data, .data, .data, .sentinel, .sentinel, .pinned], laidTests := true, laidLooks := .later }
def EventParsesUptoCardSaid : Prop := Claim7.holds Tryd.pinned (.plain (OpenSpec.upto eventParsesSpec)) eventParsesUptoCard

/-- THE SECOND FORM's CARD OF 'signalbenchlaw07.EventRoundTrips'. -/
def eventRoundTripsUptoCard : Claim7 := { stood := { row := eventRoundTripsUptoRow, standIns := [], harness := (true, "de29d7ca54979d93f28c58cab31c7c948a46702c4d98264ed9a01863ff072be3"), looks := true }, kinds := [], alts := [], laidByText := true, laidKinds := [.data, .data, .data, .data, .sentinel, .sentinel, .pinned], laidTests := true, laidLooks := .later }
def EventRoundTripsUptoCardSaid : Prop := Claim7.holds Tryd.pinned (.plain (OpenSpec.upto eventRoundTripsSpec)) eventRoundTripsUptoCard

/-- THE SECOND FORM's CARD OF 'signalbenchlaw07.EventShifts'. -/
def eventShiftsUptoCard : Claim7 := { stood := { row := eventShiftsUptoRow, standIns := [], harness := (true, "de29d7ca54979d93f28c58cab31c7c948a46702c4d98264ed9a01863ff072be3"), looks := true }, kinds := [], alts := [], laidByText := true, laidKinds := [.data, .data, .data, .data, .sentinel, .sentinel, .pinned], laidTests := true, laidLooks := .later }
def EventShiftsUptoCardSaid : Prop := Claim7.holds Tryd.pinned (.plain (OpenSpec.upto eventShiftsSpec)) eventShiftsUptoCard
end Rows
end Go.Proofs.YtodonjfcaimgiaaDoor
