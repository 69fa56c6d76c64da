/-
  DERIVED. GIVEN WITH THE SEED: THE CARDS: each row of YtolilamofgildaaGreatDoorRows.lean that lists a variable, with what it lists TIED to the program's text (the seventh form; the later family's looks); each row that meets fmt, with fmt's text TOLD by the authors' own Lean function (tested against real Go, not proved from fmt's source: count such statements apart). THE CARD IS WHAT COUNTS. Prove the row's statement (the work); the ties are given (YtolilamofgildaaGreatDoorTie.lean); close each card by the builder's one call (the guide's Derived/Test/ToyasCard.lean, 'card_holds'). Laid BY PROGRAM, IN A SANDBOX (cutbox-door.mjs). By AI agents, Wed Nov 11 2026. No macro, syntax, notation, axiom, sorry.
-/
import Derived.Test.YtolilamofgildaaGreatDoorRows
import GoSem.ClaimSeven
namespace Go.Proofs.YtolilamofgildaaGreatDoor
namespace Rows

/-- THE TIED CARD OF 'signalbenchlaw56.ReportRoundTrips'. -/
def reportRoundTripsCard : Claim7 := { stood := { row := reportRoundTripsRow, standIns := [], harness := (true, "6efcd2ded04646bdd747ef56917b2cfba9f32151454933b7e0994f4b8d86fe02"), looks := true }, kinds := [], alts := [], laidByText := true, laidKinds := [.data, .data, .data, .data, .sentinel, .sentinel, .pinned], laidTests := true, laidLooks := .later }
def ReportRoundTripsCardSaid : Prop := Claim7.holds Tryz.pinned (.plain (OpenSpec.ofChange reportRoundTripsSpec)) reportRoundTripsCard

/-- THE SECOND FORM's CARD OF 'signalbenchlaw56.ReportRoundTrips'. -/
def reportRoundTripsUptoCard : Claim7 := { stood := { row := reportRoundTripsUptoRow, standIns := [], harness := (true, "6efcd2ded04646bdd747ef56917b2cfba9f32151454933b7e0994f4b8d86fe02"), looks := true }, kinds := [], alts := [], laidByText := true, laidKinds := [.data, .data, .data, .data, .sentinel, .sentinel, .pinned], laidTests := true, laidLooks := .later }
def ReportRoundTripsUptoCardSaid : Prop := Claim7.holds Tryz.pinned (.plain (OpenSpec.upto reportRoundTripsSpec)) reportRoundTripsUptoCard
end Rows
end Go.Proofs.YtolilamofgildaaGreatDoor
