/-
  DERIVED. GIVEN WITH THE SEED: THE CARDS: each row of YthknkijoiloinaaDoorRows.lean that lists a variable, with what it lists TIED to the program's text (the seventh form; the later family's looks); each row that meets fmt, with fmt's text TOLD by the authors' own Lean function (tested against real Go, not proved from fmt's source: count such statements apart). THE CARD IS WHAT COUNTS. Prove the row's statement (the work); the ties are given (YthknkijoiloinaaDoorTie.lean); close each card by the builder's one call (the guide's Derived/Test/ToyasCard.lean, 'card_holds'). Laid BY PROGRAM, IN A SANDBOX (cutbox-door.mjs). By AI agents, Wed Nov 11 2026. No macro, syntax, notation, axiom, sorry.
-/
import Derived.Test.YthknkijoiloinaaDoorRows
import GoSem.ClaimSeven
namespace Go.Proofs.YthknkijoiloinaaDoor
namespace Rows

/-- THE TIED CARD OF 'signalbenchlaw57.BenchPrints'. -/
def benchPrintsCard : Claim7 := { stood := { row := benchPrintsRow, standIns := [], harness := (true, "10aa9cda9baff15a1172085d6efc70587daaec1fd525b41a4a5df0a218dcd79d"), looks := false }, kinds := [], alts := [], laidByText := true, laidKinds := [.data, .data, .data, .data, .pinned], laidTests := true, laidLooks := .later }
def BenchPrintsCardSaid : Prop := Claim7.holds Tryd.pinned (.plain (OpenSpec.ofChange benchPrintsSpec)) benchPrintsCard

/-- THE TIED CARD OF 'signalbenchlaw57.BenchParses'. -/
def benchParsesCard : Claim7 := { stood := { row := benchParsesRow, standIns := [], harness := (true, "10aa9cda9baff15a1172085d6efc70587daaec1fd525b41a4a5df0a218dcd79d"), looks := false }, kinds := [], alts := [], laidByText := true, laidKinds := [.data, .data, .data, .data, .pinned], laidTests := true, laidLooks := .later }
def BenchParsesCardSaid : Prop := Claim7.holds Tryd.pinned (.plain (OpenSpec.ofChange benchParsesSpec)) benchParsesCard

/-- THE TIED CARD OF 'signalbenchlaw57.BenchRoundTrips'. -/
def benchRoundTripsCard : Claim7 := { stood := { row := benchRoundTripsRow, standIns := [], harness := (true, "10aa9cda9baff15a1172085d6efc70587daaec1fd525b41a4a5df0a218dcd79d"), looks := false }, kinds := [], alts := [], laidByText := true, laidKinds := [.data, .data, .data, .data, .pinned], laidTests := true, laidLooks := .later }
def BenchRoundTripsCardSaid : Prop := Claim7.holds Tryd.pinned (.plain (OpenSpec.ofChange benchRoundTripsSpec)) benchRoundTripsCard

/-- THE TIED CARD OF 'signalbenchlaw57.BenchFinds'. -/
def benchFindsCard : Claim7 := { stood := { row := benchFindsRow, standIns := [], harness := (true, "10aa9cda9baff15a1172085d6efc70587daaec1fd525b41a4a5df0a218dcd79d"), looks := false }, kinds := [], alts := [], laidByText := true, laidKinds := [.data, .data, .data, .data, .pinned], laidTests := true, laidLooks := .later }
def BenchFindsCardSaid : Prop := Claim7.holds Tryd.pinned (.plain (OpenSpec.ofChange benchFindsSpec)) benchFindsCard

/-- THE SECOND FORM's CARD OF 'signalbenchlaw57.BenchPrints'. -/
def benchPrintsUptoCard : Claim7 := { stood := { row := benchPrintsUptoRow, standIns := [], harness := (true, "10aa9cda9baff15a1172085d6efc70587daaec1fd525b41a4a5df0a218dcd79d"), looks := false }, kinds := [], alts := [], laidByText := true, laidKinds := [.data, .data, .data, .data, .pinned], laidTests := true, laidLooks := .later }
def BenchPrintsUptoCardSaid : Prop := Claim7.holds Tryd.pinned (.plain (OpenSpec.upto benchPrintsSpec)) benchPrintsUptoCard

/-- THE SECOND FORM's CARD OF 'signalbenchlaw57.BenchParses'. -/
def benchParsesUptoCard : Claim7 := { stood := { row := benchParsesUptoRow, standIns := [], harness := (true, "10aa9cda9baff15a1172085d6efc70587daaec1fd525b41a4a5df0a218dcd79d"), looks := false }, kinds := [], alts := [], laidByText := true, laidKinds := [.data, .data, .data, .data, .pinned], laidTests := true, laidLooks := .later }
def BenchParsesUptoCardSaid : Prop := Claim7.holds Tryd.pinned (.plain (OpenSpec.upto benchParsesSpec)) benchParsesUptoCard

/-- THE SECOND FORM's CARD OF 'signalbenchlaw57.BenchRoundTrips'. -/
def benchRoundTripsUptoCard : Claim7 := { stood := { row := benchRoundTripsUptoRow, standIns := [], harness := (true, "10aa9cda9baff15a1172085d6efc70587daaec1fd525b41a4a5df0a218dcd79d"), looks := false }, kinds := [], alts := [], laidByText := true, laidKinds := [.data, .data, .data, .data, .pinned], laidTests := true, laidLooks := .later }
def BenchRoundTripsUptoCardSaid : Prop := Claim7.holds Tryd.pinned (.plain (OpenSpec.upto benchRoundTripsSpec)) benchRoundTripsUptoCard

/-- THE SECOND FORM's CARD OF 'signalbenchlaw57.BenchFinds'. -/
def benchFindsUptoCard : Claim7 := { stood := { row := benchFindsUptoRow, standIns := [], harness := (true, "10aa9cda9baff15a1172085d6efc70587daaec1fd525b41a4a5df0a218dcd79d"), looks := false }, kinds := [], alts := [], laidByText := true, laidKinds := [.data, .data, .data, .data, .pinned], laidTests := true, laidLooks := .later }
def BenchFindsUptoCardSaid : Prop := Claim7.holds Tryd.pinned (.plain (OpenSpec.upto benchFindsSpec)) benchFindsUptoCard
end Rows
end Go.Proofs.YthknkijoiloinaaDoor
