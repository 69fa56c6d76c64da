/-
  DERIVED. GIVEN WITH THE SEED: THE CARDS: each row of YtolilamofgildaaDoorRows.lean that lists a variable, with what it lists TIED to the program's text (the seventh form; the later family's looks); each row that meets fmt, with fmt's text TOLD by the authors' own Lean function (tested against real Go, not proved from fmt's source: count such statements apart). THE CARD IS WHAT COUNTS. Prove the row's statement (the work); the ties are given (YtolilamofgildaaDoorTie.lean); close each card by the builder's one call (the guide's Derived/Test/ToyasCard.lean, 'card_holds'). Laid BY PROGRAM, IN A SANDBOX (cutbox-door.mjs). By AI agents, Wed Nov 11 2026. No macro, syntax, notation, axiom, sorry.
-/
import Derived.Test.YtolilamofgildaaDoorRows
import GoSem.ClaimSeven
namespace Go.Proofs.YtolilamofgildaaDoor
namespace Rows

/-- THE TIED CARD OF 'signalbenchlaw56.ReportTables'. -/
def reportTablesCard : Claim7 := { stood := { row := reportTablesRow, standIns := [], harness := (true, "c3dd648932ad8e6bec742ab4f4c1090441688ae78184bdd973fc0901590ce0a3"), looks := false }, kinds := [], alts := [], laidByText := true, laidKinds := [.data, .data, .data], laidTests := true, laidLooks := .later }
def ReportTablesCardSaid : Prop := Claim7.holds Tryd.pinned (.plain (OpenSpec.ofChange reportTablesSpec)) reportTablesCard

/-- THE TIED CARD OF 'signalbenchlaw56.ReportAligns'. -/
def reportAlignsCard : Claim7 := { stood := { row := reportAlignsRow, standIns := [], harness := (true, "c3dd648932ad8e6bec742ab4f4c1090441688ae78184bdd973fc0901590ce0a3"), looks := false }, kinds := [], alts := [], laidByText := true, laidKinds := [.data, .data, .data], laidTests := true, laidLooks := .later }
def ReportAlignsCardSaid : Prop := Claim7.holds Tryd.pinned (.plain (OpenSpec.ofChange reportAlignsSpec)) reportAlignsCard

/-- THE TIED CARD OF 'signalbenchlaw56.ReportExports'. -/
def reportExportsCard : Claim7 := { stood := { row := reportExportsRow, standIns := [], harness := (true, "c3dd648932ad8e6bec742ab4f4c1090441688ae78184bdd973fc0901590ce0a3"), looks := false }, kinds := [], alts := [], laidByText := true, laidKinds := [.data, .data, .data], laidTests := true, laidLooks := .later }
def ReportExportsCardSaid : Prop := Claim7.holds Tryd.pinned (.plain (OpenSpec.ofChange reportExportsSpec)) reportExportsCard

/-- THE TIED CARD OF 'signalbenchlaw56.ReportCounts'. -/
def reportCountsCard : Claim7 := { stood := { row := reportCountsRow, standIns := [], harness := (true, "c3dd648932ad8e6bec742ab4f4c1090441688ae78184bdd973fc0901590ce0a3"), looks := false }, kinds := [], alts := [], laidByText := true, laidKinds := [.data, .data, .data], laidTests := true, laidLooks := .later }
def ReportCountsCardSaid : Prop := Claim7.holds Tryd.pinned (.plain (OpenSpec.ofChange reportCountsSpec)) reportCountsCard

/-- THE TIED CARD OF 'signalbenchlaw56.ReportRows'. -/
def reportRowsCard : Claim7 := { stood := { row := reportRowsRow, standIns := [], harness := (true, "c3dd648932ad8e6bec742ab4f4c1090441688ae78184bdd973fc0901590ce0a3"), looks := false }, kinds := [], alts := [], laidByText := true, laidKinds := [.data, .data, .data, .data, .pinned], laidTests := true, laidLooks := .later }
def ReportRowsCardSaid : Prop := Claim7.holds Tryd.pinned (.plain (OpenSpec.ofChange reportRowsSpec)) reportRowsCard

/-- THE SECOND FORM's CARD OF 'signalbenchlaw56.ReportTables'. -/
def reportTablesUptoCard : Claim7 := { stood := { row := reportTablesUptoRow, standIns := [], harness := (true, "c3dd648932ad8e6bec742ab4f4c1090441688ae78184bdd973fc0901590ce0a3"), looks := false }, kinds := [], alts := [], laidByText := true, laidKinds := [.data, .data, .data], laidTests := true, laidLooks := .later }
def ReportTablesUptoCardSaid : Prop := Claim7.holds Tryd.pinned (.plain (OpenSpec.upto reportTablesSpec)) reportTablesUptoCard

/-- THE SECOND FORM's CARD OF 'signalbenchlaw56.ReportAligns'. -/
def reportAlignsUptoCard : Claim7 := { stood := { row := reportAlignsUptoRow, standIns := [], harness := (true, "c3dd648932ad8e6bec742ab4f4c1090441688ae78184bdd973fc0901590ce0a3"), looks := false }, kinds := [], alts := [], laidByText := true, laidKinds := [.data, .data, .data], laidTests := true, laidLooks := .later }
def ReportAlignsUptoCardSaid : Prop := Claim7.holds Tryd.pinned (.plain (OpenSpec.upto reportAlignsSpec)) reportAlignsUptoCard

/-- THE SECOND FORM's CARD OF 'signalbenchlaw56.ReportExports'. -/
def reportExportsUptoCard : Claim7 := { stood := { row := reportExportsUptoRow, standIns := [], harness := (true, "c3dd648932ad8e6bec742ab4f4c1090441688ae78184bdd973fc0901590ce0a3"), looks := false }, kinds := [], alts := [], laidByText := true, laidKinds := [.data, .data, .data], laidTests := true, laidLooks := .later }
def ReportExportsUptoCardSaid : Prop := Claim7.holds Tryd.pinned (.plain (OpenSpec.upto reportExportsSpec)) reportExportsUptoCard

/-- THE SECOND FORM's CARD OF 'signalbenchlaw56.ReportCounts'. -/
def reportCountsUptoCard : Claim7 := { stood := { row := reportCountsUptoRow, standIns := [], harness := (true, "c3dd648932ad8e6bec742ab4f4c1090441688ae78184bdd973fc0901590ce0a3"), looks := false }, kinds := [], alts := [], laidByText := true, laidKinds := [.data, .data, .data], laidTests := true, laidLooks := .later }
def ReportCountsUptoCardSaid : Prop := Claim7.holds Tryd.pinned (.plain (OpenSpec.upto reportCountsSpec)) reportCountsUptoCard

/-- THE SECOND FORM's CARD OF 'signalbenchlaw56.ReportRows'. -/
def reportRowsUptoCard : Claim7 := { stood := { row := reportRowsUptoRow, standIns := [], harness := (true, "c3dd648932ad8e6bec742ab4f4c1090441688ae78184bdd973fc0901590ce0a3"), looks := false }, kinds := [], alts := [], laidByText := true, laidKinds := [.data, .data, .data, .data, .pinned], laidTests := true, laidLooks := .later }
def ReportRowsUptoCardSaid : Prop := Claim7.holds Tryd.pinned (.plain (OpenSpec.upto reportRowsSpec)) reportRowsUptoCard
end Rows
end Go.Proofs.YtolilamofgildaaDoor
