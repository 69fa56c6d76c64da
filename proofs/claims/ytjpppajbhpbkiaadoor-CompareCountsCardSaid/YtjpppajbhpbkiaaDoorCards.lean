/-
  DERIVED. GIVEN WITH THE SEED: THE CARDS: each row of YtjpppajbhpbkiaaDoorRows.lean that lists a variable, with what it lists TIED to the program's text (the seventh form; the later family's looks); each row that meets fmt, with fmt's text TOLD by the authors' own Lean function (tested against real Go, not proved from fmt's source: count such statements apart). THE CARD IS WHAT COUNTS. Prove the row's statement (the work); the ties are given (YtjpppajbhpbkiaaDoorTie.lean); close each card by the builder's one call (the guide's Derived/Test/ToyasCard.lean, 'card_holds'). Laid BY PROGRAM, IN A SANDBOX (cutbox-door.mjs). By AI agents, Wed Nov 11 2026. No macro, syntax, notation, axiom, sorry.
-/
import Derived.Test.YtjpppajbhpbkiaaDoorRows
import GoSem.ClaimSeven
namespace Go.Proofs.YtjpppajbhpbkiaaDoor
namespace Rows

/-- THE TIED CARD OF 'signalbenchlaw55.CompareKeys'. -/
def compareKeysCard : Claim7 := { stood := { row := compareKeysRow, standIns := [], harness := (true, "d10fe242155610c9a2479a48027aaa5f5aa61c742f614c057eed6e1033f46f39"), looks := false }, kinds := [], alts := [], laidByText := true, laidKinds := [.data, .data, .data], laidTests := true, laidLooks := .later }
def CompareKeysCardSaid : Prop := Claim7.holds Tryd.pinned (.plain (OpenSpec.ofChange compareKeysSpec)) compareKeysCard

/-- THE TIED CARD OF 'signalbenchlaw55.CompareDiffs'. -/
def compareDiffsCard : Claim7 := { stood := { row := compareDiffsRow, standIns := [], harness := (true, "d10fe242155610c9a2479a48027aaa5f5aa61c742f614c057eed6e1033f46f39"), looks := false }, kinds := [], alts := [], laidByText := true, laidKinds := [.data, .data, .data], laidTests := true, laidLooks := .later }
def CompareDiffsCardSaid : Prop := Claim7.holds Tryd.pinned (.plain (OpenSpec.ofChange compareDiffsSpec)) compareDiffsCard

/-- THE TIED CARD OF 'signalbenchlaw55.CompareCounts'. -/
def compareCountsCard : Claim7 := { stood := { row := compareCountsRow, standIns := [], harness := (true, "d10fe242155610c9a2479a48027aaa5f5aa61c742f614c057eed6e1033f46f39"), looks := false }, kinds := [], alts := [], laidByText := true, laidKinds := [.data, .data, .data], laidTests := true, laidLooks := .later }
def CompareCountsCardSaid : Prop := Claim7.holds Tryd.pinned (.plain (OpenSpec.ofChange compareCountsSpec)) compareCountsCard

/-- THE TIED CARD OF 'signalbenchlaw55.CompareSelf'. -/
def compareSelfCard : Claim7 := { stood := { row := compareSelfRow, standIns := [], harness := (true, "d10fe242155610c9a2479a48027aaa5f5aa61c742f614c057eed6e1033f46f39"), looks := false }, kinds := [], alts := [], laidByText := true, laidKinds := [.data, .data, .data], laidTests := true, laidLooks := .later }
def CompareSelfCardSaid : Prop := Claim7.holds Tryd.pinned (.plain (OpenSpec.ofChange compareSelfSpec)) compareSelfCard

/-- THE SECOND FORM's CARD OF 'signalbenchlaw55.CompareKeys'. -/
def compareKeysUptoCard : Claim7 := { stood := { row := compareKeysUptoRow, standIns := [], harness := (true, "d10fe242155610c9a2479a48027aaa5f5aa61c742f614c057eed6e1033f46f39"), looks := false }, kinds := [], alts := [], laidByText := true, laidKinds := [.data, .data, .data], laidTests := true, laidLooks := .later }
def CompareKeysUptoCardSaid : Prop := Claim7.holds Tryd.pinned (.plain (OpenSpec.upto compareKeysSpec)) compareKeysUptoCard

/-- THE SECOND FORM's CARD OF 'signalbenchlaw55.CompareDiffs'. -/
def compareDiffsUptoCard : Claim7 := { stood := { row := compareDiffsUptoRow, standIns := [], harness := (true, "d10fe242155610c9a2479a48027aaa5f5aa61c742f614c057eed6e1033f46f39"), looks := false }, kinds := [], alts := [], laidByText := true, laidKinds := [.data, .data, .data], laidTests := true, laidLooks := .later }
def CompareDiffsUptoCardSaid : Prop := Claim7.holds Tryd.pinned (.plain (OpenSpec.upto compareDiffsSpec)) compareDiffsUptoCard

/-- THE SECOND FORM's CARD OF 'signalbenchlaw55.CompareCounts'. -/
def compareCountsUptoCard : Claim7 := { stood := { row := compareCountsUptoRow, standIns := [], harness := (true, "d10fe242155610c9a2479a48027aaa5f5aa61c742f614c057eed6e1033f46f39"), looks := false }, kinds := [], alts := [], laidByText := true, laidKinds := [.data, .data, .data], laidTests := true, laidLooks := .later }
def CompareCountsUptoCardSaid : Prop := Claim7.holds Tryd.pinned (.plain (OpenSpec.upto compareCountsSpec)) compareCountsUptoCard

/-- THE SECOND FORM's CARD OF 'signalbenchlaw55.CompareSelf'. -/
def compareSelfUptoCard : Claim7 := { stood := { row := compareSelfUptoRow, standIns := [], harness := (true, "d10fe242155610c9a2479a48027aaa5f5aa61c742f614c057eed6e1033f46f39"), looks := false }, kinds := [], alts := [], laidByText := true, laidKinds := [.data, .data, .data], laidTests := true, laidLooks := .later }
def CompareSelfUptoCardSaid : Prop := Claim7.holds Tryd.pinned (.plain (OpenSpec.upto compareSelfSpec)) compareSelfUptoCard
end Rows
end Go.Proofs.YtjpppajbhpbkiaaDoor
