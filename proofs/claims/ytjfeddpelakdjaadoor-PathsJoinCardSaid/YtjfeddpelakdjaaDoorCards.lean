/-
  DERIVED. GIVEN WITH THE SEED: THE CARDS: each row of YtjfeddpelakdjaaDoorRows.lean that lists a variable, with what it lists TIED to the program's text (the seventh form; the later family's looks); each row that meets fmt, with fmt's text TOLD by the authors' own Lean function (tested against real Go, not proved from fmt's source: count such statements apart). THE CARD IS WHAT COUNTS. Prove the row's statement (the work); the ties are given (YtjfeddpelakdjaaDoorTie.lean); close each card by the builder's one call (the guide's Derived/Test/ToyasCard.lean, 'card_holds'). Laid BY PROGRAM, IN A SANDBOX (cutbox-door.mjs). By AI agents, Wed Nov 11 2026. No macro, syntax, notation, axiom, sorry.
-/
import Derived.Test.YtjfeddpelakdjaaDoorRows
import GoSem.ClaimSeven
namespace Go.Proofs.YtjfeddpelakdjaaDoor
namespace Rows

/-- THE TIED CARD OF 'collatorlaw01.PathsTells'. -/
def pathsTellsCard : Claim7 := { stood := { row := pathsTellsRow, standIns := [], harness := (true, "e6265f96324054c4513be68357254043af2551b1433c8781ed56a3e3a6a14250"), looks := false }, kinds := [], alts := [], laidByText := true, laidKinds := [.data, .pinned], laidTests := true, laidLooks := .later }
def PathsTellsCardSaid : Prop := Claim7.holds Tryd.pinned (.plain (OpenSpec.ofChange pathsTellsSpec)) pathsTellsCard

/-- THE TIED CARD OF 'collatorlaw01.PathsOrder'. -/
def pathsOrderCard : Claim7 := { stood := { row := pathsOrderRow, standIns := [], harness := (true, "e6265f96324054c4513be68357254043af2551b1433c8781ed56a3e3a6a14250"), looks := false }, kinds := [], alts := [], laidByText := true, laidKinds := [.data, .pinned], laidTests := true, laidLooks := .later }
def PathsOrderCardSaid : Prop := Claim7.holds Tryd.pinned (.plain (OpenSpec.ofChange pathsOrderSpec)) pathsOrderCard

/-- THE TIED CARD OF 'collatorlaw01.PathsWithin'. -/
def pathsWithinCard : Claim7 := { stood := { row := pathsWithinRow, standIns := [], harness := (true, "e6265f96324054c4513be68357254043af2551b1433c8781ed56a3e3a6a14250"), looks := false }, kinds := [], alts := [], laidByText := true, laidKinds := [.data, .pinned], laidTests := true, laidLooks := .later }
def PathsWithinCardSaid : Prop := Claim7.holds Tryd.pinned (.plain (OpenSpec.ofChange pathsWithinSpec)) pathsWithinCard

/-- THE TIED CARD OF 'collatorlaw01.PathsJoin'. -/
def pathsJoinCard : Claim7 := { stood := { row := pathsJoinRow, standIns := [], harness := (true, "e6265f96324054c4513be68357254043af2551b1433c8781ed56a3e3a6a14250"), looks := false }, kinds := [], alts := [], laidByText := true, laidKinds := [.data, .pinned], laidTests := true, laidLooks := .later }
def PathsJoinCardSaid : Prop := Claim7.holds Tryd.pinned (.plain (OpenSpec.ofChange pathsJoinSpec)) pathsJoinCard

/-- THE TIED CARD OF 'collatorlaw01.PathsParts'. -/
def pathsPartsCard : Claim7 := { stood := { row := pathsPartsRow, standIns := [], harness := (true, "e6265f96324054c4513be68357254043af2551b1433c8781ed56a3e3a6a14250"), looks := false }, kinds := [], alts := [], laidByText := true, laidKinds := [.data, .pinned], laidTests := true, laidLooks := .later }
def PathsPartsCardSaid : Prop := Claim7.holds Tryd.pinned (.plain (OpenSpec.ofChange pathsPartsSpec)) pathsPartsCard

/-- THE TIED CARD OF 'collatorlaw01.PathsNames'. -/
def pathsNamesCard : Claim7 := { stood := { row := pathsNamesRow, standIns := [], harness := (true, "e6265f96324054c4513be68357254043af2551b1433c8781ed56a3e3a6a14250"), looks := false }, kinds := [], alts := [], laidByText := true, laidKinds := [.data, .pinned], laidTests := true, laidLooks := .later }
def PathsNamesCardSaid : Prop := Claim7.holds Tryd.pinned (.plain (OpenSpec.ofChange pathsNamesSpec)) pathsNamesCard

/-- THE TIED CARD OF 'collatorlaw01.PathsDir'. -/
def pathsDirCard : Claim7 := { stood := { row := pathsDirRow, standIns := [], harness := (true, "e6265f96324054c4513be68357254043af2551b1433c8781ed56a3e3a6a14250"), looks := false }, kinds := [], alts := [], laidByText := true, laidKinds := [.data, .pinned], laidTests := true, laidLooks := .later }
def PathsDirCardSaid : Prop := Claim7.holds Tryd.pinned (.plain (OpenSpec.ofChange pathsDirSpec)) pathsDirCard

/-- THE SECOND FORM's CARD OF 'collatorlaw01.PathsTells'. -/
def pathsTellsUptoCard : Claim7 := { stood := { row := pathsTellsUptoRow, standIns := [], harness := (true, "e6265f96324054c4513be68357254043af2551b1433c8781ed56a3e3a6a14250"), looks := false }, kinds := [], alts := [], laidByText := true, laidKinds := [.data, .pinned], laidTests := true, laidLooks := .later }
def PathsTellsUptoCardSaid : Prop := Claim7.holds Tryd.pinned (.plain (OpenSpec.upto pathsTellsSpec)) pathsTellsUptoCard

/-- THE SECOND FORM's CARD OF 'collatorlaw01.PathsOrder'. -/
def pathsOrderUptoCard : Claim7 := { stood := { row := pathsOrderUptoRow, standIns := [], harness := (true, "e6265f96324054c4513be68357254043af2551b1433c8781ed56a3e3a6a14250"), looks := false }, kinds := [], alts := [], laidByText := true, laidKinds := [.data, .pinned], laidTests := true, laidLooks := .later }
def PathsOrderUptoCardSaid : Prop := Claim7.holds Tryd.pinned (.plain (OpenSpec.upto pathsOrderSpec)) pathsOrderUptoCard

/-- THE SECOND FORM's CARD OF 'collatorlaw01.PathsWithin'. -/
def pathsWithinUptoCard : Claim7 := { stood := { row := pathsWithinUptoRow, standIns := [], harness := (true, "e6265f96324054c4513be68357254043af2551b1433c8781ed56a3e3a6a14250"), looks := false }, kinds := [], alts := [], laidByText := true, laidKinds := [.data, .pinned], laidTests := true, laidLooks := .later }
def PathsWithinUptoCardSaid : Prop := Claim7.holds Tryd.pinned (.plain (OpenSpec.upto pathsWithinSpec)) pathsWithinUptoCard

/-- THE SECOND FORM's CARD OF 'collatorlaw01.PathsJoin'. -/
def pathsJoinUptoCard : Claim7 := { stood := { row := pathsJoinUptoRow, standIns := [], harness := (true, "e6265f96324054c4513be68357254043af2551b1433c8781ed56a3e3a6a14250"), looks := false }, kinds := [], alts := [], laidByText := true, laidKinds := [.data, .pinned], laidTests := true, laidLooks := .later }
def PathsJoinUptoCardSaid : Prop := Claim7.holds Tryd.pinned (.plain (OpenSpec.upto pathsJoinSpec)) pathsJoinUptoCard

/-- THE SECOND FORM's CARD OF 'collatorlaw01.PathsParts'. -/
def pathsPartsUptoCard : Claim7 := { stood := { row := pathsPartsUptoRow, standIns := [], harness := (true, "e6265f96324054c4513be68357254043af2551b1433c8781ed56a3e3a6a14250"), looks := false }, kinds := [], alts := [], laidByText := true, laidKinds := [.data, .pinned], laidTests := true, laidLooks := .later }
def PathsPartsUptoCardSaid : Prop := Claim7.holds Tryd.pinned (.plain (OpenSpec.upto pathsPartsSpec)) pathsPartsUptoCard

/-- THE SECOND FORM's CARD OF 'collatorlaw01.PathsNames'. -/
def pathsNamesUptoCard : Claim7 := { stood := { row := pathsNamesUptoRow, standIns := [], harness := (true, "e6265f96324054c4513be68357254043af2551b1433c8781ed56a3e3a6a14250"), looks := false }, kinds := [], alts := [], laidByText := true, laidKinds := [.data, .pinned], laidTests := true, laidLooks := .later }
def PathsNamesUptoCardSaid : Prop := Claim7.holds Tryd.pinned (.plain (OpenSpec.upto pathsNamesSpec)) pathsNamesUptoCard

/-- THE SECOND FORM's CARD OF 'collatorlaw01.PathsDir'. -/
def pathsDirUptoCard : Claim7 := { stood := { row := pathsDirUptoRow, standIns := [], harness := (true, "e6265f96324054c4513be68357254043af2551b1433c8781ed56a3e3a6a14250"), looks := false }, kinds := [], alts := [], laidByText := true, laidKinds := [.data, .pinned], laidTests := true, laidLooks := .later }
def PathsDirUptoCardSaid : Prop := Claim7.holds Tryd.pinned (.plain (OpenSpec.upto pathsDirSpec)) pathsDirUptoCard
end Rows
end Go.Proofs.YtjfeddpelakdjaaDoor
