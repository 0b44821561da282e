/-
  DERIVED. GIVEN WITH THE SEED: THE CARDS: each row of YtpcancnnbjadeaaDoorRows.lean that lists a variable, with what it lists TIED to the program's text (the seventh form; the later family's looks); each row that meets fmt, with fmt's text TOLD by the authors' own Lean function (tested against real Go, not proved from fmt's source: count such statements apart). THE CARD IS WHAT COUNTS. Prove the row's statement (the work); the ties are given (YtpcancnnbjadeaaDoorTie.lean); close each card by the builder's one call (the guide's Derived/Test/ToyasCard.lean, 'card_holds'). Laid BY PROGRAM, IN A SANDBOX (cutbox-door.mjs). By AI agents, Wed Nov 11 2026. No macro, syntax, notation, axiom, sorry.
-/
import Derived.Test.YtpcancnnbjadeaaDoorRows
import GoSem.ClaimSeven
namespace Go.Proofs.YtpcancnnbjadeaaDoor
namespace Rows

/-- THE TIED CARD OF 'gatepathlaw09.LocatorChecks'. -/
def locatorChecksCard : Claim7 := { stood := { row := locatorChecksRow, standIns := [], harness := (true, "e9f6e69844a381ec6e56236ab3ec7f7220a97bda1399cf39ba01fd8d2dee1235"), looks := true }, kinds := [], alts := [], laidByText := true, laidKinds := [.data, .data, .data, .data, .pinned], laidTests := true, laidLooks := .later }
def LocatorChecksCardSaid : Prop := Claim7.holds Tryd.pinned (.plain (OpenSpec.ofChange locatorChecksSpec)) locatorChecksCard

/-- THE TIED CARD OF 'gatepathlaw09.LocatorParses'. -/
def locatorParsesCard : Claim7 := { stood := { row := locatorParsesRow, standIns := [], harness := (true, "e9f6e69844a381ec6e56236ab3ec7f7220a97bda1399cf39ba01fd8d2dee1235"), looks := true }, kinds := [], alts := [], laidByText := true, laidKinds := [.data, .data, .data, .data, .sentinel, .sentinel, .pinned], laidTests := true, laidLooks := .later }
def LocatorParsesCardSaid : Prop := Claim7.holds Tryd.pinned (.plain (OpenSpec.ofChange locatorParsesSpec)) locatorParsesCard

/-- THE TIED CARD OF 'gatepathlaw09.LocatorWithin'. -/
def locatorWithinCard : Claim7 := { stood := { row := locatorWithinRow, standIns := [], harness := (true, "e9f6e69844a381ec6e56236ab3ec7f7220a97bda1399cf39ba01fd8d2dee1235"), looks := true }, kinds := [], alts := [], laidByText := true, laidKinds := [.data, .data, .data, .data, .sentinel, .sentinel, .pinned], laidTests := true, laidLooks := .later }
def LocatorWithinCardSaid : Prop := Claim7.holds Tryd.pinned (.plain (OpenSpec.ofChange locatorWithinSpec)) locatorWithinCard

/-- THE TIED CARD OF 'gatepathlaw09.LocatorBack'. -/
def locatorBackCard : Claim7 := { stood := { row := locatorBackRow, standIns := [], harness := (true, "e9f6e69844a381ec6e56236ab3ec7f7220a97bda1399cf39ba01fd8d2dee1235"), looks := true }, kinds := [], alts := [], laidByText := true, laidKinds := [.data, .data, .data, .data, .sentinel, .sentinel, .pinned], laidTests := true, laidLooks := .later }
def LocatorBackCardSaid : Prop := Claim7.holds Tryd.pinned (.plain (OpenSpec.ofChange locatorBackSpec)) locatorBackCard

/-- THE TIED CARD OF 'gatepathlaw09.LocatorOnce'. -/
def locatorOnceCard : Claim7 := { stood := { row := locatorOnceRow, standIns := [], harness := (true, "e9f6e69844a381ec6e56236ab3ec7f7220a97bda1399cf39ba01fd8d2dee1235"), looks := true }, kinds := [], alts := [], laidByText := true, laidKinds := [.data, .data, .data, .data, .sentinel, .sentinel, .pinned], laidTests := true, laidLooks := .later }
def LocatorOnceCardSaid : Prop := Claim7.holds Tryd.pinned (.plain (OpenSpec.ofChange locatorOnceSpec)) locatorOnceCard

/-- THE TIED CARD OF 'gatepathlaw09.LocatorPaths'. -/
def locatorPathsCard : Claim7 := { stood := { row := locatorPathsRow, standIns := [], harness := (true, "e9f6e69844a381ec6e56236ab3ec7f7220a97bda1399cf39ba01fd8d2dee1235"), looks := true }, kinds := [], alts := [], laidByText := true, laidKinds := [.data, .data, .data, .data, .sentinel, .sentinel, .pinned], laidTests := true, laidLooks := .later }
def LocatorPathsCardSaid : Prop := Claim7.holds Tryd.pinned (.plain (OpenSpec.ofChange locatorPathsSpec)) locatorPathsCard

/-- THE TIED CARD OF 'gatepathlaw09.LocatorNames'. -/
def locatorNamesCard : Claim7 := { stood := { row := locatorNamesRow, standIns := [], harness := (true, "e9f6e69844a381ec6e56236ab3ec7f7220a97bda1399cf39ba01fd8d2dee1235"), looks := true }, kinds := [], alts := [], laidByText := true, laidKinds := [.data, .data, .data, .data, .sentinel, .sentinel, .pinned], laidTests := true, laidLooks := .later }
def LocatorNamesCardSaid : Prop := Claim7.holds Tryd.pinned (.plain (OpenSpec.ofChange locatorNamesSpec)) locatorNamesCard

/-- THE TIED CARD OF 'gatepathlaw09.LocatorJoins'. -/
def locatorJoinsCard : Claim7 := { stood := { row := locatorJoinsRow, standIns := [], harness := (true, "e9f6e69844a381ec6e56236ab3ec7f7220a97bda1399cf39ba01fd8d2dee1235"), looks := true }, kinds := [], alts := [], laidByText := true, laidKinds := [.data, .data, .data, .data, .sentinel, .sentinel, .pinned], laidTests := true, laidLooks := .later }
def LocatorJoinsCardSaid : Prop := Claim7.holds Tryd.pinned (.plain (OpenSpec.ofChange locatorJoinsSpec)) locatorJoinsCard

/-- THE SECOND FORM's CARD OF 'gatepathlaw09.LocatorChecks'. -/
def locatorChecksUptoCard : Claim7 := { stood := { row := locatorChecksUptoRow, standIns := [], harness := (true, "e9f6e69844a381ec6e56236ab3ec7f7220a97bda1399cf39ba01fd8d2dee1235"), looks := true }, kinds := [], alts := [], laidByText := true, laidKinds := [.data, .data, .data, .data, .pinned], laidTests := true, laidLooks := .later }
def LocatorChecksUptoCardSaid : Prop := Claim7.holds Tryd.pinned (.plain (OpenSpec.upto locatorChecksSpec)) locatorChecksUptoCard

/-- THE SECOND FORM's CARD OF 'gatepathlaw09.LocatorParses'. -/
def locatorParsesUptoCard : Claim7 := { stood := { row := locatorParsesUptoRow, standIns := [], harness := (true, "e9f6e69844a381ec6e56236ab3ec7f7220a97bda1399cf39ba01fd8d2dee1235"), looks := true }, kinds := [], alts := [], laidByText := true, laidKinds := [.data, .data, .data, .data, .sentinel, .sentinel, .pinned], laidTests := true, laidLooks := .later }
def LocatorParsesUptoCardSaid : Prop := Claim7.holds Tryd.pinned (.plain (OpenSpec.upto locatorParsesSpec)) locatorParsesUptoCard

/-- THE SECOND FORM's CARD OF 'gatepathlaw09.LocatorWithin'. -/
def locatorWithinUptoCard : Claim7 := { stood := { row := locatorWithinUptoRow, standIns := [], harness := (true, "e9f6e69844a381ec6e56236ab3ec7f7220a97bda1399cf39ba01fd8d2dee1235"), looks := true }, kinds := [], alts := [], laidByText := true, laidKinds := [.data, .data, .data, .data, .sentinel, .sentinel, .pinned], laidTests := true, laidLooks := .later }
def LocatorWithinUptoCardSaid : Prop := Claim7.holds Tryd.pinned (.plain (OpenSpec.upto locatorWithinSpec)) locatorWithinUptoCard

/-- THE SECOND FORM's CARD OF 'gatepathlaw09.LocatorBack'. -/
def locatorBackUptoCard : Claim7 := { stood := { row := locatorBackUptoRow, standIns := [], harness := (true, "e9f6e69844a381ec6e56236ab3ec7f7220a97bda1399cf39ba01fd8d2dee1235"), looks := true }, kinds := [], alts := [], laidByText := true, laidKinds := [.data, .data, .data, .data, .sentinel, .sentinel, .pinned], laidTests := true, laidLooks := .later }
def LocatorBackUptoCardSaid : Prop := Claim7.holds Tryd.pinned (.plain (OpenSpec.upto locatorBackSpec)) locatorBackUptoCard

/-- THE SECOND FORM's CARD OF 'gatepathlaw09.LocatorOnce'. -/
def locatorOnceUptoCard : Claim7 := { stood := { row := locatorOnceUptoRow, standIns := [], harness := (true, "e9f6e69844a381ec6e56236ab3ec7f7220a97bda1399cf39ba01fd8d2dee1235"), looks := true }, kinds := [], alts := [], laidByText := true, laidKinds := [.data, .data, .data, .data, .sentinel, .sentinel, .pinned], laidTests := true, laidLooks := .later }
def LocatorOnceUptoCardSaid : Prop := Claim7.holds Tryd.pinned (.plain (OpenSpec.upto locatorOnceSpec)) locatorOnceUptoCard

/-- THE SECOND FORM's CARD OF 'gatepathlaw09.LocatorPaths'. -/
def locatorPathsUptoCard : Claim7 := { stood := { row := locatorPathsUptoRow, standIns := [], harness := (true, "e9f6e69844a381ec6e56236ab3ec7f7220a97bda1399cf39ba01fd8d2dee1235"), looks := true }, kinds := [], alts := [], laidByText := true, laidKinds := [.data, .data, .data, .data, .sentinel, .sentinel, .pinned], laidTests := true, laidLooks := .later }
def LocatorPathsUptoCardSaid : Prop := Claim7.holds Tryd.pinned (.plain (OpenSpec.upto locatorPathsSpec)) locatorPathsUptoCard

/-- THE SECOND FORM's CARD OF 'gatepathlaw09.LocatorNames'. -/
def locatorNamesUptoCard : Claim7 := { stood := { row := locatorNamesUptoRow, standIns := [], harness := (true, "e9f6e69844a381ec6e56236ab3ec7f7220a97bda1399cf39ba01fd8d2dee1235"), looks := true }, kinds := [], alts := [], laidByText := true, laidKinds := [.data, .data, .data, .data, .sentinel, .sentinel, .pinned], laidTests := true, laidLooks := .later }
def LocatorNamesUptoCardSaid : Prop := Claim7.holds Tryd.pinned (.plain (OpenSpec.upto locatorNamesSpec)) locatorNamesUptoCard

/-- THE SECOND FORM's CARD OF 'gatepathlaw09.LocatorJoins'. -/
def locatorJoinsUptoCard : Claim7 := { stood := { row := locatorJoinsUptoRow, standIns := [], harness := (true, "e9f6e69844a381ec6e56236ab3ec7f7220a97bda1399cf39ba01fd8d2dee1235"), looks := true }, kinds := [], alts := [], laidByText := true, laidKinds := [.data, .data, .data, .data, .sentinel, .sentinel, .pinned], laidTests := true, laidLooks := .later }
def LocatorJoinsUptoCardSaid : Prop := Claim7.holds Tryd.pinned (.plain (OpenSpec.upto locatorJoinsSpec)) locatorJoinsUptoCard
end Rows
end Go.Proofs.YtpcancnnbjadeaaDoor
