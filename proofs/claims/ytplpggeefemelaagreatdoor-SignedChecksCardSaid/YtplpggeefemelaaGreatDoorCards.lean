/-
  DERIVED. GIVEN WITH THE SEED: THE CARDS: each row of YtplpggeefemelaaGreatDoorRows.lean that lists a variable, with what it lists TIED to the program's text (the seventh form; the later family's looks); each row that meets fmt, with fmt's text TOLD by the authors' own Lean function (tested against real Go, not proved from fmt's source: count such statements apart). THE CARD IS WHAT COUNTS. Prove the row's statement (the work); the ties are given (YtplpggeefemelaaGreatDoorTie.lean); close each card by the builder's one call (the guide's Derived/Test/ToyasCard.lean, 'card_holds'). Laid BY PROGRAM, IN A SANDBOX (cutbox-door.mjs). By AI agents, Wed Nov 11 2026. No macro, syntax, notation, axiom, sorry.
-/
import Derived.Test.YtplpggeefemelaaGreatDoorRows
import GoSem.ClaimSeven
namespace Go.Proofs.YtplpggeefemelaaGreatDoor
namespace Rows

/-- THE TIED CARD OF 'gatepathlaw12.SignedChecks'. -/
def signedChecksCard : Claim7 := { stood := { row := signedChecksRow, standIns := [], harness := (true, "03188709abaadc919d328f997133a279824c8770ebb16ae8fcdc8a920c2bdaa0"), looks := true }, kinds := [], alts := [], laidByText := true, laidKinds := [.data, .data, .data, .data, .sentinel, .sentinel, .pinned], laidTests := true, laidLooks := .later }
def SignedChecksCardSaid : Prop := Claim7.holds Tryz.pinned (.plain (OpenSpec.ofChange signedChecksSpec)) signedChecksCard

/-- THE TIED CARD OF 'gatepathlaw12.SignedMakes'. -/
def signedMakesCard : Claim7 := { stood := { row := signedMakesRow, standIns := [], harness := (true, "03188709abaadc919d328f997133a279824c8770ebb16ae8fcdc8a920c2bdaa0"), looks := true }, kinds := [], alts := [], laidByText := true, laidKinds := [.data, .data, .data, .data, .sentinel, .sentinel, .data, .pinned], laidTests := true, laidLooks := .later }
def SignedMakesCardSaid : Prop := Claim7.holds Tryz.pinned (.plain (OpenSpec.ofChange signedMakesSpec)) signedMakesCard

/-- THE TIED CARD OF 'gatepathlaw12.SignedCodes'. -/
def signedCodesCard : Claim7 := { stood := { row := signedCodesRow, standIns := [], harness := (true, "03188709abaadc919d328f997133a279824c8770ebb16ae8fcdc8a920c2bdaa0"), looks := true }, kinds := [], alts := [], laidByText := true, laidKinds := [.data, .data, .data, .data, .sentinel, .sentinel, .pinned], laidTests := true, laidLooks := .later }
def SignedCodesCardSaid : Prop := Claim7.holds Tryz.pinned (.plain (OpenSpec.ofChange signedCodesSpec)) signedCodesCard

/-- THE TIED CARD OF 'gatepathlaw12.SignedBack'. -/
def signedBackCard : Claim7 := { stood := { row := signedBackRow, standIns := [], harness := (true, "03188709abaadc919d328f997133a279824c8770ebb16ae8fcdc8a920c2bdaa0"), looks := true }, kinds := [], alts := [], laidByText := true, laidKinds := [.data, .data, .data, .data, .sentinel, .sentinel, .pinned], laidTests := true, laidLooks := .later }
def SignedBackCardSaid : Prop := Claim7.holds Tryz.pinned (.plain (OpenSpec.ofChange signedBackSpec)) signedBackCard

/-- THE TIED CARD OF 'gatepathlaw12.SignedOnce'. -/
def signedOnceCard : Claim7 := { stood := { row := signedOnceRow, standIns := [], harness := (true, "03188709abaadc919d328f997133a279824c8770ebb16ae8fcdc8a920c2bdaa0"), looks := true }, kinds := [], alts := [], laidByText := true, laidKinds := [.data, .data, .data, .data, .sentinel, .sentinel, .pinned], laidTests := true, laidLooks := .later }
def SignedOnceCardSaid : Prop := Claim7.holds Tryz.pinned (.plain (OpenSpec.ofChange signedOnceSpec)) signedOnceCard

/-- THE TIED CARD OF 'gatepathlaw12.SignedEnds'. -/
def signedEndsCard : Claim7 := { stood := { row := signedEndsRow, standIns := [], harness := (true, "03188709abaadc919d328f997133a279824c8770ebb16ae8fcdc8a920c2bdaa0"), looks := true }, kinds := [], alts := [], laidByText := true, laidKinds := [.data, .data, .data, .data, .sentinel, .sentinel, .pinned], laidTests := true, laidLooks := .later }
def SignedEndsCardSaid : Prop := Claim7.holds Tryz.pinned (.plain (OpenSpec.ofChange signedEndsSpec)) signedEndsCard

/-- THE TIED CARD OF 'gatepathlaw12.SignedVerifies'. -/
def signedVerifiesCard : Claim7 := { stood := { row := signedVerifiesRow, standIns := [], harness := (true, "03188709abaadc919d328f997133a279824c8770ebb16ae8fcdc8a920c2bdaa0"), looks := true }, kinds := [], alts := [], laidByText := true, laidKinds := [.data, .data, .data, .data, .sentinel, .sentinel, .data, .pinned], laidTests := true, laidLooks := .later }
def SignedVerifiesCardSaid : Prop := Claim7.holds Tryz.pinned (.plain (OpenSpec.ofChange signedVerifiesSpec)) signedVerifiesCard

/-- THE TIED CARD OF 'gatepathlaw12.SignedNames'. -/
def signedNamesCard : Claim7 := { stood := { row := signedNamesRow, standIns := [], harness := (true, "03188709abaadc919d328f997133a279824c8770ebb16ae8fcdc8a920c2bdaa0"), looks := true }, kinds := [], alts := [], laidByText := true, laidKinds := [.data, .data, .data, .data, .sentinel, .sentinel, .data, .pinned], laidTests := true, laidLooks := .later }
def SignedNamesCardSaid : Prop := Claim7.holds Tryz.pinned (.plain (OpenSpec.ofChange signedNamesSpec)) signedNamesCard

/-- THE SECOND FORM's CARD OF 'gatepathlaw12.SignedChecks'. -/
def signedChecksUptoCard : Claim7 := { stood := { row := signedChecksUptoRow, standIns := [], harness := (true, "03188709abaadc919d328f997133a279824c8770ebb16ae8fcdc8a920c2bdaa0"), looks := true }, kinds := [], alts := [], laidByText := true, laidKinds := [.data, .data, .data, .data, .sentinel, .sentinel, .pinned], laidTests := true, laidLooks := .later }
def SignedChecksUptoCardSaid : Prop := Claim7.holds Tryz.pinned (.plain (OpenSpec.upto signedChecksSpec)) signedChecksUptoCard

/-- THE SECOND FORM's CARD OF 'gatepathlaw12.SignedMakes'. -/
def signedMakesUptoCard : Claim7 := { stood := { row := signedMakesUptoRow, standIns := [], harness := (true, "03188709abaadc919d328f997133a279824c8770ebb16ae8fcdc8a920c2bdaa0"), looks := true }, kinds := [], alts := [], laidByText := true, laidKinds := [.data, .data, .data, .data, .sentinel, .sentinel, .data, .pinned], laidTests := true, laidLooks := .later }
def SignedMakesUptoCardSaid : Prop := Claim7.holds Tryz.pinned (.plain (OpenSpec.upto signedMakesSpec)) signedMakesUptoCard

/-- THE SECOND FORM's CARD OF 'gatepathlaw12.SignedCodes'. -/
def signedCodesUptoCard : Claim7 := { stood := { row := signedCodesUptoRow, standIns := [], harness := (true, "03188709abaadc919d328f997133a279824c8770ebb16ae8fcdc8a920c2bdaa0"), looks := true }, kinds := [], alts := [], laidByText := true, laidKinds := [.data, .data, .data, .data, .sentinel, .sentinel, .pinned], laidTests := true, laidLooks := .later }
def SignedCodesUptoCardSaid : Prop := Claim7.holds Tryz.pinned (.plain (OpenSpec.upto signedCodesSpec)) signedCodesUptoCard

/-- THE SECOND FORM's CARD OF 'gatepathlaw12.SignedBack'. -/
def signedBackUptoCard : Claim7 := { stood := { row := signedBackUptoRow, standIns := [], harness := (true, "03188709abaadc919d328f997133a279824c8770ebb16ae8fcdc8a920c2bdaa0"), looks := true }, kinds := [], alts := [], laidByText := true, laidKinds := [.data, .data, .data, .data, .sentinel, .sentinel, .pinned], laidTests := true, laidLooks := .later }
def SignedBackUptoCardSaid : Prop := Claim7.holds Tryz.pinned (.plain (OpenSpec.upto signedBackSpec)) signedBackUptoCard

/-- THE SECOND FORM's CARD OF 'gatepathlaw12.SignedOnce'. -/
def signedOnceUptoCard : Claim7 := { stood := { row := signedOnceUptoRow, standIns := [], harness := (true, "03188709abaadc919d328f997133a279824c8770ebb16ae8fcdc8a920c2bdaa0"), looks := true }, kinds := [], alts := [], laidByText := true, laidKinds := [.data, .data, .data, .data, .sentinel, .sentinel, .pinned], laidTests := true, laidLooks := .later }
def SignedOnceUptoCardSaid : Prop := Claim7.holds Tryz.pinned (.plain (OpenSpec.upto signedOnceSpec)) signedOnceUptoCard

/-- THE SECOND FORM's CARD OF 'gatepathlaw12.SignedEnds'. -/
def signedEndsUptoCard : Claim7 := { stood := { row := signedEndsUptoRow, standIns := [], harness := (true, "03188709abaadc919d328f997133a279824c8770ebb16ae8fcdc8a920c2bdaa0"), looks := true }, kinds := [], alts := [], laidByText := true, laidKinds := [.data, .data, .data, .data, .sentinel, .sentinel, .pinned], laidTests := true, laidLooks := .later }
def SignedEndsUptoCardSaid : Prop := Claim7.holds Tryz.pinned (.plain (OpenSpec.upto signedEndsSpec)) signedEndsUptoCard

/-- THE SECOND FORM's CARD OF 'gatepathlaw12.SignedVerifies'. -/
def signedVerifiesUptoCard : Claim7 := { stood := { row := signedVerifiesUptoRow, standIns := [], harness := (true, "03188709abaadc919d328f997133a279824c8770ebb16ae8fcdc8a920c2bdaa0"), looks := true }, kinds := [], alts := [], laidByText := true, laidKinds := [.data, .data, .data, .data, .sentinel, .sentinel, .data, .pinned], laidTests := true, laidLooks := .later }
def SignedVerifiesUptoCardSaid : Prop := Claim7.holds Tryz.pinned (.plain (OpenSpec.upto signedVerifiesSpec)) signedVerifiesUptoCard

/-- THE SECOND FORM's CARD OF 'gatepathlaw12.SignedNames'. -/
def signedNamesUptoCard : Claim7 := { stood := { row := signedNamesUptoRow, standIns := [], harness := (true, "03188709abaadc919d328f997133a279824c8770ebb16ae8fcdc8a920c2bdaa0"), looks := true }, kinds := [], alts := [], laidByText := true, laidKinds := [.data, .data, .data, .data, .sentinel, .sentinel, .data, .pinned], laidTests := true, laidLooks := .later }
def SignedNamesUptoCardSaid : Prop := Claim7.holds Tryz.pinned (.plain (OpenSpec.upto signedNamesSpec)) signedNamesUptoCard
end Rows
end Go.Proofs.YtplpggeefemelaaGreatDoor
