/-
  DERIVED. GIVEN WITH THE SEED: THE CARDS: each row of YtgekglfmianoeaaGreatDoorRows.lean that lists a variable, with what it lists TIED to the program's text (the seventh form; the later family's looks); each row that meets fmt, with fmt's text TOLD by the authors' own Lean function (tested against real Go, not proved from fmt's source: count such statements apart). THE CARD IS WHAT COUNTS. Prove the row's statement (the work); the ties are given (YtgekglfmianoeaaGreatDoorTie.lean); close each card by the builder's one call (the guide's Derived/Test/ToyasCard.lean, 'card_holds'). Laid BY PROGRAM, IN A SANDBOX (cutbox-door.mjs). By AI agents, Wed Nov 11 2026. No macro, syntax, notation, axiom, sorry.
-/
import Derived.Test.YtgekglfmianoeaaGreatDoorRows
import GoSem.ClaimSeven
namespace Go.Proofs.YtgekglfmianoeaaGreatDoor
namespace Rows

/-- THE TIED CARD OF 'gatepathlaw10.CertCodes'. -/
def certCodesCard : Claim7 := { stood := { row := certCodesRow, standIns := [], harness := (true, "d4afadca03a1e4a55eacbc5e44ff2316567ec8df053eaa03ef0c003ff873d40e"), looks := true }, kinds := [], alts := [], laidByText := true, laidKinds := [.data, .data, .data, .data, .sentinel, .sentinel, .pinned], laidTests := true, laidLooks := .later }
def CertCodesCardSaid : Prop := Claim7.holds Tryz.pinned (.plain (OpenSpec.ofChange certCodesSpec)) certCodesCard

/-- THE TIED CARD OF 'gatepathlaw12.SignedCodes'. -/
def signedCodesCard : Claim7 := { stood := { row := signedCodesRow, standIns := [], harness := (true, "d4afadca03a1e4a55eacbc5e44ff2316567ec8df053eaa03ef0c003ff873d40e"), looks := true }, kinds := [], alts := [], laidByText := true, laidKinds := [.data, .data, .data, .data, .sentinel, .sentinel, .pinned], laidTests := true, laidLooks := .later }
def SignedCodesCardSaid : Prop := Claim7.holds Tryz.pinned (.plain (OpenSpec.ofChange signedCodesSpec)) signedCodesCard

/-- THE TIED CARD OF 'gatepathlaw12.SignedBack'. -/
def signedBackCard : Claim7 := { stood := { row := signedBackRow, standIns := [], harness := (true, "d4afadca03a1e4a55eacbc5e44ff2316567ec8df053eaa03ef0c003ff873d40e"), looks := true }, kinds := [], alts := [], laidByText := true, laidKinds := [.data, .data, .data, .data, .sentinel, .sentinel, .pinned], laidTests := true, laidLooks := .later }
def SignedBackCardSaid : Prop := Claim7.holds Tryz.pinned (.plain (OpenSpec.ofChange signedBackSpec)) signedBackCard

/-- THE TIED CARD OF 'gatepathlaw12.SignedOnce'. -/
def signedOnceCard : Claim7 := { stood := { row := signedOnceRow, standIns := [], harness := (true, "d4afadca03a1e4a55eacbc5e44ff2316567ec8df053eaa03ef0c003ff873d40e"), looks := true }, kinds := [], alts := [], laidByText := true, laidKinds := [.data, .data, .data, .data, .sentinel, .sentinel, .pinned], laidTests := true, laidLooks := .later }
def SignedOnceCardSaid : Prop := Claim7.holds Tryz.pinned (.plain (OpenSpec.ofChange signedOnceSpec)) signedOnceCard

/-- THE TIED CARD OF 'gatepathlaw12.SignedEnds'. -/
def signedEndsCard : Claim7 := { stood := { row := signedEndsRow, standIns := [], harness := (true, "d4afadca03a1e4a55eacbc5e44ff2316567ec8df053eaa03ef0c003ff873d40e"), looks := true }, kinds := [], alts := [], laidByText := true, laidKinds := [.data, .data, .data, .data, .sentinel, .sentinel, .pinned], laidTests := true, laidLooks := .later }
def SignedEndsCardSaid : Prop := Claim7.holds Tryz.pinned (.plain (OpenSpec.ofChange signedEndsSpec)) signedEndsCard

/-- THE SECOND FORM's CARD OF 'gatepathlaw10.CertCodes'. -/
def certCodesUptoCard : Claim7 := { stood := { row := certCodesUptoRow, standIns := [], harness := (true, "d4afadca03a1e4a55eacbc5e44ff2316567ec8df053eaa03ef0c003ff873d40e"), looks := true }, kinds := [], alts := [], laidByText := true, laidKinds := [.data, .data, .data, .data, .sentinel, .sentinel, .pinned], laidTests := true, laidLooks := .later }
def CertCodesUptoCardSaid : Prop := Claim7.holds Tryz.pinned (.plain (OpenSpec.upto certCodesSpec)) certCodesUptoCard

/-- THE SECOND FORM's CARD OF 'gatepathlaw12.SignedCodes'. -/
def signedCodesUptoCard : Claim7 := { stood := { row := signedCodesUptoRow, standIns := [], harness := (true, "d4afadca03a1e4a55eacbc5e44ff2316567ec8df053eaa03ef0c003ff873d40e"), looks := true }, kinds := [], alts := [], laidByText := true, laidKinds := [.data, .data, .data, .data, .sentinel, .sentinel, .pinned], laidTests := true, laidLooks := .later }
def SignedCodesUptoCardSaid : Prop := Claim7.holds Tryz.pinned (.plain (OpenSpec.upto signedCodesSpec)) signedCodesUptoCard

/-- THE SECOND FORM's CARD OF 'gatepathlaw12.SignedBack'. -/
def signedBackUptoCard : Claim7 := { stood := { row := signedBackUptoRow, standIns := [], harness := (true, "d4afadca03a1e4a55eacbc5e44ff2316567ec8df053eaa03ef0c003ff873d40e"), looks := true }, kinds := [], alts := [], laidByText := true, laidKinds := [.data, .data, .data, .data, .sentinel, .sentinel, .pinned], laidTests := true, laidLooks := .later }
def SignedBackUptoCardSaid : Prop := Claim7.holds Tryz.pinned (.plain (OpenSpec.upto signedBackSpec)) signedBackUptoCard

/-- THE SECOND FORM's CARD OF 'gatepathlaw12.SignedOnce'. -/
def signedOnceUptoCard : Claim7 := { stood := { row := signedOnceUptoRow, standIns := [], harness := (true, "d4afadca03a1e4a55eacbc5e44ff2316567ec8df053eaa03ef0c003ff873d40e"), looks := true }, kinds := [], alts := [], laidByText := true, laidKinds := [.data, .data, .data, .data, .sentinel, .sentinel, .pinned], laidTests := true, laidLooks := .later }
def SignedOnceUptoCardSaid : Prop := Claim7.holds Tryz.pinned (.plain (OpenSpec.upto signedOnceSpec)) signedOnceUptoCard

/-- THE SECOND FORM's CARD OF 'gatepathlaw12.SignedEnds'. -/
def signedEndsUptoCard : Claim7 := { stood := { row := signedEndsUptoRow, standIns := [], harness := (true, "d4afadca03a1e4a55eacbc5e44ff2316567ec8df053eaa03ef0c003ff873d40e"), looks := true }, kinds := [], alts := [], laidByText := true, laidKinds := [.data, .data, .data, .data, .sentinel, .sentinel, .pinned], laidTests := true, laidLooks := .later }
def SignedEndsUptoCardSaid : Prop := Claim7.holds Tryz.pinned (.plain (OpenSpec.upto signedEndsSpec)) signedEndsUptoCard
end Rows
end Go.Proofs.YtgekglfmianoeaaGreatDoor
