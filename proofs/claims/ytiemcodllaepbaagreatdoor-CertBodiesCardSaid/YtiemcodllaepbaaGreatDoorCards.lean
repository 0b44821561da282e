/-
  DERIVED. GIVEN WITH THE SEED: THE CARDS: each row of YtiemcodllaepbaaGreatDoorRows.lean that lists a variable, with what it lists TIED to the program's text (the seventh form; the later family's looks); each row that meets fmt, with fmt's text TOLD by the authors' own Lean function (tested against real Go, not proved from fmt's source: count such statements apart). THE CARD IS WHAT COUNTS. Prove the row's statement (the work); the ties are given (YtiemcodllaepbaaGreatDoorTie.lean); close each card by the builder's one call (the guide's Derived/Test/ToyasCard.lean, 'card_holds'). Laid BY PROGRAM, IN A SANDBOX (cutbox-door.mjs). By AI agents, Wed Nov 11 2026. No macro, syntax, notation, axiom, sorry.
-/
import Derived.Test.YtiemcodllaepbaaGreatDoorRows
import GoSem.ClaimSeven
namespace Go.Proofs.YtiemcodllaepbaaGreatDoor
namespace Rows

/-- THE TIED CARD OF 'gatepathlaw10.CertChecks'. -/
def certChecksCard : Claim7 := { stood := { row := certChecksRow, standIns := [], harness := (true, "95ba3c55458e25aac294120ed609fbdeea234e5ed7ebb65b79a49cbd86323908"), looks := true }, kinds := [], alts := [], laidByText := true, laidKinds := [.data, .data, .data, .data, .sentinel, .sentinel, .pinned], laidTests := true, laidLooks := .later }
def CertChecksCardSaid : Prop := Claim7.holds Tryz.pinned (.plain (OpenSpec.ofChange certChecksSpec)) certChecksCard

/-- THE TIED CARD OF 'gatepathlaw10.CertCodes'. -/
def certCodesCard : Claim7 := { stood := { row := certCodesRow, standIns := [], harness := (true, "95ba3c55458e25aac294120ed609fbdeea234e5ed7ebb65b79a49cbd86323908"), looks := true }, kinds := [], alts := [], laidByText := true, laidKinds := [.data, .data, .data, .data, .sentinel, .sentinel, .pinned], laidTests := true, laidLooks := .later }
def CertCodesCardSaid : Prop := Claim7.holds Tryz.pinned (.plain (OpenSpec.ofChange certCodesSpec)) certCodesCard

/-- THE TIED CARD OF 'gatepathlaw10.CertBack'. -/
def certBackCard : Claim7 := { stood := { row := certBackRow, standIns := [], harness := (true, "95ba3c55458e25aac294120ed609fbdeea234e5ed7ebb65b79a49cbd86323908"), looks := true }, kinds := [], alts := [], laidByText := true, laidKinds := [.data, .data, .data, .data, .sentinel, .sentinel, .pinned], laidTests := true, laidLooks := .later }
def CertBackCardSaid : Prop := Claim7.holds Tryz.pinned (.plain (OpenSpec.ofChange certBackSpec)) certBackCard

/-- THE TIED CARD OF 'gatepathlaw10.CertOnce'. -/
def certOnceCard : Claim7 := { stood := { row := certOnceRow, standIns := [], harness := (true, "95ba3c55458e25aac294120ed609fbdeea234e5ed7ebb65b79a49cbd86323908"), looks := true }, kinds := [], alts := [], laidByText := true, laidKinds := [.data, .data, .data, .data, .sentinel, .sentinel, .pinned], laidTests := true, laidLooks := .later }
def CertOnceCardSaid : Prop := Claim7.holds Tryz.pinned (.plain (OpenSpec.ofChange certOnceSpec)) certOnceCard

/-- THE TIED CARD OF 'gatepathlaw10.CertBodies'. -/
def certBodiesCard : Claim7 := { stood := { row := certBodiesRow, standIns := [], harness := (true, "95ba3c55458e25aac294120ed609fbdeea234e5ed7ebb65b79a49cbd86323908"), looks := true }, kinds := [], alts := [], laidByText := true, laidKinds := [.data, .data, .data, .data, .sentinel, .sentinel, .pinned], laidTests := true, laidLooks := .later }
def CertBodiesCardSaid : Prop := Claim7.holds Tryz.pinned (.plain (OpenSpec.ofChange certBodiesSpec)) certBodiesCard

/-- THE TIED CARD OF 'gatepathlaw10.CertSigns'. -/
def certSignsCard : Claim7 := { stood := { row := certSignsRow, standIns := [], harness := (true, "95ba3c55458e25aac294120ed609fbdeea234e5ed7ebb65b79a49cbd86323908"), looks := true }, kinds := [], alts := [], laidByText := true, laidKinds := [.data, .data, .data, .data, .sentinel, .sentinel, .data, .pinned], laidTests := true, laidLooks := .later }
def CertSignsCardSaid : Prop := Claim7.holds Tryz.pinned (.plain (OpenSpec.ofChange certSignsSpec)) certSignsCard

/-- THE TIED CARD OF 'gatepathlaw10.CertNames'. -/
def certNamesCard : Claim7 := { stood := { row := certNamesRow, standIns := [], harness := (true, "95ba3c55458e25aac294120ed609fbdeea234e5ed7ebb65b79a49cbd86323908"), looks := true }, kinds := [], alts := [], laidByText := true, laidKinds := [.data, .data, .data, .data, .sentinel, .sentinel, .data, .pinned], laidTests := true, laidLooks := .later }
def CertNamesCardSaid : Prop := Claim7.holds Tryz.pinned (.plain (OpenSpec.ofChange certNamesSpec)) certNamesCard

/-- THE TIED CARD OF 'gatepathlaw10.CertVerifies'. -/
def certVerifiesCard : Claim7 := { stood := { row := certVerifiesRow, standIns := [], harness := (true, "95ba3c55458e25aac294120ed609fbdeea234e5ed7ebb65b79a49cbd86323908"), looks := true }, kinds := [], alts := [], laidByText := true, laidKinds := [.data, .data, .data, .data, .sentinel, .sentinel, .data, .pinned], laidTests := true, laidLooks := .later }
def CertVerifiesCardSaid : Prop := Claim7.holds Tryz.pinned (.plain (OpenSpec.ofChange certVerifiesSpec)) certVerifiesCard

/-- THE SECOND FORM's CARD OF 'gatepathlaw10.CertChecks'. -/
def certChecksUptoCard : Claim7 := { stood := { row := certChecksUptoRow, standIns := [], harness := (true, "95ba3c55458e25aac294120ed609fbdeea234e5ed7ebb65b79a49cbd86323908"), looks := true }, kinds := [], alts := [], laidByText := true, laidKinds := [.data, .data, .data, .data, .sentinel, .sentinel, .pinned], laidTests := true, laidLooks := .later }
def CertChecksUptoCardSaid : Prop := Claim7.holds Tryz.pinned (.plain (OpenSpec.upto certChecksSpec)) certChecksUptoCard

/-- THE SECOND FORM's CARD OF 'gatepathlaw10.CertCodes'. -/
def certCodesUptoCard : Claim7 := { stood := { row := certCodesUptoRow, standIns := [], harness := (true, "95ba3c55458e25aac294120ed609fbdeea234e5ed7ebb65b79a49cbd86323908"), looks := true }, kinds := [], alts := [], laidByText := true, laidKinds := [.data, .data, .data, .data, .sentinel, .sentinel, .pinned], laidTests := true, laidLooks := .later }
def CertCodesUptoCardSaid : Prop := Claim7.holds Tryz.pinned (.plain (OpenSpec.upto certCodesSpec)) certCodesUptoCard

/-- THE SECOND FORM's CARD OF 'gatepathlaw10.CertBack'. -/
def certBackUptoCard : Claim7 := { stood := { row := certBackUptoRow, standIns := [], harness := (true, "95ba3c55458e25aac294120ed609fbdeea234e5ed7ebb65b79a49cbd86323908"), looks := true }, kinds := [], alts := [], laidByText := true, laidKinds := [.data, .data, .data, .data, .sentinel, .sentinel, .pinned], laidTests := true, laidLooks := .later }
def CertBackUptoCardSaid : Prop := Claim7.holds Tryz.pinned (.plain (OpenSpec.upto certBackSpec)) certBackUptoCard

/-- THE SECOND FORM's CARD OF 'gatepathlaw10.CertOnce'. -/
def certOnceUptoCard : Claim7 := { stood := { row := certOnceUptoRow, standIns := [], harness := (true, "95ba3c55458e25aac294120ed609fbdeea234e5ed7ebb65b79a49cbd86323908"), looks := true }, kinds := [], alts := [], laidByText := true, laidKinds := [.data, .data, .data, .data, .sentinel, .sentinel, .pinned], laidTests := true, laidLooks := .later }
def CertOnceUptoCardSaid : Prop := Claim7.holds Tryz.pinned (.plain (OpenSpec.upto certOnceSpec)) certOnceUptoCard

/-- THE SECOND FORM's CARD OF 'gatepathlaw10.CertBodies'. -/
def certBodiesUptoCard : Claim7 := { stood := { row := certBodiesUptoRow, standIns := [], harness := (true, "95ba3c55458e25aac294120ed609fbdeea234e5ed7ebb65b79a49cbd86323908"), looks := true }, kinds := [], alts := [], laidByText := true, laidKinds := [.data, .data, .data, .data, .sentinel, .sentinel, .pinned], laidTests := true, laidLooks := .later }
def CertBodiesUptoCardSaid : Prop := Claim7.holds Tryz.pinned (.plain (OpenSpec.upto certBodiesSpec)) certBodiesUptoCard

/-- THE SECOND FORM's CARD OF 'gatepathlaw10.CertSigns'. -/
def certSignsUptoCard : Claim7 := { stood := { row := certSignsUptoRow, standIns := [], harness := (true, "95ba3c55458e25aac294120ed609fbdeea234e5ed7ebb65b79a49cbd86323908"), looks := true }, kinds := [], alts := [], laidByText := true, laidKinds := [.data, .data, .data, .data, .sentinel, .sentinel, .data, .pinned], laidTests := true, laidLooks := .later }
def CertSignsUptoCardSaid : Prop := Claim7.holds Tryz.pinned (.plain (OpenSpec.upto certSignsSpec)) certSignsUptoCard

/-- THE SECOND FORM's CARD OF 'gatepathlaw10.CertNames'. -/
def certNamesUptoCard : Claim7 := { stood := { row := certNamesUptoRow, standIns := [], harness := (true, "95ba3c55458e25aac294120ed609fbdeea234e5ed7ebb65b79a49cbd86323908"), looks := true }, kinds := [], alts := [], laidByText := true, laidKinds := [.data, .data, .data, .data, .sentinel, .sentinel, .data, .pinned], laidTests := true, laidLooks := .later }
def CertNamesUptoCardSaid : Prop := Claim7.holds Tryz.pinned (.plain (OpenSpec.upto certNamesSpec)) certNamesUptoCard

/-- THE SECOND FORM's CARD OF 'gatepathlaw10.CertVerifies'. -/
def certVerifiesUptoCard : Claim7 := { stood := { row := certVerifiesUptoRow, standIns := [], harness := (true, "95ba3c55458e25aac294120ed609fbdeea234e5ed7ebb65b79a49cbd86323908"), looks := true }, kinds := [], alts := [], laidByText := true, laidKinds := [.data, .data, .data, .data, .sentinel, .sentinel, .data, .pinned], laidTests := true, laidLooks := .later }
def CertVerifiesUptoCardSaid : Prop := Claim7.holds Tryz.pinned (.plain (OpenSpec.upto certVerifiesSpec)) certVerifiesUptoCard
end Rows
end Go.Proofs.YtiemcodllaepbaaGreatDoor
