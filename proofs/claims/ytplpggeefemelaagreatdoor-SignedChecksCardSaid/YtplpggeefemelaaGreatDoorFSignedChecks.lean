/-
  The row of the law SignedChecks: what its form asks of the program, fact by fact, by the kernel.
-/
import Derived.Test.YtplpggeefemelaaGreatDoorRows
import Derived.Test.YtplpggeefemelaaGreatDoorChecked
import Derived.JoinedOf
import Derived.KernelRfl
set_option linter.unusedSimpArgs false
set_option linter.unusedVariables false
namespace Go.Proofs.YtplpggeefemelaaGreatDoor
open Go
namespace SignedChecksRow
set_option maxRecDepth 100000
theorem fact0 : Rows.signedChecksRow.wf (OpenSpec.ofChange Rows.signedChecksSpec) = true := by kernel_rfl
theorem fact1 : laidOutB Tryz.checked.prog = true := by kernel_rfl
theorem fact2 : mapsRowed Tryz.checked.prog = true := by kernel_rfl
theorem fact3 : Tryz.f3.params.all (Tryz.checked.prog.readableRec ·) = true := by kernel_rfl
theorem fact4 : namedTie Tryz.checked.prog Rows.signedChecksRow.named Rows.signedChecksSpec.vars = true := by kernel_rfl
theorem fact5 : (Rows.signedChecksRow.stops == []) = true := by kernel_rfl
theorem fact6 : (Tryz.checked.prog.stops == []) = true := by kernel_rfl
theorem fact7 : (Rows.signedChecksRow.knobs == []) = true := by kernel_rfl
theorem fact8 : (Tryz.checked.prog.stopKnobs == []) = true := by kernel_rfl
theorem fact9 : (Rows.signedChecksRow.inPlace == Tryz.checked.prog.inPlace 3) = true := by kernel_rfl
theorem fact10 : (Rows.signedChecksRow.unfollowed == Tryz.checked.prog.unfollowed 3) = true := by kernel_rfl
theorem fact11 : (Rows.signedChecksRow.recurses == Tryz.checked.prog.recurses 3) = true := by kernel_rfl
theorem fact12 : (Rows.signedChecksRow.named == Tryz.checked.prog.varsNamed 3) = true := by kernel_rfl
theorem fact13 : (Rows.signedChecksRow.maps == (Tryz.f3.params.toList ++ Rows.signedChecksSpec.plain.varTypes Tryz.checked.prog).any (Tryz.checked.prog.mapsRec ·)) = true := by kernel_rfl
theorem fact14 : (Rows.signedChecksRow.ifaces == (Tryz.f3.params.toList ++ Rows.signedChecksSpec.plain.varTypes Tryz.checked.prog).any (Tryz.checked.prog.ifacesRec ·)) = true := by kernel_rfl
theorem fact15 : (Rows.signedChecksRow.mapsOut == Tryz.checked.prog.mapsAmong Tryz.f3.resultTypes.toList) = true := by kernel_rfl
theorem fact16 : (Rows.signedChecksRow.loops == (Tryz.f3.params.toList ++ Rows.signedChecksSpec.plain.varTypes Tryz.checked.prog).any (Tryz.checked.prog.loopsFrom ·)) = true := by kernel_rfl
theorem fact17 : (Rows.signedChecksRow.wideKeys == (Tryz.f3.params.toList ++ Rows.signedChecksSpec.plain.varTypes Tryz.checked.prog ++ Tryz.f3.resultTypes.toList).any (Tryz.checked.prog.wideKeysFrom ·)) = true := by kernel_rfl
theorem fact18 : Rows.signedChecksSpec.vars.all (Tryz.checked.prog.varReadable ·) = true := by kernel_rfl
theorem fact19 : Tryz.f3.resultTypes.all (fun t => Tryz.checked.prog.readableRec t && decide (t < Tryz.checked.prog.types.size)) = true := by kernel_rfl
theorem fact20 : (Rows.signedChecksRow.ifacesOut == Tryz.f3.resultTypes.toList.any (Tryz.checked.prog.ifacesRec ·)) = true := by kernel_rfl
theorem fact21 : (Rows.signedChecksRow.loopsOut == Tryz.f3.resultTypes.toList.any (Tryz.checked.prog.loopsFrom ·)) = true := by kernel_rfl
theorem fact22 : (Rows.signedChecksRow.plainKeys == Tryz.checked.prog.plainKeys) = true := by kernel_rfl
theorem fact23 : Rows.signedChecksRow.shortTexts.isNone = true := by kernel_rfl
theorem fact24 : Tryz.checked.prog.stopsHeard = true := by kernel_rfl
theorem fact25 : Tryz.checked.prog.mayEnter = true := by kernel_rfl
theorem fact26 : (Rows.signedChecksRow.lifted == Tryz.checked.prog.liftsFinal) = true := by kernel_rfl
theorem fact27 : (Tryz.checked.prog.make == some Rows.signedChecksRow.make) = true := by kernel_rfl
theorem fact28 : (Rows.signedChecksRow.kinds == (if Rows.signedChecksRow.domain.isEmpty then [] else Tryz.f3.params.toList.map fun t => match Tryz.checked.prog.underlying t with | some (.int k) => some k | _ => none)) = true := by kernel_rfl
theorem fact29 : (Rows.signedChecksRow.pinned == Rows.signedChecksRow.pinnedBy) = true := by kernel_rfl
theorem fact30 : (Rows.signedChecksRow.veiled == (Tryz.f3.params.toList ++ Rows.signedChecksSpec.plain.varTypes Tryz.checked.prog ++ Tryz.f3.resultTypes.toList).any (Tryz.checked.prog.veiledRec ·)) = true := by kernel_rfl
theorem fact31 : Rows.signedChecksRow.veiledFits Tryz.checked.prog Tryz.f3.params.toList (Tryz.f3.params.toList ++ Rows.signedChecksSpec.plain.varTypes Tryz.checked.prog ++ Tryz.f3.resultTypes.toList) = true := by kernel_rfl
theorem named : Tryz.checked.prog.funcNamed "gatepath/gatepathlaw12.SignedChecks" = some 3 := by kernel_rfl
end SignedChecksRow
end Go.Proofs.YtplpggeefemelaaGreatDoor
