/-
  The row of the law CertBack: what its form asks of the program, fact by fact, by the kernel.
-/
import Derived.Test.YtiemcodllaepbaaGreatDoorRows
import Derived.Test.YtiemcodllaepbaaGreatDoorChecked
import Derived.JoinedOf
import Derived.KernelRfl
set_option linter.unusedSimpArgs false
set_option linter.unusedVariables false
namespace Go.Proofs.YtiemcodllaepbaaGreatDoor
open Go
namespace CertBackRow
set_option maxRecDepth 100000
theorem fact0 : Rows.certBackRow.wf (OpenSpec.ofChange Rows.certBackSpec) = true := by kernel_rfl
theorem fact1 : laidOutB Tryz.checked.prog = true := by kernel_rfl
theorem fact2 : mapsRowed Tryz.checked.prog = true := by kernel_rfl
theorem fact3 : Tryz.f5.params.all (Tryz.checked.prog.readableRec ·) = true := by kernel_rfl
theorem fact4 : namedTie Tryz.checked.prog Rows.certBackRow.named Rows.certBackSpec.vars = true := by kernel_rfl
theorem fact5 : (Rows.certBackRow.stops == []) = true := by kernel_rfl
theorem fact6 : (Tryz.checked.prog.stops == []) = true := by kernel_rfl
theorem fact7 : (Rows.certBackRow.knobs == []) = true := by kernel_rfl
theorem fact8 : (Tryz.checked.prog.stopKnobs == []) = true := by kernel_rfl
theorem fact9 : (Rows.certBackRow.inPlace == Tryz.checked.prog.inPlace 5) = true := by kernel_rfl
theorem fact10 : (Rows.certBackRow.unfollowed == Tryz.checked.prog.unfollowed 5) = true := by kernel_rfl
theorem fact11 : (Rows.certBackRow.recurses == Tryz.checked.prog.recurses 5) = true := by kernel_rfl
theorem fact12 : (Rows.certBackRow.named == Tryz.checked.prog.varsNamed 5) = true := by kernel_rfl
theorem fact13 : (Rows.certBackRow.maps == (Tryz.f5.params.toList ++ Rows.certBackSpec.plain.varTypes Tryz.checked.prog).any (Tryz.checked.prog.mapsRec ·)) = true := by kernel_rfl
theorem fact14 : (Rows.certBackRow.ifaces == (Tryz.f5.params.toList ++ Rows.certBackSpec.plain.varTypes Tryz.checked.prog).any (Tryz.checked.prog.ifacesRec ·)) = true := by kernel_rfl
theorem fact15 : (Rows.certBackRow.mapsOut == Tryz.checked.prog.mapsAmong Tryz.f5.resultTypes.toList) = true := by kernel_rfl
theorem fact16 : (Rows.certBackRow.loops == (Tryz.f5.params.toList ++ Rows.certBackSpec.plain.varTypes Tryz.checked.prog).any (Tryz.checked.prog.loopsFrom ·)) = true := by kernel_rfl
theorem fact17 : (Rows.certBackRow.wideKeys == (Tryz.f5.params.toList ++ Rows.certBackSpec.plain.varTypes Tryz.checked.prog ++ Tryz.f5.resultTypes.toList).any (Tryz.checked.prog.wideKeysFrom ·)) = true := by kernel_rfl
theorem fact18 : Rows.certBackSpec.vars.all (Tryz.checked.prog.varReadable ·) = true := by kernel_rfl
theorem fact19 : Tryz.f5.resultTypes.all (fun t => Tryz.checked.prog.readableRec t && decide (t < Tryz.checked.prog.types.size)) = true := by kernel_rfl
theorem fact20 : (Rows.certBackRow.ifacesOut == Tryz.f5.resultTypes.toList.any (Tryz.checked.prog.ifacesRec ·)) = true := by kernel_rfl
theorem fact21 : (Rows.certBackRow.loopsOut == Tryz.f5.resultTypes.toList.any (Tryz.checked.prog.loopsFrom ·)) = true := by kernel_rfl
theorem fact22 : (Rows.certBackRow.plainKeys == Tryz.checked.prog.plainKeys) = true := by kernel_rfl
theorem fact23 : Rows.certBackRow.shortTexts.isNone = true := by kernel_rfl
theorem fact24 : Tryz.checked.prog.stopsHeard = true := by kernel_rfl
theorem fact25 : Tryz.checked.prog.mayEnter = true := by kernel_rfl
theorem fact26 : (Rows.certBackRow.lifted == Tryz.checked.prog.liftsFinal) = true := by kernel_rfl
theorem fact27 : (Tryz.checked.prog.make == some Rows.certBackRow.make) = true := by kernel_rfl
theorem fact28 : (Rows.certBackRow.kinds == (if Rows.certBackRow.domain.isEmpty then [] else Tryz.f5.params.toList.map fun t => match Tryz.checked.prog.underlying t with | some (.int k) => some k | _ => none)) = true := by kernel_rfl
theorem fact29 : (Rows.certBackRow.pinned == Rows.certBackRow.pinnedBy) = true := by kernel_rfl
theorem fact30 : (Rows.certBackRow.veiled == (Tryz.f5.params.toList ++ Rows.certBackSpec.plain.varTypes Tryz.checked.prog ++ Tryz.f5.resultTypes.toList).any (Tryz.checked.prog.veiledRec ·)) = true := by kernel_rfl
theorem fact31 : Rows.certBackRow.veiledFits Tryz.checked.prog Tryz.f5.params.toList (Tryz.f5.params.toList ++ Rows.certBackSpec.plain.varTypes Tryz.checked.prog ++ Tryz.f5.resultTypes.toList) = true := by kernel_rfl
theorem named : Tryz.checked.prog.funcNamed "gatepath/gatepathlaw10.CertBack" = some 5 := by kernel_rfl
end CertBackRow
end Go.Proofs.YtiemcodllaepbaaGreatDoor
