/-
  The row of the law CertOnce: what its form asks of the program, fact by fact, by the kernel.
-/
import Derived.Test.YtiemcodllaepbaaGreatDoorRows
import Derived.Test.YtiemcodllaepbaaGreatDoorChecked
import Derived.JoinedOf
import Derived.KernelRfl
set_option linter.unusedSimpArgs false
set_option linter.unusedVariables false
namespace Go.Proofs.YtiemcodllaepbaaGreatDoor
open Go
namespace CertOnceRow
set_option maxRecDepth 100000
theorem fact0 : Rows.certOnceRow.wf (OpenSpec.ofChange Rows.certOnceSpec) = true := by kernel_rfl
theorem fact1 : laidOutB Tryz.checked.prog = true := by kernel_rfl
theorem fact2 : mapsRowed Tryz.checked.prog = true := by kernel_rfl
theorem fact3 : Tryz.f6.params.all (Tryz.checked.prog.readableRec ·) = true := by kernel_rfl
theorem fact4 : namedTie Tryz.checked.prog Rows.certOnceRow.named Rows.certOnceSpec.vars = true := by kernel_rfl
theorem fact5 : (Rows.certOnceRow.stops == []) = true := by kernel_rfl
theorem fact6 : (Tryz.checked.prog.stops == []) = true := by kernel_rfl
theorem fact7 : (Rows.certOnceRow.knobs == []) = true := by kernel_rfl
theorem fact8 : (Tryz.checked.prog.stopKnobs == []) = true := by kernel_rfl
theorem fact9 : (Rows.certOnceRow.inPlace == Tryz.checked.prog.inPlace 6) = true := by kernel_rfl
theorem fact10 : (Rows.certOnceRow.unfollowed == Tryz.checked.prog.unfollowed 6) = true := by kernel_rfl
theorem fact11 : (Rows.certOnceRow.recurses == Tryz.checked.prog.recurses 6) = true := by kernel_rfl
theorem fact12 : (Rows.certOnceRow.named == Tryz.checked.prog.varsNamed 6) = true := by kernel_rfl
theorem fact13 : (Rows.certOnceRow.maps == (Tryz.f6.params.toList ++ Rows.certOnceSpec.plain.varTypes Tryz.checked.prog).any (Tryz.checked.prog.mapsRec ·)) = true := by kernel_rfl
theorem fact14 : (Rows.certOnceRow.ifaces == (Tryz.f6.params.toList ++ Rows.certOnceSpec.plain.varTypes Tryz.checked.prog).any (Tryz.checked.prog.ifacesRec ·)) = true := by kernel_rfl
theorem fact15 : (Rows.certOnceRow.mapsOut == Tryz.checked.prog.mapsAmong Tryz.f6.resultTypes.toList) = true := by kernel_rfl
theorem fact16 : (Rows.certOnceRow.loops == (Tryz.f6.params.toList ++ Rows.certOnceSpec.plain.varTypes Tryz.checked.prog).any (Tryz.checked.prog.loopsFrom ·)) = true := by kernel_rfl
theorem fact17 : (Rows.certOnceRow.wideKeys == (Tryz.f6.params.toList ++ Rows.certOnceSpec.plain.varTypes Tryz.checked.prog ++ Tryz.f6.resultTypes.toList).any (Tryz.checked.prog.wideKeysFrom ·)) = true := by kernel_rfl
theorem fact18 : Rows.certOnceSpec.vars.all (Tryz.checked.prog.varReadable ·) = true := by kernel_rfl
theorem fact19 : Tryz.f6.resultTypes.all (fun t => Tryz.checked.prog.readableRec t && decide (t < Tryz.checked.prog.types.size)) = true := by kernel_rfl
theorem fact20 : (Rows.certOnceRow.ifacesOut == Tryz.f6.resultTypes.toList.any (Tryz.checked.prog.ifacesRec ·)) = true := by kernel_rfl
theorem fact21 : (Rows.certOnceRow.loopsOut == Tryz.f6.resultTypes.toList.any (Tryz.checked.prog.loopsFrom ·)) = true := by kernel_rfl
theorem fact22 : (Rows.certOnceRow.plainKeys == Tryz.checked.prog.plainKeys) = true := by kernel_rfl
theorem fact23 : Rows.certOnceRow.shortTexts.isNone = true := by kernel_rfl
theorem fact24 : Tryz.checked.prog.stopsHeard = true := by kernel_rfl
theorem fact25 : Tryz.checked.prog.mayEnter = true := by kernel_rfl
theorem fact26 : (Rows.certOnceRow.lifted == Tryz.checked.prog.liftsFinal) = true := by kernel_rfl
theorem fact27 : (Tryz.checked.prog.make == some Rows.certOnceRow.make) = true := by kernel_rfl
theorem fact28 : (Rows.certOnceRow.kinds == (if Rows.certOnceRow.domain.isEmpty then [] else Tryz.f6.params.toList.map fun t => match Tryz.checked.prog.underlying t with | some (.int k) => some k | _ => none)) = true := by kernel_rfl
theorem fact29 : (Rows.certOnceRow.pinned == Rows.certOnceRow.pinnedBy) = true := by kernel_rfl
theorem fact30 : (Rows.certOnceRow.veiled == (Tryz.f6.params.toList ++ Rows.certOnceSpec.plain.varTypes Tryz.checked.prog ++ Tryz.f6.resultTypes.toList).any (Tryz.checked.prog.veiledRec ·)) = true := by kernel_rfl
theorem fact31 : Rows.certOnceRow.veiledFits Tryz.checked.prog Tryz.f6.params.toList (Tryz.f6.params.toList ++ Rows.certOnceSpec.plain.varTypes Tryz.checked.prog ++ Tryz.f6.resultTypes.toList) = true := by kernel_rfl
theorem named : Tryz.checked.prog.funcNamed "gatepath/gatepathlaw10.CertOnce" = some 6 := by kernel_rfl
end CertOnceRow
end Go.Proofs.YtiemcodllaepbaaGreatDoor
