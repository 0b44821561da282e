/-
  The row of the law SignedBack: what its form asks of the program, fact by fact, by the kernel.
-/
import Derived.Test.YtgekglfmianoeaaGreatDoorRows
import Derived.Test.YtgekglfmianoeaaGreatDoorChecked
import Derived.JoinedOf
import Derived.KernelRfl
set_option linter.unusedSimpArgs false
set_option linter.unusedVariables false
namespace Go.Proofs.YtgekglfmianoeaaGreatDoor
open Go
namespace SignedBackRow
set_option maxRecDepth 100000
theorem fact0 : Rows.signedBackRow.wf (OpenSpec.ofChange Rows.signedBackSpec) = true := by kernel_rfl
theorem fact1 : laidOutB Tryz.checked.prog = true := by kernel_rfl
theorem fact2 : mapsRowed Tryz.checked.prog = true := by kernel_rfl
theorem fact3 : Tryz.f5.params.all (Tryz.checked.prog.readableRec ·) = true := by kernel_rfl
theorem fact4 : namedTie Tryz.checked.prog Rows.signedBackRow.named Rows.signedBackSpec.vars = true := by kernel_rfl
theorem fact5 : (Rows.signedBackRow.stops == []) = true := by kernel_rfl
theorem fact6 : (Tryz.checked.prog.stops == []) = true := by kernel_rfl
theorem fact7 : (Rows.signedBackRow.knobs == []) = true := by kernel_rfl
theorem fact8 : (Tryz.checked.prog.stopKnobs == []) = true := by kernel_rfl
theorem fact9 : (Rows.signedBackRow.inPlace == Tryz.checked.prog.inPlace 5) = true := by kernel_rfl
theorem fact10 : (Rows.signedBackRow.unfollowed == Tryz.checked.prog.unfollowed 5) = true := by kernel_rfl
theorem fact11 : (Rows.signedBackRow.recurses == Tryz.checked.prog.recurses 5) = true := by kernel_rfl
theorem fact12 : (Rows.signedBackRow.named == Tryz.checked.prog.varsNamed 5) = true := by kernel_rfl
theorem fact13 : (Rows.signedBackRow.maps == (Tryz.f5.params.toList ++ Rows.signedBackSpec.plain.varTypes Tryz.checked.prog).any (Tryz.checked.prog.mapsRec ·)) = true := by kernel_rfl
theorem fact14 : (Rows.signedBackRow.ifaces == (Tryz.f5.params.toList ++ Rows.signedBackSpec.plain.varTypes Tryz.checked.prog).any (Tryz.checked.prog.ifacesRec ·)) = true := by kernel_rfl
theorem fact15 : (Rows.signedBackRow.mapsOut == Tryz.checked.prog.mapsAmong Tryz.f5.resultTypes.toList) = true := by kernel_rfl
theorem fact16 : (Rows.signedBackRow.loops == (Tryz.f5.params.toList ++ Rows.signedBackSpec.plain.varTypes Tryz.checked.prog).any (Tryz.checked.prog.loopsFrom ·)) = true := by kernel_rfl
theorem fact17 : (Rows.signedBackRow.wideKeys == (Tryz.f5.params.toList ++ Rows.signedBackSpec.plain.varTypes Tryz.checked.prog ++ Tryz.f5.resultTypes.toList).any (Tryz.checked.prog.wideKeysFrom ·)) = true := by kernel_rfl
theorem fact18 : Rows.signedBackSpec.vars.all (Tryz.checked.prog.varReadable ·) = true := by kernel_rfl
theorem fact19 : Tryz.f5.resultTypes.all (fun t => Tryz.checked.prog.readableRec t && decide (t < Tryz.checked.prog.types.size)) = true := by kernel_rfl
theorem fact20 : (Rows.signedBackRow.ifacesOut == Tryz.f5.resultTypes.toList.any (Tryz.checked.prog.ifacesRec ·)) = true := by kernel_rfl
theorem fact21 : (Rows.signedBackRow.loopsOut == Tryz.f5.resultTypes.toList.any (Tryz.checked.prog.loopsFrom ·)) = true := by kernel_rfl
theorem fact22 : (Rows.signedBackRow.plainKeys == Tryz.checked.prog.plainKeys) = true := by kernel_rfl
theorem fact23 : Rows.signedBackRow.shortTexts.isNone = true := by kernel_rfl
theorem fact24 : Tryz.checked.prog.stopsHeard = true := by kernel_rfl
theorem fact25 : Tryz.checked.prog.mayEnter = true := by kernel_rfl
theorem fact26 : (Rows.signedBackRow.lifted == Tryz.checked.prog.liftsFinal) = true := by kernel_rfl
theorem fact27 : (Tryz.checked.prog.make == some Rows.signedBackRow.make) = true := by kernel_rfl
theorem fact28 : (Rows.signedBackRow.kinds == (if Rows.signedBackRow.domain.isEmpty then [] else Tryz.f5.params.toList.map fun t => match Tryz.checked.prog.underlying t with | some (.int k) => some k | _ => none)) = true := by kernel_rfl
theorem fact29 : (Rows.signedBackRow.pinned == Rows.signedBackRow.pinnedBy) = true := by kernel_rfl
theorem fact30 : (Rows.signedBackRow.veiled == (Tryz.f5.params.toList ++ Rows.signedBackSpec.plain.varTypes Tryz.checked.prog ++ Tryz.f5.resultTypes.toList).any (Tryz.checked.prog.veiledRec ·)) = true := by kernel_rfl
theorem fact31 : Rows.signedBackRow.veiledFits Tryz.checked.prog Tryz.f5.params.toList (Tryz.f5.params.toList ++ Rows.signedBackSpec.plain.varTypes Tryz.checked.prog ++ Tryz.f5.resultTypes.toList) = true := by kernel_rfl
theorem named : Tryz.checked.prog.funcNamed "gatepath/gatepathlaw12.SignedBack" = some 5 := by kernel_rfl
end SignedBackRow
end Go.Proofs.YtgekglfmianoeaaGreatDoor
