/-
  The row of the law SignedOnce: what its form asks of the program, fact by fact, by the kernel.
-/
import Derived.Test.YtgekglfmianoeaaGreatDoorRows
import Derived.Test.YtgekglfmianoeaaGreatDoorChecked
import Derived.JoinedOf
import Derived.KernelRfl
set_option linter.unusedSimpArgs false
set_option linter.unusedVariables false
namespace Go.Proofs.YtgekglfmianoeaaGreatDoor
open Go
namespace SignedOnceRow
set_option maxRecDepth 100000
theorem fact0 : Rows.signedOnceRow.wf (OpenSpec.ofChange Rows.signedOnceSpec) = true := by kernel_rfl
theorem fact1 : laidOutB Tryz.checked.prog = true := by kernel_rfl
theorem fact2 : mapsRowed Tryz.checked.prog = true := by kernel_rfl
theorem fact3 : Tryz.f6.params.all (Tryz.checked.prog.readableRec ·) = true := by kernel_rfl
theorem fact4 : namedTie Tryz.checked.prog Rows.signedOnceRow.named Rows.signedOnceSpec.vars = true := by kernel_rfl
theorem fact5 : (Rows.signedOnceRow.stops == []) = true := by kernel_rfl
theorem fact6 : (Tryz.checked.prog.stops == []) = true := by kernel_rfl
theorem fact7 : (Rows.signedOnceRow.knobs == []) = true := by kernel_rfl
theorem fact8 : (Tryz.checked.prog.stopKnobs == []) = true := by kernel_rfl
theorem fact9 : (Rows.signedOnceRow.inPlace == Tryz.checked.prog.inPlace 6) = true := by kernel_rfl
theorem fact10 : (Rows.signedOnceRow.unfollowed == Tryz.checked.prog.unfollowed 6) = true := by kernel_rfl
theorem fact11 : (Rows.signedOnceRow.recurses == Tryz.checked.prog.recurses 6) = true := by kernel_rfl
theorem fact12 : (Rows.signedOnceRow.named == Tryz.checked.prog.varsNamed 6) = true := by kernel_rfl
theorem fact13 : (Rows.signedOnceRow.maps == (Tryz.f6.params.toList ++ Rows.signedOnceSpec.plain.varTypes Tryz.checked.prog).any (Tryz.checked.prog.mapsRec ·)) = true := by kernel_rfl
theorem fact14 : (Rows.signedOnceRow.ifaces == (Tryz.f6.params.toList ++ Rows.signedOnceSpec.plain.varTypes Tryz.checked.prog).any (Tryz.checked.prog.ifacesRec ·)) = true := by kernel_rfl
theorem fact15 : (Rows.signedOnceRow.mapsOut == Tryz.checked.prog.mapsAmong Tryz.f6.resultTypes.toList) = true := by kernel_rfl
theorem fact16 : (Rows.signedOnceRow.loops == (Tryz.f6.params.toList ++ Rows.signedOnceSpec.plain.varTypes Tryz.checked.prog).any (Tryz.checked.prog.loopsFrom ·)) = true := by kernel_rfl
theorem fact17 : (Rows.signedOnceRow.wideKeys == (Tryz.f6.params.toList ++ Rows.signedOnceSpec.plain.varTypes Tryz.checked.prog ++ Tryz.f6.resultTypes.toList).any (Tryz.checked.prog.wideKeysFrom ·)) = true := by kernel_rfl
theorem fact18 : Rows.signedOnceSpec.vars.all (Tryz.checked.prog.varReadable ·) = true := by kernel_rfl
theorem fact19 : Tryz.f6.resultTypes.all (fun t => Tryz.checked.prog.readableRec t && decide (t < Tryz.checked.prog.types.size)) = true := by kernel_rfl
theorem fact20 : (Rows.signedOnceRow.ifacesOut == Tryz.f6.resultTypes.toList.any (Tryz.checked.prog.ifacesRec ·)) = true := by kernel_rfl
theorem fact21 : (Rows.signedOnceRow.loopsOut == Tryz.f6.resultTypes.toList.any (Tryz.checked.prog.loopsFrom ·)) = true := by kernel_rfl
theorem fact22 : (Rows.signedOnceRow.plainKeys == Tryz.checked.prog.plainKeys) = true := by kernel_rfl
theorem fact23 : Rows.signedOnceRow.shortTexts.isNone = true := by kernel_rfl
theorem fact24 : Tryz.checked.prog.stopsHeard = true := by kernel_rfl
theorem fact25 : Tryz.checked.prog.mayEnter = true := by kernel_rfl
theorem fact26 : (Rows.signedOnceRow.lifted == Tryz.checked.prog.liftsFinal) = true := by kernel_rfl
theorem fact27 : (Tryz.checked.prog.make == some Rows.signedOnceRow.make) = true := by kernel_rfl
theorem fact28 : (Rows.signedOnceRow.kinds == (if Rows.signedOnceRow.domain.isEmpty then [] else Tryz.f6.params.toList.map fun t => match Tryz.checked.prog.underlying t with | some (.int k) => some k | _ => none)) = true := by kernel_rfl
theorem fact29 : (Rows.signedOnceRow.pinned == Rows.signedOnceRow.pinnedBy) = true := by kernel_rfl
theorem fact30 : (Rows.signedOnceRow.veiled == (Tryz.f6.params.toList ++ Rows.signedOnceSpec.plain.varTypes Tryz.checked.prog ++ Tryz.f6.resultTypes.toList).any (Tryz.checked.prog.veiledRec ·)) = true := by kernel_rfl
theorem fact31 : Rows.signedOnceRow.veiledFits Tryz.checked.prog Tryz.f6.params.toList (Tryz.f6.params.toList ++ Rows.signedOnceSpec.plain.varTypes Tryz.checked.prog ++ Tryz.f6.resultTypes.toList) = true := by kernel_rfl
theorem named : Tryz.checked.prog.funcNamed "gatepath/gatepathlaw12.SignedOnce" = some 6 := by kernel_rfl
end SignedOnceRow
end Go.Proofs.YtgekglfmianoeaaGreatDoor
