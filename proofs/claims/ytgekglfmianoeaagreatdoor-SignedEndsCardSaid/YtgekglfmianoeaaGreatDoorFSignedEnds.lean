/-
  The row of the law SignedEnds: what its form asks of the program, fact by fact, by the kernel.
-/
import Derived.Test.YtgekglfmianoeaaGreatDoorRows
import Derived.Test.YtgekglfmianoeaaGreatDoorChecked
import Derived.JoinedOf
import Derived.KernelRfl
set_option linter.unusedSimpArgs false
set_option linter.unusedVariables false
namespace Go.Proofs.YtgekglfmianoeaaGreatDoor
open Go
namespace SignedEndsRow
set_option maxRecDepth 100000
theorem fact0 : Rows.signedEndsRow.wf (OpenSpec.ofChange Rows.signedEndsSpec) = true := by kernel_rfl
theorem fact1 : laidOutB Tryz.checked.prog = true := by kernel_rfl
theorem fact2 : mapsRowed Tryz.checked.prog = true := by kernel_rfl
theorem fact3 : Tryz.f7.params.all (Tryz.checked.prog.readableRec ·) = true := by kernel_rfl
theorem fact4 : namedTie Tryz.checked.prog Rows.signedEndsRow.named Rows.signedEndsSpec.vars = true := by kernel_rfl
theorem fact5 : (Rows.signedEndsRow.stops == []) = true := by kernel_rfl
theorem fact6 : (Tryz.checked.prog.stops == []) = true := by kernel_rfl
theorem fact7 : (Rows.signedEndsRow.knobs == []) = true := by kernel_rfl
theorem fact8 : (Tryz.checked.prog.stopKnobs == []) = true := by kernel_rfl
theorem fact9 : (Rows.signedEndsRow.inPlace == Tryz.checked.prog.inPlace 7) = true := by kernel_rfl
theorem fact10 : (Rows.signedEndsRow.unfollowed == Tryz.checked.prog.unfollowed 7) = true := by kernel_rfl
theorem fact11 : (Rows.signedEndsRow.recurses == Tryz.checked.prog.recurses 7) = true := by kernel_rfl
theorem fact12 : (Rows.signedEndsRow.named == Tryz.checked.prog.varsNamed 7) = true := by kernel_rfl
theorem fact13 : (Rows.signedEndsRow.maps == (Tryz.f7.params.toList ++ Rows.signedEndsSpec.plain.varTypes Tryz.checked.prog).any (Tryz.checked.prog.mapsRec ·)) = true := by kernel_rfl
theorem fact14 : (Rows.signedEndsRow.ifaces == (Tryz.f7.params.toList ++ Rows.signedEndsSpec.plain.varTypes Tryz.checked.prog).any (Tryz.checked.prog.ifacesRec ·)) = true := by kernel_rfl
theorem fact15 : (Rows.signedEndsRow.mapsOut == Tryz.checked.prog.mapsAmong Tryz.f7.resultTypes.toList) = true := by kernel_rfl
theorem fact16 : (Rows.signedEndsRow.loops == (Tryz.f7.params.toList ++ Rows.signedEndsSpec.plain.varTypes Tryz.checked.prog).any (Tryz.checked.prog.loopsFrom ·)) = true := by kernel_rfl
theorem fact17 : (Rows.signedEndsRow.wideKeys == (Tryz.f7.params.toList ++ Rows.signedEndsSpec.plain.varTypes Tryz.checked.prog ++ Tryz.f7.resultTypes.toList).any (Tryz.checked.prog.wideKeysFrom ·)) = true := by kernel_rfl
theorem fact18 : Rows.signedEndsSpec.vars.all (Tryz.checked.prog.varReadable ·) = true := by kernel_rfl
theorem fact19 : Tryz.f7.resultTypes.all (fun t => Tryz.checked.prog.readableRec t && decide (t < Tryz.checked.prog.types.size)) = true := by kernel_rfl
theorem fact20 : (Rows.signedEndsRow.ifacesOut == Tryz.f7.resultTypes.toList.any (Tryz.checked.prog.ifacesRec ·)) = true := by kernel_rfl
theorem fact21 : (Rows.signedEndsRow.loopsOut == Tryz.f7.resultTypes.toList.any (Tryz.checked.prog.loopsFrom ·)) = true := by kernel_rfl
theorem fact22 : (Rows.signedEndsRow.plainKeys == Tryz.checked.prog.plainKeys) = true := by kernel_rfl
theorem fact23 : Rows.signedEndsRow.shortTexts.isNone = true := by kernel_rfl
theorem fact24 : Tryz.checked.prog.stopsHeard = true := by kernel_rfl
theorem fact25 : Tryz.checked.prog.mayEnter = true := by kernel_rfl
theorem fact26 : (Rows.signedEndsRow.lifted == Tryz.checked.prog.liftsFinal) = true := by kernel_rfl
theorem fact27 : (Tryz.checked.prog.make == some Rows.signedEndsRow.make) = true := by kernel_rfl
theorem fact28 : (Rows.signedEndsRow.kinds == (if Rows.signedEndsRow.domain.isEmpty then [] else Tryz.f7.params.toList.map fun t => match Tryz.checked.prog.underlying t with | some (.int k) => some k | _ => none)) = true := by kernel_rfl
theorem fact29 : (Rows.signedEndsRow.pinned == Rows.signedEndsRow.pinnedBy) = true := by kernel_rfl
theorem fact30 : (Rows.signedEndsRow.veiled == (Tryz.f7.params.toList ++ Rows.signedEndsSpec.plain.varTypes Tryz.checked.prog ++ Tryz.f7.resultTypes.toList).any (Tryz.checked.prog.veiledRec ·)) = true := by kernel_rfl
theorem fact31 : Rows.signedEndsRow.veiledFits Tryz.checked.prog Tryz.f7.params.toList (Tryz.f7.params.toList ++ Rows.signedEndsSpec.plain.varTypes Tryz.checked.prog ++ Tryz.f7.resultTypes.toList) = true := by kernel_rfl
theorem named : Tryz.checked.prog.funcNamed "gatepath/gatepathlaw12.SignedEnds" = some 7 := by kernel_rfl
end SignedEndsRow
end Go.Proofs.YtgekglfmianoeaaGreatDoor
