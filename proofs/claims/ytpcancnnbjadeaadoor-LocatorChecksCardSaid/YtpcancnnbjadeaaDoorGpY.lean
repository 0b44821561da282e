/-
  What the laws' parameters read as. Printed by a program (opens.py).
-/
import Derived.Test.YtpcancnnbjadeaaDoorGpX
import Derived.Test.YtpcancnnbjadeaaDoorProg
import Derived.KernelRfl
set_option linter.unusedSimpArgs false
set_option linter.unusedVariables false
namespace Go.Proofs.YtpcancnnbjadeaaDoor
open Go Go.Gp
theorem op5 : Opens Tryd.prog 5 (SInt .u8) := opens_int Tryd.underlying5
theorem arg5 : OpensArg Tryd.prog 5 (SInt .u8) := arg_int Tryd.underlying5
theorem op9 : Opens Tryd.prog 9 SStr := opens_str Tryd.underlying9
theorem arg9 : OpensArg Tryd.prog 9 SStr := arg_str Tryd.underlying9
theorem op3 : Opens Tryd.prog 3 (SInt .i64) := opens_int Tryd.underlying3
theorem arg3 : OpensArg Tryd.prog 3 (SInt .i64) := arg_int Tryd.underlying3
theorem op22 : Opens Tryd.prog 22 (SSl 1 SStr) := opens_slice Tryd.underlying22 op9 (by kernel_rfl) (by decide)
theorem arg22 : OpensArg Tryd.prog 22 (SSl 1 SStr) := arg_slice Tryd.underlying22 op9 (by kernel_rfl) (by decide)
theorem op4 : Opens Tryd.prog 4 SBool := opens_bool Tryd.underlying4
theorem arg4 : OpensArg Tryd.prog 4 SBool := arg_bool Tryd.underlying4
theorem op24 : Opens Tryd.prog 24 (SAgg [(SInt .u8), SStr, (SInt .i64), (SSl 1 SStr), SBool]) := opens_struct Tryd.underlying24 (.cons op5 (.cons op9 (.cons op3 (.cons op22 (.cons op4 .nil))))) (by kernel_rfl) (by kernel_rfl)
theorem arg24 : OpensArg Tryd.prog 24 (SAgg [(SInt .u8), SStr, (SInt .i64), (SSl 1 SStr), SBool]) := arg_struct Tryd.underlying24 op24
abbrev S_api_Locator : PV → Prop := (SAgg [(SInt .u8), SStr, (SInt .i64), (SSl 1 SStr), SBool])
end Go.Proofs.YtpcancnnbjadeaaDoor
