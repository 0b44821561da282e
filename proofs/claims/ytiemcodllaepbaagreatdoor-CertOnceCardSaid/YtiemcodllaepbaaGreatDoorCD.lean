/-
  Certificates compared by the program.
-/
import Derived.Test.YtiemcodllaepbaaGreatDoorCC
import Derived.Test.YtiemcodllaepbaaGreatDoorCB
set_option linter.unusedSimpArgs false
set_option linter.unusedVariables false
set_option maxRecDepth 20000
namespace Go.Proofs.YtiemcodllaepbaaGreatDoor
open Go Go.Gp
end Go.Proofs.YtiemcodllaepbaaGreatDoor
