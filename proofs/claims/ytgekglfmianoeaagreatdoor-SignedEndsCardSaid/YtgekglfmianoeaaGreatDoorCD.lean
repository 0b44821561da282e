/-
  Certificates compared by the program.
-/
import Derived.Test.YtgekglfmianoeaaGreatDoorCC
import Derived.Test.YtgekglfmianoeaaGreatDoorCB
set_option linter.unusedSimpArgs false
set_option linter.unusedVariables false
set_option maxRecDepth 20000
namespace Go.Proofs.YtgekglfmianoeaaGreatDoor
open Go Go.Gp
end Go.Proofs.YtgekglfmianoeaaGreatDoor
