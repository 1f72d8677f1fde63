import Derived.Test.YtehmcdmjhdlcgaaGreatDoorYEv6
import Derived.Test.YtehmcdmjhdlcgaaGreatDoorYTKYp3
set_option maxRecDepth 100000
set_option linter.unusedVariables false
namespace Go.Abs.TKY
open Go.RowKit Go.Proofs Go.Abs
end Go.Abs.TKY
