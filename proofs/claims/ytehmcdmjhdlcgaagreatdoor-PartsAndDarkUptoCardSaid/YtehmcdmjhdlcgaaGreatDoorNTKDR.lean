import Derived.Test.YtehmcdmjhdlcgaaGreatDoorNEv6
import Derived.Test.YtehmcdmjhdlcgaaGreatDoorNTKDp3
set_option maxRecDepth 100000
set_option linter.unusedVariables false
namespace Go.Abs.TKD
open Go.RowKit Go.Proofs Go.Abs
end Go.Abs.TKD
