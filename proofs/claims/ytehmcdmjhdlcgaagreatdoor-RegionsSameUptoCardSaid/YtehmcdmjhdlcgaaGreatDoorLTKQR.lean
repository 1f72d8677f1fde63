import Derived.Test.YtehmcdmjhdlcgaaGreatDoorLEv6
import Derived.Test.YtehmcdmjhdlcgaaGreatDoorLTKQp3
set_option maxRecDepth 100000
set_option linter.unusedVariables false
namespace Go.Abs.TKQ
open Go.RowKit Go.Proofs Go.Abs
end Go.Abs.TKQ
