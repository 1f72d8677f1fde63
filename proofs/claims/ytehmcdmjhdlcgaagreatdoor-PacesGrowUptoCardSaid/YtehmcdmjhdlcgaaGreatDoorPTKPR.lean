import Derived.Test.YtehmcdmjhdlcgaaGreatDoorPEv6
import Derived.Test.YtehmcdmjhdlcgaaGreatDoorPTKPp3
set_option maxRecDepth 100000
set_option linter.unusedVariables false
namespace Go.Abs.TKP
open Go.RowKit Go.Proofs Go.Abs
end Go.Abs.TKP
