import Derived.Test.YtehmcdmjhdlcgaaGreatDoorHEv6
import Derived.Test.YtehmcdmjhdlcgaaGreatDoorHTKIp3
set_option maxRecDepth 100000
set_option linter.unusedVariables false
namespace Go.Abs.TKI
open Go.RowKit Go.Proofs Go.Abs
end Go.Abs.TKI
