import Derived.Test.YtehmcdmjhdlcgaaGreatDoorKEv6
import Derived.Test.YtehmcdmjhdlcgaaGreatDoorKTKSp3
set_option maxRecDepth 100000
set_option linter.unusedVariables false
namespace Go.Abs.TKS
open Go.RowKit Go.Proofs Go.Abs
end Go.Abs.TKS
