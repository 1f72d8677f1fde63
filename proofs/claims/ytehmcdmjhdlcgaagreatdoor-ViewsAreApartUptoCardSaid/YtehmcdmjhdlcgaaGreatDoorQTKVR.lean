import Derived.Test.YtehmcdmjhdlcgaaGreatDoorQEv6
import Derived.Test.YtehmcdmjhdlcgaaGreatDoorQTKVp2
set_option maxRecDepth 100000
set_option linter.unusedVariables false
namespace Go.Abs.TKV
open Go.RowKit Go.Proofs Go.Abs
end Go.Abs.TKV
