import Derived.Test.YtehmcdmjhdlcgaaGreatDoorGEv6
import Derived.Test.YtehmcdmjhdlcgaaGreatDoorGTKTp3
set_option maxRecDepth 100000
set_option linter.unusedVariables false
namespace Go.Abs.TKT
open Go.RowKit Go.Proofs Go.Abs
end Go.Abs.TKT
