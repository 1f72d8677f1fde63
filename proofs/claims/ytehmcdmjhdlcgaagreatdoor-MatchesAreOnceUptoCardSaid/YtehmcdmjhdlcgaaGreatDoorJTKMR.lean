import Derived.Test.YtehmcdmjhdlcgaaGreatDoorJEv6
import Derived.Test.YtehmcdmjhdlcgaaGreatDoorJTKMp3
set_option maxRecDepth 100000
set_option linter.unusedVariables false
namespace Go.Abs.TKM
open Go.RowKit Go.Proofs Go.Abs
end Go.Abs.TKM
