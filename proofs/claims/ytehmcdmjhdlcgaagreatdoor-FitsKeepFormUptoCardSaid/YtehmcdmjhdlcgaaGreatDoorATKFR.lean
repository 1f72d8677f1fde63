import Derived.Test.YtehmcdmjhdlcgaaGreatDoorAEv6
import Derived.Test.YtehmcdmjhdlcgaaGreatDoorATKFp3
set_option maxRecDepth 100000
set_option linter.unusedVariables false
namespace Go.Abs.TKF
open Go.RowKit Go.Proofs Go.Abs
end Go.Abs.TKF
