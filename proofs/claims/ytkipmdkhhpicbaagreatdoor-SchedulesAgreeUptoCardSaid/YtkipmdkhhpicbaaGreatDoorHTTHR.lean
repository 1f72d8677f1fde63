import Derived.Test.YtkipmdkhhpicbaaGreatDoorHEv6
import Derived.Test.YtkipmdkhhpicbaaGreatDoorHTTHp3
set_option maxRecDepth 100000
set_option linter.unusedVariables false
namespace Go.Abs.TTH
open Go.RowKit Go.Proofs Go.Abs
end Go.Abs.TTH
