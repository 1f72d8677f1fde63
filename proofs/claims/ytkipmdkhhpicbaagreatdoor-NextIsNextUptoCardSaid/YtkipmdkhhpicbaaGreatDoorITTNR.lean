import Derived.Test.YtkipmdkhhpicbaaGreatDoorIEv6
import Derived.Test.YtkipmdkhhpicbaaGreatDoorITTNp2
set_option maxRecDepth 100000
set_option linter.unusedVariables false
namespace Go.Abs.TTN
open Go.RowKit Go.Proofs Go.Abs
end Go.Abs.TTN
