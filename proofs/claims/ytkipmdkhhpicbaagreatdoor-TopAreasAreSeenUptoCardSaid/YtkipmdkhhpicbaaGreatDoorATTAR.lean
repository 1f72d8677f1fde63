import Derived.Test.YtkipmdkhhpicbaaGreatDoorAEv6
import Derived.Test.YtkipmdkhhpicbaaGreatDoorATTAp2
set_option maxRecDepth 100000
set_option linter.unusedVariables false
namespace Go.Abs.TTA
open Go.RowKit Go.Proofs Go.Abs
end Go.Abs.TTA
