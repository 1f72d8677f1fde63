import Derived.Test.YtkipmdkhhpicbaaGreatDoorBEv6
import Derived.Test.YtkipmdkhhpicbaaGreatDoorBTTBp4
set_option maxRecDepth 100000
set_option linter.unusedVariables false
namespace Go.Abs.TTB
open Go.RowKit Go.Proofs Go.Abs
end Go.Abs.TTB
