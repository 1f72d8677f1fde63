import Derived.Test.YtkipmdkhhpicbaaGreatDoorGEv6
import Derived.Test.YtkipmdkhhpicbaaGreatDoorGTTGp2
set_option maxRecDepth 100000
set_option linter.unusedVariables false
namespace Go.Abs.TTG
open Go.RowKit Go.Proofs Go.Abs
end Go.Abs.TTG
