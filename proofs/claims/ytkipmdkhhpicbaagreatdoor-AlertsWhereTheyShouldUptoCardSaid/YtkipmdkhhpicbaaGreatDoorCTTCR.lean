import Derived.Test.YtkipmdkhhpicbaaGreatDoorCEv6
import Derived.Test.YtkipmdkhhpicbaaGreatDoorCTTCp3
set_option maxRecDepth 100000
set_option linter.unusedVariables false
namespace Go.Abs.TTC
open Go.RowKit Go.Proofs Go.Abs
end Go.Abs.TTC
