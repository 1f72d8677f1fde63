import Derived.Test.YtpnddbpcioepnaaGreatDoorDEv6
import Derived.Test.YtpnddbpcioepnaaGreatDoorDTUDp3
set_option maxRecDepth 100000
set_option linter.unusedVariables false
namespace Go.Abs.TUD
open Go.RowKit Go.Proofs Go.Abs
end Go.Abs.TUD
