import Derived.Test.YtpnddbpcioepnaaGreatDoorEPlS
set_option linter.unusedVariables false
set_option linter.unusedSimpArgs false
namespace Go.Abs
open Go.Sort Go.Proofs
end Go.Abs
