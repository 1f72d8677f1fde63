import Derived.Test.YtehmcdmjhdlcgaaGreatDoorBEv6
import Derived.Test.YtehmcdmjhdlcgaaGreatDoorBTKCp3
set_option maxRecDepth 100000
set_option linter.unusedVariables false
namespace Go.Abs.TKC
open Go.RowKit Go.Proofs Go.Abs
end Go.Abs.TKC
