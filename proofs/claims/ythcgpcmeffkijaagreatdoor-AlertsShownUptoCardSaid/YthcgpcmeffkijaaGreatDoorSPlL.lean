import Derived.Test.YthcgpcmeffkijaaGreatDoorSPlS
set_option linter.unusedVariables false
set_option linter.unusedSimpArgs false
namespace Go.Abs
open Go.Sort Go.Proofs
end Go.Abs
