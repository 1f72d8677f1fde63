import Derived.Test.YtebjpnnikmkopaaGreatBPlT
import Derived.Test.YtebjpnnikmkopaaGreatBEv8
set_option linter.unusedVariables false
namespace Go.Abs
/-! The first of some that is so; maps whose keys are strings. -/
end Go.Abs
