import Derived.Test.YtpnddbpcioepnaaGreatDoorEPlS
set_option linter.unusedVariables false
set_option linter.unusedSimpArgs false
namespace Go.Abs
/-! Two sorted lists of the same things are the same. -/
end Go.Abs
