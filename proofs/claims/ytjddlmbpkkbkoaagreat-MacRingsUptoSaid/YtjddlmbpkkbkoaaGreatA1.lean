import Derived.Test.YtjddlmbpkkbkoaaGreatQ15
namespace Go.Sx
open Go.RowKit
set_option maxRecDepth 100000
set_option linter.unusedVariables false
end Go.Sx

