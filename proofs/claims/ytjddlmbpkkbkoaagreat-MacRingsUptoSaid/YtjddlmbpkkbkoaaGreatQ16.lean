import Derived.Test.YtjddlmbpkkbkoaaGreatA1
namespace Go.Sx
open Go.RowKit
set_option linter.unusedVariables false
set_option linter.unusedSimpArgs false
set_option maxRecDepth 100000
end Go.Sx

