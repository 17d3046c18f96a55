import Derived.Test.YtapbicobghgmlaaGreatD5
namespace Go.Sx
open Go.RowKit
set_option linter.unusedVariables false
set_option linter.unusedSimpArgs false
/-! ### numbers of the law -/
end Go.Sx

