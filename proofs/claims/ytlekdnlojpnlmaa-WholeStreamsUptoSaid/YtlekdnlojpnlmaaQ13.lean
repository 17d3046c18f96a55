import Derived.Test.YtlekdnlojpnlmaaQ12
namespace Go.Sx
open Go.RowKit
set_option linter.unusedVariables false
set_option linter.unusedSimpArgs false
end Go.Sx

