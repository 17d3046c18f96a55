import Derived.Test.YtlekdnlojpnlmaaSyU
namespace Go.Sx
open Go.RowKit
set_option linter.unusedSimpArgs false
set_option linter.unusedVariables false
variable {γ δ : Type}

/-! ### a law's parameter that is a slice of structs that hold slices -/
section
variable {H : Type} {enc : TypeId × Value → H} {P : Program} {w : World} {held : Bool}
end
end Go.Sx

