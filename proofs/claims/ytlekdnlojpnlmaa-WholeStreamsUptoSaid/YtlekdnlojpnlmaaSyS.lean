import Derived.Test.YtlekdnlojpnlmaaSyR
import Derived.MapKept
namespace Go.Sx
open Go.RowKit Go.MapKept
set_option linter.unusedSimpArgs false
set_option linter.unusedVariables false

/-! ### maps whose keys are texts -/
section
variable {P : Program} {n : Nat} {ops : Array Oper} {L : St} {w w0 : World} {F O : Nat → Prop} {hs : List HP} {K : St → World → Prop}
end
end Go.Sx

