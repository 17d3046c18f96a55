import Derived.Test.YteioojhohpnlkaaGreatB1
namespace Go.Sx
open Go.RowKit
set_option linter.unusedVariables false
set_option linter.unusedSimpArgs false
theorem p_l27_DepotNil (snap name digest : List UInt8) : m_l27_DepotNil snap name digest = some true := by
  unfold m_l27_DepotNil
  rw [dawake_ok]
  rfl
end Go.Sx
