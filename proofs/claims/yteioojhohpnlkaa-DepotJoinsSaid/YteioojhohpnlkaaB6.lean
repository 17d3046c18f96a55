import Derived.Test.YteioojhohpnlkaaB2
namespace Go.Sx
open Go.RowKit
set_option linter.unusedVariables false
set_option linter.unusedSimpArgs false
/-- also where the bytes are too many -/
theorem p_l27_DepotJoins' (data : List UInt8) (which : UInt8) : m_l27_DepotJoins data which = some true := by
  by_cases hd : data.length ≤ 1048576
  · exact p_l27_DepotJoins data hd which
  · have hc : m_depot_Chunks data = some ([], 2) := by
      unfold m_depot_Chunks
      rw [if_pos (by omega)]
    unfold m_l27_DepotJoins
    rw [dawake_ok, hc]
    simp only [Option.bind_some]
    rw [if_neg (by decide), if_pos (by omega)]
    rfl
end Go.Sx
