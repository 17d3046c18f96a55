import Derived.Test.YthnnpkkmfalgkaaSxP
import Derived.Test.YthnnpkkmfalgkaaN1
namespace Go.Sx
theorem p_l27_DepotNames : m_l27_DepotNames = some true := by
  unfold m_l27_DepotNames m_depot_New
  decide
end Go.Sx
