import Derived.Test.YtmknbdnofogmdaaSyP
import Derived.Test.YtmknbdnofogmdaaMM
namespace Go.Sx
open Go.RowKit
set_option linter.unusedVariables false
theorem p_l06_MacZero (w : Int) (_ : -9223372036854775808 ≤ w ∧ w ≤ 9223372036854775807) (name : List UInt8) (key : List UInt8) (data : List UInt8) : m_l06_MacZero w name key data = some true := by
  unfold m_l06_MacZero m_mac_Ring_Tag m_mac_Ring_Tag_s1 m_mac_Ring_Who m_mac_Ring_Who_s1 m_mac_Ring_Add m_mac_Ring_Add_s1 m_mac_Ring_Drop m_mac_Ring_Drop_s1 m_mac_Ring_Names m_mac_Ring_Names_s1 m_mac_Ring_none m_mac_Ring_none_s1
  simp
end Go.Sx
