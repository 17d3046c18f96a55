import Derived.Test.YtenfdhhjafddlaaDoorSxP
import Derived.Test.YtenfdhhjafddlaaDoorND
namespace Go.Sx
theorem p_l01_WordNames : m_l01_WordNames = some true := by
  unfold m_l01_WordNames m_api_Errno_Error m_strconv_Itoa m_internal_strconv_Itoa m_internal_strconv_FormatInt m_internal_strconv_small
  decide
end Go.Sx
