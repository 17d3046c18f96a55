import Derived.Test.YteioojhohpnlkaaGreatQ22
namespace Go.Sx
open Go.RowKit
set_option linter.unusedVariables false
set_option linter.unusedSimpArgs false
theorem p_l25_DiceNil (n : UInt64) (k : Int) (_ : -9223372036854775808 ≤ k ∧ k ≤ 9223372036854775807) : m_l25_DiceNil n k = some true := by
  unfold m_l25_DiceNil
  rw [diceawake_ok]
  rfl
end Go.Sx
