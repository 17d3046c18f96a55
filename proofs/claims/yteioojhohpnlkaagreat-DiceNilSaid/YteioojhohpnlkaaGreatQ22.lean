import Derived.Test.YteioojhohpnlkaaGreatQ13
namespace Go.Sx
open Go.RowKit
set_option linter.unusedVariables false
set_option linter.unusedSimpArgs false
set_option maxRecDepth 100000
theorem xnew_ok : ∃ x, m_xof_New 1 (-1) [] [] [] = some (Sum.inr (Sum.inr (Sum.inl x))) := by
  have hc : m_r02_Check 1 64 0 1 1 0 0 4294967295 0 0 [] [] = some 0 := by kernel_rfl
  have hs : m_xof_shaped 1 (-1) = some (1, 64, 4294967295, 274877906944, false, true) := by kernel_rfl
  have hv : m_xof_valid 1 (-1) [] [] [] = some (1, 64, 4294967295, 274877906944, false, 0) := by
    unfold m_xof_valid
    rw [hs]
    simp only [Option.bind_some]
    rw [if_neg (by decide), if_neg (by decide)]
    unfold m_xof_shape_pars
    simp only [Option.bind_some]
    rw [check_ok]
    show (m_r02_Check 1 64 0 1 1 0 0 4294967295 0 0 [] []).bind _ = _
    rw [hc]
    rfl
  obtain ⟨he1, he2⟩ := enc_ok 1 64 0 1 1 0 0 4294967295 0 0 [] [] hc
  have hl : (encB 1 64 0 1 1 0 0 4294967295 0 0 [] []).length = 64 := by rw [encB_len _ _ _ _ _ _ _ _ _ _ _ _ (.inl ⟨rfl, by simp, by simp⟩)]; rfl
  have hN : ∃ y, m_node_New 1 64 0 1 1 0 0 4294967295 0 0 [] [] [] = some (Sum.inr (Sum.inl y)) := by
    unfold m_node_New
    rw [he1]
    simp only [Option.bind_some]
    rw [if_neg (by decide), if_neg (by decide)]
    unfold m_node_made
    rw [app_ok (by simp; omega), app_ok (by simp)]
    simp only [Option.bind_some, List.nil_append]
    rw [beginB 64 _ [] hl (by simp)]
    exact ⟨_, rfl⟩
  obtain ⟨y, hy⟩ := hN
  unfold m_xof_New
  rw [hv]
  simp only [Option.bind_some]
  rw [if_neg (by decide)]
  unfold m_xof_own
  rw [app_ok (by simp)]
  simp only [Option.bind_some, List.append_nil]
  unfold m_xof_Stream_begin m_xof_shape_pars
  simp only [Option.bind_some]
  rw [show ((([] : List UInt8).length : Nat) : Int) = 0 from rfl, hy]
  exact ⟨_, rfl⟩
theorem diceawake_ok : m_l25_awake = some true := by
  obtain ⟨x, hx⟩ := xnew_ok
  have hd : ∃ y, m_dice_New [] = some (Sum.inr (Sum.inr (Sum.inr (Sum.inl y)))) := by
    unfold m_dice_New
    rw [if_neg (by decide), hx]
    simp only [Option.bind_some, Sum.elim_inr, Sum.elim_inl]
    rw [if_neg (by decide), app_ok (by simp)]
    exact ⟨_, rfl⟩
  obtain ⟨y, hy⟩ := hd
  unfold m_l25_awake
  rw [hy]
  simp only [Option.bind_some, Sum.elim_inr, Sum.elim_inl]
  rw [if_neg (by decide)]
  rfl
theorem p_l25_DiceNames : m_l25_DiceNames = some true := by
  unfold m_l25_DiceNames
  rw [diceawake_ok]
  rfl
end Go.Sx
