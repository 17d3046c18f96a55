import Derived.Test.YtapbicobghgmlaaGreatD4
namespace Go.Sx
open Go.RowKit
set_option linter.unusedVariables false
set_option linter.unusedSimpArgs false
/-! ### new dice -/
theorem ownK (b : List UInt8) (h : b.length ≤ 64) : m_xof_own_k b = some b := by
  unfold m_xof_own_k
  rw [app_ok (by simp only [List.length_nil]; omega), Option.bind_some, List.nil_append]
theorem validK (key : List UInt8) (h : key.length ≤ 64) : m_xof_valid_k key [] [] = some 0 := by
  unfold m_xof_valid_k m_xof_shaped_k m_xof_shaped_k_j0 m_xof_shape_pars_k
  rw [Option.bind_some, if_neg (by omega), Option.bind_some, check_ok, chkR _ h, Option.bind_some]
theorem nodeK (key : List UInt8) (h : key.length ≤ 64) : ∃ blk, blk.length = 64 ∧ m_node_New 1 64 ((key.length : Nat) : Int) 1 1 0 0 4294967295 0 0 [] [] key = some (Sum.inr (Sum.inl (1, 64, blk, key, Stb blk, 0, 0, big.kb key, 128))) := by
  obtain ⟨he1, _⟩ := enc_ok 1 64 ((key.length : Nat) : Int) 1 1 0 0 4294967295 0 0 [] [] (chkR _ h)
  have hbl : (encB 1 64 ((key.length : Nat) : Int) 1 1 0 0 4294967295 0 0 [] []).length = 64 := by rw [encB_len _ _ _ _ _ _ _ _ _ _ _ _ (.inl ⟨rfl, by simp, by simp⟩)]; rfl
  refine ⟨_, hbl, ?_⟩
  unfold m_node_New
  rw [he1]
  rw [Option.bind_some]
  dsimp only
  rw [if_neg nz, if_neg (by simp)]
  unfold m_node_made
  rw [app_ok (by simp; omega), app_ok (by simp; omega)]
  rw [Option.bind_some, Option.bind_some, List.nil_append, List.nil_append]
  rw [beginB 64 _ key hbl (by omega)]
  rw [Option.bind_some, Sum.elim_inl, Option.bind_some, Sum.elim_inl]
theorem newX (seed : List UInt8) (h : seed.length ≤ 64) : ∃ blk, blk.length = 64 ∧ m_dice_New_k seed = some (Sum.inr (seed, seed, [], [], 1, 64, blk, seed, Stb blk, 0, 0, big.kb seed, 128, Vec.rep 64 (0 : UInt8))) := by
  obtain ⟨blk, hb, hn⟩ := nodeK seed h
  refine ⟨blk, hb, ?_⟩
  unfold m_dice_New_k
  rw [if_neg (by omega)]
  unfold m_xof_New_k
  rw [validK seed h, Option.bind_some, if_neg nz, ownK seed h, ownK [] (by simp)]
  rw [Option.bind_some, Option.bind_some, Option.bind_some]
  unfold m_xof_Stream_begin_k m_xof_shape_pars_k
  rw [Option.bind_some, hn, Option.bind_some, Sum.elim_inr, Sum.elim_inl, Option.bind_some, Option.bind_some, Sum.elim_inr]
  rw [app_ok (by simp only [List.length_nil]; omega), Option.bind_some, List.nil_append]
theorem awakeK : m_l25_awake_k = some true := by
  obtain ⟨blk, hb, hn⟩ := newX [] (by simp)
  unfold m_l25_awake_k
  rw [hn, Option.bind_some, Sum.elim_inr]
  unfold m_dice_Dice_Pick_k m_dice_Dice_none_k m_dice_weighed_k
  rw [Option.bind_some, Option.bind_some, Option.bind_some]
end Go.Sx

