import Derived.Test.YtapbicobghgmlaaGreatD2
namespace Go.Sx
open Go.RowKit
set_option linter.unusedVariables false
set_option linter.unusedSimpArgs false
/-! ### dice, by what they have used up -/
theorem nz : ¬ ((0 : Int) ≠ 0) := by decide
theorem left_sub (at_ : UInt64) (h : at_.toNat ≤ 274877906944) : ((274877906944 : UInt64) - at_).toNat = 274877906944 - at_.toNat := by
  rw [UInt64.toNat_sub_of_le _ _ (UInt64.le_iff_toNat_le.2 h)]; rfl
theorem left_ne (at_ : UInt64) (h : at_.toNat + 8 ≤ 274877906944) : ¬ ((274877906944 : UInt64) - at_) = 0 := by
  intro e
  have := congrArg UInt64.toNat e
  rw [left_sub at_ (by omega)] at this
  have e0 : (0 : UInt64).toNat = 0 := rfl
  omega
theorem left_ge (at_ : UInt64) (h : at_.toNat + 8 ≤ 274877906944) : ¬ ((274877906944 : UInt64) - at_) < 8 := by
  intro e
  have := UInt64.lt_iff_toNat_lt.1 e
  rw [left_sub at_ (by omega)] at this
  have e0 : (8 : UInt64).toNat = 8 := rfl
  omega
section
variable (R : List UInt8) (hR : R.length = 64) (d : Int) (blk nk : List UInt8) (last : Bool) (wr : UInt64) (h : Vec UInt64 8) (lo hi : UInt64) (held : List UInt8) (hh : held.length ≤ 128)
  (hn : m_node_Node_Out 1 d blk nk last wr h lo hi held 128 64 = some (R, 0, h, lo, hi, held, 128, 1, d, blk, nk, last, wr))
  (seed key : List UInt8) (at_ : UInt64) (now : Vec UInt8 64) (hv : Int)
include hh in
theorem cloneK : m_node_half_uint64_clone h lo hi held 128 = some (h, lo, hi, held, 128, h, lo, hi, held, 128) := by
  unfold m_node_half_uint64_clone
  rw [need_ok (by decide)]
  rw [Option.bind_some]
  rw [show Int.toNat (0 : Int) = 0 from rfl, List.replicate_zero, app_ok (by simp only [List.length_nil]; omega)]
  rfl
include hh in
theorem ncopyK : m_node_Node_Copy 1 d blk nk last wr h lo hi held 128 = some (1, d, blk, nk, last, wr, h, lo, hi, held, 128, h, lo, hi, held, 128, 1, d, last, wr) := by
  unfold m_node_Node_Copy m_node_Node_none
  rw [Option.bind_some]
  rw [cloneK h lo hi held hh]
  rfl
include hh in
theorem copyK : m_xof_Stream_Copy_k key [] [] 1 d blk nk last wr h lo hi held 128 at_ now hv = some (1, d, blk, nk, last, wr, h, lo, hi, held, 128, at_, now, hv, h, lo, hi, held, 128, 1, d, last, wr, at_, now, hv) := by
  unfold m_xof_Stream_Copy_k m_xof_Stream_none_k
  rw [Option.bind_some]
  rw [ncopyK d blk nk last wr h lo hi held hh]
  rfl
include hh in
theorem copyK1 : m_xof_Stream_Copy_k_s1 key [] [] 1 d blk nk last wr h lo hi held 128 R at_ now hv = some (1, d, blk, nk, last, wr, h, lo, hi, held, 128, at_, now, hv, h, lo, hi, held, 128, 1, d, last, wr, at_, now, hv) := by
  unfold m_xof_Stream_Copy_k_s1 m_xof_Stream_none_k_s1
  rw [Option.bind_some]
  rw [ncopyK d blk nk last wr h lo hi held hh]
  rfl
include hn hR in
theorem giveK : m_xof_Stream_give_k key [] [] 1 d blk nk last wr h lo hi held 128 at_ now hv = some (h, lo, hi, held, 128, 1, d, blk, nk, last, wr, R, at_, now, hv) := by
  unfold m_xof_Stream_give_k
  rw [hn]
  rw [Option.bind_some]
  rw [need_ok (by intro e; dsimp only at e; rw [e] at hR; cases hR)]
  rfl
variable (h8 : at_.toNat % 8 = 0) (hat : at_.toNat + 8 ≤ 274877906944) (ho : Okn R now hv)
include hn hR h8 hat ho in
theorem sreadK : ∃ now' hv', Okn R now' hv' ∧ m_xof_Stream_Read_k key [] [] 1 d blk nk last wr h lo hi held 128 at_ now hv = some (rdw R at_, 0, h, lo, hi, held, 128, 1, d, blk, nk, last, wr, R, at_ + 8, now', hv') := by
  obtain ⟨now', hv', ho', hs⟩ := readK R (by omega) at_ h8 hat h lo hi held 128 1 d blk nk last wr now hv ho
  refine ⟨now', hv', ho', ?_⟩
  unfold m_xof_Stream_Read_k m_xof_Stream_none_k
  rw [Option.bind_some]
  rw [giveK R hR d blk nk last wr h lo hi held hn key at_ now hv]
  rw [Option.bind_some]
  rw [if_neg (left_ne at_ hat), if_neg (left_ge at_ hat)]
  exact hs
include hR h8 hat ho in
theorem sreadK1 : ∃ now' hv', Okn R now' hv' ∧ m_xof_Stream_Read_k_s1 key [] [] 1 d blk nk last wr h lo hi held 128 R at_ now hv = some (rdw R at_, 0, h, lo, hi, held, 128, 1, d, blk, nk, last, wr, at_ + 8, now', hv') := by
  obtain ⟨now', hv', ho', hs⟩ := readK1 R (by omega) at_ h8 hat h lo hi held 128 1 d blk nk last wr now hv ho
  refine ⟨now', hv', ho', ?_⟩
  unfold m_xof_Stream_Read_k_s1 m_xof_Stream_none_k_s1 m_xof_Stream_give_k_s1
  rw [Option.bind_some, Option.bind_some]
  rw [if_neg (left_ne at_ hat), if_neg (left_ge at_ hat)]
  exact hs
noncomputable def wdw (R : List UInt8) (at_ : UInt64) : UInt64 := wd64 (rdw R at_) 0
include hR h8 hat in
theorem loadK : m_word_Load64 (rdw R at_) 0 = some (wdw R at_, 0) := by
  have hl := rdw_len R (by omega) at_ h8 hat
  exact wload8 (rdw R at_) 0 (by omega) (by omega)
include hn hR h8 hat ho hh in
end
end Go.Sx

