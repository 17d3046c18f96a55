import Derived.Test.YtapbicobghgmlaaD3
namespace Go.Sx
open Go.RowKit
set_option linter.unusedVariables false
set_option linter.unusedSimpArgs false
/-! ### skips -/
theorem u8n (n : UInt64) (h : n.toNat ≤ 34359738368) : ((8 : UInt64) * n).toNat = 8 * n.toNat := by
  rw [UInt64.toNat_mul]
  have e : (8 : UInt64).toNat = 8 := rfl
  rw [e]; omega
section
variable (at_ n : UInt64) (m : Nat) (hm : at_.toNat = 8 * m) (hl : m < 34359738368) (hn : m + n.toNat ≤ 34359738368)
include hm
theorem at8 : (at_ / 8).toNat = m := by
  rw [UInt64.toNat_div]
  have e : (8 : UInt64).toNat = 8 := rfl
  rw [e, hm]; omega
include hl
theorem sk0 : ((34359738368 : UInt64) - at_ / 8).toNat = 34359738368 - m := by
  rw [UInt64.toNat_sub_of_le _ _ (UInt64.le_iff_toNat_le.2 (by rw [at8 at_ m hm]; exact Nat.le_of_lt hl)), at8 at_ m hm]; rfl
theorem sk2 : ((decide ((0 : UInt64) < 8 * n)) && (decide (((274877906944 : UInt64) - at_) = 0))) = false := by
  have : ¬ ((274877906944 : UInt64) - at_) = 0 := left_ne at_ (by omega)
  rw [decide_eq_false this, Bool.and_false]
include hn
theorem sk1 : ¬ ((34359738368 : UInt64) - at_ / 8) < n := by
  intro e
  have := UInt64.lt_iff_toNat_lt.1 e
  rw [sk0 at_ m hm hl] at this
  omega
theorem sk3 : umin (8 * n) ((274877906944 : UInt64) - at_) = 8 * n := by
  unfold umin
  rw [if_neg]
  intro e
  have := UInt64.lt_iff_toNat_lt.1 e
  rw [left_sub at_ (by omega), u8n n (by omega)] at this
  omega
theorem sk4 : (at_ + 8 * n).toNat = 8 * (m + n.toNat) := by
  rw [UInt64.toNat_add, u8n n (by omega), hm]; omega
end
theorem fne {b : Bool} (h : b = false) : ¬ (b = true) := by rw [h]; decide
section
variable (R : List UInt8) (hR : R.length = 64) (d : Int) (blk nk : List UInt8) (last : Bool) (wr : UInt64) (h : Vec UInt64 8) (lo hi : UInt64) (held : List UInt8)
  (hn : m_node_Node_Out 1 d blk nk last wr h lo hi held 128 64 = some (R, 0, h, lo, hi, held, 128, 1, d, blk, nk, last, wr))
  (seed key : List UInt8) (at_ : UInt64) (now : Vec UInt8 64) (hv : Int)
theorem atK : m_dice_Dice_At_k seed key [] [] 1 d blk nk last wr h lo hi held 128 at_ now hv = some (at_ / 8, h, lo, hi, held, 128, 1, d, blk, nk, last, wr, at_, now, hv) := rfl
theorem atK1 : m_dice_Dice_At_k_s1 seed key [] [] 1 d blk nk last wr h lo hi held 128 R at_ now hv = some (at_ / 8, h, lo, hi, held, 128, 1, d, blk, nk, last, wr, at_, now, hv) := rfl
variable (n : UInt64) (m : Nat) (hm : at_.toNat = 8 * m) (hl : m < 34359738368) (hk : m + n.toNat ≤ 34359738368)
include hm hl hk in
theorem skipK1 : m_dice_Dice_Skip_k_s1 seed key [] [] 1 d blk nk last wr h lo hi held 128 R at_ now hv n = some (0, h, lo, hi, held, 128, 1, d, blk, nk, last, wr, at_ + 8 * n, now, hv) := by
  unfold m_dice_Dice_Skip_k_s1 m_dice_Dice_none_k_s1
  rw [Option.bind_some, atK1, Option.bind_some, if_neg (sk1 at_ n m hm hl hk)]
  unfold m_xof_Stream_Skip_k_s1 m_xof_Stream_none_k_s1 m_xof_Stream_give_k_s1
  rw [Option.bind_some, Option.bind_some, if_neg (fne (sk2 at_ n m hm hl)), Option.bind_some, Option.bind_some]
  dsimp only
  rw [sk3 at_ n m hm hl hk]
include hm hl hk hn hR in
theorem skipK : m_dice_Dice_Skip_k seed key [] [] 1 d blk nk last wr h lo hi held 128 at_ now hv n = some (Sum.inr (h, lo, hi, held, 128, 1, d, blk, nk, last, wr, R, at_ + 8 * n, now, hv)) := by
  unfold m_dice_Dice_Skip_k m_dice_Dice_none_k
  rw [Option.bind_some, atK, Option.bind_some, if_neg (sk1 at_ n m hm hl hk)]
  unfold m_xof_Stream_Skip_k m_xof_Stream_none_k
  rw [Option.bind_some, giveK R hR d blk nk last wr h lo hi held hn key at_ now hv, Option.bind_some, if_neg (fne (sk2 at_ n m hm hl)), Option.bind_some, Option.bind_some]
  dsimp only
  rw [sk3 at_ n m hm hl hk]
theorem skipX (hp : 0 < m) (hm : at_.toNat = 8 * m) (hl : m < 34359738368) : m_dice_Dice_Skip_k_s1 seed key [] [] 1 d blk nk last wr h lo hi held 128 R at_ now hv 34359738368 = some (1, h, lo, hi, held, 128, 1, d, blk, nk, last, wr, at_, now, hv) := by
  unfold m_dice_Dice_Skip_k_s1 m_dice_Dice_none_k_s1
  rw [Option.bind_some, atK1, Option.bind_some, if_pos (UInt64.lt_iff_toNat_lt.2 (by
    rw [sk0 at_ m hm hl]
    have e : (34359738368 : UInt64).toNat = 34359738368 := rfl
    omega))]
end
end Go.Sx

