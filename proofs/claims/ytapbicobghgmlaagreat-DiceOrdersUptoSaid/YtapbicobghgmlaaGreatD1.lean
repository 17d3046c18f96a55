import Derived.Test.YtapbicobghgmlaaGreatQ13
namespace Go.Sx
open Go.RowKit
set_option linter.unusedVariables false
set_option linter.unusedSimpArgs false
/-! ### a stream without end of the big kind -/
theorem chkR (kl : Nat) (h : kl ≤ 64) : m_r02_Check 1 64 (kl : Int) 1 1 0 0 4294967295 0 0 [] [] = some 0 := by
  unfold m_r02_Check
  rw [show m_r02_Most 1 = some 64 from rfl]
  simp only [Option.bind_some]
  rw [if_neg (by omega), show w64 (Int.tdiv 64 4) = 16 from rfl, if_neg (by decide), if_neg (by simp only [Bool.or_eq_true, decide_eq_true_eq]; omega), if_neg (by decide), if_neg (by decide), if_neg (by decide), if_neg (by decide), if_neg (by decide), if_neg (by decide), if_neg (by decide), if_neg (by decide)]
theorem chkP (i : UInt64) (h : i.toNat < 4294967296) : m_r02_Check 1 64 0 0 0 64 i 4294967295 0 64 [] [] = some 0 := by
  have hi : ¬ (4294967295 : UInt64) < i := by
    intro hh
    have := UInt64.lt_iff_toNat_lt.1 hh
    have e : (4294967295 : UInt64).toNat = 4294967295 := rfl
    omega
  unfold m_r02_Check
  rw [show m_r02_Most 1 = some 64 from rfl]
  simp only [Option.bind_some]
  rw [if_neg (by omega), show w64 (Int.tdiv 64 4) = 16 from rfl, if_neg (by decide), if_neg (by decide), if_neg (by decide), if_neg (by decide), if_neg (by simp [hi]), if_neg (by decide), if_neg (by decide), if_neg (by decide), if_neg (by decide), if_neg (by decide)]
theorem ans64 (H : Half) (hS : H.S = 64) (blk M : List UInt8) : (H.ans blk M false 64).1.length = 64 := by
  unfold Half.ans
  rw [if_neg (by omega)]
  have := H.hash_len blk M false
  simp only [List.length_take]
  omega
theorem w64u (n : Nat) (h : n < 9223372036854775808) : w64 (n : Int) = (n : Int) := by
  rw [w64_id] <;> omega
theorem piece_ok (root : List UInt8) (hr : root.length ≤ 64) (i : UInt64) (h : i.toNat < 4294967296) : ∃ b, b.length = 64 ∧ m_xof_shape_piece_k [] [] root i = some b := by
  have e64 : (64 : UInt64).toNat = 64 := rfl
  have eT : (274877906944 : UInt64).toNat = 274877906944 := rfl
  have hm : (i * 64).toNat = i.toNat * 64 := by rw [UInt64.toNat_mul, e64]; omega
  have hs : ((274877906944 : UInt64) - i * 64).toNat = 274877906944 - i.toNat * 64 := by
    rw [UInt64.toNat_sub_of_le _ _ (UInt64.le_iff_toNat_le.2 (by rw [hm, eT]; omega)), hm, eT]
  have hn : ¬ ((274877906944 : UInt64) - i * 64) < 64 := by
    intro hh
    have := UInt64.lt_iff_toNat_lt.1 hh
    rw [hs, e64] at this; omega
  unfold m_xof_shape_piece_k
  rw [if_neg hn]
  unfold m_xof_shape_piece_k_j0
  obtain ⟨he1, _⟩ := enc_ok 1 64 0 0 0 64 i 4294967295 0 64 [] [] (chkP i h)
  rw [whashB 64 0 0 0 64 i 4294967295 0 64 [] [] [] false 64 root _ he1 (by rw [encB_len _ _ _ _ _ _ _ _ _ _ _ _ (.inl ⟨rfl, by simp, by simp⟩)]; rfl) (.inl rfl) (by simp) (by omega)]
  exact ⟨_, ans64 big rfl _ _, rfl⟩
noncomputable def pcs (root : List UInt8) (i : UInt64) : List UInt8 := (m_xof_shape_piece_k [] [] root i).getD []
theorem pcs_ok (root : List UInt8) (hr : root.length ≤ 64) (i : UInt64) (h : i.toNat < 4294967296) : (pcs root i).length = 64 ∧ m_xof_shape_piece_k [] [] root i = some (pcs root i) := by
  obtain ⟨b, h1, h2⟩ := piece_ok root hr i h
  unfold pcs
  rw [h2]
  exact ⟨h1, rfl⟩
/-- the node tells its output and stays as it is -/
theorem nout (d : Int) (blk key : List UInt8) (last : Bool) (wr : UInt64) (h : Vec UInt64 8) (lo hi : UInt64) (held : List UInt8) (hh : held.length ≤ 128) :
    m_node_Node_Out 1 d blk key last wr h lo hi held 128 64 = some (Byb (fB h (pad 128 held) (cntb (lo, hi) (UInt64.ofNat held.length)) true last), 0, h, lo, hi, held, 128, 1, d, blk, key, last, wr) := by
  unfold m_node_Node_Out m_node_Node_none
  simp only [Option.bind_some]
  rw [if_neg (by omega), show m_node_blockOf 1 = some 128 from rfl]
  simp only [Option.bind_some]
  rw [show w64 (Int.tdiv 128 2) = (64 : Int) from rfl, if_neg (by omega), woutB h (lo, hi) held last hh]
  simp only [Option.bind_some]
  rw [slc_ok (by rw [Byb_len]; omega)]
  simp only [Option.bind_some]
  rw [need_ok (by rw [Byb_len]; omega)]
  simp only [Option.bind_some]
  rw [show (64 : Int).toNat = (Byb (fB h (pad 128 held) (cntb (lo, hi) (UInt64.ofNat held.length)) true last)).length from by rw [Byb_len]; rfl]
  simp
end Go.Sx

