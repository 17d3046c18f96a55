import Derived.Test.YtlekdnlojpnlmaaQ9
namespace Go.Sx
open Go.RowKit
set_option linter.unusedVariables false
set_option linter.unusedSimpArgs false
def Half.run (H : Half) (blk M : List UInt8) : H.σ × (UInt64 × UInt64) × List UInt8 := absorb (fun h b c => H.f h b c false false) H.B (H.st blk) (0, 0) M
/-- the whole digest -/
def Half.hash (H : Half) (blk M : List UInt8) (last : Bool) : List UInt8 :=
  H.dig (H.f (H.run blk M).1 (pad H.B (H.run blk M).2.2) (cntb (H.run blk M).2.1 (UInt64.ofNat (H.run blk M).2.2.length)) true last)
theorem Half.hash_len (H : Half) (blk M : List UInt8) (last : Bool) : (H.hash blk M last).length = H.S := H.diglen _
theorem Half.bp (H : Half) : 0 < H.B ∧ H.B ≤ 128 := by rcases H.hk with ⟨_, h, _⟩ | ⟨_, h, _⟩ <;> omega
section
variable (H : Half) (d ky fn dp : Int) (lf : UInt32) (off : UInt64) (xof : UInt32) (nd inn : Int) (salt pers key : List UInt8) (last : Bool) (from_ : Vec UInt64 16) (msg : List UInt8) (cn : UInt64) (blk : List UInt8)
theorem Half.held (H : Half) (blk M : List UInt8) : (H.run blk M).2.2.length ≤ H.B ∧ (H.run blk M).2.2 = M.drop (M.length - (H.run blk M).2.2.length) ∧ (H.run blk M).2.2.length ≤ M.length :=
  absorb_end _ H.B H.bp.1 M.length _ _ M (Nat.le_refl _)
end
/-- what a hash answers -/
def Half.ans (H : Half) (blk M : List UInt8) (last : Bool) (out : Int) : List UInt8 × Int := if out < 1 ∨ (H.S : Int) < out then ([], 1) else ((H.hash blk M last).take out.toNat, 0)
/-- the bytes that a key puts ahead -/
def Half.kb (H : Half) (key : List UInt8) : List UInt8 := if key = [] then [] else pad H.B key
theorem Half.kb_len (H : Half) (key : List UInt8) (h : key.length ≤ H.B) : (H.kb key).length ≤ H.B := by
  unfold Half.kb
  split
  · simp
  · rw [pad_len _ _ h]; exact Nat.le_refl _
end Go.Sx

