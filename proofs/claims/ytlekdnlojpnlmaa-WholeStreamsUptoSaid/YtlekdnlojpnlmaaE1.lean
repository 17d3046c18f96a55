import Derived.Test.YtlekdnlojpnlmaaQ13
namespace Go.Sx
open Go.RowKit
set_option linter.unusedVariables false
set_option linter.unusedSimpArgs false
/-! ### pieces of a stream of known length -/
theorem fo {a b : Bool} (h1 : a = false) (h2 : b = false) : ¬ ((a || b) = true) := by rw [h1, h2]; decide
theorem fo2 {a b : Bool} (h1 : a = false) (h2 : b = false) : (a || b) = false := by rw [h1, h2]; rfl
theorem fa1 {a b : Bool} (h2 : b = false) : (a && b) = false := by rw [h2, Bool.and_false]
theorem off_le (i : UInt64) (h : i.toNat < 4294967296) : ¬ (4294967295 : UInt64) < i := by
  intro hh
  have := UInt64.lt_iff_toNat_lt.1 hh
  have e : (4294967295 : UInt64).toNat = 4294967295 := rfl
  omega
theorem x_le (x : UInt32) (h : x.toNat ≤ 65535) : ¬ (65535 : UInt32) < x := by
  intro hh
  have := UInt32.lt_iff_toNat_lt.1 hh
  have e : (65535 : UInt32).toNat = 65535 := rfl
  omega
section
variable (k S q : Int) (hk : m_r02_Most k = some S) (hq : w64 (Int.tdiv S 4) = q) (hS : 1 ≤ S) (hq0 : 0 ≤ q) (i : UInt64) (hi : i.toNat < 4294967296) (x : UInt32) (hx0 : x ≠ 0) (hx : x.toNat ≤ 65535)
include hk hq hS hq0 hx0 hx
theorem chkRoot (ky : Int) (hky : 0 ≤ ky ∧ ky ≤ S) : m_r02_Check k S ky 1 1 0 0 x 0 0 [] [] = some 0 := by
  unfold m_r02_Check
  rw [hk, Option.bind_some, if_neg (by omega), hq]
  rw [if_neg (fo (decide_eq_false (by omega)) (decide_eq_false (by omega)))]
  rw [if_neg (fo (decide_eq_false (by omega)) (decide_eq_false (by omega)))]
  rw [if_neg (by decide)]
  rw [if_neg (fo (by decide) (fa1 (decide_eq_false hx0)))]
  rw [if_neg (fo (fa1 (decide_eq_false (by decide))) (fa1 (decide_eq_false (by decide))))]
  rw [if_neg (by rw [decide_eq_false (x_le x hx), Bool.and_false]; decide)]
  rw [if_neg (by decide)]
  rw [if_neg (fo (by decide) (decide_eq_false (by omega)))]
  rw [if_neg (by simp only [List.length_nil]; omega), if_neg (by simp only [List.length_nil]; omega)]
include hi in
theorem chkPiece (d : Int) (hd : 1 ≤ d ∧ d ≤ S) (lf : UInt32) : m_r02_Check k d 0 0 0 lf i x 0 S [] [] = some 0 := by
  unfold m_r02_Check
  rw [hk, Option.bind_some, if_neg (by omega), hq]
  rw [if_neg (fo (decide_eq_false (by omega)) (decide_eq_false (by omega)))]
  rw [if_neg (fo (by decide) (decide_eq_false (by omega)))]
  rw [if_neg (by decide)]
  rw [if_neg (fo (by decide) (fa1 (decide_eq_false hx0)))]
  rw [if_neg (fo (fa1 (decide_eq_false (off_le i hi))) (by rw [decide_eq_false hx0, Bool.false_and, Bool.false_and]))]
  rw [if_neg (by rw [decide_eq_false (x_le x hx), Bool.and_false]; decide)]
  rw [if_neg (by decide)]
  rw [if_neg (fo (decide_eq_false (by omega)) (decide_eq_false (by omega)))]
  rw [if_neg (by simp only [List.length_nil]; omega), if_neg (by simp only [List.length_nil]; omega)]
end
theorem ansLen (H : Half) (blk M : List UInt8) (last : Bool) (d : Nat) (h : 1 ≤ d ∧ d ≤ H.S) : (H.ans blk M last (d : Int)).1.length = d := by
  unfold Half.ans
  rw [if_neg (by omega)]
  have := H.hash_len blk M last
  simp only [List.length_take]
  omega
theorem ofN64 (n : Nat) (h : n < 18446744073709551616) : (UInt64.ofInt (n : Int)).toNat = n := by
  rw [u64_nat, UInt64.toNat_ofNat_of_lt' (by show n < 18446744073709551616; omega)]
theorem u32_nat (n : Nat) : UInt32.ofInt (n : Int) = UInt32.ofNat n := by
  rw [← UInt32.toNat_inj]
  unfold UInt32.ofInt
  simp
  omega
theorem ofN32 (n : Nat) (h : n < 4294967296) : (UInt32.ofInt (n : Int)).toNat = n := by
  rw [u32_nat, UInt32.toNat_ofNat_of_lt' (by show n < 4294967296; omega)]
theorem w64n (n : Nat) (h : n < 9223372036854775808) : w64 (n : Int) = (n : Int) := by
  rw [w64_id] <;> omega
/-- the stream's kind: its number and the bytes of a piece -/
structure Kd (k : Int) (s : Nat) : Prop where
  h : (k = 1 ∧ s = 64) ∨ (k = 2 ∧ s = 32)
section
variable {k : Int} {s : Nat} (hK : Kd k s) (R : List UInt8) (hR : R.length ≤ 64) (n : Nat) (hn : 1 ≤ n ∧ n ≤ 3000)
/-- so many bytes has the piece -/
def pl0 (s n i : Nat) : Nat := min s (n - i * s)
include hK hR hn
theorem piece_at (i : UInt64) (hi : i.toNat * s < n) : ∃ b, b.length = pl0 s n i.toNat ∧ m_xof_shape_piece k (s : Int) (UInt32.ofInt (n : Int)) (UInt64.ofInt (n : Int)) true [] [] R i = some b := by
  have hs : 32 ≤ s ∧ s ≤ 64 := by rcases hK.h with ⟨_, h⟩ | ⟨_, h⟩ <;> omega
  have hx := ofN32 n (by omega)
  have hx0 : UInt32.ofInt (n : Int) ≠ 0 := fun e => by rw [e] at hx; have : (0 : UInt32).toNat = 0 := rfl; omega
  have hi2 : i.toNat < 3000 := by
    have := Nat.mul_le_mul_left i.toNat hs.1
    omega
  have hS := ofN64 s (by omega)
  have hn' := ofN64 n (by omega)
  have hm : (i * UInt64.ofInt (s : Int)).toNat = i.toNat * s := by
    rw [UInt64.toNat_mul, hS]; exact Nat.mod_eq_of_lt (by omega)
  have hsub : (UInt64.ofInt (n : Int) - i * UInt64.ofInt (s : Int)).toNat = n - i.toNat * s := by
    rw [UInt64.toNat_sub_of_le _ _ (UInt64.le_iff_toNat_le.2 (by rw [hm, hn']; omega)), hm, hn']
  have key : ∀ d : Nat, 1 ≤ d ∧ d ≤ s → ∃ b, b.length = d ∧ m_xof_shape_piece_j0 k (s : Int) (UInt32.ofInt (n : Int)) [] [] R i (d : Int) = some b := by
    intro d hd
    unfold m_xof_shape_piece_j0
    rcases hK.h with ⟨rfl, rfl⟩ | ⟨rfl, rfl⟩
    · obtain ⟨he1, _⟩ := enc_ok 1 (d : Int) 0 0 0 (UInt32.ofInt ((64 : Nat) : Int)) i (UInt32.ofInt (n : Int)) 0 ((64 : Nat) : Int) [] [] (chkPiece 1 64 16 rfl rfl (by omega) (by omega) i (by omega) _ hx0 (by omega) d (by omega) _)
      rw [whashB (d : Int) 0 0 0 (UInt32.ofInt ((64 : Nat) : Int)) i (UInt32.ofInt (n : Int)) 0 ((64 : Nat) : Int) [] [] [] false (d : Int) R _ he1 (by rw [encB_len _ _ _ _ _ _ _ _ _ _ _ _ (.inl ⟨rfl, by simp, by simp⟩)]; rfl) (.inl rfl) (by simp) (by omega), Option.bind_some]
      exact ⟨_, ansLen big _ _ _ d hd, rfl⟩
    · obtain ⟨he1, _⟩ := enc_ok 2 (d : Int) 0 0 0 (UInt32.ofInt ((32 : Nat) : Int)) i (UInt32.ofInt (n : Int)) 0 ((32 : Nat) : Int) [] [] (chkPiece 2 32 8 rfl rfl (by omega) (by omega) i (by omega) _ hx0 (by omega) d (by omega) _)
      rw [whashS (d : Int) 0 0 0 (UInt32.ofInt ((32 : Nat) : Int)) i (UInt32.ofInt (n : Int)) 0 ((32 : Nat) : Int) [] [] [] false (d : Int) R _ he1 (by rw [encB_len _ _ _ _ _ _ _ _ _ _ _ _ (.inr ⟨rfl, by simp, by simp⟩)]; rfl) (.inl rfl) (by simp) (by omega), Option.bind_some]
      exact ⟨_, ansLen small _ _ _ d hd, rfl⟩
  unfold m_xof_shape_piece
  by_cases hc : (UInt64.ofInt (n : Int) - i * UInt64.ofInt (s : Int)) < UInt64.ofInt (s : Int)
  · have := UInt64.lt_iff_toNat_lt.1 hc
    rw [hsub, hS] at this
    rw [if_pos hc, hsub, w64n _ (by omega)]
    obtain ⟨b, h1, h2⟩ := key (n - i.toNat * s) (by omega)
    exact ⟨b, by rw [h1]; unfold pl0; omega, h2⟩
  · have : ¬ (n - i.toNat * s) < s := fun h => hc (UInt64.lt_iff_toNat_lt.2 (by rw [hsub, hS]; exact h))
    rw [if_neg hc]
    obtain ⟨b, h1, h2⟩ := key s (by omega)
    exact ⟨b, by rw [h1]; unfold pl0; omega, h2⟩
end
end Go.Sx

