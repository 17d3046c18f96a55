import Derived.Test.YtenfdhhjafddlaaSxP
import Derived.Test.YtenfdhhjafddlaaW1
namespace Go.Sx
set_option linter.unusedVariables false
set_option linter.unusedSimpArgs false
/-! ### turns -/
theorem and31 : ∀ j : Nat, j < 65 → ((UInt64.ofInt (j : Int)) &&& 31).toNat = j % 32 := by decide +kernel
theorem and63 : ∀ j : Nat, j < 129 → ((UInt64.ofInt (j : Int)) &&& 63).toNat = j % 64 := by decide +kernel
theorem sub31 : ∀ j : Nat, j < 65 → ((32 : UInt64) - ((UInt64.ofInt (j : Int)) &&& 31)).toNat = 32 - j % 32 := by decide +kernel
theorem sub63 : ∀ j : Nat, j < 129 → ((64 : UInt64) - ((UInt64.ofInt (j : Int)) &&& 63)).toNat = 64 - j % 64 := by decide +kernel

def T32 (w : UInt32) (k : Nat) : UInt32 := ⟨w.toBitVec.rotateRight k⟩
def T64 (w : UInt64) (k : Nat) : UInt64 := ⟨w.toBitVec.rotateRight k⟩
theorem T32_bit (w : UInt32) (k i : Nat) (hi : i < 32) : (T32 w k).toBitVec.getLsbD i = w.toBitVec.getLsbD ((i + k) % 32) := by
  simp only [T32, BitVec.getLsbD_rotateRight, cond_eq_ite, decide_eq_true_eq]
  split
  · congr 1; omega
  · simp only [hi, decide_true, Bool.true_and]
    congr 1; omega
theorem T64_bit (w : UInt64) (k i : Nat) (hi : i < 64) : (T64 w k).toBitVec.getLsbD i = w.toBitVec.getLsbD ((i + k) % 64) := by
  simp only [T64, BitVec.getLsbD_rotateRight, cond_eq_ite, decide_eq_true_eq]
  split
  · congr 1; omega
  · simp only [hi, decide_true, Bool.true_and]
    congr 1; omega
theorem u32_ext {a b : UInt32} (h : ∀ i, i < 32 → a.toBitVec.getLsbD i = b.toBitVec.getLsbD i) : a = b := by
  apply UInt32.eq_of_toBitVec_eq
  apply BitVec.eq_of_getLsbD_eq
  intro i hi
  exact h i hi
theorem u64_ext {a b : UInt64} (h : ∀ i, i < 64 → a.toBitVec.getLsbD i = b.toBitVec.getLsbD i) : a = b := by
  apply UInt64.eq_of_toBitVec_eq
  apply BitVec.eq_of_getLsbD_eq
  intro i hi
  exact h i hi
theorem T32_eq (w : UInt32) (a b : Nat) (h : a % 32 = b % 32) : T32 w a = T32 w b := by
  apply u32_ext; intro i hi
  rw [T32_bit _ _ _ hi, T32_bit _ _ _ hi]
  congr 1; omega
theorem T64_eq (w : UInt64) (a b : Nat) (h : a % 64 = b % 64) : T64 w a = T64 w b := by
  apply u64_ext; intro i hi
  rw [T64_bit _ _ _ hi, T64_bit _ _ _ hi]
  congr 1; omega
theorem T32_T32 (w : UInt32) (a b : Nat) : T32 (T32 w a) b = T32 w (a + b) := by
  apply u32_ext; intro i hi
  rw [T32_bit _ _ _ hi, T32_bit _ _ _ (by omega), T32_bit _ _ _ hi]
  congr 1; omega
theorem T64_T64 (w : UInt64) (a b : Nat) : T64 (T64 w a) b = T64 w (a + b) := by
  apply u64_ext; intro i hi
  rw [T64_bit _ _ _ hi, T64_bit _ _ _ (by omega), T64_bit _ _ _ hi]
  congr 1; omega
theorem T32_zero (w : UInt32) (a : Nat) (h : a % 32 = 0) : T32 w a = w := by
  apply u32_ext; intro i hi
  rw [T32_bit _ _ _ hi]
  congr 1; omega
theorem T64_zero (w : UInt64) (a : Nat) (h : a % 64 = 0) : T64 w a = w := by
  apply u64_ext; intro i hi
  rw [T64_bit _ _ _ hi]
  congr 1; omega
theorem T32_xor (a b : UInt32) (k : Nat) : T32 (a ^^^ b) k = T32 a k ^^^ T32 b k := by
  apply u32_ext; intro i hi
  simp only [UInt32.toBitVec_xor, BitVec.getLsbD_xor, T32_bit _ _ _ hi]
theorem T64_xor (a b : UInt64) (k : Nat) : T64 (a ^^^ b) k = T64 a k ^^^ T64 b k := by
  apply u64_ext; intro i hi
  simp only [UInt64.toBitVec_xor, BitVec.getLsbD_xor, T64_bit _ _ _ hi]
theorem rotl32 (w : UInt32) (j : Nat) (hj : j < 65) : m_bits_RotateLeft32 w (j : Int) = some (T32 w (64 - j)) := by
  unfold m_bits_RotateLeft32
  rw [and31 j hj, sub31 j hj]
  congr 1
  apply u32_ext; intro i hi
  rw [T32_bit _ _ _ hi]
  simp only [UInt32.toBitVec_or, BitVec.getLsbD_or, shl32, shr32, BitVec.getLsbD_shiftLeft, BitVec.getLsbD_ushiftRight, hi, decide_true, Bool.true_and]
  by_cases h : i < j % 32
  · have e : 32 - j % 32 + i = (i + (64 - j)) % 32 := by omega
    rw [e]
    simp [h]
  · have e : i - j % 32 = (i + (64 - j)) % 32 := by omega
    rw [e]
    simp only [h, decide_false, Bool.not_false, Bool.true_and]
    by_cases h0 : i = j % 32
    · have : w.toBitVec.getLsbD (32 - j % 32 + i) = false := BitVec.getLsbD_of_ge _ _ (by omega)
      rw [this, Bool.or_false]
    · have : w.toBitVec.getLsbD (32 - j % 32 + i) = false := BitVec.getLsbD_of_ge _ _ (by omega)
      rw [this, Bool.or_false]
theorem rotl64 (w : UInt64) (j : Nat) (hj : j < 129) : m_bits_RotateLeft64 w (j : Int) = some (T64 w (128 - j)) := by
  unfold m_bits_RotateLeft64
  rw [and63 j hj, sub63 j hj]
  congr 1
  apply u64_ext; intro i hi
  rw [T64_bit _ _ _ hi]
  simp only [UInt64.toBitVec_or, BitVec.getLsbD_or, shl64, shr64, BitVec.getLsbD_shiftLeft, BitVec.getLsbD_ushiftRight, hi, decide_true, Bool.true_and]
  by_cases h : i < j % 64
  · have e : 64 - j % 64 + i = (i + (128 - j)) % 64 := by omega
    rw [e]
    simp [h]
  · have e : i - j % 64 = (i + (128 - j)) % 64 := by omega
    rw [e]
    simp only [h, decide_false, Bool.not_false, Bool.true_and]
    have : w.toBitVec.getLsbD (64 - j % 64 + i) = false := BitVec.getLsbD_of_ge _ _ (by omega)
    rw [this, Bool.or_false]
theorem tmod_eq (n : Int) (m : Int) (hm : 0 < m) : Int.tmod n m = if 0 ≤ n then n % m else -((-n) % m) := by
  split
  · rename_i h
    rw [Int.tmod_eq_emod_of_nonneg h]
  · rename_i h
    have : n = -(-n) := by omega
    rw [this, Int.neg_tmod, Int.tmod_eq_emod_of_nonneg (by omega)]
    simp
theorem turn32 (w : UInt32) (n : Int) (h : -9223372036854775808 ≤ n ∧ n ≤ 9223372036854775807) : m_word_Turn32 w n = some (T32 w (n % 32).toNat) := by
  unfold m_word_Turn32
  have e1 : Int.tmod (w64 ((Int.tmod n 32) + 32)) 32 = n % 32 := by
    rw [tmod_eq n 32 (by omega)]
    rw [w64_id (by split <;> omega)]
    rw [tmod_eq _ 32 (by omega)]
    split <;> split <;> omega
  rw [e1, w64_id (by omega)]
  have e2 : (32 : Int) - n % 32 = ((32 - (n % 32).toNat : Nat) : Int) := by omega
  rw [e2, rotl32 _ _ (by omega)]
  simp only [Option.bind_some]
  congr 1
  apply T32_eq; omega
theorem turn64 (w : UInt64) (n : Int) (h : -9223372036854775808 ≤ n ∧ n ≤ 9223372036854775807) : m_word_Turn64 w n = some (T64 w (n % 64).toNat) := by
  unfold m_word_Turn64
  have e1 : Int.tmod (w64 ((Int.tmod n 64) + 64)) 64 = n % 64 := by
    rw [tmod_eq n 64 (by omega)]
    rw [w64_id (by split <;> omega)]
    rw [tmod_eq _ 64 (by omega)]
    split <;> split <;> omega
  rw [e1, w64_id (by omega)]
  have e2 : (64 : Int) - n % 64 = ((64 - (n % 64).toNat : Nat) : Int) := by omega
  rw [e2, rotl64 _ _ (by omega)]
  simp only [Option.bind_some]
  congr 1
  apply T64_eq; omega
theorem rest (n m : Int) (hm : 0 < m ∧ m < 1000) (h : -9223372036854775808 ≤ n ∧ n ≤ 9223372036854775807) : m_r01_Rest n m = some (n % m) := by
  unfold m_r01_Rest m_r01_Rest_j0
  rw [need_ok (by omega)]
  simp only [Option.bind_some]
  have h1 := Int.emod_nonneg n (b := m) (by omega)
  have h2 := Int.emod_lt_of_pos n hm.1
  have h3 := Int.emod_nonneg (-n) (b := m) (by omega)
  have h4 := Int.emod_lt_of_pos (-n) hm.1
  have e : Int.tmod n m = if 0 ≤ n then n % m else -((-n) % m) := tmod_eq n m hm.1
  by_cases hn : 0 ≤ n
  · rw [if_pos hn] at e
    rw [e, if_neg (by omega)]
  · rw [if_neg hn] at e
    rw [e]
    by_cases hz : (-n) % m = 0
    · rw [hz]
      have : n % m = 0 := by
        have := Int.emod_eq_zero_of_dvd ((Int.dvd_neg).1 (Int.dvd_of_emod_eq_zero hz))
        exact this
      simp [this]
    · rw [if_pos (by omega), w64_id (by omega)]
      have : n % m = m - (-n) % m := by
        have q1 := Int.mul_ediv_add_emod (-n) m
        have : n = (m - (-n) % m) + m * (-((-n) / m) - 1) := by
          rw [Int.mul_sub, Int.mul_neg]; omega
        conv => lhs; rw [this]
        rw [Int.add_mul_emod_self_left, Int.emod_eq_of_lt (by omega) (by omega)]
      rw [this]
      congr 1; omega
theorem rturn32 (w : UInt32) (n : Int) (h : -9223372036854775808 ≤ n ∧ n ≤ 9223372036854775807) : m_r01_Turn32 w n = some (T32 w (n % 32).toNat) := by
  unfold m_r01_Turn32
  rw [rest n 32 (by omega) h]
  simp only [Option.bind_some]
  by_cases h0 : n % 32 = 0
  · rw [if_pos h0, h0, T32_zero _ _ rfl]
  · rw [if_neg h0, need_ok (by omega), w64_id (by omega), need_ok (by omega)]
    simp only [Option.bind_some]
    congr 1
    have e : (32 - n % 32).toNat = 32 - (n % 32).toNat := by omega
    rw [e]
    simp only [shr32, shl32, T32, BitVec.rotateRight, BitVec.rotateRightAux]
    rw [Nat.mod_eq_of_lt (by omega)]
    rfl
theorem rturn64 (w : UInt64) (n : Int) (h : -9223372036854775808 ≤ n ∧ n ≤ 9223372036854775807) : m_r01_Turn64 w n = some (T64 w (n % 64).toNat) := by
  unfold m_r01_Turn64
  rw [rest n 64 (by omega) h]
  simp only [Option.bind_some]
  by_cases h0 : n % 64 = 0
  · rw [if_pos h0, h0, T64_zero _ _ rfl]
  · rw [if_neg h0, need_ok (by omega), w64_id (by omega), need_ok (by omega)]
    simp only [Option.bind_some]
    congr 1
    have e : (64 - n % 64).toNat = 64 - (n % 64).toNat := by omega
    rw [e]
    simp only [shr64, shl64, T64, BitVec.rotateRight, BitVec.rotateRightAux]
    rw [Nat.mod_eq_of_lt (by omega)]
    rfl

theorem p_l01_WordBack (w : UInt32) (x : UInt64) (n : Int) (hn : -9223372036854775808 ≤ n ∧ n ≤ 9223372036854775807) (m : Int) (hm : -128 ≤ m ∧ m ≤ 127) : m_l01_WordBack w x n m = some true := by
  have hb : -64 < Int.tmod n 64 ∧ Int.tmod n 64 < 64 := by rw [tmod_eq n 64 (by omega)]; split <;> omega
  have hb2 : Int.tmod n 64 % 64 = n % 64 := by rw [tmod_eq n 64 (by omega)]; split <;> omega
  have hb3 : Int.tmod n 64 % 32 = n % 32 := by omega
  have e0 : w64 m = m := w64_id (by omega)
  have e1 : w64 (0 - m) = -m := by rw [w64_id (by omega)]; omega
  have e2 : w64 (Int.tmod n 64 + m) = Int.tmod n 64 + m := w64_id (by omega)
  have f1 : T32 1 1 = 2147483648 := by decide
  have f2 : T64 3 1 = 9223372036854775809 := by decide
  have g1 : T32 (T32 w (m % 32).toNat) (-m % 32).toNat = w := by rw [T32_T32]; apply T32_zero; omega
  have g2 : T64 (T64 x (m % 64).toNat) (-m % 64).toNat = x := by rw [T64_T64]; apply T64_zero; omega
  have g3 : T32 (T32 w (Int.tmod n 64 % 32).toNat) (m % 32).toNat = T32 w ((Int.tmod n 64 + m) % 32).toNat := by rw [T32_T32]; apply T32_eq; omega
  have g4 : T64 (T64 x (Int.tmod n 64 % 64).toNat) (m % 64).toNat = T64 x ((Int.tmod n 64 + m) % 64).toNat := by rw [T64_T64]; apply T64_eq; omega
  unfold m_l01_WordBack
  rw [e0, e1, e2]
  simp only [turn32 _ 1 (by omega), turn64 _ 1 (by omega), turn32 _ m (by omega), turn64 _ m (by omega), turn32 _ (-m) (by omega), turn64 _ (-m) (by omega), turn32 _ (Int.tmod n 64) (by omega), turn64 _ (Int.tmod n 64) (by omega),
    turn32 _ (Int.tmod n 64 + m) (by omega), turn64 _ (Int.tmod n 64 + m) (by omega), Option.bind_some, g1, g2, g3, g4, T32_xor, T64_xor]
  simp [f1, f2]

/-! ### Same -/
theorem copied_ok (b : List UInt8) (h : b.length ≤ 4194304) : m_l01_copied b = some b := by
  unfold m_l01_copied
  rw [app_ok (by simp; omega)]
  rfl
theorem wsame (a b : List UInt8) : m_word_Same a b = some (decide (a = b)) := rfl
theorem rsame (a b : List UInt8) (h : a.length ≤ 4194304) : m_r01_Same a b = some (decide (a = b)) := by
  unfold m_r01_Same
  by_cases hl : a.length = b.length
  · rw [if_neg (by omega)]
    refine whileO_eq (fun i s => s = (i : Int) ∧ i ≤ a.length ∧ a.take i = b.take i) _ a.length 0 ⟨rfl, by omega, by simp⟩ ?_
    rintro i s ⟨rfl, hi, ht⟩
    unfold m_r01_Same_l0
    by_cases hlt : i < a.length
    · rw [if_pos (by omega), geti_nat hlt, geti_nat (xs := b) (by omega)]
      simp only [Option.bind_some]
      by_cases hx : a[i] = b[i]
      · left
        refine ⟨hlt, _, by rw [if_neg (by simpa using hx)], ?_, by omega, ?_⟩
        · rw [w64_id (by omega)]; rfl
        · rw [List.take_succ_eq_append_getElem hlt, List.take_succ_eq_append_getElem (by omega : i < b.length), ht, hx]
      · right
        rw [if_pos (by simpa using hx)]
        simp only [Option.map_some, Option.some.injEq, Sum.inr.injEq]
        symm
        simp only [decide_eq_false_iff_not]
        rintro rfl
        exact hx rfl
    · right
      obtain rfl : i = a.length := by omega
      rw [if_neg (by omega)]
      rw [List.take_length, hl, List.take_length] at ht
      simp [ht]
  · rw [if_pos (by omega)]
    have : a ≠ b := by rintro rfl; exact hl rfl
    simp [this]
theorem same_ok (a b : List UInt8) (h : a.length ≤ 4194304) : m_l01_same a b = some (decide (a = b)) := by
  unfold m_l01_same; rw [rsame a b h]; rfl

theorem p_l01_WordSame (a : List UInt8) (ha : a.length ≤ 1048576) (b : List UInt8) (hb : b.length ≤ 1048576) (n : Int) (hn : -9223372036854775808 ≤ n ∧ n ≤ 9223372036854775807) (y : UInt8) : m_l01_WordSame a b n y = some true := by
  have j0 : ∀ c : List UInt8, m_l01_WordSame_j0 a c = some true := by
    intro c
    unfold m_l01_WordSame_j0
    rw [wsame, same_ok a c (by omega), copied_ok a (by omega)]
    simp only [Option.bind_some, reduceIte]
    rw [app_ok (by simp; omega)]
    simp only [Option.bind_some, wsame]
    have : a ≠ a ++ [0] := by intro h; have := congrArg List.length h; simp at this
    simp [this]
  have j1 : ∀ k : Int, 0 ≤ k → k < a.length → m_l01_WordSame_j1 a y a k = some true := by
    intro k h1 h2
    unfold m_l01_WordSame_j1
    obtain ⟨i, rfl⟩ : ∃ i : Nat, k = i := ⟨k.toNat, by omega⟩
    rw [geti_nat (by omega)]
    simp only [Option.bind_some]
    exact j0 _
  unfold m_l01_WordSame
  rw [copied_ok a (by omega)]
  simp only [Option.bind_some, wsame]
  rw [same_ok a b (by omega)]
  simp only [Option.bind_some, decide_true, Bool.not_true, ne_eq, not_true, reduceIte, Bool.false_eq_true]
  by_cases h0 : a.length = 0
  · rw [if_neg (by omega)]; exact j0 _
  · rw [if_pos (by omega), need_ok (by omega)]
    simp only [Option.bind_some]
    have e := tmod_eq n a.length (by omega)
    have h1 := Int.emod_nonneg n (b := a.length) (by omega)
    have h2 := Int.emod_lt_of_pos n (b := a.length) (by omega)
    have h3 := Int.emod_nonneg (-n) (b := a.length) (by omega)
    have h4 := Int.emod_lt_of_pos (-n) (b := a.length) (by omega)
    by_cases hn0 : 0 ≤ n
    · rw [if_pos hn0] at e
      rw [e, if_neg (by omega)]
      exact j1 _ h1 h2
    · rw [if_neg hn0] at e
      rw [e]
      by_cases hz : (-n) % (a.length : Int) = 0
      · rw [hz]; exact j1 _ (by omega) (by omega)
      · rw [if_pos (by omega), w64_id (by omega)]
        exact j1 _ (by omega) (by omega)
end Go.Sx
