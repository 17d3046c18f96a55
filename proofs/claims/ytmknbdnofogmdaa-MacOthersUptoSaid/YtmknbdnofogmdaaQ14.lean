import Derived.Test.YtmknbdnofogmdaaQ13
namespace Go.Sx
open Go.RowKit
set_option linter.unusedVariables false
set_option linter.unusedSimpArgs false
theorem same_loop (f : Int → Option (Int ⊕ Bool)) (a b : List UInt8) (hl : a.length = b.length) (ha : a.length ≤ 16000000)
    (hf : ∀ i, f i = if i < ((a.length : Nat) : Int) then ((geti a i).bind fun x_0 => (geti b i).bind fun x_1 => if x_0 ≠ x_1 then (Option.map Sum.inr (some false)) else (some (.inl (w64 (i + 1))))) else (Option.map Sum.inr (some true))) :
    whileO f (0 : Int) = some (decide (a = b)) := by
  refine whileO_eq (fun i s => s = (i : Int) ∧ i ≤ a.length ∧ a.take i = b.take i) _ a.length _ ⟨rfl, by omega, rfl⟩ ?_
  rintro i s ⟨rfl, hi, he⟩
  rw [hf]
  by_cases hlt : i < a.length
  · rw [if_pos (by omega), geti_nat hlt, geti_nat (show i < b.length by omega)]
    simp only [Option.bind_some]
    by_cases hx : a[i] = b[i]
    · left
      refine ⟨hlt, _, by rw [if_neg (by simpa using hx)], by rw [w64_succ i (by omega)], by omega, ?_⟩
      rw [List.take_add_one, List.take_add_one, he, List.getElem?_eq_getElem hlt, List.getElem?_eq_getElem (show i < b.length by omega), hx]
    · right
      rw [if_pos hx]
      simp only [Option.map_some, Option.some.injEq, Sum.inr.injEq]
      refine (decide_eq_false fun e => hx ?_).symm
      subst e; rfl
  · right
    obtain rfl : i = a.length := by omega
    rw [if_neg (by omega)]
    simp only [Option.map_some, Option.some.injEq, Sum.inr.injEq]
    rw [List.take_length, hl, List.take_length] at he
    exact (decide_eq_true he).symm
theorem ne_len {a b : List UInt8} (h : ((a.length : Nat) : Int) ≠ ((b.length : Nat) : Int)) : decide (a = b) = false := decide_eq_false fun e => h (by rw [e])
theorem same_eq (a b : List UInt8) (ha : a.length ≤ 16000000) : m_l06_same a b = some (decide (a = b)) := by
  unfold m_l06_same
  by_cases h : ((a.length : Nat) : Int) ≠ ((b.length : Nat) : Int)
  · rw [if_pos h, ne_len h]
  · rw [if_neg h]
    exact same_loop _ a b (by omega) ha fun i => rfl
theorem rsame_eq (a b : List UInt8) (ha : a.length ≤ 16000000) : m_r01_Same a b = some (decide (a = b)) := by
  unfold m_r01_Same
  by_cases h : ((a.length : Nat) : Int) ≠ ((b.length : Nat) : Int)
  · rw [if_pos h, ne_len h]
  · rw [if_neg h]
    exact same_loop _ a b (by omega) ha fun i => rfl
theorem or_zero (x y : UInt8) : x ||| y = 0 ↔ x = 0 ∧ y = 0 := by
  rw [← UInt8.toBitVec_inj, ← UInt8.toBitVec_inj, ← UInt8.toBitVec_inj, UInt8.toBitVec_or]
  exact BitVec.or_eq_zero_iff
theorem xor_zero (x y : UInt8) : x ^^^ y = 0 ↔ x = y := by
  constructor
  · intro h
    have e : x ^^^ y ^^^ y = 0 ^^^ y := by rw [h]
    simpa [UInt8.xor_assoc] using e
  · rintro rfl; simp
theorem equal_eq (a b : List UInt8) (ha : a.length ≤ 16000000) : m_mac_Equal a b = some (decide (a = b)) := by
  unfold m_mac_Equal
  by_cases h : ((a.length : Nat) : Int) ≠ ((b.length : Nat) : Int)
  · rw [if_pos h, ne_len h]
  · rw [if_neg h]
    have hl : a.length = b.length := by omega
    refine whileO_eq (fun i s => s.2 = (i : Int) ∧ i ≤ a.length ∧ (s.1 = 0 ↔ a.take i = b.take i)) _ a.length _ ⟨rfl, by omega, by simp⟩ ?_
    rintro i ⟨d, s⟩ ⟨h1, hi, he⟩
    simp only at h1 he
    subst h1
    unfold m_mac_Equal_l0
    by_cases hlt : i < a.length
    · left
      simp only []
      rw [if_pos (by omega), geti_nat hlt, geti_nat (show i < b.length by omega)]
      simp only [Option.bind_some]
      refine ⟨hlt, _, rfl, by rw [w64_succ i (by omega)], by omega, ?_⟩
      rw [or_zero, xor_zero, he, List.take_add_one, List.take_add_one, List.getElem?_eq_getElem hlt, List.getElem?_eq_getElem (show i < b.length by omega)]
      simp only [Option.toList_some]
      constructor
      · rintro ⟨h1, h2⟩; rw [h1, h2]
      · intro h1
        have := List.append_inj' h1 rfl
        exact ⟨this.1, by simpa using this.2⟩
    · right
      obtain rfl : i = a.length := by omega
      simp only []
      rw [if_neg (by omega)]
      simp only [Option.map_some, Option.some.injEq, Sum.inr.injEq]
      rw [List.take_length, hl, List.take_length] at he
      exact decide_eq_decide.2 he
theorem most_ok (k : Int) : m_mac_most k = m_r02_Most k := by
  unfold m_mac_most m_param_Most m_param_sizes m_r02_Most
  by_cases k1 : k = 1
  · subst k1; rfl
  · by_cases k2 : k = 2
    · subst k2; rfl
    · simp only [k1, k2, if_false, Option.bind_some, if_true]
theorem most_le (k : Int) : ∃ m, m_r02_Most k = some m ∧ 0 ≤ m ∧ m ≤ 64 := by
  unfold m_r02_Most
  split
  · exact ⟨_, rfl, by omega, by omega⟩
  · split
    · exact ⟨_, rfl, by omega, by omega⟩
    · exact ⟨_, rfl, by omega, by omega⟩
theorem mcheck_ok (k : Int) (tag key salt pers data : List UInt8) (hd : data.length ≤ 12000000) (ht : tag.length ≤ 16000000) : ∃ r, m_mac_Check k tag key salt pers data = some r ∧ m_r06_Check k tag key salt pers data = some r := by
  obtain ⟨m, hm, h0, h64⟩ := most_le k
  obtain ⟨x, x1, x2, x3⟩ := make_ok k ((tag.length : Nat) : Int) key salt pers data hd
  unfold m_mac_Check m_r06_Check
  rw [most_ok, hm]
  simp only [Option.bind_some]
  by_cases hm0 : m = 0
  · rw [if_pos hm0, if_pos hm0]; exact ⟨_, rfl, rfl⟩
  rw [if_neg hm0, if_neg hm0]
  by_cases hl : ((tag.length : Nat) : Int) < 1
  · rw [if_pos (by simp [hl]), if_pos hl]; exact ⟨_, rfl, rfl⟩
  by_cases hg : m < ((tag.length : Nat) : Int)
  · rw [if_pos (by simp [hg]), if_neg hl, if_pos hg]; exact ⟨_, rfl, rfl⟩
  rw [if_neg (by simp only [Bool.or_eq_true, decide_eq_true_eq]; omega), if_neg hl, if_neg hg]
  by_cases hk : ((key.length : Nat) : Int) = 0
  · rw [if_pos hk, if_pos hk]; exact ⟨_, rfl, rfl⟩
  rw [if_neg hk, if_neg hk, x1, x2]
  simp only [Option.bind_some]
  by_cases he : x.2 ≠ 0
  · rw [if_pos he, if_pos he]; exact ⟨_, rfl, rfl⟩
  rw [if_neg he, if_neg he, equal_eq tag x.1 ht, rsame_eq x.1 tag (by omega)]
  simp only [Option.bind_some]
  exact ⟨_, rfl, by rw [show decide (x.1 = tag) = decide (tag = x.1) from decide_eq_decide.2 eq_comm]⟩
theorem p_l06_MacChecks (k : Int) (_ : -9223372036854775808 ≤ k ∧ k ≤ 9223372036854775807) (n : Int) (_ : -9223372036854775808 ≤ n ∧ n ≤ 9223372036854775807) (key : List UInt8) (_ : key.length ≤ 1048576) (salt : List UInt8) (_ : salt.length ≤ 1048576) (pers : List UInt8) (_ : pers.length ≤ 1048576) (data : List UInt8) (hd0 : data.length ≤ 1048576) (tag : List UInt8) (_ : tag.length ≤ 1048576) : m_l06_MacChecks k n key salt pers data tag = some true := by
  obtain ⟨r, r1, r2⟩ := mcheck_ok k tag key salt pers data (by omega) (by omega)
  unfold m_l06_MacChecks
  rw [r1, r2]
  simp only [Option.bind_some]
  rw [if_neg (by simp), equal_eq _ _ (by omega), equal_eq _ _ (by omega), equal_eq _ _ (by omega), same_eq _ _ (by omega), same_eq _ _ (by omega)]
  simp
end Go.Sx
