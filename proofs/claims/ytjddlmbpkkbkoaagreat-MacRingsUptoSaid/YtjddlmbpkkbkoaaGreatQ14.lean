import Derived.Test.YtjddlmbpkkbkoaaGreatQ13
namespace Go.Sx
open Go.RowKit
set_option linter.unusedVariables false
set_option linter.unusedSimpArgs false
theorem same_loop (f : Int → Option (Int ⊕ Bool)) (a b : List UInt8) (hl : a.length = b.length) (ha : a.length ≤ 16000000)
    (hf : ∀ i, f i = if i < ((a.length : Nat) : Int) then ((geti a i).bind fun x_0 => (geti b i).bind fun x_1 => if x_0 ≠ x_1 then (Option.map Sum.inr (some false)) else (some (.inl (w64 (i + 1))))) else (Option.map Sum.inr (some true))) :
    whileO f (0 : Int) = some (decide (a = b)) := by
  refine whileO_eq (fun i s => s = (i : Int) ∧ i ≤ a.length ∧ a.take i = b.take i) _ a.length _ ⟨rfl, by omega, rfl⟩ ?_
  rintro i s ⟨rfl, hi, he⟩
  rw [hf]
  by_cases hlt : i < a.length
  · rw [if_pos (by omega), geti_nat hlt, geti_nat (show i < b.length by omega)]
    simp only [Option.bind_some]
    by_cases hx : a[i] = b[i]
    · left
      refine ⟨hlt, _, by rw [if_neg (by simpa using hx)], by rw [w64_succ i (by omega)], by omega, ?_⟩
      rw [List.take_add_one, List.take_add_one, he, List.getElem?_eq_getElem hlt, List.getElem?_eq_getElem (show i < b.length by omega), hx]
    · right
      rw [if_pos hx]
      simp only [Option.map_some, Option.some.injEq, Sum.inr.injEq]
      refine (decide_eq_false fun e => hx ?_).symm
      subst e; rfl
  · right
    obtain rfl : i = a.length := by omega
    rw [if_neg (by omega)]
    simp only [Option.map_some, Option.some.injEq, Sum.inr.injEq]
    rw [List.take_length, hl, List.take_length] at he
    exact (decide_eq_true he).symm
theorem ne_len {a b : List UInt8} (h : ((a.length : Nat) : Int) ≠ ((b.length : Nat) : Int)) : decide (a = b) = false := decide_eq_false fun e => h (by rw [e])
theorem same_eq (a b : List UInt8) (ha : a.length ≤ 16000000) : m_l06_same a b = some (decide (a = b)) := by
  unfold m_l06_same
  by_cases h : ((a.length : Nat) : Int) ≠ ((b.length : Nat) : Int)
  · rw [if_pos h, ne_len h]
  · rw [if_neg h]
    exact same_loop _ a b (by omega) ha fun i => rfl
theorem rsame_eq (a b : List UInt8) (ha : a.length ≤ 16000000) : m_r01_Same a b = some (decide (a = b)) := by
  unfold m_r01_Same
  by_cases h : ((a.length : Nat) : Int) ≠ ((b.length : Nat) : Int)
  · rw [if_pos h, ne_len h]
  · rw [if_neg h]
    exact same_loop _ a b (by omega) ha fun i => rfl
theorem or_zero (x y : UInt8) : x ||| y = 0 ↔ x = 0 ∧ y = 0 := by
  rw [← UInt8.toBitVec_inj, ← UInt8.toBitVec_inj, ← UInt8.toBitVec_inj, UInt8.toBitVec_or]
  exact BitVec.or_eq_zero_iff
theorem xor_zero (x y : UInt8) : x ^^^ y = 0 ↔ x = y := by
  constructor
  · intro h
    have e : x ^^^ y ^^^ y = 0 ^^^ y := by rw [h]
    simpa [UInt8.xor_assoc] using e
  · rintro rfl; simp
theorem equal_eq (a b : List UInt8) (ha : a.length ≤ 16000000) : m_mac_Equal a b = some (decide (a = b)) := by
  unfold m_mac_Equal
  by_cases h : ((a.length : Nat) : Int) ≠ ((b.length : Nat) : Int)
  · rw [if_pos h, ne_len h]
  · rw [if_neg h]
    have hl : a.length = b.length := by omega
    refine whileO_eq (fun i s => s.2 = (i : Int) ∧ i ≤ a.length ∧ (s.1 = 0 ↔ a.take i = b.take i)) _ a.length _ ⟨rfl, by omega, by simp⟩ ?_
    rintro i ⟨d, s⟩ ⟨h1, hi, he⟩
    simp only at h1 he
    subst h1
    unfold m_mac_Equal_l0
    by_cases hlt : i < a.length
    · left
      simp only []
      rw [if_pos (by omega), geti_nat hlt, geti_nat (show i < b.length by omega)]
      simp only [Option.bind_some]
      refine ⟨hlt, _, rfl, by rw [w64_succ i (by omega)], by omega, ?_⟩
      rw [or_zero, xor_zero, he, List.take_add_one, List.take_add_one, List.getElem?_eq_getElem hlt, List.getElem?_eq_getElem (show i < b.length by omega)]
      simp only [Option.toList_some]
      constructor
      · rintro ⟨h1, h2⟩; rw [h1, h2]
      · intro h1
        have := List.append_inj' h1 rfl
        exact ⟨this.1, by simpa using this.2⟩
    · right
      obtain rfl : i = a.length := by omega
      simp only []
      rw [if_neg (by omega)]
      simp only [Option.map_some, Option.some.injEq, Sum.inr.injEq]
      rw [List.take_length, hl, List.take_length] at he
      exact decide_eq_decide.2 he
theorem most_ok (k : Int) : m_mac_most k = m_r02_Most k := by
  unfold m_mac_most m_param_Most m_param_sizes m_r02_Most
  by_cases k1 : k = 1
  · subst k1; rfl
  · by_cases k2 : k = 2
    · subst k2; rfl
    · simp only [k1, k2, if_false, Option.bind_some, if_true]
theorem most_le (k : Int) : ∃ m, m_r02_Most k = some m ∧ 0 ≤ m ∧ m ≤ 64 := by
  unfold m_r02_Most
  split
  · exact ⟨_, rfl, by omega, by omega⟩
  · split
    · exact ⟨_, rfl, by omega, by omega⟩
    · exact ⟨_, rfl, by omega, by omega⟩
end Go.Sx

