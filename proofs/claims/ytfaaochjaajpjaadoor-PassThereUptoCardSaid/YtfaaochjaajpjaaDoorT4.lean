import Derived.Test.YtfaaochjaajpjaaDoorT3
namespace Go.Sx
open Go.RowKit
set_option linter.unusedVariables false
set_option linter.unusedSimpArgs false
/-! ### numbers -/
def dv (c : UInt8) : UInt64 := UInt64.ofNat (c - 48).toNat
def isD (c : UInt8) : Bool := decide ((48 : UInt8) ≤ c) && decide (c ≤ 57)
def numS : List UInt8 → Bool → UInt64 → UInt64 × Nat × Bool
  | [], st, v => (v, 0, st)
  | c :: l, st, v => if isD c = true then (if ((st && decide (v = 0)) || decide (((18446744073709551615 : UInt64) - dv c) / 10 < v)) = true then (0, 0, false) else ((numS l true (10 * v + dv c)).1, (numS l true (10 * v + dv c)).2.1 + 1, (numS l true (10 * v + dv c)).2.2)) else (v, 0, st)
theorem numS_le : ∀ (l : List UInt8) (st : Bool) (v : UInt64), (numS l st v).2.1 ≤ l.length
  | [], st, v => Nat.le_refl _
  | c :: l, st, v => by
    unfold numS
    split
    · split
      · exact Nat.zero_le _
      · have := numS_le l true (10 * v + dv c)
        simp only [List.length_cons]
        omega
    · exact Nat.zero_le _
def numT (s : List UInt8) (a : Nat) (ok : Bool) : UInt64 × Nat × Bool := if ok = true then ((numS (s.drop a) false 0).1, a + (numS (s.drop a) false 0).2.1, (numS (s.drop a) false 0).2.2) else (0, a, false)
theorem numT_le (s : List UInt8) (a : Nat) (ok : Bool) (ha : a ≤ s.length) : (numT s a ok).2.1 ≤ s.length := by
  unfold numT
  split
  · have := numS_le (s.drop a) false 0
    rw [List.length_drop] at this
    show a + _ ≤ _
    omega
  · exact ha
theorem dv_lt (c : UInt8) (h : isD c = true) : (dv c).toNat ≤ 9 := by
  have key : ∀ n : Nat, n < 256 → isD (UInt8.ofNat n) = true → (dv (UInt8.ofNat n)).toNat ≤ 9 := by decide +kernel
  have := of_bytes (p := fun c => isD c = true → (dv c).toNat ≤ 9) key c
  exact this h
/-- no number that is taken is too great -/
theorem num_in (v : UInt64) (c : UInt8) (h : isD c = true) (hv : ¬ ((18446744073709551615 : UInt64) - dv c) / 10 < v) : (10 * v + dv c).toNat = 10 * v.toNat + (dv c).toNat := by
  have h9 := dv_lt c h
  have hs : ((18446744073709551615 : UInt64) - dv c).toNat = 18446744073709551615 - (dv c).toNat := by
    rw [UInt64.toNat_sub_of_le _ _ (UInt64.le_iff_toNat_le.2 (by show (dv c).toNat ≤ 18446744073709551615; omega))]; rfl
  have hd : (((18446744073709551615 : UInt64) - dv c) / 10).toNat = (18446744073709551615 - (dv c).toNat) / 10 := by
    rw [UInt64.toNat_div, hs]; rfl
  have hle : v.toNat ≤ (18446744073709551615 - (dv c).toNat) / 10 := by
    rcases Nat.lt_or_ge ((18446744073709551615 - (dv c).toNat) / 10) v.toNat with q | q
    · exact absurd (UInt64.lt_iff_toNat_lt.2 (by rw [hd]; exact q)) hv
    · exact q
  rw [UInt64.toNat_add, UInt64.toNat_mul, show (10 : UInt64).toNat = 10 from rfl]
  omega
section
variable (s : List UInt8) (hs : s.length ≤ 4194304)
include hs
theorem num_p (a : Nat) (ha : a ≤ s.length) (ok : Bool) : m_pass_pen_number s (a : Int) ok = some ((numT s a ok).1, s, ((numT s a ok).2.1 : Int), (numT s a ok).2.2) := by
  have key : ∀ (j p : Nat) (v : UInt64), p + j = s.length → a ≤ p → whileO (m_pass_pen_number_l0 s (a : Int)) ((p : Int), v) = some ((numS (s.drop p) (decide (a < p)) v).1, s, ((p + (numS (s.drop p) (decide (a < p)) v).2.1 : Nat) : Int), (numS (s.drop p) (decide (a < p)) v).2.2) := by
    intro j
    induction j with
    | zero =>
      intro p v hp hap
      obtain rfl : p = s.length := by omega
      rw [List.drop_length]
      refine whileO_done ?_
      unfold m_pass_pen_number_l0
      dsimp only
      have d1 : decide ((s.length : Int) < (s.length : Int)) = false := decide_eq_false (by omega)
      rw [d1, gif0 _ rfl, Option.bind_some, Bool.false_and, gif0 _ rfl, Option.bind_some, if_neg (by decide)]
      rw [show decide ((a : Int) < (s.length : Int)) = decide (a < s.length) from decide_eq_decide.2 (by omega)]
      rfl
    | succ j ih =>
      intro p v hp hap
      have hp' : p < s.length := by omega
      rw [List.drop_eq_getElem_cons hp']
      have d1 : decide ((p : Int) < (s.length : Int)) = true := decide_eq_true (by omega)
      have d2 : decide ((a : Int) < (p : Int)) = decide (a < p) := decide_eq_decide.2 (by omega)
      have stepD : isD s[p] = true → m_pass_pen_number_l0 s (a : Int) ((p : Int), v) = if ((decide (a < p) && decide (v = 0)) || decide (((18446744073709551615 : UInt64) - dv s[p]) / 10 < v)) = true then some (.inr (0, s, (p : Int), false)) else some (.inl (((p + 1 : Nat) : Int), 10 * v + dv s[p])) := by
        intro hD
        unfold isD at hD
        rw [Bool.and_eq_true] at hD
        unfold m_pass_pen_number_l0
        dsimp only
        rw [d1, gif1 _ rfl, geti_nat hp', Option.bind_some, hD.1, gif1 (c := true && true) _ rfl, Option.bind_some, hD.2, if_pos (by rfl), Option.bind_some, d2, wS p (by omega)]
        rfl
      have stepN : isD s[p] = false → m_pass_pen_number_l0 s (a : Int) ((p : Int), v) = some (.inr (v, s, (p : Int), decide (a < p))) := by
        intro hD
        unfold isD at hD
        unfold m_pass_pen_number_l0
        dsimp only
        rw [d1, gif1 _ rfl, geti_nat hp', Option.bind_some, d2]
        cases h1 : decide ((48 : UInt8) ≤ s[p]) with
        | false =>
          rw [gif0 (c := true && false) _ rfl, Option.bind_some, if_neg (ft2 (a := true && false) rfl)]
          rfl
        | true =>
          rw [gif1 (c := true && true) _ rfl, Option.bind_some]
          rw [h1, Bool.true_and] at hD
          rw [if_neg (ft3 hD)]
          rfl
      cases hD : isD s[p] with
      | false =>
        rw [whileO_done (stepN hD)]
        conv => rhs; unfold numS
        rw [hD]
        rfl
      | true =>
        unfold numS
        rw [if_pos hD]
        by_cases hc : ((decide (a < p) && decide (v = 0)) || decide (((18446744073709551615 : UInt64) - dv s[p]) / 10 < v)) = true
        · rw [whileO_done ((stepD hD).trans (if_pos hc)), if_pos hc]
          rfl
        · rw [whileO_next ((stepD hD).trans (if_neg hc)), if_neg hc, ih (p + 1) _ (by omega) (by omega), show decide (a < p + 1) = true from decide_eq_true (by omega)]
          dsimp only
          rw [show p + 1 + (numS (s.drop (p + 1)) true (10 * v + dv s[p])).2.1 = p + ((numS (s.drop (p + 1)) true (10 * v + dv s[p])).2.1 + 1) from by omega]
  unfold m_pass_pen_number numT
  cases ok with
  | false => rfl
  | true =>
    rw [if_neg (by decide), if_pos rfl, key (s.length - a) a 0 (by omega) (Nat.le_refl _), show decide (a < a) = false from decide_eq_false (by omega)]
theorem num_r (a : Nat) (ha : a ≤ s.length) (ok : Bool) : m_r21_reading_number s (a : Int) (!ok) = some ((numT s a ok).1, s, ((numT s a ok).2.1 : Int), !(numT s a ok).2.2) := by
  have key : ∀ (c1 : UInt8) (j p : Nat) (v : UInt64), p + j = s.length → (v = 0 ↔ dv c1 = 0) → whileO (m_r21_reading_number_l0 s false c1) ((p : Int), v) = some ((numS (s.drop p) true v).1, s, ((p + (numS (s.drop p) true v).2.1 : Nat) : Int), !(numS (s.drop p) true v).2.2) := by
    intro c1 j
    induction j with
    | zero =>
      intro p v hp hz
      obtain rfl : p = s.length := by omega
      rw [List.drop_length]
      refine whileO_done ?_
      unfold m_r21_reading_number_l0
      dsimp only
      rw [if_neg (by omega)]
      rfl
    | succ j ih =>
      intro p v hp hz
      have hp' : p < s.length := by omega
      rw [List.drop_eq_getElem_cons hp']
      have dz : decide (UInt64.ofNat (c1 - 48).toNat = 0) = decide (v = 0) := decide_eq_decide.2 ⟨fun q => hz.2 q, fun q => hz.1 q⟩
      have step : m_r21_reading_number_l0 s false c1 ((p : Int), v) = if isD s[p] = true then (if ((true && decide (v = 0)) || decide (((18446744073709551615 : UInt64) - dv s[p]) / 10 < v)) = true then some (.inr (0, s, (p : Int), true)) else some (.inl (((p + 1 : Nat) : Int), 10 * v + dv s[p]))) else some (.inr (v, s, (p : Int), false)) := by
        unfold m_r21_reading_number_l0
        dsimp only
        rw [if_pos (by omega), geti_nat hp', Option.bind_some, show m_r21_digit s[p] = some (isD s[p]) from rfl, Option.bind_some, dz, Option.bind_some, wS p (by omega), Bool.true_and]
        rfl
      cases hD : isD s[p] with
      | false =>
        rw [whileO_done (step.trans (by rw [hD]; rfl))]
        conv => rhs; unfold numS
        rw [hD]
        rfl
      | true =>
        unfold numS
        rw [if_pos hD]
        rw [if_pos hD] at step
        by_cases hc : ((true && decide (v = 0)) || decide (((18446744073709551615 : UInt64) - dv s[p]) / 10 < v)) = true
        · rw [whileO_done (step.trans (if_pos hc)), if_pos hc]
          rfl
        · have hv0 : ¬ v = 0 := fun q => hc (by rw [decide_eq_true q]; rfl)
          have hvl : ¬ ((18446744073709551615 : UInt64) - dv s[p]) / 10 < v := fun q => hc (by rw [decide_eq_true q, Bool.or_true])
          have hin := num_in v s[p] hD hvl
          rw [whileO_next (step.trans (if_neg hc)), if_neg hc, ih (p + 1) _ (by omega) ⟨fun q => by
            rw [q] at hin
            have e0 : (0 : UInt64).toNat = 0 := rfl
            exact absurd (UInt64.toNat_inj.1 (by omega : v.toNat = (0 : UInt64).toNat)) hv0, fun q => absurd (hz.2 q) hv0⟩]
          dsimp only
          rw [show p + 1 + (numS (s.drop (p + 1)) true (10 * v + dv s[p])).2.1 = p + ((numS (s.drop (p + 1)) true (10 * v + dv s[p])).2.1 + 1) from by omega]
  unfold m_r21_reading_number numT
  cases ok with
  | false => rfl
  | true =>
    rw [if_pos (rfl : true = true)]
    by_cases hlt : a < s.length
    · rw [if_neg (tf1 (a := !true) rfl (decide_eq_false (by omega))), geti_nat hlt, Option.bind_some, show m_r21_digit s[a] = some (isD s[a]) from rfl, Option.bind_some, Option.bind_some, wS a (by omega), List.drop_eq_getElem_cons hlt]
      cases hD : isD s[a] with
      | false =>
        rw [if_pos (by rfl)]
        unfold numS
        rw [hD]
        rfl
      | true =>
        rw [if_neg (by decide), show (!true) = false from rfl]
        have h9 := dv_lt s[a] hD
        have hc : ¬ ((false && decide ((0 : UInt64) = 0)) || decide (((18446744073709551615 : UInt64) - dv s[a]) / 10 < 0)) = true := by
          rw [decide_eq_false (p := ((18446744073709551615 : UInt64) - dv s[a]) / 10 < 0) (fun q => by have := UInt64.lt_iff_toNat_lt.1 q; have e0 : (0 : UInt64).toNat = 0 := rfl; omega)]
          decide
        have e1 : 10 * (0 : UInt64) + dv s[a] = dv s[a] := by simp
        have hk := key s[a] (s.length - (a + 1)) (a + 1) (dv s[a]) (by omega) Iff.rfl
        unfold numS
        rw [if_pos hD, if_neg hc, e1]
        dsimp only
        rw [show a + ((numS (s.drop (a + 1)) true (dv s[a])).2.1 + 1) = a + 1 + (numS (s.drop (a + 1)) true (dv s[a])).2.1 from by omega]
        exact hk
    · rw [if_pos (tf3 (decide_eq_true (by omega))), List.drop_eq_nil_of_le (by omega)]
      rfl
end
end Go.Sx
