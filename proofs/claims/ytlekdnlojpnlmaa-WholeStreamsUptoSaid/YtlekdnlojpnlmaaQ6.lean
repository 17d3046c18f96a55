import Derived.Test.YtlekdnlojpnlmaaQ5
namespace Go.Sx
open Go.RowKit
set_option linter.unusedVariables false
set_option linter.unusedSimpArgs false
/-! ### parameters -/
theorem off32 (x : UInt64) : ((4294967296 : UInt64) ≤ x) ↔ ((4294967295 : UInt64) < x) := by
  rw [UInt64.le_iff_toNat_le, UInt64.lt_iff_toNat_lt, show (4294967296 : UInt64).toNat = 4294967296 from rfl, show (4294967295 : UInt64).toNat = 4294967295 from rfl]; omega
theorem off48 (x : UInt64) : ((281474976710656 : UInt64) ≤ x) ↔ ((281474976710655 : UInt64) < x) := by
  rw [UInt64.le_iff_toNat_le, UInt64.lt_iff_toNat_lt, show (281474976710656 : UInt64).toNat = 281474976710656 from rfl, show (281474976710655 : UInt64).toNat = 281474976710655 from rfl]; omega
variable {α : Type}
theorem pick_or {β : Type} (f : Bool → β) (c d : Bool) : (if c = true then f c else f d) = f (c || d) := by cases c <;> rfl
theorem ifc {c d : Prop} [Decidable c] [Decidable d] {x y z : α} (h : c ↔ d) (e : y = z) : (if c then x else y) = (if d then x else z) := by
  subst e
  by_cases hd : d
  · rw [if_pos hd, if_pos (h.2 hd)]
  · rw [if_neg hd, if_neg fun hc => hd (h.1 hc)]
theorem check_at (k S m q d ky f dp : Int) (lf : UInt32) (off : UInt64) (xof : UInt32) (nd inn : Int) (salt pers : List UInt8) (hk : m_param_sizes k = some (S, m, q)) (hm : m_r02_Most k = some m) (h0 : m ≠ 0) (hq : w64 (Int.tdiv m 4) = q) : m_param_Check k d ky f dp lf off xof nd inn salt pers = m_r02_Check k d ky f dp lf off xof nd inn salt pers := by
  unfold m_param_Check m_r02_Check
  rw [hk, hm]
  simp only [Option.bind_some]
  rw [if_neg h0, if_neg h0, hq]
  have key : ∀ least : Int, (least = 0 ∧ xof ≠ 0 ∨ least = 1 ∧ xof = 0) → m_param_Check_j0 k d ky f dp off xof nd inn salt pers (S, m, q) least = (if ((decide (d < 1)) || (decide (m < d))) = true then
      (some (20 : Int))
    else (if ((decide (ky < 0)) || (decide (m < ky))) = true then
      (some (8 : Int))
    else (if ((decide (f < 0)) || (decide (255 < f))) = true then
      (some (21 : Int))
    else (if (((decide (dp < 0)) || (decide (255 < dp))) || ((decide (dp = 0)) && (decide (xof = 0)))) = true then
      (some (22 : Int))
    else (if (((decide (xof ≠ 0)) && (decide ((4294967295 : UInt64) < off))) || (((decide (xof = 0)) && (decide (k = 2))) && (decide ((281474976710655 : UInt64) < off)))) = true then
      (some (23 : Int))
    else (if ((decide (k = 2)) && (decide ((65535 : UInt32) < xof))) = true then
      (some (24 : Int))
    else (if ((decide (nd < 0)) || (decide (255 < nd))) = true then
      (some (25 : Int))
    else (if ((decide (inn < 0)) || (decide (m < inn))) = true then
      (some (26 : Int))
    else (if q < ((salt.length : Nat) : Int) then
      (some (27 : Int))
    else (if q < ((pers.length : Nat) : Int) then
      (some (28 : Int))
    else (some (0 : Int)))))))))))) := by
    intro least hl
    unfold m_param_Check_j0
    rw [pick_or]
    unfold m_param_Check_j2 m_param_Check_j1
    simp only [m_param_within, Option.bind_some]
    refine ifc (by simp only [Bool.not_eq_true', Bool.and_eq_false_iff, decide_eq_false_iff_not, Bool.or_eq_true, decide_eq_true_eq]; omega) ?_
    refine ifc (by simp only [Bool.not_eq_true', Bool.and_eq_false_iff, decide_eq_false_iff_not, Bool.or_eq_true, decide_eq_true_eq]; omega) ?_
    refine ifc (by simp only [Bool.not_eq_true', Bool.and_eq_false_iff, decide_eq_false_iff_not, Bool.or_eq_true, decide_eq_true_eq]; omega) ?_
    refine ifc (by
      simp only [Bool.not_eq_true', Bool.and_eq_false_iff, decide_eq_false_iff_not, Bool.or_eq_true, decide_eq_true_eq, Bool.and_eq_true]
      rcases hl with ⟨rfl, hx⟩ | ⟨rfl, hx⟩
      · simp only [hx, and_false, or_false]; omega
      · simp only [hx, and_true]; omega) ?_
    refine ifc (by simp only [off32, off48]) ?_
    refine ifc Iff.rfl ?_
    refine ifc (by simp only [Bool.not_eq_true', Bool.and_eq_false_iff, decide_eq_false_iff_not, Bool.or_eq_true, decide_eq_true_eq]; omega) ?_
    refine ifc (by simp only [Bool.not_eq_true', Bool.and_eq_false_iff, decide_eq_false_iff_not, Bool.or_eq_true, decide_eq_true_eq]; omega) ?_
    rfl
  by_cases hx : xof = 0
  · rw [if_neg (by simpa using hx)]
    exact key 1 (.inr ⟨rfl, hx⟩)
  · rw [if_pos hx]
    exact key 0 (.inl ⟨rfl, hx⟩)
theorem check_ok (k d ky f dp : Int) (lf : UInt32) (off : UInt64) (xof : UInt32) (nd inn : Int) (salt pers : List UInt8) : m_param_Check k d ky f dp lf off xof nd inn salt pers = m_r02_Check k d ky f dp lf off xof nd inn salt pers := by
  by_cases k1 : k = 1
  · subst k1
    exact check_at 1 64 64 16 _ _ _ _ _ _ _ _ _ _ _ rfl rfl (by omega) rfl
  · by_cases k2 : k = 2
    · subst k2
      exact check_at 2 32 32 8 _ _ _ _ _ _ _ _ _ _ _ rfl rfl (by omega) rfl
    · unfold m_param_Check m_param_sizes m_r02_Check m_r02_Most
      simp only [k1, k2, if_false, Option.bind_some, if_true]
theorem some_if {c : Prop} [Decidable c] {n : Int} {Q : Int → Prop} {e : Option Int} (h0 : n ≠ 0) (h : ¬ c → ∃ r, e = some r ∧ (r = 0 → Q r)) : ∃ r, (if c then some n else e) = some r ∧ (r = 0 → Q r) := by
  by_cases hc : c
  · rw [if_pos hc]; exact ⟨n, rfl, fun h => absurd h h0⟩
  · rw [if_neg hc]; exact h hc
/-- a check answers; and what it lets pass -/
theorem check_some (k d ky f dp : Int) (lf : UInt32) (off : UInt64) (xof : UInt32) (nd inn : Int) (salt pers : List UInt8) : ∃ r, m_r02_Check k d ky f dp lf off xof nd inn salt pers = some r ∧ (r = 0 → (k = 1 ∧ 1 ≤ d ∧ d ≤ 64 ∧ ky ≤ 64 ∧ salt.length ≤ 16 ∧ pers.length ≤ 16) ∨ (k = 2 ∧ 1 ≤ d ∧ d ≤ 32 ∧ ky ≤ 32 ∧ salt.length ≤ 8 ∧ pers.length ≤ 8)) := by
  have q1 : w64 (Int.tdiv 64 4) = 16 := by rfl
  have q2 : w64 (Int.tdiv 32 4) = 8 := by rfl
  have key : ∀ m q : Int, w64 (Int.tdiv m 4) = q → m_r02_Most k = some m → m ≠ 0 → ∃ r, m_r02_Check k d ky f dp lf off xof nd inn salt pers = some r ∧ (r = 0 → (1 ≤ d ∧ d ≤ m ∧ ky ≤ m ∧ (salt.length : Int) ≤ q ∧ (pers.length : Int) ≤ q)) := by
    intro m q hq hm h0
    unfold m_r02_Check
    rw [hm]
    simp only [Option.bind_some]
    rw [if_neg h0, hq]
    refine some_if (Q := fun _ => _) (by omega) fun h1 => some_if (Q := fun _ => _) (by omega) fun h2 => some_if (Q := fun _ => _) (by omega) fun h3 => some_if (Q := fun _ => _) (by omega) fun h4 => some_if (Q := fun _ => _) (by omega) fun h5 => some_if (Q := fun _ => _) (by omega) fun h6 => some_if (Q := fun _ => _) (by omega) fun h7 => some_if (Q := fun _ => _) (by omega) fun h8 => some_if (Q := fun _ => _) (by omega) fun h9 => some_if (Q := fun _ => _) (by omega) fun h10 => ⟨0, rfl, fun _ => ?_⟩
    simp only [Bool.or_eq_true, decide_eq_true_eq] at h1 h2
    omega
  by_cases k1 : k = 1
  · obtain ⟨r, h1, h2⟩ := key 64 16 q1 (by rw [k1]; rfl) (by omega)
    exact ⟨r, h1, fun h => .inl ⟨k1, by have := h2 h; omega⟩⟩
  · by_cases k2 : k = 2
    · obtain ⟨r, h1, h2⟩ := key 32 8 q2 (by rw [k2]; rfl) (by omega)
      exact ⟨r, h1, fun h => .inr ⟨k2, by have := h2 h; omega⟩⟩
    · refine ⟨1, ?_, fun h => by omega⟩
      unfold m_r02_Check m_r02_Most
      simp only [k1, k2, if_false, Option.bind_some, if_true]
end Go.Sx

