import Derived.Test.YtapbicobghgmlaaGreatD5
namespace Go.Sx
open Go.RowKit
set_option linter.unusedVariables false
set_option linter.unusedSimpArgs false
/-! ### a division of two words by one: it tells something -/
noncomputable def lenB (i : Nat) : Bool := match m_bits_Len64_j2 (UInt64.ofNat i) 0 with
  | some c => decide (1 ≤ c ∧ c ≤ 8 ∧ 2 ^ (c.toNat - 1) ≤ i ∧ i < 2 ^ c.toNat)
  | none => false
theorem lenAll : (List.range 256).all (fun i => i == 0 || lenB i) = true := by kernel_rfl
theorem lenTab (n : UInt64) (h1 : 0 < n.toNat) (h2 : n.toNat < 256) : ∃ c : Nat, 1 ≤ c ∧ c ≤ 8 ∧ 2 ^ (c - 1) ≤ n.toNat ∧ n.toNat < 2 ^ c ∧ m_bits_Len64_j2 n 0 = some (c : Int) := by
  have h := List.all_eq_true.1 lenAll n.toNat (List.mem_range.2 h2)
  rw [Bool.or_eq_true, beq_iff_eq] at h
  have h := h.resolve_left (by omega)
  unfold lenB at h
  rw [UInt64.ofNat_toNat] at h
  split at h
  · rename_i c hc
    obtain ⟨q1, q2, q3, q4⟩ := of_decide_eq_true h
    refine ⟨c.toNat, by omega, by omega, q3, q4, ?_⟩
    rw [hc]
    congr 1
    omega
  · cases h
theorem lenOk (n : UInt64) (h1 : 0 < n.toNat) (h2 : n.toNat < 256) : ∃ c : Nat, 1 ≤ c ∧ c ≤ 8 ∧ 2 ^ (c - 1) ≤ n.toNat ∧ n.toNat < 2 ^ c ∧ m_bits_LeadingZeros64 n = some ((64 - c : Nat) : Int) := by
  obtain ⟨c, q2, q3, q4, q5, q6⟩ := lenTab n h1 h2
  refine ⟨c, q2, q3, q4, q5, ?_⟩
  have lt : ∀ b : UInt64, 256 ≤ b.toNat → ¬ b ≤ n := fun b hb h => by
    have := UInt64.le_iff_toNat_le.1 h
    omega
  unfold m_bits_LeadingZeros64 m_bits_Len64 m_bits_Len64_j0 m_bits_Len64_j1
  rw [if_neg (lt _ (by decide)), if_neg (lt _ (by decide)), if_neg (lt _ (by decide)), q6, Option.bind_some, w64_id (by omega)]
  congr 1
  omega
theorem shl_nat (x : UInt64) (s : Nat) (h : x.toNat * 2 ^ s < 18446744073709551616) : (shl64 x s).toNat = x.toNat * 2 ^ s := by
  show (x.toBitVec <<< s).toNat = _
  rw [BitVec.toNat_shiftLeft, Nat.shiftLeft_eq]
  exact Nat.mod_eq_of_lt h
theorem shr_nat (x : UInt64) (s : Nat) : (shr64 x s).toNat = x.toNat / 2 ^ s := by
  show (x.toBitVec >>> s).toNat = _
  rw [BitVec.toNat_ushiftRight, Nat.shiftRight_eq_div_pow]
  rfl
section
variable (hi lo y : UInt64) (r : Int) (hy : 0 < (shr64 (shl64 y ((UInt64.ofInt r).toNat)) ((32 : UInt64).toNat)).toNat) (hy2 : (shr64 (shl64 y ((UInt64.ofInt r).toNat)) ((32 : UInt64).toNat)).toNat < 4294967296)
include hy in
theorem yne : shr64 (shl64 y ((UInt64.ofInt r).toNat)) ((32 : UInt64).toNat) ≠ 0 := by
  intro e; rw [e] at hy; exact absurd hy (by decide)
include hy hy2
theorem dvl1 (q1 : UInt64) : ∀ (k : Nat) (rhat q : UInt64), 4294967296 ≤ rhat.toNat + k → rhat.toNat < 4294967296 → ∃ x, whileO (m_bits_Div64_l1 hi lo y r q1) (rhat, q) = some x := by
  intro k
  induction k with
  | zero => intro rhat q h1 h2; omega
  | succ k ih =>
    intro rhat q h1 h2
    have hs : (rhat + shr64 (shl64 y ((UInt64.ofInt r).toNat)) ((32 : UInt64).toNat)).toNat = rhat.toNat + (shr64 (shl64 y ((UInt64.ofInt r).toNat)) ((32 : UInt64).toNat)).toNat := by
      rw [UInt64.toNat_add]; omega
    by_cases hc : ((decide ((4294967296 : UInt64) ≤ q)) || (decide ((((4294967296 : UInt64) * rhat) + ((shl64 lo ((UInt64.ofInt r).toNat)) &&& 4294967295)) < (q * ((shl64 y ((UInt64.ofInt r).toNat)) &&& 4294967295))))) = true
    · by_cases hd : (4294967296 : UInt64) ≤ rhat + shr64 (shl64 y ((UInt64.ofInt r).toNat)) ((32 : UInt64).toNat)
      · refine ⟨_, whileO_done (r := ?_) ?_⟩
        rotate_left
        · unfold m_bits_Div64_l1
          simp only []
          rw [if_pos hc, if_pos hd]
          rfl
      · have hlt : ¬ 4294967296 ≤ (rhat + shr64 (shl64 y ((UInt64.ofInt r).toNat)) ((32 : UInt64).toNat)).toNat := fun h => hd (UInt64.le_iff_toNat_le.2 h)
        obtain ⟨x, hx⟩ := ih (rhat + shr64 (shl64 y ((UInt64.ofInt r).toNat)) ((32 : UInt64).toNat)) (q - 1) (by omega) (by omega)
        refine ⟨x, ?_⟩
        rw [whileO_next (s' := (rhat + shr64 (shl64 y ((UInt64.ofInt r).toNat)) ((32 : UInt64).toNat), q - 1)) (by
          unfold m_bits_Div64_l1
          simp only []
          rw [if_pos hc, if_neg hd])]
        exact hx
    · refine ⟨_, whileO_done (r := ?_) ?_⟩
      rotate_left
      · unfold m_bits_Div64_l1
        simp only []
        rw [if_neg hc]
        rfl
theorem dvj2 (q1 : UInt64) : ∃ x, m_bits_Div64_j2 hi lo y r q1 = some x := by
  unfold m_bits_Div64_j2
  rw [need_ok (yne y r hy), Option.bind_some]
  generalize hY : shr64 (shl64 y ((UInt64.ofInt r).toNat)) ((32 : UInt64).toNat) = Y
  generalize ((((shl64 hi ((UInt64.ofInt r).toNat)) ||| (shr64 lo (((64 : UInt64) - (UInt64.ofInt r)).toNat))) * 4294967296) + (shr64 (shl64 lo ((UInt64.ofInt r).toNat)) ((32 : UInt64).toNat))) - (q1 * (shl64 y ((UInt64.ofInt r).toNat))) = X
  rw [hY] at hy hy2
  have hX : (X - X / Y * Y).toNat < 4294967296 := by
    have e1 : (X / Y * Y).toNat = X.toNat / Y.toNat * Y.toNat := by
      rw [UInt64.toNat_mul, UInt64.toNat_div]
      exact Nat.mod_eq_of_lt (Nat.lt_of_le_of_lt (Nat.div_mul_le_self _ _) X.toNat_lt)
    rw [UInt64.toNat_sub_of_le _ _ (UInt64.le_iff_toNat_le.2 (by rw [e1]; exact Nat.div_mul_le_self _ _)), e1]
    have h1 := Nat.mod_lt X.toNat hy
    have h2 := Nat.div_add_mod X.toNat Y.toNat
    rw [Nat.mul_comm] at h2
    omega
  subst hY
  exact dvl1 hi lo y r hy hy2 q1 4294967296 _ _ (by omega) hX
theorem dvl0 : ∀ (k : Nat) (q rhat : UInt64), 4294967296 ≤ rhat.toNat + k → rhat.toNat < 4294967296 → ∃ x, whileO (m_bits_Div64_l0 hi lo y r) (q, rhat) = some x := by
  intro k
  induction k with
  | zero => intro q rhat h1 h2; omega
  | succ k ih =>
    intro q rhat h1 h2
    have hs : (rhat + shr64 (shl64 y ((UInt64.ofInt r).toNat)) ((32 : UInt64).toNat)).toNat = rhat.toNat + (shr64 (shl64 y ((UInt64.ofInt r).toNat)) ((32 : UInt64).toNat)).toNat := by
      rw [UInt64.toNat_add]; omega
    by_cases hc : ((decide ((4294967296 : UInt64) ≤ q)) || (decide ((((4294967296 : UInt64) * rhat) + (shr64 (shl64 lo ((UInt64.ofInt r).toNat)) ((32 : UInt64).toNat))) < (q * ((shl64 y ((UInt64.ofInt r).toNat)) &&& 4294967295))))) = true
    · by_cases hd : (4294967296 : UInt64) ≤ rhat + shr64 (shl64 y ((UInt64.ofInt r).toNat)) ((32 : UInt64).toNat)
      · obtain ⟨x, hx⟩ := dvj2 hi lo y r hy hy2 (q - 1)
        refine ⟨x, whileO_done ?_⟩
        unfold m_bits_Div64_l0
        simp only []
        rw [if_pos hc, if_pos hd]
        unfold m_bits_Div64_j3
        rw [hx]
        rfl
      · have hlt : ¬ 4294967296 ≤ (rhat + shr64 (shl64 y ((UInt64.ofInt r).toNat)) ((32 : UInt64).toNat)).toNat := fun h => hd (UInt64.le_iff_toNat_le.2 h)
        obtain ⟨x, hx⟩ := ih (q - 1) (rhat + shr64 (shl64 y ((UInt64.ofInt r).toNat)) ((32 : UInt64).toNat)) (by omega) (by omega)
        refine ⟨x, ?_⟩
        rw [whileO_next (s' := (q - 1, rhat + shr64 (shl64 y ((UInt64.ofInt r).toNat)) ((32 : UInt64).toNat))) (by
          unfold m_bits_Div64_l0
          simp only []
          rw [if_pos hc, if_neg hd])]
        exact hx
    · obtain ⟨x, hx⟩ := dvj2 hi lo y r hy hy2 q
      refine ⟨x, whileO_done ?_⟩
      unfold m_bits_Div64_l0
      simp only []
      rw [if_neg hc]
      unfold m_bits_Div64_j3
      rw [hx]
      rfl
end
theorem divOk (n : UInt64) (h1 : 0 < n.toNat) (h2 : n.toNat < 256) : ∃ x, m_bits_Div64 (1 % n) 0 n = some x := by
  have e1 : (1 : UInt64).toNat = 1 := rfl
  have hn0 : ¬ n = 0 := by intro e; rw [e] at h1; exact absurd h1 (by decide)
  have hm : (1 % n).toNat < n.toNat := by rw [UInt64.toNat_mod, e1]; exact Nat.mod_lt _ h1
  unfold m_bits_Div64 m_bits_Div64_j0
  rw [if_neg hn0, if_neg (by intro h; have := UInt64.le_iff_toNat_le.1 h; omega)]
  unfold m_bits_Div64_j1
  by_cases h0 : 1 % n = 0
  · rw [if_pos h0, need_ok hn0, Option.bind_some, Option.bind_some]; exact ⟨_, rfl⟩
  rw [if_neg h0]
  obtain ⟨c, q1, q2, q3, q4, q5⟩ := lenOk n h1 h2
  have hr : (UInt64.ofInt ((64 - c : Nat) : Int)).toNat = 64 - c := by
    rw [u64_nat, UInt64.toNat_ofNat_of_lt' (by show 64 - c < 18446744073709551616; omega)]
  have hp : 2 ^ c * 2 ^ (64 - c) = 18446744073709551616 := by
    rw [← Nat.pow_add, show c + (64 - c) = 64 from by omega]
  have hp1 : 2 ^ (c - 1) * 2 ^ (64 - c) = 9223372036854775808 := by
    rw [← Nat.pow_add, show c - 1 + (64 - c) = 63 from by omega]
  have hpos : 0 < 2 ^ (64 - c) := Nat.pow_pos (by omega)
  have hlt : n.toNat * 2 ^ (64 - c) < 18446744073709551616 := by
    rw [← hp]; exact (Nat.mul_lt_mul_right hpos).2 q4
  have hge : 9223372036854775808 ≤ n.toNat * 2 ^ (64 - c) := by
    rw [← hp1]; exact Nat.mul_le_mul_right _ q3
  have hY : (shr64 (shl64 n ((UInt64.ofInt ((64 - c : Nat) : Int)).toNat)) ((32 : UInt64).toNat)).toNat = n.toNat * 2 ^ (64 - c) / 4294967296 := by
    rw [shr_nat, hr, shl_nat _ _ hlt]
    rfl
  have hy : 0 < (shr64 (shl64 n ((UInt64.ofInt ((64 - c : Nat) : Int)).toNat)) ((32 : UInt64).toNat)).toNat := by rw [hY]; omega
  have hy2 : (shr64 (shl64 n ((UInt64.ofInt ((64 - c : Nat) : Int)).toNat)) ((32 : UInt64).toNat)).toNat < 4294967296 := by rw [hY]; omega
  rw [q5, Option.bind_some, need_ok (yne n _ hy), Option.bind_some]
  refine dvl0 (1 % n) 0 n _ hy hy2 4294967296 _ _ (by omega) ?_
  generalize hX : shl64 (1 % n) ((UInt64.ofInt ((64 - c : Nat) : Int)).toNat) ||| shr64 0 (((64 : UInt64) - (UInt64.ofInt ((64 - c : Nat) : Int))).toNat) = X
  generalize shr64 (shl64 n ((UInt64.ofInt ((64 - c : Nat) : Int)).toNat)) ((32 : UInt64).toNat) = Y at hy hy2
  have e2 : (X / Y * Y).toNat = X.toNat / Y.toNat * Y.toNat := by
    rw [UInt64.toNat_mul, UInt64.toNat_div]
    exact Nat.mod_eq_of_lt (Nat.lt_of_le_of_lt (Nat.div_mul_le_self _ _) X.toNat_lt)
  rw [UInt64.toNat_sub_of_le _ _ (UInt64.le_iff_toNat_le.2 (by rw [e2]; exact Nat.div_mul_le_self _ _)), e2]
  have h3 := Nat.mod_lt X.toNat hy
  have h4 := Nat.div_add_mod X.toNat Y.toNat
  rw [Nat.mul_comm] at h4
  omega
end Go.Sx

