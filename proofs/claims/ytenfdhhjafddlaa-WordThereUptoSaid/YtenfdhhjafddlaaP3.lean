import Derived.Test.YtenfdhhjafddlaaP2
namespace Go.Sx
set_option linter.unusedVariables false
set_option linter.unusedSimpArgs false
/-! ### digits -/
def dgN (n : Nat) : Nat := if 48 ≤ n ∧ n ≤ 57 then n - 48 else if 97 ≤ n ∧ n ≤ 102 then n - 87 else if 65 ≤ n ∧ n ≤ 70 then n - 55 else 16
def dg (c : UInt8) : Nat := dgN c.toNat
theorem of_bytes {p : UInt8 → Prop} (h : ∀ n : Nat, n < 256 → p (UInt8.ofNat n)) (c : UInt8) : p c := by
  have := h c.toNat c.toNat_lt
  simpa using this
theorem wdigit (c : UInt8) : m_word_digit c = some (if dg c < 16 then (UInt8.ofNat (dg c), true) else (0, false)) := by
  refine of_bytes (p := fun c => m_word_digit c = some (if dg c < 16 then (UInt8.ofNat (dg c), true) else (0, false))) ?_ c
  unfold m_word_digit
  decide +kernel
theorem rdigit (c : UInt8) : m_r01_Digit c = some (if dg c < 16 then (dg c : Int) else -1) := by
  refine of_bytes (p := fun c => m_r01_Digit c = some (if dg c < 16 then (dg c : Int) else -1)) ?_ c
  unfold m_r01_Digit
  decide +kernel
theorem dg_le (c : UInt8) : dg c ≤ 16 := by
  unfold dg dgN
  split
  · omega
  split
  · omega
  split <;> omega
def dgs (s : List UInt8) (j : Nat) : Nat := dg (s.getD j 0)
theorem dgs_at (s : List UInt8) (j : Nat) (h : j < s.length) : dgs s j = dg s[j] := by unfold dgs; rw [getD_at _ _ _ h]
/-- the bytes of the first i digits -/
def hx (s : List UInt8) (i : Nat) : List UInt8 := (List.range ((i + 1) / 2)).map fun j => UInt8.ofNat (16 * dgs s (2 * j) + if 2 * j + 1 < i then dgs s (2 * j + 1) else 0)
theorem hx_len (s : List UInt8) (i : Nat) : (hx s i).length = (i + 1) / 2 := by simp [hx]
theorem hx_even (s : List UInt8) (j : Nat) : hx s (2 * j) ++ [UInt8.ofNat (16 * dgs s (2 * j))] = hx s (2 * j + 1) := by
  unfold hx
  rw [show (2 * j + 1 + 1) / 2 = j + 1 from by omega, show (2 * j + 1) / 2 = j from by omega, List.range_succ, List.map_append]
  congr 1
  · apply List.map_congr_left
    intro k hk
    rw [List.mem_range] at hk
    rw [if_pos (by omega), if_pos (by omega)]
  · simp
theorem hx_odd (s : List UInt8) (j : Nat) (h : 16 * dgs s (2 * j) < 256) : (hx s (2 * j + 1)).set j (UInt8.ofNat (16 * dgs s (2 * j) + dgs s (2 * j + 1))) = hx s (2 * j + 2) := by
  rw [← hx_even]
  have hl : (hx s (2 * j)).length = j := by rw [hx_len]; omega
  rw [List.set_append_right _ _ (by omega), hl]
  simp only [Nat.sub_self, List.set_cons_zero]
  unfold hx
  rw [show (2 * j + 2 + 1) / 2 = j + 1 from by omega, show (2 * j + 1) / 2 = j from by omega, List.range_succ, List.map_append]
  congr 1
  · apply List.map_congr_left
    intro k hk
    rw [List.mem_range] at hk
    rw [if_pos (by omega), if_pos (by omega)]
  · simp
theorem hx_step (s : List UInt8) (j : Nat) : hx s (2 * j) ++ [UInt8.ofNat (16 * dgs s (2 * j) + dgs s (2 * j + 1))] = hx s (2 * j + 2) := by
  unfold hx
  rw [show (2 * j + 2 + 1) / 2 = j + 1 from by omega, show (2 * j + 1) / 2 = j from by omega, List.range_succ, List.map_append]
  congr 1
  · apply List.map_congr_left
    intro k hk
    rw [List.mem_range] at hk
    rw [if_pos (by omega), if_pos (by omega)]
  · simp
def bad (s : List UInt8) : Nat := s.findIdx (fun c => decide (16 ≤ dg c))
theorem bad_le (s : List UInt8) : bad s ≤ s.length := List.findIdx_le_length
theorem bad_ok (s : List UInt8) (i : Nat) (h : i < bad s) (hi : i < s.length) : dg s[i] < 16 := by
  have := List.not_of_lt_findIdx h
  simp only [decide_eq_false_iff_not] at this
  omega
theorem bad_at (s : List UInt8) (h : bad s < s.length) : dg s[bad s] = 16 := by
  have := List.findIdx_getElem (w := h)
  simp only [decide_eq_true_eq] at this
  have := dg_le s[bad s]
  simp only [bad] at *
  omega
/-- what UnHex gives -/
def unhex (s : List UInt8) : List UInt8 × Int × Int := if bad s < s.length then ([], (bad s : Int), 4) else if s.length % 2 = 1 then ([], (s.length : Int), 4) else (hx s s.length, 0, 0)
theorem tmod2 (n : Nat) : Int.tmod (n : Int) 2 = ((n % 2 : Nat) : Int) := by rw [tmod_eq _ _ (by omega), if_pos (by omega)]; omega
theorem tmod4 (n : Nat) : Int.tmod (n : Int) 4 = ((n % 4 : Nat) : Int) := by rw [tmod_eq _ _ (by omega), if_pos (by omega)]; omega
theorem tdiv2 (n : Nat) : Int.tdiv (n : Int) 2 = ((n / 2 : Nat) : Int) := by rw [Int.tdiv_eq_ediv_of_nonneg (by omega)]; omega
theorem or_low (a b : Nat) (ha : a < 16) (hb : b < 16) : UInt8.ofNat (16 * a) ||| UInt8.ofNat b = UInt8.ofNat (16 * a + b) := by
  have : ∀ a : Nat, a < 16 → ∀ b : Nat, b < 16 → UInt8.ofNat (16 * a) ||| UInt8.ofNat b = UInt8.ofNat (16 * a + b) := by decide +kernel
  exact this a ha b hb
theorem shl_4 (a : Nat) (ha : a < 16) : shl8 (UInt8.ofNat a) ((4 : UInt64).toNat) = UInt8.ofNat (16 * a) := by
  have : ∀ a : Nat, a < 16 → shl8 (UInt8.ofNat a) ((4 : UInt64).toNat) = UInt8.ofNat (16 * a) := by decide +kernel
  exact this a ha
theorem wunhex (s : List UInt8) (hs : s.length ≤ 4194304) : m_word_UnHex s = some (unhex s) := by
  unfold m_word_UnHex
  have hbl := bad_le s
  refine whileO_eq (fun i x => x = (hx s i, (i : Int)) ∧ i ≤ bad s) _ (bad s) _ ⟨by simp [hx], by omega⟩ ?_
  rintro i x ⟨rfl, hi⟩
  unfold m_word_UnHex_l0
  simp only []
  by_cases hlt : i < s.length
  · rw [if_pos (by omega), geti_nat hlt]
    simp only [Option.bind_some, wdigit]
    have e3 : w64 ((i : Int) + 1) = ((i + 1 : Nat) : Int) := by rw [w64_id (by omega)]; omega
    by_cases hb : i < bad s
    · left
      refine ⟨hb, (hx s (i + 1), ((i + 1 : Nat) : Int)), ?_, rfl, by omega⟩
      have hd := bad_ok s i hb hlt
      have hdi := dgs_at s i hlt
      rw [if_pos hd]
      simp only [Bool.not_true, Bool.false_eq_true, if_false, tmod2, tdiv2]
      by_cases h2 : i % 2 = 0
      · obtain ⟨j, rfl⟩ : ∃ j, i = 2 * j := ⟨i / 2, by omega⟩
        rw [if_pos (by omega), shl_4 _ hd, app_ok (by rw [hx_len]; simp; omega)]
        simp only [Option.bind_some, m_word_UnHex_j1]
        rw [e3, ← hdi, hx_even]
      · obtain ⟨j, rfl⟩ : ∃ j, i = 2 * j + 1 := ⟨i / 2, by omega⟩
        rw [if_neg (by omega), w64_id (by omega)]
        rw [show (2 * j + 1) / 2 = j from by omega]
        have hl : j < (hx s (2 * j + 1)).length := by rw [hx_len]; omega
        rw [geti_nat hl]
        simp only [Option.bind_some, m_word_UnHex_j1, Int.toNat_natCast]
        have hd0 := bad_ok s (2 * j) (by omega) (by omega)
        have hdi0 := dgs_at s (2 * j) (by omega)
        have he : (hx s (2 * j + 1))[j] = UInt8.ofNat (16 * dgs s (2 * j)) := by
          simp [hx]
        rw [he, or_low _ _ (by omega) hd, ← hdi, e3, hx_odd _ _ (by omega)]
    · right
      obtain rfl : i = bad s := by omega
      have hd := bad_at s hlt
      rw [if_neg (show ¬ dg s[bad s] < 16 from by omega)]
      simp only [Bool.not_false, if_true, Option.map_some]
      rw [unhex, if_pos hlt]
  · right
    have hi' : i = s.length := by omega
    subst hi'
    rw [if_neg (by omega), tmod2]
    rw [unhex, if_neg (show ¬ bad s < s.length from by omega)]
    by_cases h2 : s.length % 2 = 1
    · rw [if_pos (show ((s.length % 2 : Nat) : Int) = 1 from by omega), if_pos h2]; rfl
    · rw [if_neg (show ¬ ((s.length % 2 : Nat) : Int) = 1 from by omega), if_neg h2]; rfl
theorem runhex (s : List UInt8) (hs : s.length ≤ 4194304) : m_r01_UnHex s = some (unhex s) := by
  unfold m_r01_UnHex
  have hbl := bad_le s
  refine whileO_eq (fun i x => x = (i : Int) ∧ i ≤ bad s) _ (bad s) _ ⟨rfl, by omega⟩ ?_
  rintro i x ⟨rfl, hi⟩
  unfold m_r01_UnHex_l1
  simp only []
  by_cases hlt : i < s.length
  · rw [if_pos (by omega), geti_nat hlt]
    simp only [Option.bind_some, rdigit]
    by_cases hb : i < bad s
    · left
      have hd := bad_ok s i hb hlt
      refine ⟨hb, ((i + 1 : Nat) : Int), ?_, rfl, by omega⟩
      rw [if_pos hd, if_neg (by omega), w64_id (by omega)]
      congr 2
    · right
      obtain rfl : i = bad s := by omega
      have hd := bad_at s hlt
      rw [if_neg (show ¬ dg s[bad s] < 16 from by omega), if_pos (by omega)]
      rw [unhex, if_pos hlt]
      rfl
  · right
    have hi' : i = s.length := by omega
    subst hi'
    rw [if_neg (by omega), tmod2]
    rw [unhex, if_neg (show ¬ bad s < s.length from by omega)]
    by_cases h2 : s.length % 2 = 1
    · rw [if_pos (show ((s.length % 2 : Nat) : Int) = 1 from by omega), if_pos h2]; rfl
    · rw [if_neg (show ¬ ((s.length % 2 : Nat) : Int) = 1 from by omega), if_neg h2]
      have key : whileO (m_r01_UnHex_l2 s) ([], 0) = some (hx s s.length, 0, 0) := by
        refine whileO_eq (fun j x => x = (hx s (2 * j), ((2 * j : Nat) : Int)) ∧ 2 * j ≤ s.length) _ (s.length / 2) _ ⟨by simp [hx], by omega⟩ ?_
        rintro j x ⟨rfl, hj⟩
        unfold m_r01_UnHex_l2
        simp only []
        have e1 : w64 (((2 * j : Nat) : Int) + 1) = ((2 * j + 1 : Nat) : Int) := by rw [w64_id (by omega)]; omega
        have e2 : w64 (((2 * j : Nat) : Int) + 2) = ((2 * (j + 1) : Nat) : Int) := by rw [w64_id (by omega)]; omega
        rw [e1]
        by_cases hlt2 : 2 * j + 1 < s.length
        · left
          refine ⟨by omega, _, ?_, rfl, by omega⟩
          rw [if_pos (by omega), geti_nat (by omega : 2 * j < s.length), geti_nat hlt2]
          simp only [Option.bind_some, rdigit]
          have hd0 := bad_ok s (2 * j) (by omega) (by omega)
          have hd1 := bad_ok s (2 * j + 1) (by omega) (by omega)
          rw [if_pos hd0, if_pos hd1]
          rw [app_ok (by rw [hx_len]; simp; omega), e2]
          simp only [Option.bind_some]
          congr 3
          have q1 : w64 (16 * (dg s[2 * j] : Int)) = ((16 * dg s[2 * j] : Nat) : Int) := by rw [w64_id (by omega)]; omega
          have q2 : w64 (((16 * dg s[2 * j] : Nat) : Int) + (dg s[2 * j + 1] : Int)) = ((16 * dg s[2 * j] + dg s[2 * j + 1] : Nat) : Int) := by rw [w64_id (by omega)]; omega
          rw [q1, q2, show 2 * (j + 1) = 2 * j + 2 from by omega, ← hx_step, dgs_at _ _ (by omega : 2 * j < s.length), dgs_at _ _ hlt2]
          congr 2
          apply UInt8.eq_of_toBitVec_eq; apply BitVec.eq_of_toNat_eq
          simp [UInt8.ofInt]
          omega
        · right
          rw [if_neg (by omega)]
          have : 2 * j = s.length := by omega
          rw [this]; rfl
      rw [key]; rfl
theorem rhex (b : List UInt8) (hb : b.length ≤ 4194304) : m_r01_Hex b = some (b.flatMap fun c => [(([48, 49, 50, 51, 52, 53, 54, 55, 56, 57, 97, 98, 99, 100, 101, 102] : List UInt8).getD (c.toNat / 16) 0), (([48, 49, 50, 51, 52, 53, 54, 55, 56, 57, 97, 98, 99, 100, 101, 102] : List UInt8).getD (c.toNat % 16) 0)]) := by
  unfold m_r01_Hex
  refine whileO_eq (fun i s => s = ((b.take i).flatMap (fun c => [(([48, 49, 50, 51, 52, 53, 54, 55, 56, 57, 97, 98, 99, 100, 101, 102] : List UInt8).getD (c.toNat / 16) 0), (([48, 49, 50, 51, 52, 53, 54, 55, 56, 57, 97, 98, 99, 100, 101, 102] : List UInt8).getD (c.toNat % 16) 0)]), (i : Int)) ∧ i ≤ b.length) _ b.length _ ⟨by simp, by omega⟩ ?_
  rintro i s ⟨rfl, hi⟩
  unfold m_r01_Hex_l0
  by_cases hlt : i < b.length
  · left
    refine ⟨hlt, _, ?_, rfl, by omega⟩
    have e3 : w64 ((i : Int) + 1) = ((i + 1 : Nat) : Int) := by rw [w64_id (by omega)]; omega
    simp only []
    rw [if_pos (by omega), geti_nat hlt, e3]
    simp only [Option.bind_some]
    have hc := (b[i]).toNat_lt
    have q1 : (b[i] / 16).toNat = (b[i]).toNat / 16 := by simp
    have q2 : (b[i] % 16).toNat = (b[i]).toNat % 16 := by simp
    rw [q1, q2]
    rw [geti_nat (by simp; omega), geti_nat (by simp; omega)]
    simp only [Option.bind_some]
    have hl : ((b.take i).flatMap (fun c => [(([48, 49, 50, 51, 52, 53, 54, 55, 56, 57, 97, 98, 99, 100, 101, 102] : List UInt8).getD (c.toNat / 16) 0), (([48, 49, 50, 51, 52, 53, 54, 55, 56, 57, 97, 98, 99, 100, 101, 102] : List UInt8).getD (c.toNat % 16) 0)])).length = 2 * i := by
      rw [flen 2 _ (fun c => rfl), List.length_take, Nat.min_eq_left hi]
    rw [app_ok (by rw [hl]; simp; omega)]
    simp only [Option.bind_some]
    congr 3
    rw [List.take_succ_eq_append_getElem hlt, List.flatMap_append]
    simp only [List.flatMap_cons, List.flatMap_nil, List.append_nil]
    congr 1
    rw [getD_at _ _ _ (by simp; omega), getD_at _ _ _ (by simp; omega)]
  · right
    obtain rfl : i = b.length := by omega
    simp
theorem hx_le (s : List UInt8) : (unhex s).1.length ≤ s.length := by
  unfold unhex
  split
  · simp
  split
  · simp
  · simp only [hx_len]; omega
theorem p_l01_WordHex (b : List UInt8) (hb : b.length ≤ 1048576) (s : List UInt8) (hs : s.length ≤ 1048576) : m_l01_WordHex b s = some true := by
  unfold m_l01_WordHex
  rw [hexcase b (by omega), wunhex s (by omega), runhex s (by omega), rhex b (by omega)]
  simp only [Option.bind_some, if_true]
  rw [same_ok _ _ (by have := hx_le s; omega)]
  simp
end Go.Sx
