import Derived.Test.YtenfdhhjafddlaaP4
namespace Go.Sx
set_option linter.unusedVariables false
set_option linter.unusedSimpArgs false
/-! ### UnBase64 -/
def lb (s : List UInt8) (k : Nat) : Nat := lt (s.getD (k / 6) 0) / 2 ^ (5 - k % 6) % 2
theorem lb_lt (s : List UInt8) (k : Nat) : lb s k < 2 := Nat.mod_lt _ (by omega)
theorem lb_out (s : List UInt8) (k : Nat) (h : 6 * s.length ≤ k) : lb s k = 0 := by
  unfold lb
  rw [getD_out _ _ _ (by omega), show lt 0 = 64 from by decide]
  have : k % 6 = 0 ∨ k % 6 = 1 ∨ k % 6 = 2 ∨ k % 6 = 3 ∨ k % 6 = 4 ∨ k % 6 = 5 := by omega
  rcases this with h | h | h | h | h | h <;> rw [h]
theorem lb_wv (s : List UInt8) (i : Nat) (hi : i < s.length) (h : lt s[i] < 64) : wv (lb s) (6 * i) 6 = lt s[i] := by
  rw [wv_num (lb s) (6 * i) 6 (lt s[i])]
  · exact Nat.mod_eq_of_lt (by omega)
  · intro j hj
    unfold lb
    rw [show (6 * i + j) / 6 = i from by omega, show (6 * i + j) % 6 = j from by omega, getD_at _ _ _ hi]
def decN (f : Nat → Nat) (n : Nat) : List UInt8 := (List.range n).map fun m => UInt8.ofNat (wv f (8 * m) 8)
theorem decN_len (f : Nat → Nat) (n : Nat) : (decN f n).length = n := by simp [decN]
theorem decN_succ (f : Nat → Nat) (n : Nat) : decN f n ++ [UInt8.ofNat (wv f (8 * n) 8)] = decN f (n + 1) := by
  unfold decN; rw [List.range_succ, List.map_append]; rfl
def badL (s : List UInt8) : Nat := s.findIdx (fun c => decide (64 ≤ lt c))
theorem badL_le (s : List UInt8) : badL s ≤ s.length := List.findIdx_le_length
theorem badL_ok (s : List UInt8) (i : Nat) (h : i < badL s) (hi : i < s.length) : lt s[i] < 64 := by
  have := List.not_of_lt_findIdx h
  simp only [decide_eq_false_iff_not] at this
  omega
theorem badL_at (s : List UInt8) (h : badL s < s.length) : lt s[badL s] = 64 := by
  have := List.findIdx_getElem (w := h)
  simp only [decide_eq_true_eq] at this
  have := lt_le s[badL s]
  simp only [badL] at *
  omega
def unb64 (s : List UInt8) : List UInt8 × Int × Int :=
  if badL s < s.length then ([], (badL s : Int), 4) else if s.length % 4 = 1 then ([], (s.length : Int), 4) else
  if wv (lb s) (8 * (6 * s.length / 8)) (6 * s.length % 8) ≠ 0 then ([], (s.length : Int) - 1, 4) else (decN (lb s) (6 * s.length / 8), 0, 0)
theorem p7 (r : Nat) (h : r ≤ 7) : ((shl32 1 r) - 1).toNat = 2 ^ r - 1 := by
  have : ∀ r : Nat, r < 8 → ((shl32 1 r) - 1).toNat = 2 ^ r - 1 := by decide +kernel
  exact this r (by omega)
theorem u32_of {a b : UInt32} (h : a.toNat = b.toNat) : a = b := UInt32.toNat_inj.1 h
theorem wunb64 (s : List UInt8) (hs : s.length ≤ 4194304) : m_word_UnBase64 s = some (unb64 s) := by
  unfold m_word_UnBase64
  have hbl := badL_le s
  refine whileO_eq (fun i x => x = (decN (lb s) (6 * i / 8), ((6 * i % 8 : Nat) : Int), UInt32.ofNat (wv (lb s) (8 * (6 * i / 8)) (6 * i % 8)), (i : Int)) ∧ i ≤ badL s) _ (badL s) _ ⟨by simp [decN, wv], by omega⟩ ?_
  rintro i x ⟨rfl, hi⟩
  unfold m_word_UnBase64_l0
  simp only []
  have hw := wv_lt (lb_lt s) (8 * (6 * i / 8)) (6 * i % 8)
  have hp6 : 2 ^ (6 * i % 8) ≤ 2 ^ 6 := Nat.pow_le_pow_right (by omega) (by omega)
  by_cases hlt : i < s.length
  · rw [if_pos (by omega), geti_nat hlt]
    simp only [Option.bind_some, wletter]
    have e3 : w64 ((i : Int) + 1) = ((i + 1 : Nat) : Int) := by rw [w64_id (by omega)]; omega
    by_cases hb : i < badL s
    · left
      have hd := badL_ok s i hb hlt
      refine ⟨hb, (decN (lb s) (6 * (i + 1) / 8), ((6 * (i + 1) % 8 : Nat) : Int), UInt32.ofNat (wv (lb s) (8 * (6 * (i + 1) / 8)) (6 * (i + 1) % 8)), ((i + 1 : Nat) : Int)), ?_, rfl, by omega⟩
      rw [if_pos hd]
      simp only [Bool.not_true, Bool.false_eq_true, if_false]
      -- the word with six bits more
      have hv : (shl32 (UInt32.ofNat (wv (lb s) (8 * (6 * i / 8)) (6 * i % 8))) ((6 : UInt64).toNat) ||| UInt32.ofNat (lt s[i])).toNat = wv (lb s) (8 * (6 * i / 8)) (6 * i % 8 + 6) := by
        rw [wv_add, show 8 * (6 * i / 8) + 6 * i % 8 = 6 * i from by omega, lb_wv s i hlt hd]
        have e1 : (shl32 (UInt32.ofNat (wv (lb s) (8 * (6 * i / 8)) (6 * i % 8))) ((6 : UInt64).toNat)).toNat = wv (lb s) (8 * (6 * i / 8)) (6 * i % 8) * 64 := by
          simp only [shl32, ← UInt32.toNat_toBitVec, BitVec.toNat_shiftLeft]
          simp only [UInt32.toNat_toBitVec, UInt32.toNat_ofNat', show (6 : UInt64).toNat = 6 from rfl, Nat.shiftLeft_eq]
          omega
        have e2 : (UInt32.ofNat (lt s[i])).toNat = lt s[i] := by simp only [UInt32.toNat_ofNat']; omega
        rw [UInt32.toNat_or, e1, e2, show wv (lb s) (8 * (6 * i / 8)) (6 * i % 8) * 64 = wv (lb s) (8 * (6 * i / 8)) (6 * i % 8) <<< 6 from by rw [Nat.shiftLeft_eq], ← Nat.shiftLeft_add_eq_or_of_lt (by omega), Nat.shiftLeft_eq]
      generalize shl32 (UInt32.ofNat (wv (lb s) (8 * (6 * i / 8)) (6 * i % 8))) ((6 : UInt64).toNat) ||| UInt32.ofNat (lt s[i]) = v at hv
      have e4 : w64 (((6 * i % 8 : Nat) : Int) + 6) = ((6 * i % 8 + 6 : Nat) : Int) := by rw [w64_id (by omega)]; omega
      rw [e4]
      by_cases h8 : 8 ≤ 6 * i % 8 + 6
      · have e5 : w64 (((6 * i % 8 + 6 : Nat) : Int) - 8) = ((6 * i % 8 - 2 : Nat) : Int) := by rw [w64_id (by omega)]; omega
        rw [if_pos (by omega), e5, need_ok (by omega)]
        simp only [Option.bind_some, Int.toNat_natCast]
        have q0 : 6 * i % 8 + 6 = 8 + (6 * i % 8 - 2) := by omega
        rw [q0, wv_add] at hv
        have hw2 := wv_lt (lb_lt s) (8 * (6 * i / 8) + 8) (6 * i % 8 - 2)
        have hpr : 2 ^ (6 * i % 8 - 2) ≤ 2 ^ 4 := Nat.pow_le_pow_right (by omega) (by omega)
        have q1 : UInt8.ofNat (shr32 v (6 * i % 8 - 2)).toNat = UInt8.ofNat (wv (lb s) (8 * (6 * i / 8)) 8) := by
          have : (shr32 v (6 * i % 8 - 2)).toNat = v.toNat / 2 ^ (6 * i % 8 - 2) := by simp [shr32, Nat.shiftRight_eq_div_pow]
          rw [this, hv, Nat.mul_comm, Nat.mul_add_div (Nat.pow_pos (by omega)), Nat.div_eq_of_lt hw2, Nat.add_zero]
        have q2 : v &&& (shl32 1 (6 * i % 8 - 2) - 1) = UInt32.ofNat (wv (lb s) (8 * (6 * i / 8) + 8) (6 * i % 8 - 2)) := by
          apply u32_of
          rw [UInt32.toNat_and, p7 _ (by omega), Nat.and_two_pow_sub_one_eq_mod, hv, Nat.mul_comm, Nat.mul_add_mod, Nat.mod_eq_of_lt hw2]
          simp only [UInt32.toNat_ofNat']
          omega
        rw [q1, q2, app_ok (by rw [decN_len]; simp; omega)]
        simp only [Option.bind_some, m_word_UnBase64_j1]
        rw [decN_succ, e3]
        rw [show 6 * (i + 1) / 8 = 6 * i / 8 + 1 from by omega, show 6 * (i + 1) % 8 = 6 * i % 8 - 2 from by omega, show 8 * (6 * i / 8 + 1) = 8 * (6 * i / 8) + 8 from by omega]
      · rw [if_neg (by omega)]
        simp only [m_word_UnBase64_j1]
        rw [e3, show 6 * (i + 1) / 8 = 6 * i / 8 from by omega, show 6 * (i + 1) % 8 = 6 * i % 8 + 6 from by omega, ← hv]
        simp
    · right
      obtain rfl : i = badL s := by omega
      have hd := badL_at s hlt
      rw [if_neg (show ¬ lt s[badL s] < 64 from by omega)]
      simp only [Bool.not_false, if_true, Option.map_some]
      rw [unb64, if_pos hlt]
  · right
    have hi' : i = s.length := by omega
    subst hi'
    rw [if_neg (by omega), tmod4]
    rw [unb64, if_neg (show ¬ badL s < s.length from by omega)]
    by_cases h2 : s.length % 4 = 1
    · rw [if_pos (show ((s.length % 4 : Nat) : Int) = 1 from by omega), if_pos h2]; rfl
    · rw [if_neg (show ¬ ((s.length % 4 : Nat) : Int) = 1 from by omega), if_neg h2]
      by_cases h0 : wv (lb s) (8 * (6 * s.length / 8)) (6 * s.length % 8) = 0
      · rw [if_neg (by rw [h0]; decide), if_neg (by simpa using h0)]; rfl
      · have hne : UInt32.ofNat (wv (lb s) (8 * (6 * s.length / 8)) (6 * s.length % 8)) ≠ 0 := by
          intro h
          have := congrArg UInt32.toNat h
          simp only [UInt32.toNat_ofNat', show (0 : UInt32).toNat = 0 from rfl] at this
          omega
        rw [if_pos hne, if_pos h0, w64_id (by omega)]
        rfl
theorem runb_in (s : List UInt8) (hs : s.length ≤ 4194304) (i : Nat) (hi : i < s.length) (hd : lt s[i] < 64) :
    whileO (m_r01_UnBase64_l6 s (i : Int)) (decN (lb s) (6 * i / 8), ((6 * i % 8 : Nat) : Int), ((wv (lb s) (8 * (6 * i / 8)) (6 * i % 8) : Nat) : Int), 5)
      = some (.inl (decN (lb s) (6 * (i + 1) / 8), ((6 * (i + 1) % 8 : Nat) : Int), ((wv (lb s) (8 * (6 * (i + 1) / 8)) (6 * (i + 1) % 8) : Nat) : Int), ((i + 1 : Nat) : Int))) := by
  refine whileO_eq (fun j x => x = (decN (lb s) ((6 * i + j) / 8), (((6 * i + j) % 8 : Nat) : Int), ((wv (lb s) (8 * ((6 * i + j) / 8)) ((6 * i + j) % 8) : Nat) : Int), (5 : Int) - j) ∧ j ≤ 6) _ 6 _ ⟨by simp, by omega⟩ ?_
  rintro j x ⟨rfl, hj⟩
  unfold m_r01_UnBase64_l6
  simp only []
  by_cases hlt : j < 6
  · left
    refine ⟨hlt, (decN (lb s) ((6 * i + (j + 1)) / 8), (((6 * i + (j + 1)) % 8 : Nat) : Int), ((wv (lb s) (8 * ((6 * i + (j + 1)) / 8)) ((6 * i + (j + 1)) % 8) : Nat) : Int), (5 : Int) - ((j + 1 : Nat) : Int)), ?_, rfl, by omega⟩
    rw [if_pos (by omega), geti_nat hi]
    simp only [Option.bind_some, rletter]
    rw [if_pos hd, need_ok (by omega)]
    simp only [Option.bind_some]
    have hw := wv_lt (lb_lt s) (8 * ((6 * i + j) / 8)) ((6 * i + j) % 8)
    have hp6 : 2 ^ ((6 * i + j) % 8) ≤ 2 ^ 7 := Nat.pow_le_pow_right (by omega) (by omega)
    have e1 : w64 ((((6 * i + j) % 8 : Nat) : Int) + 1) = (((6 * i + j) % 8 + 1 : Nat) : Int) := by rw [w64_id (by omega)]; omega
    have ek : Int.toNat (5 - (j : Int)) = 5 - j := by omega
    have esh : shrI .i64 ((lt s[i] : Nat) : Int) (5 - j) = ((lt s[i] / 2 ^ (5 - j) : Nat) : Int) := by
      unfold shrI
      rw [Nat.min_eq_left (by simp [IntKind.bits]; omega), Int.fdiv_eq_ediv_of_nonneg _ (by have : (0 : Int) < 2 ^ (5 - j) := Int.pow_pos (by omega); omega)]
      simp
    have e2 : Int.tmod (shrI .i64 ((lt s[i] : Nat) : Int) (5 - j)) 2 = ((lb s (6 * i + j) : Nat) : Int) := by
      rw [esh, tmod2]
      unfold lb
      rw [show (6 * i + j) / 6 = i from by omega, show (6 * i + j) % 6 = j from by omega, getD_at _ _ _ hi]
    have hb2 := lb_lt s (6 * i + j)
    have e3 : w64 (2 * ((wv (lb s) (8 * ((6 * i + j) / 8)) ((6 * i + j) % 8) : Nat) : Int)) = ((2 * wv (lb s) (8 * ((6 * i + j) / 8)) ((6 * i + j) % 8) : Nat) : Int) := by rw [w64_id (by omega)]; omega
    have e4 : w64 (((2 * wv (lb s) (8 * ((6 * i + j) / 8)) ((6 * i + j) % 8) : Nat) : Int) + ((lb s (6 * i + j) : Nat) : Int)) = ((wv (lb s) (8 * ((6 * i + j) / 8)) ((6 * i + j) % 8 + 1) : Nat) : Int) := by
      rw [w64_id (by omega)]
      simp only [wv]
      rw [show 8 * ((6 * i + j) / 8) + (6 * i + j) % 8 = 6 * i + j from by omega]
      omega
    rw [ek, e1, e2, e3, e4]
    have e5 : w64 (5 - (j : Int) - 1) = (5 : Int) - ((j + 1 : Nat) : Int) := by rw [w64_id (by omega)]; omega
    by_cases h6 : (6 * i + j) % 8 + 1 = 8
    · rw [if_pos (by omega), h6]
      rw [app_ok (by rw [decN_len]; simp; omega)]
      simp only [Option.bind_some, m_r01_UnBase64_j7, e5]
      have q1 : (6 * i + (j + 1)) / 8 = (6 * i + j) / 8 + 1 := by omega
      have q2 : (6 * i + (j + 1)) % 8 = 0 := by omega
      have q3 : ∀ n : Nat, UInt8.ofInt (n : Int) = UInt8.ofNat n := by
        intro n
        apply UInt8.eq_of_toBitVec_eq; apply BitVec.eq_of_toNat_eq
        simp [UInt8.ofInt]
        omega
      rw [q1, q2, ← decN_succ, q3]
      rfl
    · rw [if_neg (by omega)]
      simp only [m_r01_UnBase64_j7, e5]
      have q1 : (6 * i + (j + 1)) / 8 = (6 * i + j) / 8 := by omega
      have q2 : (6 * i + (j + 1)) % 8 = (6 * i + j) % 8 + 1 := by omega
      rw [q1, q2]
  · right
    obtain rfl : j = 6 := by omega
    rw [if_neg (by omega)]
    have e5 : w64 ((i : Int) + 1) = ((i + 1 : Nat) : Int) := by rw [w64_id (by omega)]; omega
    rw [e5]
    rfl
theorem runb64 (s : List UInt8) (hs : s.length ≤ 4194304) : m_r01_UnBase64 s = some (unb64 s) := by
  unfold m_r01_UnBase64
  have hbl := badL_le s
  refine whileO_eq (fun i x => x = (i : Int) ∧ i ≤ badL s) _ (badL s) _ ⟨rfl, by omega⟩ ?_
  rintro i x ⟨rfl, hi⟩
  unfold m_r01_UnBase64_l3
  simp only []
  by_cases hlt : i < s.length
  · rw [if_pos (by omega), geti_nat hlt]
    simp only [Option.bind_some, rletter]
    by_cases hb : i < badL s
    · left
      have hd := badL_ok s i hb hlt
      refine ⟨hb, ((i + 1 : Nat) : Int), ?_, rfl, by omega⟩
      rw [if_pos hd, if_neg (by omega), w64_id (by omega)]
      congr 2
    · right
      obtain rfl : i = badL s := by omega
      have hd := badL_at s hlt
      rw [if_neg (show ¬ lt s[badL s] < 64 from by omega), if_pos (by omega)]
      rw [unb64, if_pos hlt]
      rfl
  · right
    have hi' : i = s.length := by omega
    subst hi'
    rw [if_neg (by omega), tmod4]
    rw [unb64, if_neg (show ¬ badL s < s.length from by omega)]
    by_cases h2 : s.length % 4 = 1
    · rw [if_pos (show ((s.length % 4 : Nat) : Int) = 1 from by omega), if_pos h2]; rfl
    · rw [if_neg (show ¬ ((s.length % 4 : Nat) : Int) = 1 from by omega), if_neg h2]
      have key : whileO (m_r01_UnBase64_l5 s) ([], 0, 0, 0) = some (if wv (lb s) (8 * (6 * s.length / 8)) (6 * s.length % 8) ≠ 0 then ([], (s.length : Int) - 1, 4) else (decN (lb s) (6 * s.length / 8), 0, 0)) := by
        refine whileO_eq (fun i x => x = (decN (lb s) (6 * i / 8), ((6 * i % 8 : Nat) : Int), ((wv (lb s) (8 * (6 * i / 8)) (6 * i % 8) : Nat) : Int), (i : Int)) ∧ i ≤ s.length) _ s.length _ ⟨by simp [decN, wv], by omega⟩ ?_
        rintro i x ⟨rfl, hi⟩
        unfold m_r01_UnBase64_l5
        simp only []
        by_cases hlt : i < s.length
        · left
          refine ⟨hlt, _, ?_, rfl, by omega⟩
          rw [if_pos (by omega), runb_in s hs i hlt (badL_ok s i (by omega) hlt)]
        · right
          obtain rfl : i = s.length := by omega
          rw [if_neg (by omega)]
          by_cases h0 : wv (lb s) (8 * (6 * s.length / 8)) (6 * s.length % 8) = 0
          · rw [if_neg (by rw [h0]; decide), if_neg (by simpa using h0)]; rfl
          · rw [if_pos (by omega), if_pos h0, w64_id (by omega)]
            rfl
      rw [key]
      rfl
theorem unb64_le (s : List UInt8) : (unb64 s).1.length ≤ s.length := by
  unfold unb64
  split
  · simp
  split
  · simp
  split
  · simp
  · simp only [decN_len]; omega
theorem enc_len (b : List UInt8) : (enc b).length = (8 * b.length + 5) / 6 := by simp [enc, encN]
theorem p_l01_WordBase (b : List UInt8) (hb : b.length ≤ 1048576) (s : List UInt8) (hs : s.length ≤ 1048576) : m_l01_WordBase b s = some true := by
  unfold m_l01_WordBase
  rw [wbase64 b (by omega), wunb64 s (by omega), runb64 s (by omega), rbase64 b (by omega)]
  simp only [Option.bind_some, if_true]
  rw [same_ok _ _ (by have := unb64_le s; omega)]
  simp only [Option.bind_some, enc_len, decide_true, Bool.true_and, Option.some.injEq, Bool.or_eq_true, decide_eq_true_eq]
  by_cases h : b.length = 1
  · right; rw [h]; rfl
  · left; omega

/-! ### there and back -/
theorem hexd : ∀ i : Nat, i < 16 → dg (([48, 49, 50, 51, 52, 53, 54, 55, 56, 57, 97, 98, 99, 100, 101, 102] : List UInt8).getD i 0) = i := by decide +kernel
def hexs (b : List UInt8) : List UInt8 := b.flatMap fun c => [(([48, 49, 50, 51, 52, 53, 54, 55, 56, 57, 97, 98, 99, 100, 101, 102] : List UInt8).getD (c.toNat / 16) 0), (([48, 49, 50, 51, 52, 53, 54, 55, 56, 57, 97, 98, 99, 100, 101, 102] : List UInt8).getD (c.toNat % 16) 0)]
theorem hexs_len (b : List UInt8) : (hexs b).length = 2 * b.length := flen 2 _ (fun c => rfl) b
theorem hexs_at (b : List UInt8) : ∀ j, j < b.length → (hexs b)[2 * j]? = some (([48, 49, 50, 51, 52, 53, 54, 55, 56, 57, 97, 98, 99, 100, 101, 102] : List UInt8).getD ((b.getD j 0).toNat / 16) 0) ∧
    (hexs b)[2 * j + 1]? = some (([48, 49, 50, 51, 52, 53, 54, 55, 56, 57, 97, 98, 99, 100, 101, 102] : List UInt8).getD ((b.getD j 0).toNat % 16) 0) := by
  induction b with
  | nil => intro j h; simp at h
  | cons c b ih =>
    intro j h
    cases j with
    | zero => simp [hexs]
    | succ j =>
      have := ih j (by simpa using h)
      rw [show 2 * (j + 1) = 2 * j + 1 + 1 from by omega]
      simpa [hexs] using this
theorem hexs_dgs (b : List UInt8) (j : Nat) (h : j < b.length) : dgs (hexs b) (2 * j) = (b.getD j 0).toNat / 16 ∧ dgs (hexs b) (2 * j + 1) = (b.getD j 0).toNat % 16 := by
  obtain ⟨h1, h2⟩ := hexs_at b j h
  have hx := (b.getD j 0).toNat_lt
  constructor
  · unfold dgs; rw [List.getD_eq_getElem?_getD, h1]; exact hexd _ (by omega)
  · unfold dgs; rw [List.getD_eq_getElem?_getD, h2]; exact hexd _ (by omega)
theorem unhex_hexs (b : List UInt8) : unhex (hexs b) = (b, 0, 0) := by
  have hnb : ¬ bad (hexs b) < (hexs b).length := by
    intro h
    have h1 := bad_at _ h
    rw [← dgs_at] at h1
    rw [hexs_len] at h
    have h2 := hexs_dgs b (bad (hexs b) / 2) (by omega)
    have hx := (b.getD (bad (hexs b) / 2) 0).toNat_lt
    have : bad (hexs b) = 2 * (bad (hexs b) / 2) ∨ bad (hexs b) = 2 * (bad (hexs b) / 2) + 1 := by omega
    rcases this with e | e <;> rw [e] at h1 <;> omega
  unfold unhex
  rw [if_neg hnb, if_neg (by rw [hexs_len]; omega)]
  congr 1
  apply List.ext_getElem
  · rw [hx_len, hexs_len]; omega
  · intro j h1 h2
    have h3 := hexs_dgs b j h2
    have hbj := (b[j]).toNat_lt
    rw [getD_at _ _ _ h2] at h3
    simp only [hx, List.getElem_map, List.getElem_range]
    rw [if_pos (by rw [hexs_len]; omega), h3.1, h3.2]
    rw [show 16 * (b[j].toNat / 16) + b[j].toNat % 16 = b[j].toNat from by omega]
    simp
theorem lb_enc (b : List UInt8) (k : Nat) : lb (enc b) k = bit b k := by
  by_cases h : k < 6 * (enc b).length
  · unfold lb
    rw [getD_at _ _ _ (by omega)]
    have e : (enc b)[k / 6]'(by omega) = tbl.getD (wv (bit b) (6 * (k / 6)) 6) 0 := by simp [enc, encN]
    rw [e, lt_tbl _ (wv6 _ _)]
    have := wv_bit (bit_lt b) (6 * (k / 6)) 6 (k % 6) (by omega)
    rw [show 6 * (k / 6) + k % 6 = k from by omega] at this
    rw [← this]
  · rw [lb_out _ _ (by omega), bit_out]
    rw [enc_len] at h
    omega
theorem decN_bit (b : List UInt8) : decN (bit b) b.length = b := by
  apply List.ext_getElem
  · rw [decN_len]
  · intro j h1 h2
    simp only [decN, List.getElem_map, List.getElem_range]
    have hx := (b[j]).toNat_lt
    rw [wv_num (bit b) (8 * j) 8 (b[j]).toNat]
    · simp
    · intro t ht
      unfold bit
      rw [show (8 * j + t) / 8 = j from by omega, show (8 * j + t) % 8 = t from by omega, getD_at _ _ _ h2]
theorem unb64_enc (b : List UInt8) : unb64 (enc b) = (b, 0, 0) := by
  have hl := enc_len b
  have hnb : ¬ badL (enc b) < (enc b).length := by
    intro h
    have h1 := badL_at _ h
    have e : (enc b)[badL (enc b)]'h = tbl.getD (wv (bit b) (6 * badL (enc b)) 6) 0 := by simp [enc, encN]
    rw [e, lt_tbl _ (wv6 _ _)] at h1
    have := wv6 b (6 * badL (enc b))
    omega
  have hf : lb (enc b) = bit b := funext (lb_enc b)
  have hn : 6 * (enc b).length / 8 = b.length := by omega
  unfold unb64
  rw [if_neg hnb, if_neg (by omega), hf, hn]
  have hz : wv (bit b) (8 * b.length) (6 * (enc b).length % 8) = 0 := wv_zero _ _ (fun j _ => bit_out b _ (by omega))
  rw [hz, if_neg (by simp), decN_bit]
theorem enc_unb64 (s : List UInt8) (h : (unb64 s).2.2 = 0) : enc (unb64 s).1 = s := by
  unfold unb64 at h ⊢
  by_cases h1 : badL s < s.length
  · rw [if_pos h1] at h; simp at h
  rw [if_neg h1] at h ⊢
  by_cases h2 : s.length % 4 = 1
  · rw [if_pos h2] at h; simp at h
  rw [if_neg h2] at h ⊢
  by_cases h3 : wv (lb s) (8 * (6 * s.length / 8)) (6 * s.length % 8) = 0
  · rw [if_neg (by simpa using h3)]
    simp only []
    have hbit : bit (decN (lb s) (6 * s.length / 8)) = lb s := by
      funext k
      by_cases hk : k < 8 * (6 * s.length / 8)
      · unfold bit
        rw [getD_at _ _ _ (by rw [decN_len]; omega)]
        simp only [decN, List.getElem_map, List.getElem_range]
        have hw := wv_lt (lb_lt s) (8 * (k / 8)) 8
        have e : (UInt8.ofNat (wv (lb s) (8 * (k / 8)) 8)).toNat = wv (lb s) (8 * (k / 8)) 8 := by
          simp only [UInt8.toNat_ofNat']; omega
        rw [e]
        have := wv_bit (lb_lt s) (8 * (k / 8)) 8 (k % 8) (by omega)
        rw [show 8 * (k / 8) + k % 8 = k from by omega] at this
        rw [← this]
      · rw [bit_out _ _ (by rw [decN_len]; omega)]
        by_cases hk2 : k < 6 * s.length
        · have := zero_wv _ _ h3 (k - 8 * (6 * s.length / 8)) (by omega)
          rw [show 8 * (6 * s.length / 8) + (k - 8 * (6 * s.length / 8)) = k from by omega] at this
          exact this.symm
        · rw [lb_out _ _ (by omega)]
    apply List.ext_getElem
    · rw [enc_len, decN_len]
      obtain ⟨q, r, hq, hr⟩ : ∃ q r, s.length = 4 * q + r ∧ (r = 0 ∨ r = 2 ∨ r = 3) := ⟨s.length / 4, s.length % 4, by omega, by omega⟩
      rw [hq]
      rcases hr with rfl | rfl | rfl
      · rw [show 6 * (4 * q + 0) / 8 = 3 * q from by omega]; omega
      · rw [show 6 * (4 * q + 2) / 8 = 3 * q + 1 from by omega]; omega
      · rw [show 6 * (4 * q + 3) / 8 = 3 * q + 2 from by omega]; omega
    · intro j q1 q2
      have hd := badL_ok s j (by have := badL_le s; omega) q2
      simp only [enc, encN, List.getElem_map, List.getElem_range]
      rw [hbit, lb_wv s j q2 hd, tbl_lt _ hd]
  · rw [if_pos h3] at h; simp at h
theorem lowd (c : UInt8) (h : dg c < 16) (hc : ¬ (65 ≤ c.toNat ∧ c.toNat ≤ 70)) : ([48, 49, 50, 51, 52, 53, 54, 55, 56, 57, 97, 98, 99, 100, 101, 102] : List UInt8).getD (dg c) 0 = c := by
  have := of_bytes (p := fun c => dg c < 16 → ¬ (65 ≤ c.toNat ∧ c.toNat ≤ 70) → ([48, 49, 50, 51, 52, 53, 54, 55, 56, 57, 97, 98, 99, 100, 101, 102] : List UInt8).getD (dg c) 0 = c) (by decide +kernel) c
  exact this h hc
theorem hexs_unhex (s : List UInt8) (h : (unhex s).2.2 = 0) (hc : ∀ i (hi : i < s.length), ¬ (65 ≤ s[i].toNat ∧ s[i].toNat ≤ 70)) : hexs (unhex s).1 = s := by
  unfold unhex at h ⊢
  by_cases h1 : bad s < s.length
  · rw [if_pos h1] at h; simp at h
  rw [if_neg h1] at h ⊢
  by_cases h2 : s.length % 2 = 1
  · rw [if_pos h2] at h; simp at h
  rw [if_neg h2]
  simp only []
  have hl := hx_len s s.length
  apply List.ext_getElem?
  intro i
  by_cases hi : i < s.length
  · have hd : ∀ k (hk : k < s.length), dg s[k] < 16 := fun k hk => bad_ok s k (by omega) hk
    have hj := hexs_at (hx s s.length) (i / 2) (by omega)
    have d0 := hd (2 * (i / 2)) (by omega)
    have d1 := hd (2 * (i / 2) + 1) (by omega)
    have e : (hx s s.length).getD (i / 2) 0 = UInt8.ofNat (16 * dg s[2 * (i / 2)] + dg s[2 * (i / 2) + 1]) := by
      rw [getD_at _ _ _ (by omega)]
      simp only [hx, List.getElem_map, List.getElem_range]
      rw [if_pos (by omega), dgs_at _ _ (by omega : 2 * (i / 2) < s.length), dgs_at _ _ (by omega : 2 * (i / 2) + 1 < s.length)]
    have en : ((hx s s.length).getD (i / 2) 0).toNat = 16 * dg s[2 * (i / 2)] + dg s[2 * (i / 2) + 1] := by
      rw [e]; simp only [UInt8.toNat_ofNat']; omega
    rw [en] at hj
    rw [show (16 * dg s[2 * (i / 2)] + dg s[2 * (i / 2) + 1]) / 16 = dg s[2 * (i / 2)] from by omega, show (16 * dg s[2 * (i / 2)] + dg s[2 * (i / 2) + 1]) % 16 = dg s[2 * (i / 2) + 1] from by omega,
      lowd _ d0 (hc _ _), lowd _ d1 (hc _ _)] at hj
    have : i = 2 * (i / 2) ∨ i = 2 * (i / 2) + 1 := by omega
    rcases this with e2 | e2
    · rw [e2, hj.1]; simp only [← e2]; simp [hi]
    · rw [e2, hj.2]; simp only [← e2]; simp [hi]
  · rw [List.getElem?_eq_none (by rw [hexs_len]; omega), List.getElem?_eq_none (by omega)]
theorem capl (s : List UInt8) (hs : s.length ≤ 4194304) (h : (unhex s).2.2 = 0) : whileO (m_l01_WordThere_l0 s) ((unhex s).1, 0) = some true := by
  refine whileO_eq (fun i x => x = ((unhex s).1, (i : Int)) ∧ i ≤ s.length ∧ ∀ k (hk : k < s.length), k < i → ¬ (65 ≤ s[k].toNat ∧ s[k].toNat ≤ 70)) _ s.length _ ⟨rfl, by omega, fun k _ hk => by omega⟩ ?_
  rintro i x ⟨rfl, hi, hall⟩
  unfold m_l01_WordThere_l0
  simp only []
  by_cases hlt : i < s.length
  · rw [if_pos (by omega), geti_nat hlt]
    simp only [Option.bind_some]
    have hg : gif (decide ((65 : UInt8) ≤ s[i])) (some s[i]) = some (if 65 ≤ s[i] then s[i] else default) := by
      by_cases h : (65 : UInt8) ≤ s[i]
      · rw [if_pos h]; unfold gif; rw [if_pos (by simpa using h)]
      · rw [if_neg h]; unfold gif; rw [if_neg (by simpa using h)]
    rw [hg]
    simp only [Option.bind_some]
    by_cases hc : 65 ≤ s[i].toNat ∧ s[i].toNat ≤ 70
    · right
      have h1 : (65 : UInt8) ≤ s[i] := by rw [UInt8.le_iff_toNat_le]; exact hc.1
      have h2 : s[i] ≤ (70 : UInt8) := by rw [UInt8.le_iff_toNat_le]; exact hc.2
      simp [h1, h2]
    · left
      refine ⟨hlt, ((unhex s).1, ((i + 1 : Nat) : Int)), ?_, rfl, by omega, fun k hk hki => ?_⟩
      · rw [if_neg]
        · rw [w64_id (by omega)]; rfl
        · intro hh
          simp only [Bool.and_eq_true, decide_eq_true_eq] at hh
          rw [if_pos hh.1, UInt8.le_iff_toNat_le, UInt8.le_iff_toNat_le] at hh
          exact hc hh
      · by_cases e : k = i
        · subst e; exact hc
        · exact hall k hk (by omega)
  · right
    rw [if_neg (by omega)]
    rw [hexcase _ (by have := hx_le s; omega)]
    have := hexs_unhex s h (fun k hk => hall k hk (by omega))
    unfold hexs at this
    rw [this]
    simp
theorem capl1 (s : List UInt8) (hs : s.length ≤ 4194304) (h : (unhex s).2.2 = 0) : whileO (m_l01_WordThere_l1 s) ((unhex s).1, 0) = some true := capl s hs h
theorem p_l01_WordThere (b : List UInt8) (hb : b.length ≤ 1048576) (s : List UInt8) (hs : s.length ≤ 1048576) : m_l01_WordThere b s = some true := by
  unfold m_l01_WordThere
  have eh : m_word_Hex b = some (hexs b) := hexcase b (by omega)
  have hhl := hexs_len b
  have hel := enc_len b
  rw [eh, wbase64 b (by omega)]
  simp only [Option.bind_some]
  rw [wunhex _ (by omega), unhex_hexs]
  simp only [Option.bind_some]
  rw [wunb64 _ (by omega), unb64_enc]
  simp only [Option.bind_some, ne_eq, not_true, decide_false, Bool.or_false, Bool.false_eq_true, if_false]
  rw [same_ok _ _ (by omega)]
  simp only [Option.bind_some, decide_true, Bool.not_true, Bool.false_eq_true, if_false]
  rw [w64_id (by omega), if_neg (by rw [hhl]; omega), wunb64 s (by omega), wunhex s (by omega)]
  simp only [Option.bind_some]
  have fin : (if (unhex s).2.2 ≠ 0 then some true else whileO (m_l01_WordThere_l0 s) ((unhex s).1, 0)) = some true := by
    by_cases h : (unhex s).2.2 = 0
    · rw [if_neg (by simpa using h)]; exact capl s (by omega) h
    · rw [if_pos h]
  have fin1 : (if (unhex s).2.2 ≠ 0 then some true else whileO (m_l01_WordThere_l1 s) ((unhex s).1, 0)) = some true := by
    by_cases h : (unhex s).2.2 = 0
    · rw [if_neg (by simpa using h)]; exact capl1 s (by omega) h
    · rw [if_pos h]
  by_cases h7 : (unb64 s).2.2 = 0
  · rw [if_pos h7, wbase64 _ (by have := unb64_le s; omega), enc_unb64 s h7]
    simp only [Option.bind_some, ne_eq, not_true, if_false]
    exact fin
  · rw [if_neg h7]
    exact fin1
end Go.Sx
