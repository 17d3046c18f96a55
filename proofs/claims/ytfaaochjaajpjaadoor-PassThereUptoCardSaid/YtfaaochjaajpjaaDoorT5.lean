import Derived.Test.YtfaaochjaajpjaaDoorT4
namespace Go.Sx
open Go.RowKit
set_option linter.unusedVariables false
set_option linter.unusedSimpArgs false
/-! ### what may be, and how it is printed -/
def MayS (K M P L T : Int) : Prop := (0 ≤ K ∧ K ≤ 2) ∧ (1 ≤ L ∧ L ≤ 8) ∧ (1 ≤ P ∧ P ≤ 16) ∧ (4 ≤ T ∧ T ≤ 1024) ∧ (8 * L ≤ M ∧ M ≤ 4096)
instance (K M P L T : Int) : Decidable (MayS K M P L T) := by unfold MayS; infer_instance
def chkS (K M P L T : Int) (n : Nat) : Int := if MayS K M P L T then (if n < 8 ∨ 64 < n then 201 else 0) else 200
theorem may_loop (M L : Int) (r : List (Int × Int × Int)) (hr : r.length ≤ 100) : ∀ (j i : Nat), i + j = r.length → whileO (m_argon_may_l0 M L r) (i : Int) = some ((r.drop i).all (fun x => decide (x.2.1 ≤ x.1 ∧ x.1 ≤ x.2.2)) && decide (w64 (8 * L) ≤ M)) := by
  intro j
  induction j with
  | zero =>
    intro i hi
    rw [List.drop_eq_nil_of_le (by omega)]
    refine whileO_done ?_
    unfold m_argon_may_l0
    dsimp only
    rw [if_neg (by omega)]
    rfl
  | succ j ih =>
    intro i hi
    have hi' : i < r.length := by omega
    rw [List.drop_eq_getElem_cons hi', List.all_cons]
    by_cases hb : r[i].2.1 ≤ r[i].1 ∧ r[i].1 ≤ r[i].2.2
    · rw [whileO_next (s' := ((i + 1 : Nat) : Int)) (by
        unfold m_argon_may_l0
        dsimp only
        rw [if_pos (by omega), geti_nat hi', Option.bind_some, if_neg (tf1 (decide_eq_false (by omega)) (decide_eq_false (by omega))), wS i (by omega)])]
      rw [ih (i + 1) (by omega), decide_eq_true hb, Bool.true_and]
    · rw [decide_eq_false hb, Bool.false_and, Bool.false_and]
      refine whileO_done ?_
      unfold m_argon_may_l0
      dsimp only
      rw [if_pos (by omega), geti_nat hi', Option.bind_some, if_pos (by
        by_cases h1 : r[i].1 < r[i].2.1
        · exact tf2 (decide_eq_true h1)
        · exact tf3 (decide_eq_true (by omega)))]
      rfl
theorem may_ok (K M P L T : Int) : m_argon_may K M P L T = some (decide (MayS K M P L T)) := by
  unfold m_argon_may m_argon_bounds
  rw [Option.bind_some]
  refine (may_loop M L [(K, 0, 2), (L, 1, 8), (P, 1, 16), (T, 4, 1024), (M, 8, 4096)] (by simp) 5 0 rfl).trans ?_
  congr 1
  rw [List.drop_zero]
  simp only [List.all_cons, List.all_nil, Bool.and_true]
  unfold MayS
  by_cases hL : 1 ≤ L ∧ L ≤ 8
  · rw [show w64 (8 * L) = 8 * L from by rw [w64_id] <;> omega]
    rw [← Bool.decide_and, ← Bool.decide_and, ← Bool.decide_and, ← Bool.decide_and, ← Bool.decide_and]
    exact decide_eq_decide.2 (by omega)
  · rw [decide_eq_false (p := ((1 : Int) ≤ L ∧ L ≤ 8)) hL, Bool.false_and, Bool.and_false, Bool.false_and]
    exact (decide_eq_false (by omega)).symm
theorem acheck (K M P L T : Int) (salt : List UInt8) : m_argon_Check K M P L T salt = some (chkS K M P L T salt.length) := by
  unfold m_argon_Check chkS
  rw [may_ok, Option.bind_some]
  by_cases h : MayS K M P L T
  · rw [decide_eq_true h, if_neg (by decide), if_pos h]
    by_cases h2 : salt.length < 8 ∨ 64 < salt.length
    · rw [if_pos h2, if_pos (by
        rcases h2 with q | q
        · exact tf2 (decide_eq_true (by omega))
        · exact tf3 (decide_eq_true (by omega)))]
    · rw [if_neg h2, if_neg (tf1 (decide_eq_false (by omega)) (decide_eq_false (by omega)))]
  · rw [decide_eq_false h, if_pos (by decide), if_neg h]
theorem rcheck (K M P L T : Int) (salt : List UInt8) : m_r20_Check K M P L T salt = some (chkS K M P L T salt.length) := by
  have hv : m_r20_Valid K M P L T = some (if MayS K M P L T then 0 else 200) := by
    unfold m_r20_Valid
    by_cases h : MayS K M P L T
    · rw [if_pos h]
      unfold MayS at h
      rw [show w64 (8 * L) = 8 * L from by rw [w64_id] <;> omega]
      rw [if_neg (by simp only [Bool.or_eq_true, decide_eq_true_eq]; omega)]
    · rw [if_neg h]
      unfold MayS at h
      by_cases hL : 1 ≤ L ∧ L ≤ 8
      · rw [show w64 (8 * L) = 8 * L from by rw [w64_id] <;> omega]
        rw [if_pos (by simp only [Bool.or_eq_true, decide_eq_true_eq]; omega)]
      · rw [if_pos (by simp only [Bool.or_eq_true, decide_eq_true_eq]; omega)]
  unfold m_r20_Check chkS
  rw [hv, Option.bind_some]
  by_cases h : MayS K M P L T
  · rw [if_pos h, if_neg (by decide), if_pos h]
    by_cases h2 : salt.length < 8 ∨ 64 < salt.length
    · rw [if_pos h2, if_pos (by
        rcases h2 with q | q
        · exact tf2 (decide_eq_true (by omega))
        · exact tf3 (decide_eq_true (by omega)))]
    · rw [if_neg h2, if_neg (tf1 (decide_eq_false (by omega)) (decide_eq_false (by omega)))]
  · rw [if_neg h, if_pos (by decide), if_neg h]
theorem pcheck (K M P L T : Int) (salt sum : List UInt8) : m_pass_check K M P L T salt sum = some (if chkS K M P L T salt.length ≠ 0 then chkS K M P L T salt.length else if ((sum.length : Nat) : Int) ≠ T then 1 else 0) := by
  unfold m_pass_check
  rw [acheck, Option.bind_some]
  split
  · rfl
  · split <;> rfl
/-- numbers in digits -/
theorem dig_loop : ∀ (m : Nat) (n : UInt64) (l : List UInt8), n.toNat ≤ m → l.length ≤ 1000000000 → whileO m_r21_Digits_l0 (n, l) = some (Lib.decDigits n.toNat ++ l) ∨ 1000000000 ≤ l.length + m := by
  intro m
  induction m with
  | zero =>
    intro n l hm hl
    left
    have hn : n = 0 := UInt64.toNat_inj.1 (by rw [show (0 : UInt64).toNat = 0 from rfl]; omega)
    subst hn
    refine whileO_done ?_
    unfold m_r21_Digits_l0
    dsimp only
    rw [need_ok (by simp only [List.length_cons, List.length_nil]; omega), Option.bind_some, if_pos (by decide)]
    rw [show Lib.decDigits (0 : UInt64).toNat = [48] from by rw [show (0 : UInt64).toNat = 0 from rfl, Lib.decDigits, dif_pos (by omega)]; rfl]
    rfl
  | succ m ih =>
    intro n l hm hl
    have hd : (n / 10).toNat = n.toNat / 10 := by rw [UInt64.toNat_div]; rfl
    have hmd : ((48 : UInt64) + n % 10).toNat = 48 + n.toNat % 10 := by
      rw [UInt64.toNat_add, UInt64.toNat_mod, show (48 : UInt64).toNat = 48 from rfl, show (10 : UInt64).toNat = 10 from rfl]
      omega
    by_cases h10 : n.toNat < 10
    · left
      refine whileO_done ?_
      unfold m_r21_Digits_l0
      dsimp only
      rw [need_ok (by simp only [List.length_cons, List.length_nil]; omega), Option.bind_some, if_pos (UInt64.toNat_inj.1 (by rw [hd]; show n.toNat / 10 = 0; omega)), hmd, Lib.decDigits, dif_pos h10, Nat.mod_eq_of_lt h10]
      rfl
    · have hne : ¬ n / 10 = 0 := fun q => by
        have := congrArg UInt64.toNat q
        rw [hd, show (0 : UInt64).toNat = 0 from rfl] at this
        omega
      have step : m_r21_Digits_l0 (n, l) = some (.inl (n / 10, [UInt8.ofNat (48 + n.toNat % 10)] ++ l)) := by
        unfold m_r21_Digits_l0
        dsimp only
        rw [need_ok (by simp only [List.length_cons, List.length_nil]; omega), Option.bind_some, if_neg hne, hmd]
      rw [whileO_next step]
      by_cases hl2 : l.length + (m + 1) < 1000000000
      · rcases ih (n / 10) ([UInt8.ofNat (48 + n.toNat % 10)] ++ l) (by rw [hd]; omega) (by simp only [List.length_append, List.length_cons, List.length_nil]; omega) with q | q
        · left
          rw [q, hd]
          conv => rhs; rw [Lib.decDigits, dif_neg h10]
          rw [List.append_assoc]
        · simp only [List.length_append, List.length_cons, List.length_nil] at q
          omega
      · right
        omega
theorem digits_ok (n : Nat) (h : n ≤ 4096) : m_r21_Digits (UInt64.ofInt (n : Int)) = some (Lib.decDigits n) := by
  have e : (UInt64.ofInt (n : Int)).toNat = n := by
    have : UInt64.ofInt (n : Int) = UInt64.ofNat n := by
      rw [← UInt64.toNat_inj]; unfold UInt64.ofInt; simp; omega
    rw [this, UInt64.toNat_ofNat_of_lt' (by show n < 18446744073709551616; omega)]
  unfold m_r21_Digits
  rcases dig_loop n (UInt64.ofInt (n : Int)) [] (by omega) (by simp) with q | q
  · rw [q, e, List.append_nil]
  · simp only [List.length_nil] at q; omega
theorem dd_len : ∀ n : Nat, (Lib.decDigits n).length ≤ n + 1 := by
  intro n
  induction n using Nat.strongRecOn with
  | _ n ih =>
    rw [Lib.decDigits]
    split
    · simp
    · rw [List.length_append]
      have := ih (n / 10) (by omega)
      simp only [List.length_cons, List.length_nil]
      omega
theorem itoa_ok (n : Nat) : Lib.itoa (n : Int) = Lib.decDigits n := by
  unfold Lib.itoa
  rw [if_neg (by omega)]
  rfl
def kdS (K : Int) : List UInt8 := if K = 0 then [100] else if K = 1 then [105] else [105, 100]
def textS (K : Int) (M P L : Nat) (salt sum : List UInt8) : List UInt8 :=
  ((((((((((([36, 97, 114, 103, 111, 110, 50] : List UInt8) ++ kdS K) ++ ([36, 118, 61, 49, 57, 36, 109, 61] : List UInt8)) ++ Lib.decDigits M) ++ ([44, 116, 61] : List UInt8)) ++ Lib.decDigits P) ++ ([44, 112, 61] : List UInt8)) ++ Lib.decDigits L) ++ ([36] : List UInt8)) ++ enc salt) ++ ([36] : List UInt8)) ++ enc sum
def printS (K M P L T : Int) (salt sum : List UInt8) : List UInt8 × Int := if chkS K M P L T salt.length ≠ 0 then ([], chkS K M P L T salt.length) else if ((sum.length : Nat) : Int) ≠ T then ([], 1) else (textS K M.toNat P.toNat L.toNat salt sum, 0)
theorem chk0 {K M P L T : Int} {n : Nat} (h : chkS K M P L T n = 0) : MayS K M P L T ∧ 8 ≤ n ∧ n ≤ 64 := by
  unfold chkS at h
  split at h
  · split at h
    · cases h
    · exact ⟨by assumption, by omega, by omega⟩
  · cases h
theorem kd_geti {K : Int} (h : 0 ≤ K ∧ K ≤ 2) : geti ([([100] : List UInt8), ([105] : List UInt8), ([105, 100] : List UInt8)] : List (List UInt8)) K = some (kdS K) := by
  obtain rfl | rfl | rfl : K = 0 ∨ K = 1 ∨ K = 2 := by omega
  · rfl
  · rfl
  · rfl
theorem kd_len (K : Int) : (kdS K).length ≤ 2 := by
  unfold kdS
  split
  · decide
  · split <;> decide
theorem print_p (K M P L T : Int) (salt sum : List UInt8) : m_pass_Print K M P L T salt sum = some (printS K M P L T salt sum) := by
  unfold m_pass_Print printS
  rw [pcheck, Option.bind_some]
  by_cases h0 : chkS K M P L T salt.length ≠ 0
  · rw [if_pos h0, if_pos h0, if_pos h0]
  · rw [if_neg h0, if_neg h0]
    by_cases h1 : ((sum.length : Nat) : Int) ≠ T
    · rw [if_pos h1, if_pos h1, if_pos (by decide)]
    · rw [if_neg h1, if_neg h1, if_neg (by decide)]
      obtain ⟨hm, hs1, hs2⟩ := chk0 (Classical.not_not.1 h0)
      have hT := Classical.not_not.1 h1
      unfold MayS at hm
      obtain ⟨M, rfl⟩ : ∃ m : Nat, M = (m : Int) := ⟨M.toNat, by omega⟩
      obtain ⟨P, rfl⟩ : ∃ m : Nat, P = (m : Int) := ⟨P.toNat, by omega⟩
      obtain ⟨L, rfl⟩ : ∃ m : Nat, L = (m : Int) := ⟨L.toNat, by omega⟩
      have hM := dd_len M; have hP := dd_len P; have hL := dd_len L; have hk := kd_len K
      have hes := enc_len salt; have heu := enc_len sum
      rw [show m_pass_kind K = some (kdS K) from by
        unfold m_pass_kind
        rw [show (⟨[([100] : List UInt8), ([105] : List UInt8), ([105, 100] : List UInt8)], rfl⟩ : Vec (List UInt8) 3).l = [([100] : List UInt8), ([105] : List UInt8), ([105, 100] : List UInt8)] from rfl, kd_geti hm.1]
        rfl, Option.bind_some]
      simp only [itoa_ok]
      rw [wbase64 salt (by omega), wbase64 sum (by omega)]
      have hb : ∀ n : Nat, n ≤ 1000000 → n ≤ 9223372036854775807 := fun n h => by omega
      iterate 11 rw [need_ok (by first | exact ⟨by omega, by omega⟩ | (refine hb _ ?_; simp only [List.length_append, List.length_cons, List.length_nil]; omega)), Option.bind_some]
      rw [Option.bind_some]
      iterate 2 rw [need_ok (by refine hb _ ?_; simp only [List.length_append, List.length_cons, List.length_nil]; omega), Option.bind_some]
      rw [Option.bind_some]
      rw [need_ok (by refine hb _ ?_; simp only [List.length_append, List.length_cons, List.length_nil]; omega), Option.bind_some]
      rfl
theorem print_r (K M P L T : Int) (salt sum : List UInt8) : m_r21_Print K M P L T salt sum = some (printS K M P L T salt sum) := by
  unfold m_r21_Print printS
  rw [rcheck, Option.bind_some]
  by_cases h0 : chkS K M P L T salt.length ≠ 0
  · rw [if_pos h0, if_pos h0]
  · rw [if_neg h0, if_neg h0]
    by_cases h1 : ((sum.length : Nat) : Int) ≠ T
    · rw [if_pos h1, if_pos h1]
    · rw [if_neg h1, if_neg h1]
      obtain ⟨hm, hs1, hs2⟩ := chk0 (Classical.not_not.1 h0)
      have hT := Classical.not_not.1 h1
      unfold MayS at hm
      obtain ⟨M, rfl⟩ : ∃ m : Nat, M = (m : Int) := ⟨M.toNat, by omega⟩
      obtain ⟨P, rfl⟩ : ∃ m : Nat, P = (m : Int) := ⟨P.toNat, by omega⟩
      obtain ⟨L, rfl⟩ : ∃ m : Nat, L = (m : Int) := ⟨L.toNat, by omega⟩
      have hM := dd_len M; have hP := dd_len P; have hL := dd_len L; have hk := kd_len K
      have hes := enc_len salt; have heu := enc_len sum
      rw [kd_geti hm.1, Option.bind_some, digits_ok M (by omega), digits_ok P (by omega), digits_ok L (by omega), rbase64 salt (by omega), rbase64 sum (by omega)]
      have hb : ∀ n : Nat, n ≤ 1000000 → n ≤ 9223372036854775807 := fun n h => by omega
      iterate 2 rw [need_ok (by refine hb _ ?_; simp only [List.length_append, List.length_cons, List.length_nil]; omega), Option.bind_some]
      rw [Option.bind_some]
      iterate 2 rw [need_ok (by refine hb _ ?_; simp only [List.length_append, List.length_cons, List.length_nil]; omega), Option.bind_some]
      rw [Option.bind_some]
      iterate 2 rw [need_ok (by refine hb _ ?_; simp only [List.length_append, List.length_cons, List.length_nil]; omega), Option.bind_some]
      rw [Option.bind_some]
      iterate 2 rw [need_ok (by refine hb _ ?_; simp only [List.length_append, List.length_cons, List.length_nil]; omega), Option.bind_some]
      rw [Option.bind_some]
      iterate 2 rw [need_ok (by refine hb _ ?_; simp only [List.length_append, List.length_cons, List.length_nil]; omega), Option.bind_some]
      rw [Option.bind_some]
      rw [need_ok (by refine hb _ ?_; simp only [List.length_append, List.length_cons, List.length_nil]; omega), Option.bind_some]
      rfl
end Go.Sx
