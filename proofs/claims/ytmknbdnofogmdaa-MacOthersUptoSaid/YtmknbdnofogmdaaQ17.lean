import Derived.Test.YtmknbdnofogmdaaQ16
namespace Go.Sx
open Go.RowKit
set_option linter.unusedVariables false
set_option linter.unusedSimpArgs false
theorem make_len (k n : Int) (key salt pers data : List UInt8) (hd : data.length ≤ 12000000) (x : List UInt8 × Int) (h : m_mac_digest k n key salt pers data = some x) (h0 : x.2 = 0) : ((x.1.length : Nat) : Int) = n ∧ ∃ m, m_r02_Most k = some m ∧ 1 ≤ n ∧ n ≤ m := by
  obtain ⟨y, y1, y2, _⟩ := make_ok k n key salt pers data hd
  rw [h] at y1
  obtain rfl := Option.some.inj y1
  obtain ⟨r, c1, c2⟩ := check_some k n ((key.length : Nat) : Int) 1 1 0 0 0 0 0 salt pers
  unfold m_r06_Make at y2
  rw [c1] at y2
  simp only [Option.bind_some] at y2
  by_cases hr : r ≠ 0
  · rw [if_pos hr] at y2
    have := Option.some.inj y2
    rw [← this] at h0
    exact absurd h0 hr
  · rw [if_neg hr] at y2
    have hr0 : r = 0 := by omega
    subst hr0
    obtain ⟨H, blk, M, hk, e1, e2⟩ := hash_ok k n ((key.length : Nat) : Int) 1 1 0 0 0 0 0 salt pers key false n data c1 (.inr rfl) hd
    rw [e2] at y2
    simp only [Option.bind_some, Option.some.injEq] at y2
    have hx : H.ans blk M false n = x := y2
    unfold Half.ans at hx
    split at hx
    · rw [← hx] at h0; exact absurd h0 (by decide)
    · rename_i hn
      have hl := H.hash_len blk M false
      rw [← hx]
      simp only [List.length_take]
      rcases H.hk with ⟨k1, _, s⟩ | ⟨k1, _, s⟩
      · refine ⟨by omega, 64, ?_, by omega, by omega⟩
        rw [← hk, k1]; rfl
      · refine ⟨by omega, 32, ?_, by omega, by omega⟩
        rw [← hk, k1]; rfl
theorem check_of (k n : Int) (key salt pers data : List UInt8) (hd : data.length ≤ 12000000) (x : List UInt8 × Int) (h : m_mac_digest k n key salt pers data = some x) (h0 : x.2 = 0) (hk : ¬ ((key.length : Nat) : Int) = 0) (tag : List UInt8) (ht : tag.length = x.1.length) : m_mac_Check k tag key salt pers data = some (decide (tag = x.1), 0) := by
  obtain ⟨hn, m, hm, h1, h2⟩ := make_len k n key salt pers data hd x h h0
  have hl : x.1.length ≤ 64 := by
    obtain ⟨y, y1, _, y3⟩ := make_ok k n key salt pers data hd
    rw [h] at y1
    obtain rfl := Option.some.inj y1
    exact y3
  unfold m_mac_Check
  rw [most_ok, hm]
  simp only [Option.bind_some]
  rw [if_neg (by omega), if_neg (by simp only [Bool.or_eq_true, decide_eq_true_eq]; omega), if_neg hk, ht, hn, h]
  simp only [Option.bind_some]
  rw [if_neg (by simpa using h0), equal_eq tag x.1 (by omega)]
  rfl
theorem shl_one (t : Int) (h0 : 0 ≤ t) (h8 : t < 8) : shl8 1 ((UInt64.ofInt t).toNat) ≠ 0 := by
  obtain ⟨q, rfl⟩ := Int.eq_ofNat_of_zero_le h0
  rw [u64_nat]
  have hq : q < 8 := by omega
  revert q
  intro q _ _ hq
  match q, hq with
  | 0, _ => decide
  | 1, _ => decide
  | 2, _ => decide
  | 3, _ => decide
  | 4, _ => decide
  | 5, _ => decide
  | 6, _ => decide
  | 7, _ => decide
theorem xor_ne (x c : UInt8) (hc : c ≠ 0) : x ^^^ c ≠ x := fun h => hc (by
  have e : x ^^^ (x ^^^ c) = x ^^^ x := by rw [h]
  rwa [← UInt8.xor_assoc, UInt8.xor_self, UInt8.zero_xor] at e)
theorem p_l06_MacTold (k : Int) (_ : -9223372036854775808 ≤ k ∧ k ≤ 9223372036854775807) (n : Int) (_ : -9223372036854775808 ≤ n ∧ n ≤ 9223372036854775807) (key : List UInt8) (_ : key.length ≤ 1048576) (salt : List UInt8) (_ : salt.length ≤ 1048576) (pers : List UInt8) (_ : pers.length ≤ 1048576) (data : List UInt8) (hd0 : data.length ≤ 1048576) (tag : List UInt8) (_ : tag.length ≤ 1048576) (bit : Int) (hb : -9223372036854775808 ≤ bit ∧ bit ≤ 9223372036854775807) : m_l06_MacTold k n key salt pers data tag bit = some true := by
  have hd : data.length ≤ 12000000 := by omega
  obtain ⟨x, x1, _, x3⟩ := make_ok k n key salt pers data hd
  unfold m_l06_MacTold m_mac_Make
  rw [alive_ok, x1]
  simp only [Option.bind_some]
  rw [if_neg (by decide)]
  by_cases hc : ((decide (x.2 ≠ 0)) || (decide (((key.length : Nat) : Int) = 0))) = true
  · rw [if_pos hc]
  · rw [if_neg hc]
    simp only [Bool.or_eq_true, decide_eq_true_eq, not_or, ne_eq, Decidable.not_not] at hc
    obtain ⟨h0, hk⟩ := hc
    obtain ⟨hn, _⟩ := make_len k n key salt pers data hd x x1 h0
    rw [check_of k n key salt pers data hd x x1 h0 hk x.1 rfl, decide_eq_true (rfl : x.1 = x.1)]
    simp only [Option.bind_some]
    by_cases hq : (((((decide ((0 : Int) ≠ 0)) || (!true)) || (decide (((x.1.length : Nat) : Int) ≠ n))) || (decide (bit < 0))) || (decide (((x.1.length : Nat) : Int) ≤ (w64 (Int.tdiv bit 8))))) = true
    · rw [if_pos hq, hn]
      simp
    · rw [if_neg hq]
      simp only [Bool.or_eq_true, decide_eq_true_eq, not_or, ne_eq, Decidable.not_not] at hq
      obtain ⟨⟨_, hb0⟩, hbl⟩ := hq
      have hdiv : w64 (Int.tdiv bit 8) = ((bit.toNat / 8 : Nat) : Int) := by
        rw [Int.tdiv_eq_ediv_of_nonneg (by omega), w64_id (by omega)]
        omega
      rw [hdiv] at hbl ⊢
      have hj : bit.toNat / 8 < x.1.length := by omega
      have hm : Int.tmod bit 8 = bit % 8 := Int.tmod_eq_emod_of_nonneg (by omega)
      rw [geti_nat hj]
      simp only [Option.bind_some, Int.toNat_natCast]
      rw [check_of k n key salt pers data hd x x1 h0 hk _ (by simp)]
      simp only [Option.bind_some]
      have hne : x.1.set (bit.toNat / 8) (x.1[bit.toNat / 8] ^^^ shl8 1 ((UInt64.ofInt (Int.tmod bit 8)).toNat)) ≠ x.1 := fun e => by
        have e2 := congrArg (fun l => l[bit.toNat / 8]?) e
        simp only [List.getElem?_set_self hj, List.getElem?_eq_getElem hj, Option.some.injEq] at e2
        exact xor_ne _ _ (shl_one _ (by rw [hm]; omega) (by rw [hm]; omega)) e2
      rw [decide_eq_false hne]
      rfl
end Go.Sx
