import Derived.Test.YtmknbdnofogmdaaQ14
namespace Go.Sx
open Go.RowKit
set_option linter.unusedVariables false
set_option linter.unusedSimpArgs false
theorem rsub_loop (k n : Int) (master ctx r1 : List UInt8) (hc : ctx.length ≤ 64) : whileO (m_r06_Subkey_l0 k n master ctx r1) (List.replicate (Int.toNat (0 : Int)) (0 : UInt8), (0 : Int)) = ((m_r06_Make k n master r1 ctx ([] : List UInt8)).bind fun r_2 => some (r_2.1, r_2.2)) := by
  obtain ⟨x, x1, x2, x3⟩ := make_ok k n master r1 ctx [] (by simp)
  rw [x2]
  refine whileO_eq (fun i s => s = (ctx.take i, (i : Int)) ∧ i ≤ ctx.length) _ ctx.length _ ⟨rfl, by omega⟩ ?_
  rintro i s ⟨rfl, hi⟩
  unfold m_r06_Subkey_l0
  simp only []
  by_cases hlt : i < ctx.length
  · left
    rw [if_pos (by omega), geti_nat hlt]
    simp only [Option.bind_some]
    rw [app_ok (by simp; omega)]
    simp only [Option.bind_some]
    refine ⟨hlt, _, rfl, ?_, by omega⟩
    rw [w64_succ i (by omega), List.take_add_one, List.getElem?_eq_getElem hlt]
    rfl
  · right
    obtain rfl : i = ctx.length := by omega
    rw [if_neg (by omega), List.take_length, x2]
    rfl
theorem stores_eq (id : UInt64) : ∃ r, m_word_Store64 id = some r ∧ m_r01_Store id (8 : Int) = some r := ⟨_, store64 id, rstore id 8 (by omega)⟩
theorem subkey_ok (k n : Int) (master : List UInt8) (id : UInt64) (ctx : List UInt8) : ∃ x, m_mac_Subkey k n master id ctx = some x ∧ m_r06_Subkey k n master id ctx = some x ∧ x.1.length ≤ 64 := by
  obtain ⟨m, hm, h0, h64⟩ := most_le k
  obtain ⟨r, r1, r2⟩ := stores_eq id
  obtain ⟨x, x1, x2, x3⟩ := make_ok k n master r ctx [] (by simp)
  unfold m_mac_Subkey m_r06_Subkey
  rw [most_ok, hm]
  simp only [Option.bind_some]
  by_cases hm0 : m = 0
  · rw [if_pos hm0, if_pos hm0]; exact ⟨_, rfl, rfl, by simp⟩
  rw [if_neg hm0, if_neg hm0]
  by_cases hl : ((master.length : Nat) : Int) = 0
  · rw [if_pos hl, if_pos hl]; exact ⟨_, rfl, rfl, by simp⟩
  rw [if_neg hl, if_neg hl]
  by_cases hc : w64 (Int.tdiv m 4) < (ctx.length : Int)
  · rw [if_pos hc, if_pos hc]; exact ⟨_, rfl, rfl, by simp⟩
  rw [if_neg hc, if_neg hc, r1, r2]
  have ht : Int.tdiv m 4 = m / 4 := Int.tdiv_eq_ediv_of_nonneg h0
  have hc' : ctx.length ≤ 64 := by
    rw [ht, w64_id (by omega)] at hc
    omega
  simp only [Option.bind_some]
  rw [need_ok (by omega), rsub_loop k n master ctx r hc', x1, x2]
  exact ⟨_, rfl, rfl, x3⟩
theorem derive_ok (k : Int) (master ctx : List UInt8) (ids : List UInt64) (hm : master.length ≤ 16000000) (hi : ids.length ≤ 16000000) : ∃ x, m_mac_Derive k master ctx ids = some x ∧ m_r06_Derive k master ctx ids = some x ∧ x.1.length ≤ 16000000 := by
  obtain ⟨m, hm1, h0, h64⟩ := most_le k
  obtain ⟨s, s1, s2, s3⟩ := subkey_ok k m master 0 ctx
  unfold m_mac_Derive m_r06_Derive
  rw [most_ok, hm1]
  simp only [Option.bind_some]
  rw [s1, s2]
  simp only [Option.bind_some]
  by_cases he : s.2 ≠ 0
  · rw [if_pos he, if_pos he]; exact ⟨_, rfl, rfl, by simp⟩
  rw [if_neg he, if_neg he]
  unfold m_slices_Clone_byte_byte
  rw [app_ok (by simp; omega)]
  simp only [Option.bind_some, List.nil_append]
  have key : ∀ (d i : Nat) (key : List UInt8), d + i = ids.length → key.length ≤ 16000000 → ∃ x, whileO (m_mac_Derive_l0 k ctx ids m) (key, (i : Int)) = some x ∧ whileO (m_r06_Derive_l0 k ctx ids m) (key, (i : Int)) = some x ∧ x.1.length ≤ 16000000 := by
    intro d
    induction d with
    | zero =>
      intro i key hd hk
      refine ⟨(key, 0), whileO_done ?_, whileO_done ?_, hk⟩
      · unfold m_mac_Derive_l0; simp only []; rw [if_neg (by omega)]; rfl
      · unfold m_r06_Derive_l0; simp only []; rw [if_neg (by omega)]; rfl
    | succ d ih =>
      intro i key hd hk
      obtain ⟨y, y1, y2, y3⟩ := subkey_ok k m key (ids[i]'(by omega)) ctx
      obtain ⟨x, e1, e2, e3⟩ := ih (i + 1) y.1 (by omega) (by omega)
      refine ⟨x, ?_, ?_, e3⟩
      · refine (whileO_next ?_).trans e1
        unfold m_mac_Derive_l0; simp only []
        rw [if_pos (by omega), geti_nat (show i < ids.length by omega)]
        simp only [Option.bind_some]
        rw [y1, w64_succ i (by omega)]; rfl

      · refine (whileO_next ?_).trans e2
        unfold m_r06_Derive_l0; simp only []
        rw [if_pos (by omega), geti_nat (show i < ids.length by omega)]
        simp only [Option.bind_some]
        rw [y2, w64_succ i (by omega)]; rfl

  exact key ids.length 0 master (by omega) hm
theorem p_l06_MacSubkeys (k : Int) (_ : -9223372036854775808 ≤ k ∧ k ≤ 9223372036854775807) (n : Int) (_ : -9223372036854775808 ≤ n ∧ n ≤ 9223372036854775807) (master : List UInt8) (_ : master.length ≤ 1048576) (ctx : List UInt8) (_ : ctx.length ≤ 1048576) (ids : List UInt64) (_ : ids.length ≤ 1048576) (cut : Int) (_ : -9223372036854775808 ≤ cut ∧ cut ≤ 9223372036854775807) : m_l06_MacSubkeys k n master ctx ids cut = some true := by
  have j0 : ∀ id, m_l06_MacSubkeys_j0 k n master ctx ids id = some true := fun id => by
    obtain ⟨x, x1, x2, x3⟩ := subkey_ok k n master id ctx
    obtain ⟨y, y1, y2, y3⟩ := derive_ok k master ctx ids (by omega) (by omega)
    unfold m_l06_MacSubkeys_j0
    rw [x1, x2]
    simp only [Option.bind_some]
    rw [if_neg (by simp), same_eq _ _ (by omega)]
    simp only [Option.bind_some]
    rw [if_neg (by simp), y1, y2]
    simp only [Option.bind_some]
    rw [if_pos trivial, same_eq _ _ (by omega)]
    simp
  unfold m_l06_MacSubkeys
  by_cases h : 0 < ((ids.length : Nat) : Int)
  · rw [if_pos h, show ((0 : Int)) = ((0 : Nat) : Int) from rfl, geti_nat (show 0 < ids.length by omega)]
    exact j0 _
  · rw [if_neg h]; exact j0 _
end Go.Sx
