import Derived.Test.YtjddlmbpkkbkoaaGreatQ17
namespace Go.Sx
open Go.RowKit
set_option linter.unusedVariables false
set_option linter.unusedSimpArgs false
section
variable (k m : Int) (ctx : List UInt8) (hm : m_r02_Most k = some m)
include hm
noncomputable def sub (k m : Int) (ctx : List UInt8) (key : List UInt8) (id : UInt64) : List UInt8 := ((m_mac_Subkey k m key id ctx).getD ([], 0)).1
end
theorem wide_ok (b : List UInt8) (hb : b.length ≤ 16000000) : ∃ t, m_l06_wide b = some (b ++ t) ∧ t.length = 70 := by
  unfold m_l06_wide
  rw [app_ok (by simp; omega)]
  simp only [Option.bind_some, List.nil_append]
  refine ⟨(List.range 70).map fun i => UInt8.ofInt (w64 (200 + (Int.tmod (i : Nat) 7))), ?_, by simp⟩
  refine whileO_eq (fun i s => s = (b ++ (List.range i).map (fun i => UInt8.ofInt (w64 (200 + (Int.tmod (i : Nat) 7)))), (i : Int)) ∧ i ≤ 70) _ 70 _ ⟨by simp, by omega⟩ ?_
  rintro i s ⟨rfl, hi⟩
  unfold m_l06_wide_l0
  simp only []
  by_cases hlt : i < 70
  · left
    rw [if_pos (by omega), app_ok (by simp; omega)]
    simp only [Option.bind_some]
    refine ⟨hlt, _, rfl, ?_, by omega⟩
    rw [w64_succ i (by omega), List.range_succ, List.map_append, ← List.append_assoc]
    rfl
  · right
    obtain rfl : i = 70 := by omega
    rw [if_neg (by omega)]
    rfl
theorem kept_ok (full b : List UInt8) (hb : b.length ≤ 16000000) (hf : m_l06_wide b = some full) (hl : full.length ≤ 16000070) (hl2 : full.length ≤ 16000000) : m_l06_kept full b = some true := by
  unfold m_l06_kept
  rw [hf]
  simp only [Option.bind_some]
  rw [same_eq _ _ hl2]
  simp
theorem spoil1_ok (b : List UInt8) (hb : b.length ≤ 16000000) : whileO (m_l06_spoil_l1) (b, (0 : Int)) = some () := by
  refine whileO_eq (fun i s => s.2 = (i : Int) ∧ s.1.length = b.length + i ∧ i ≤ 70) _ 70 _ ⟨rfl, rfl, by omega⟩ ?_
  rintro i ⟨c, s⟩ ⟨h1, h2, hi⟩
  simp only at h1 h2
  subst h1
  unfold m_l06_spoil_l1
  simp only []
  by_cases hlt : i < 70
  · left
    rw [if_pos (by omega), app_ok (by simp; omega)]
    simp only [Option.bind_some]
    refine ⟨hlt, _, rfl, by rw [w64_succ i (by omega)], by simp [h2]; omega, by omega⟩
  · right
    rw [if_neg (by omega)]
    rfl
theorem spoil_ok (b : List UInt8) (hb : b.length ≤ 16000000) : m_l06_spoil b = some () := by
  unfold m_l06_spoil
  refine whileO_eq (fun i s => s.2 = (i : Int) ∧ s.1.length = b.length ∧ i ≤ b.length) _ b.length _ ⟨rfl, rfl, by omega⟩ ?_
  rintro i ⟨c, s⟩ ⟨h1, h2, hi⟩
  simp only at h1 h2
  subst h1
  unfold m_l06_spoil_l0
  simp only []
  by_cases hlt : i < b.length
  · left
    rw [if_pos (by omega), geti_nat (show i < c.length by omega)]
    simp only [Option.bind_some]
    exact ⟨hlt, _, rfl, by rw [w64_succ i (by omega)], by simp [h2], by omega⟩
  · right
    rw [if_neg (by omega), spoil1_ok c (by omega)]
    rfl
end Go.Sx

