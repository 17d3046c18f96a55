import Derived.Test.YtmknbdnofogmdaaQ20
namespace Go.Sx
open Go.RowKit
set_option linter.unusedVariables false
set_option linter.unusedSimpArgs false
theorem unrow_both (b : List UInt8) (hb : b.length ≤ 16000000) : ∃ r, m_mac_Unrow b = some r ∧ m_r06_Unrow b = some r ∧ r.1.length ≤ b.length ∧ ∀ x ∈ r.1, x.length ≤ b.length := by
  unfold m_mac_Unrow m_r06_Unrow
  rw [if_neg (by omega), if_neg (by omega)]
  have go : ∀ (d a : Nat) (parts : List (List UInt8)), b.length - a ≤ d → a ≤ b.length → parts.length ≤ a → (∀ x ∈ parts, x.length ≤ b.length) →
      ∃ r, whileO (m_mac_Unrow_l0 b) (parts, (a : Int)) = some r ∧ whileO (m_r06_Unrow_l0 b) (parts, (a : Int)) = some r ∧ r.1.length ≤ b.length ∧ ∀ x ∈ r.1, x.length ≤ b.length := by
    intro d
    induction d with
    | zero =>
      intro a parts h1 h2 h3 h4
      refine ⟨(parts, 0, 0), whileO_done ?_, whileO_done ?_, by simp; omega, h4⟩
      · unfold m_mac_Unrow_l0; simp only []; rw [if_neg (by omega)]; rfl
      · unfold m_r06_Unrow_l0; simp only []; rw [if_neg (by omega)]; rfl
    | succ d ih =>
      intro a parts h1 h2 h3 h4
      by_cases hlt : a < b.length
      · by_cases h8 : (b.length : Int) < (a : Int) + 8
        · refine ⟨([], (a : Int), 4), whileO_done ?_, whileO_done ?_, by simp, by simp⟩
          · unfold m_mac_Unrow_l0; simp only []
            rw [if_pos (by omega), load64 b (by omega) _ (by omega), if_neg (by omega), if_pos h8]
            simp only [Option.bind_some]
            rw [if_pos (by decide)]
            rfl
          · unfold m_r06_Unrow_l0; simp only []
            rw [if_pos (by omega), w64_id (by omega), if_pos (by omega)]
            rfl
        · have hbs : ((b.drop a).take 8).length = 8 := by simp; omega
          have hnl := leN_lt ((b.drop a).take 8)
          rw [hbs] at hnl
          have hv : (UInt64.ofNat (leN ((b.drop a).take 8))).toNat = leN ((b.drop a).take 8) := by
            simp only [UInt64.toNat_ofNat']
            exact Nat.mod_eq_of_lt (Nat.lt_of_lt_of_le hnl (by decide))
          have hL := load64 b (by omega) (a : Int) (by omega)
          rw [if_neg (by omega), if_neg h8, Int.toNat_natCast] at hL
          have hR := rload b (by omega) (a : Int) (by omega) 8 (by omega)
          rw [show ((8 : Nat) : Int) = 8 from rfl, if_neg (by omega), if_neg h8, Int.toNat_natCast] at hR
          by_cases hgt : UInt64.ofInt ((b.length : Int) - ((a : Int) + 8)) < UInt64.ofNat (leN ((b.drop a).take 8))
          · refine ⟨([], (a : Int) + 8, 4), whileO_done ?_, whileO_done ?_, by simp, by simp⟩
            · unfold m_mac_Unrow_l0; simp only []
              rw [if_pos (by omega), hL]
              simp only [Option.bind_some]
              rw [if_neg (by decide), w64_id (n := (a : Int) + 8) (by omega), w64_id (by omega), if_pos hgt]
              rfl
            · unfold m_r06_Unrow_l0; simp only []
              rw [if_pos (by omega), w64_id (n := (b.length : Int) - (a : Int)) (by omega), if_neg (by omega), hR]
              simp only [Option.bind_some]
              rw [w64_id (n := (a : Int) + 8) (by omega), w64_id (by omega), if_pos hgt]
              rfl
          · have hrest : (UInt64.ofInt ((b.length : Int) - ((a : Int) + 8))).toNat = b.length - (a + 8) := by
              rw [show (b.length : Int) - ((a : Int) + 8) = ((b.length - (a + 8) : Nat) : Int) from by omega, u64_nat]
              simp only [UInt64.toNat_ofNat']
              omega
            have hgt' := hgt
            rw [UInt64.lt_iff_toNat_lt, hrest, hv] at hgt'
            generalize hN : leN ((b.drop a).take 8) = N at *
            have e8 : (a : Int) + 8 = ((a + 8 : Nat) : Int) := by omega
            have eN : (a : Int) + 8 + (N : Int) = ((a + 8 + N : Nat) : Int) := by omega
            have hxl : ((b.take (a + 8 + N)).drop (a + 8)).length = N := by simp; omega
            obtain ⟨r, r1, r2, r3, r4⟩ := ih (a + 8 + N) (parts ++ [(b.take (a + 8 + N)).drop (a + 8)]) (by omega) (by omega) (by simp; omega) (fun x hx => by
              rcases List.mem_append.1 hx with hx | hx
              · exact h4 x hx
              · rw [List.mem_singleton] at hx; subst hx; omega)
            refine ⟨r, (whileO_next ?_).trans r1, (whileO_next ?_).trans r2, r3, r4⟩
            · unfold m_mac_Unrow_l0; simp only []
              rw [if_pos (by omega), hL]
              simp only [Option.bind_some]
              rw [if_neg (by decide), w64_id (n := (a : Int) + 8) (by omega), w64_id (by omega), if_neg hgt, hv, w64_id (n := (N : Int)) (by omega), w64_id (by omega), eN, e8, slc_ok (by omega)]
              simp only [Option.bind_some, Int.toNat_natCast]
              rw [app_ok (by simp; omega)]
              simp only [Option.bind_some, List.nil_append]
              rw [app_ok (by simp; omega)]
              rfl
            · unfold m_r06_Unrow_l0; simp only []
              rw [if_pos (by omega), w64_id (n := (b.length : Int) - (a : Int)) (by omega), if_neg (by omega), hR]
              simp only [Option.bind_some]
              rw [w64_id (n := (a : Int) + 8) (by omega), w64_id (by omega), if_neg hgt, hv, w64_id (n := (N : Int)) (by omega), w64_id (by omega), eN, e8, slc_ok (by omega)]
              simp only [Option.bind_some, Int.toNat_natCast]
              rw [app_ok (by simp; omega)]
              simp only [Option.bind_some, List.nil_append]
              rw [app_ok (by simp; omega)]
              rfl
      · refine ⟨(parts, 0, 0), whileO_done ?_, whileO_done ?_, by simp; omega, h4⟩
        · unfold m_mac_Unrow_l0; simp only []; rw [if_neg (by omega)]; rfl
        · unfold m_r06_Unrow_l0; simp only []; rw [if_neg (by omega)]; rfl
  exact go b.length 0 [] (by omega) (by omega) (by simp) (by simp)
theorem p_l06_MacUnrows (b : List UInt8) (hb : b.length ≤ 1048576) : m_l06_MacUnrows b = some true := by
  obtain ⟨t, ht, htl⟩ := wide_ok b (by omega)
  obtain ⟨r, r1, r2, r3, r4⟩ := unrow_both b (by omega)
  have hcut : slc (b ++ t) 0 ((b.length : Nat) : Int) = some b := by
    rw [slc_ok (by simp only [List.length_append]; omega)]
    simp
  unfold m_l06_MacUnrows
  rw [ht]
  simp only [Option.bind_some]
  rw [hcut]
  simp only [Option.bind_some]
  rw [r1, r2]
  simp only [Option.bind_some]
  rw [if_neg (by simp)]
  have hel : ∀ i (hi : i < r.1.length), r.1[i].length ≤ 16000000 := fun i hi => by have := r4 _ (List.getElem_mem hi); omega
  refine whileO_run (fun i => (i : Int)) r.1.length (fun i hi => ?_) ?_
  · unfold m_l06_MacUnrows_l0
    simp only []
    rw [if_pos (by omega), geti_nat hi]
    simp only [Option.bind_some]
    rw [same_eq _ _ (hel i hi)]
    simp only [Option.bind_some, decide_true, Bool.not_true, Bool.false_eq_true, if_false]
    rw [w64_succ i (by omega)]
  · unfold m_l06_MacUnrows_l0
    simp only []
    rw [if_neg (by omega)]
    have h1 : whileO (m_l06_MacUnrows_l1 b (b ++ t) r r) (0 : Int) = some true := by
      refine whileO_run (fun i => (i : Int)) r.1.length (fun i hi => ?_) ?_
      · unfold m_l06_MacUnrows_l1
        simp only []
        rw [if_pos (by omega), geti_nat hi]
        simp only [Option.bind_some]
        rw [spoil_ok _ (hel i hi)]
        simp only [Option.bind_some]
        rw [w64_succ i (by omega)]
      · unfold m_l06_MacUnrows_l1
        simp only []
        rw [if_neg (by omega), hcut]
        simp only [Option.bind_some]
        rw [r1]
        simp only [Option.bind_some]
        have h2 : whileO (m_l06_MacUnrows_l2 b (b ++ t) r r) (0 : Int) = some true := by
          refine whileO_run (fun i => (i : Int)) r.1.length (fun i hi => ?_) ?_
          · unfold m_l06_MacUnrows_l2
            simp only []
            rw [if_pos (by omega), if_neg (by simp), geti_nat hi]
            simp only [Option.bind_some]
            rw [same_eq _ _ (hel i hi)]
            simp only [Option.bind_some, decide_true, Bool.not_true, Bool.false_eq_true, if_false]
            rw [w64_succ i (by omega)]
          · unfold m_l06_MacUnrows_l2
            simp only []
            rw [if_neg (by omega), kept_ok (b ++ t) b (by omega) ht (by simp; omega) (by simp; omega)]
            rfl
        rw [h2]
        rfl
    rw [h1]
    rfl
end Go.Sx
