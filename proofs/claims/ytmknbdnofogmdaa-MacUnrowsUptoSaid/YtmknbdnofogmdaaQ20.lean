import Derived.Test.YtmknbdnofogmdaaQ19
namespace Go.Sx
open Go.RowKit
set_option linter.unusedVariables false
set_option linter.unusedSimpArgs false
theorem map_leN : ∀ (bs : List UInt8), (List.range bs.length).map (fun i => UInt8.ofNat (leN bs / 256 ^ i)) = bs
  | [] => rfl
  | b :: r => by
    have ih := map_leN r
    have hb := b.toNat_lt
    rw [List.length_cons, List.range_succ_eq_map, List.map_cons, List.map_map]
    congr 1
    · rw [← UInt8.toNat_inj]
      simp only [leN, UInt8.toNat_ofNat', Nat.pow_zero, Nat.div_one]
      omega
    · refine Eq.trans (List.map_congr_left fun i _ => ?_) ih
      simp only [Function.comp, leN, Nat.pow_succ]
      rw [Nat.mul_comm (256 ^ i) 256, ← Nat.div_div_eq_div_mul, show (b.toNat + 256 * leN r) / 256 = leN r from by omega]
theorem lb_leN (bs : List UInt8) (h : bs.length = 8) : lb (leN bs) = bs := by
  have := map_leN bs
  rw [h] at this
  exact this
theorem leN_lb (n : Nat) (h : n ≤ 16777216) : leN (lb n) = n := by
  unfold lb
  rw [leN_store]
  exact Nat.mod_eq_of_lt (Nat.lt_of_le_of_lt h (by decide))
theorem rowB_app (l : List (List UInt8)) (x : List UInt8) : rowB (l ++ [x]) = rowB l ++ (lb x.length ++ x) := by
  unfold rowB; simp
theorem rowB_split (l : List (List UInt8)) (i : Nat) (h : i < l.length) : rowB l = rowB (l.take i) ++ (lb l[i].length ++ (l[i] ++ rowB (l.drop (i + 1)))) := by
  have e : l = l.take i ++ (l[i] :: l.drop (i + 1)) := by rw [← List.drop_eq_getElem_cons h, List.take_append_drop]
  have e2 : rowB l = rowB (l.take i ++ (l[i] :: l.drop (i + 1))) := by rw [← e]
  rw [e2]
  unfold rowB
  simp only [List.map_append, List.map_cons, List.flatten_append, List.flatten_cons, List.append_assoc]
/-- what the parts of any bytes are, where there is no fault -/
theorem unrow_any (b : List UInt8) (hb : b.length ≤ 16000000) : ∃ r, m_mac_Unrow b = some r ∧ (r.2.2 = 0 → rowB r.1 = b) := by
  unfold m_mac_Unrow
  rw [if_neg (by omega)]
  refine whileO_inv (fun i (s : List (List UInt8) × Int) => ∃ a : Nat, s.2 = (a : Int) ∧ i ≤ a ∧ a ≤ b.length ∧ rowB s.1 = b.take a) (fun (r : List (List UInt8) × Int × Int) => r.2.2 = 0 → rowB r.1 = b) b.length ?_ (([] : List (List UInt8)), (0 : Int)) ⟨0, rfl, by omega, by omega, rfl⟩
  rintro i ⟨parts, at_⟩ ⟨a, h1, h2, h3, h4⟩
  simp only at h1 h4
  subst h1
  unfold m_mac_Unrow_l0
  simp only []
  by_cases hlt : a < b.length
  · rw [if_pos (by omega), load64 b (by omega) _ (by omega), if_neg (by omega)]
    simp only [Option.bind_some, Int.toNat_natCast]
    by_cases h8 : (b.length : Int) < (a : Int) + 8
    · right
      rw [if_pos h8]
      rw [if_pos (by decide)]
      exact ⟨_, rfl, fun h => absurd (show (4 : Int) = 0 from h) (by decide)⟩
    · rw [if_neg h8]
      simp only []
      rw [if_neg (by decide), w64_id (n := (a : Int) + 8) (by omega), w64_id (by omega)]
      have hbs : ((b.drop a).take 8).length = 8 := by simp; omega
      have hnl := leN_lt ((b.drop a).take 8)
      rw [hbs] at hnl
      have hv : (UInt64.ofNat (leN ((b.drop a).take 8))).toNat = leN ((b.drop a).take 8) := by
        simp only [UInt64.toNat_ofNat']
        exact Nat.mod_eq_of_lt (Nat.lt_of_lt_of_le hnl (by decide))
      by_cases hgt : UInt64.ofInt ((b.length : Int) - ((a : Int) + 8)) < UInt64.ofNat (leN ((b.drop a).take 8))
      · right
        rw [if_pos hgt]
        exact ⟨_, rfl, fun h => absurd (show (4 : Int) = 0 from h) (by decide)⟩
      · rw [if_neg hgt]
        have hrest : (UInt64.ofInt ((b.length : Int) - ((a : Int) + 8))).toNat = b.length - (a + 8) := by
          rw [show (b.length : Int) - ((a : Int) + 8) = ((b.length - (a + 8) : Nat) : Int) from by omega, u64_nat]
          simp only [UInt64.toNat_ofNat']
          omega
        rw [UInt64.lt_iff_toNat_lt, hrest, hv] at hgt
        rw [hv]
        generalize hN : leN ((b.drop a).take 8) = N at *
        rw [w64_id (n := (N : Int)) (by omega), w64_id (by omega)]
        have e8 : (a : Int) + 8 = ((a + 8 : Nat) : Int) := by omega
        have eN : (a : Int) + 8 + (N : Int) = ((a + 8 + N : Nat) : Int) := by omega
        rw [eN, e8, slc_ok (by omega)]
        simp only [Option.bind_some, Int.toNat_natCast]
        have hxl : ((b.take (a + 8 + N)).drop (a + 8)).length = N := by simp; omega
        have hpl := rowB_len parts
        rw [h4, List.length_take] at hpl
        rw [app_ok (by simp; omega)]
        simp only [Option.bind_some, List.nil_append]
        rw [app_ok (by simp; omega)]
        left
        refine ⟨by omega, _, rfl, a + 8 + N, rfl, by omega, by omega, ?_⟩
        show rowB (parts ++ [(b.take (a + 8 + N)).drop (a + 8)]) = _
        have hlb : lb N = (b.drop a).take 8 := by rw [← hN]; exact lb_leN _ hbs
        rw [rowB_app, hxl, h4, hlb]
        have e1 : b.take (a + 8 + N) = b.take a ++ ((b.drop a).take 8 ++ (b.take (a + 8 + N)).drop (a + 8)) := by
          rw [← List.append_assoc, ← List.take_add]
          have := List.take_append_drop (a + 8) (b.take (a + 8 + N))
          rw [List.take_take, Nat.min_eq_left (by omega)] at this
          exact this.symm
        exact e1.symm
  · right
    rw [if_neg (by omega)]
    refine ⟨_, rfl, fun _ => ?_⟩
    show rowB parts = b
    rw [h4]
    exact List.take_of_length_le (by omega)
/-- the parts of a row are read back -/
theorem unrow_row (l : List (List UInt8)) (hl : Tot l ≤ 1048576) : m_mac_Unrow (rowB l) = some (l, 0, 0) := by
  have hlen : l.length ≤ 1048576 := by have := tot_flat l; omega
  have hS := rowB_le l hl
  have hL := hS l.length
  rw [List.take_length] at hL
  unfold m_mac_Unrow
  rw [if_neg (by omega)]
  refine whileO_run (fun i => (l.take i, (((rowB (l.take i)).length : Nat) : Int))) l.length (fun i hi => ?_) ?_
  · have h1 := hS i
    have h2 := hS (i + 1)
    have hsp := rowB_split l i hi
    have hll := congrArg List.length hsp
    simp only [List.length_append, lb_len] at hll
    have hd : ((rowB l).drop (rowB (l.take i)).length).take 8 = lb l[i].length := by
      rw [hsp, List.drop_left, List.take_append_of_le_length (by rw [lb_len]; omega), List.take_of_length_le (by rw [lb_len]; omega)]
    have hx : ((rowB l).take ((rowB (l.take i)).length + 8 + l[i].length)).drop ((rowB (l.take i)).length + 8) = l[i] := by
      rw [List.drop_take, show (rowB (l.take i)).length + 8 + l[i].length - ((rowB (l.take i)).length + 8) = l[i].length from by omega, hsp, ← List.drop_drop, List.drop_left,
        show (8 : Nat) = (lb l[i].length).length from (lb_len _).symm, List.drop_left, List.take_left]
    have e16 : l[i].length ≤ 1048576 := by
      have h3 := tot_get l i hi
      have h4 := tot_take l (i + 1)
      omega
    unfold m_mac_Unrow_l0
    simp only []
    rw [if_pos (by omega), load64 _ (by omega) _ (by omega), if_neg (by omega), if_neg (by omega), Int.toNat_natCast, hd, leN_lb _ (by omega)]
    simp only [Option.bind_some]
    rw [if_neg (by decide), w64_id (n := ((rowB (l.take i)).length : Int) + 8) (by omega), w64_id (by omega)]
    have hv : (UInt64.ofNat l[i].length).toNat = l[i].length := by simp only [UInt64.toNat_ofNat']; omega
    rw [if_neg (by
      rw [UInt64.lt_iff_toNat_lt, hv, show ((rowB l).length : Int) - (((rowB (l.take i)).length : Int) + 8) = (((rowB l).length - ((rowB (l.take i)).length + 8) : Nat) : Int) from by omega, u64_nat]
      simp only [UInt64.toNat_ofNat']
      omega), hv, w64_id (n := ((l[i].length : Nat) : Int)) (by omega), w64_id (by omega)]
    have e8 : ((rowB (l.take i)).length : Int) + 8 = (((rowB (l.take i)).length + 8 : Nat) : Int) := by omega
    have eN : ((rowB (l.take i)).length : Int) + 8 + (l[i].length : Int) = (((rowB (l.take i)).length + 8 + l[i].length : Nat) : Int) := by omega
    rw [eN, e8, slc_ok (by omega)]
    simp only [Option.bind_some, Int.toNat_natCast]
    rw [hx, app_ok (by simp; omega)]
    simp only [Option.bind_some, List.nil_append]
    rw [app_ok (by simp; omega)]
    simp only [Option.bind_some]
    rw [rowB_get l i hi, List.take_add_one, List.getElem?_eq_getElem hi]
    simp only [List.length_append, lb_len, Option.toList_some]
    congr 3
    omega
  · unfold m_mac_Unrow_l0
    simp only []
    rw [List.take_length, if_neg (by omega)]
    rfl
theorem p_l06_MacRows (l : List (List UInt8)) (hl : Tot l ≤ 1048576) (b : List UInt8) (hb : b.length ≤ 1048576) : m_l06_MacRows l b = some true := by
  have hlen : l.length ≤ 1048576 := by have := tot_flat l; omega
  have j0 : m_l06_MacRows_j0 b = some true := by
    obtain ⟨r, h1, h2⟩ := unrow_any b (by omega)
    unfold m_l06_MacRows_j0
    rw [h1]
    simp only [Option.bind_some]
    by_cases he : r.2.2 ≠ 0
    · rw [if_pos he]
    · rw [if_neg he]
      have hr := h2 (by omega)
      have ht : Tot r.1 ≤ 1048576 := by
        have h3 := tot_flat r.1
        have h4 := rowB_len r.1
        rw [hr] at h4
        omega
      rw [mrow_ok r.1 ht, hr]
      simp only [Option.bind_some, if_true]
      rw [same_eq _ _ (by omega)]
      simp
  unfold m_l06_MacRows
  rw [alive_ok]
  simp only [Option.bind_some]
  rw [if_neg (by decide), mrow_ok l hl]
  simp only [Option.bind_some, if_true]
  rw [unrow_row l hl]
  simp only [Option.bind_some]
  rw [if_neg (by simp)]
  refine whileO_run (fun i => (i : Int)) l.length (fun i hi => ?_) ?_
  · have e16 : l[i].length ≤ 1048576 := by
      have h3 := tot_get l i hi
      have h4 := tot_take l (i + 1)
      omega
    unfold m_l06_MacRows_l0
    simp only []
    rw [if_pos (by omega), geti_nat hi]
    simp only [Option.bind_some]
    rw [same_eq _ _ (by omega)]
    simp only [Option.bind_some, decide_true, Bool.not_true, Bool.false_eq_true, if_false]
    rw [w64_succ i (by omega)]
  · unfold m_l06_MacRows_l0
    simp only []
    rw [if_neg (by omega), j0]
    rfl
end Go.Sx
