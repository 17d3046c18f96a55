import Derived.Test.YtmknbdnofogmdaaQ18
import Derived.Test.YtmknbdnofogmdaaSyR
namespace Go.Sx
open Go.RowKit
set_option linter.unusedVariables false
set_option linter.unusedSimpArgs false
theorem take_flat (l : List (List UInt8)) (i : Nat) (h : i < l.length) : (l.take (i + 1)).flatten = (l.take i).flatten ++ l[i] := by
  rw [List.take_add_one, List.getElem?_eq_getElem h, List.flatten_append]
  simp
theorem tot_flat : ∀ (l : List (List UInt8)), l.flatten.length + l.length = Tot l
  | [] => rfl
  | x :: xs => by
    have := tot_flat xs
    simp only [List.flatten_cons, List.length_append, List.length_cons, Tot]
    omega
theorem tot_take (l : List (List UInt8)) (i : Nat) : Tot (l.take i) ≤ Tot l := by
  induction l generalizing i with
  | nil => simp
  | cons x xs ih =>
    cases i with
    | zero => simp [Tot]
    | succ i => simp only [List.take_succ_cons, Tot]; have := ih i; omega
theorem tot_get (l : List (List UInt8)) (i : Nat) (h : i < l.length) : Tot (l.take (i + 1)) = Tot (l.take i) + (l[i].length + 1) := by
  rw [← tot_flat, ← tot_flat, take_flat l i h]
  simp only [List.length_append, List.length_take]
  omega
theorem grow_ok (n : Nat) (h : n ≤ 16000000) : m_slices_Grow_byte_byte (n : Int) = some [] := by
  unfold m_slices_Grow_byte_byte m_slices_Grow_byte_byte_j0 m_slices_Grow_byte_byte_j1
  rw [if_neg (by omega), show w64 (0 - ((0 : Nat) : Int)) = 0 from by rw [w64_id (by omega)]; rfl, Int.sub_zero, w64_id (by omega)]
  by_cases h0 : 0 < (n : Int)
  · rw [if_pos h0]
    unfold appz
    rw [if_pos (by simp; omega)]
    simp only [Option.bind_some]
    rw [slc_ok (by simp)]
    rfl
  · rw [if_neg h0]
theorem concat_ok (l : List (List UInt8)) (hl : Tot l ≤ 1048576) : m_slices_Concat_byte_byte l = some l.flatten := by
  have hlen : l.length ≤ 1048576 := by have := tot_flat l; omega
  have hS : ∀ i, (l.take i).flatten.length ≤ 1048576 := fun i => by have := tot_flat (l.take i); have := tot_take l i; omega
  unfold m_slices_Concat_byte_byte
  refine whileO_run (fun i => ((((l.take i).flatten.length : Nat) : Int), (i : Int))) l.length (fun i hi => ?_) ?_
  · unfold m_slices_Concat_byte_byte_l0 m_slices_Concat_byte_byte_j0
    have h1 := hS i
    have h2 := hS (i + 1)
    rw [take_flat l i hi] at h2 ⊢
    simp only [List.length_append] at h2 ⊢
    rw [if_pos (by omega), geti_nat hi]
    simp only [Option.bind_some]
    rw [w64_id (by omega), if_neg (by omega), w64_succ i (by omega)]
    rfl
  · unfold m_slices_Concat_byte_byte_l0
    simp only []
    rw [if_neg (by omega), grow_ok _ (by have := hS l.length; omega)]
    simp only [Option.bind_some]
    have hw : whileO (m_slices_Concat_byte_byte_l1 l) (([] : List UInt8), (0 : Int)) = some l.flatten := by
     refine whileO_run (fun i => ((l.take i).flatten, (i : Int))) l.length (fun i hi => ?_) ?_
     · unfold m_slices_Concat_byte_byte_l1
       have h1 := hS i
       have h2 := hS (i + 1)
       rw [take_flat l i hi] at h2 ⊢
       simp only [List.length_append] at h2
       simp only []
       rw [if_pos (by omega), geti_nat hi]
       simp only [Option.bind_some]
       rw [app_ok (by omega), w64_succ i (by omega)]
       rfl
     · unfold m_slices_Concat_byte_byte_l1
       simp only []
       rw [if_neg (by omega), List.take_length]
       rfl
    rw [hw]
    rfl
theorem parts_ok (k n : Int) (key : List UInt8) (l : List (List UInt8)) (hl : Tot l ≤ 1048576) : ∃ x, m_mac_Parts k n key l = some x ∧ m_r06_Parts k n key l = some x ∧ x.1.length ≤ 64 := by
  have hlen : l.length ≤ 1048576 := by have := tot_flat l; omega
  have hS : ∀ i, (l.take i).flatten.length ≤ 1048576 := fun i => by have := tot_flat (l.take i); have := tot_take l i; omega
  have hf : l.flatten.length ≤ 1048576 := by have := tot_flat l; omega
  obtain ⟨x, x1, x2, x3⟩ := make_ok k n key [] [] l.flatten (by omega)
  refine ⟨x, ?_, ?_, x3⟩
  · unfold m_mac_Parts
    rw [concat_ok l hl]
    simp only [Option.bind_some]
    rw [x1]
    rfl
  · unfold m_r06_Parts
    refine whileO_run (fun i => ((l.take i).flatten, (i : Int))) l.length (fun i hi => ?_) ?_
    · unfold m_r06_Parts_l0
      have h1 := hS i
      have h2 := hS (i + 1)
      rw [take_flat l i hi] at h2 ⊢
      simp only [List.length_append] at h2
      simp only []
      rw [if_pos (by omega), geti_nat hi]
      simp only [Option.bind_some]
      rw [app_ok (by omega), w64_succ i (by omega)]
      rfl
    · unfold m_r06_Parts_l0
      simp only []
      rw [if_neg (by omega), List.take_length, x2]
      rfl
/-- eight bytes that tell a length -/
def lb (n : Nat) : List UInt8 := (List.range 8).map fun i => UInt8.ofNat (n / 256 ^ i)
theorem lb_len (n : Nat) : (lb n).length = 8 := by simp [lb]
/-- a row of parts, as bytes -/
def rowB (l : List (List UInt8)) : List UInt8 := (l.map fun x => lb x.length ++ x).flatten
theorem rowB_get (l : List (List UInt8)) (i : Nat) (h : i < l.length) : rowB (l.take (i + 1)) = rowB (l.take i) ++ (lb l[i].length ++ l[i]) := by
  unfold rowB
  rw [List.take_add_one, List.getElem?_eq_getElem h, List.map_append, List.flatten_append]
  simp
theorem rowB_len : ∀ (l : List (List UInt8)), (rowB l).length = l.flatten.length + 8 * l.length
  | [] => rfl
  | x :: xs => by
    have := rowB_len xs
    unfold rowB at *
    simp only [List.map_cons, List.flatten_cons, List.length_append, lb_len, List.length_cons]
    omega
theorem rowB_le (l : List (List UInt8)) (hl : Tot l ≤ 1048576) (i : Nat) : (rowB (l.take i)).length ≤ 8388608 := by
  have h1 := rowB_len (l.take i)
  have h2 := tot_flat (l.take i)
  have h3 := tot_take l i
  omega
theorem len_u64 (n : Nat) (h : n ≤ 16000000) : (UInt64.ofInt ((n : Nat) : Int)).toNat = n := by
  rw [u64_nat]; simp only [UInt64.toNat_ofNat']; omega
theorem mstore_ok (n : Nat) (h : n ≤ 16000000) : m_word_Store64 (UInt64.ofInt ((n : Nat) : Int)) = some (lb n) := by
  rw [store64, len_u64 n h]; rfl
theorem rstore_ok (n : Nat) (h : n ≤ 16000000) : m_r01_Store (UInt64.ofInt ((n : Nat) : Int)) (8 : Int) = some (lb n) := by
  have := rstore (UInt64.ofInt ((n : Nat) : Int)) 8 (by omega)
  rw [show ((8 : Nat) : Int) = 8 from rfl] at this
  rw [this, len_u64 n h]; rfl
theorem mrow_ok (l : List (List UInt8)) (hl : Tot l ≤ 1048576) : m_mac_Row l = some (rowB l, 0) := by
  have hlen : l.length ≤ 1048576 := by have := tot_flat l; omega
  have hS := rowB_le l hl
  unfold m_mac_Row
  refine whileO_run (fun i => ((((rowB (l.take i)).length : Nat) : Int), (i : Int))) l.length (fun i hi => ?_) ?_
  · unfold m_mac_Row_l0
    have h1 := hS i
    have h2 := hS (i + 1)
    rw [rowB_get l i hi] at h2 ⊢
    simp only [List.length_append, lb_len] at h2 ⊢
    rw [if_pos (by omega), geti_nat hi]
    simp only [Option.bind_some]
    rw [w64_id (n := 8 + _) (by omega), w64_id (by omega), if_neg (by omega), w64_succ i (by omega)]
    rfl
  · unfold m_mac_Row_l0
    simp only []
    rw [if_neg (by omega), need_ok (by have := hS l.length; omega)]
    simp only [Option.bind_some]
    have hw : whileO (m_mac_Row_l1 l) (List.replicate (Int.toNat (0 : Int)) (0 : UInt8), (0 : Int)) = some (rowB l, (0 : Int)) := by
     refine whileO_run (fun i => (rowB (l.take i), (i : Int))) l.length (fun i hi => ?_) ?_
     · unfold m_mac_Row_l1
       have h1 := hS i
       have h2 := hS (i + 1)
       rw [rowB_get l i hi] at h2 ⊢
       simp only [List.length_append, lb_len] at h2
       simp only []
       rw [if_pos (by omega), geti_nat hi]
       simp only [Option.bind_some]
       rw [mstore_ok _ (by omega)]
       simp only [Option.bind_some]
       rw [app_ok (by rw [lb_len]; omega)]
       simp only [Option.bind_some]
       rw [app_ok (by simp only [List.length_append, lb_len]; omega), w64_succ i (by omega), List.append_assoc]
       rfl
     · unfold m_mac_Row_l1
       simp only []
       rw [if_neg (by omega), List.take_length]
       rfl
    rw [hw]
    rfl
theorem rrow_ok (l : List (List UInt8)) (hl : Tot l ≤ 1048576) : m_r06_Row l = some (rowB l, 0) := by
  have hlen : l.length ≤ 1048576 := by have := tot_flat l; omega
  have hS := rowB_le l hl
  unfold m_r06_Row
  refine whileO_run (fun i => (rowB (l.take i), (i : Int))) l.length (fun i hi => ?_) ?_
  · unfold m_r06_Row_l0
    have h1 := hS i
    have h2 := hS (i + 1)
    rw [rowB_get l i hi] at h2 ⊢
    simp only [List.length_append, lb_len] at h2
    simp only []
    rw [if_pos (by omega), geti_nat hi]
    simp only [Option.bind_some]
    rw [show decide ((16777216 : Int) < ((l[i].length : Nat) : Int)) = false from decide_eq_false (by omega)]
    simp only [gif, Bool.not_false, if_true, Option.bind_some, Bool.false_or, decide_eq_true_eq]
    rw [w64_id (n := ((rowB (l.take i)).length : Int) + 8) (by omega), w64_id (by omega), if_neg (by omega), rstore_ok _ (by omega)]
    simp only [Option.bind_some]
    rw [app_ok (by rw [lb_len]; omega)]
    simp only [Option.bind_some]
    rw [app_ok (by simp only [List.length_append, lb_len]; omega), w64_succ i (by omega), List.append_assoc]
    rfl
  · unfold m_r06_Row_l0
    simp only []
    rw [if_neg (by omega), List.take_length]
    rfl
theorem tuple_ok (k n : Int) (key : List UInt8) (l : List (List UInt8)) (hl : Tot l ≤ 1048576) : ∃ x, m_mac_Tuple k n key l = some x ∧ m_r06_Tuple k n key l = some x ∧ x.1.length ≤ 64 := by
  have hS := rowB_le l hl l.length
  rw [List.take_length] at hS
  obtain ⟨x, x1, x2, x3⟩ := make_ok k n key [] [] [] (by simp)
  obtain ⟨y, y1, y2, y3⟩ := make_ok k n key [] [] (rowB l) (by omega)
  unfold m_mac_Tuple m_r06_Tuple
  rw [x1, x2]
  simp only [Option.bind_some]
  by_cases he : x.2 ≠ 0
  · rw [if_pos he, if_pos he]; exact ⟨_, rfl, rfl, by simp⟩
  · rw [if_neg he, if_neg he, mrow_ok l hl, rrow_ok l hl]
    simp only [Option.bind_some]
    rw [if_neg (by simp), if_neg (by simp), y1, y2]
    exact ⟨_, rfl, rfl, y3⟩
theorem p_l06_MacParts (k : Int) (_ : -9223372036854775808 ≤ k ∧ k ≤ 9223372036854775807) (n : Int) (_ : -9223372036854775808 ≤ n ∧ n ≤ 9223372036854775807) (l : List (List UInt8)) (hl : Tot l ≤ 1048576) : m_l06_MacParts k n l = some true := by
  have j0 : ∀ key, m_l06_MacParts_j0 k n l key = some true := fun key => by
    obtain ⟨x, x1, x2, x3⟩ := parts_ok k n key l hl
    obtain ⟨y, y1, y2, y3⟩ := tuple_ok k n key l hl
    have hS := rowB_le l hl l.length
    rw [List.take_length] at hS
    unfold m_l06_MacParts_j0
    rw [x1, x2]
    simp only [Option.bind_some]
    rw [if_neg (by simp), same_eq _ _ (by omega)]
    simp only [Option.bind_some]
    rw [if_neg (by simp), y1, y2]
    simp only [Option.bind_some]
    rw [if_neg (by simp), same_eq _ _ (by omega)]
    simp only [Option.bind_some]
    rw [if_neg (by simp), mrow_ok l hl, rrow_ok l hl]
    simp only [Option.bind_some, if_true]
    rw [same_eq _ _ (by omega)]
    simp
  have hlen : l.length ≤ 1048576 := by have := tot_flat l; omega
  unfold m_l06_MacParts
  by_cases h : 0 < ((l.length : Nat) : Int)
  · have h0 : 0 < l.length := by omega
    have h1 := tot_get l 0 h0
    have h2 := tot_take l (0 + 1)
    rw [if_pos h, show ((0 : Int)) = ((0 : Nat) : Int) from rfl, geti_nat h0]
    simp only [Option.bind_some]
    rw [app_ok (by simp; omega)]
    exact j0 _
  · rw [if_neg h]; exact j0 _
end Go.Sx
