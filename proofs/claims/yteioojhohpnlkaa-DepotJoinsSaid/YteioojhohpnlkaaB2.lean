import Derived.Test.YteioojhohpnlkaaB1
namespace Go.Sx
open Go.RowKit
set_option linter.unusedVariables false
set_option linter.unusedSimpArgs false
def byI (i : Nat) : UInt8 := UInt8.ofInt (i : Int)
theorem set_rep (v : UInt8) (b : List UInt8) (k : Nat) (hk : k < b.length) : (List.replicate k v ++ b.drop k).set k v = List.replicate (k + 1) v ++ b.drop (k + 1) := by
  rw [List.set_append_right _ _ (by simp), List.length_replicate, Nat.sub_self, List.drop_eq_getElem_cons hk, List.set_cons_zero, List.replicate_succ', List.append_assoc]
  rfl
theorem wipe1_ok (l1 : List (List UInt8)) (i : Nat) (b : List UInt8) (hi : i < l1.length) (hb : l1[i] = b) (hbl : b.length ≤ 16000000) (hil : i ≤ 16000000) :
    whileO (m_l27_wipe_l1 (i : Int) b) (l1, (0 : Int)) = some (.inl (l1.set i (List.replicate (b.length + 1) (byI i)), ((i + 1 : Nat) : Int))) := by
  refine whileO_eq (fun k s => s = (l1.set i (List.replicate k (byI i) ++ b.drop k), (k : Int)) ∧ k ≤ b.length) _ b.length _ ⟨?_, by omega⟩ ?_
  · congr 1
    rw [List.replicate_zero, List.nil_append, List.drop_zero, ← hb, List.set_getElem_self]
  · rintro k s ⟨rfl, hk⟩
    unfold m_l27_wipe_l1
    simp only []
    have hg : geti (l1.set i (List.replicate k (byI i) ++ b.drop k)) (i : Int) = some (List.replicate k (byI i) ++ b.drop k) := by
      rw [geti_nat (by simpa using hi)]
      simp
    by_cases hlt : k < b.length
    · left
      rw [if_pos (by omega), hg]
      simp only [Option.bind_some]
      rw [geti_nat (by simp; omega)]
      simp only [Option.bind_some, Int.toNat_natCast]
      refine ⟨hlt, _, rfl, ?_, by omega⟩
      rw [List.set_set, bw_succ k (by omega), show UInt8.ofInt (i : Int) = byI i from rfl, set_rep _ b k hlt]
    · right
      obtain rfl : k = b.length := by omega
      rw [if_neg (by omega), hg]
      simp only [Option.bind_some]
      rw [app_ok (by simp; omega)]
      simp only [Option.bind_some, Int.toNat_natCast, Option.map_some]
      rw [List.set_set, bw_succ i (by omega), List.drop_length, List.append_nil, List.replicate_succ']
      rfl
def rowI (l : List (List UInt8)) (j : Nat) : List UInt8 := List.replicate ((l.getD j []).length + 1) (byI j)
def Mk (l : List (List UInt8)) (i : Nat) : List (List UInt8) := (List.range i).map (rowI l) ++ l.drop i
theorem Mk_len (l : List (List UInt8)) (i : Nat) (h : i ≤ l.length) : (Mk l i).length = l.length := by simp [Mk]; omega
theorem Mk_get (l : List (List UInt8)) (i : Nat) (h : i < l.length) : (Mk l i)[i]'(by rw [Mk_len l i (by omega)]; exact h) = l[i] := by
  unfold Mk
  rw [List.getElem_append_right (by simp)]
  simp
theorem Mk_set (l : List (List UInt8)) (i : Nat) (h : i < l.length) : (Mk l i).set i (List.replicate (l[i].length + 1) (byI i)) = Mk l (i + 1) := by
  unfold Mk
  rw [List.set_append_right _ _ (by simp), List.drop_eq_getElem_cons h]
  simp only [List.length_map, List.length_range, Nat.sub_self, List.set_cons_zero]
  rw [List.range_succ, List.map_append, List.append_assoc]
  simp [rowI, List.getD, List.getElem?_eq_getElem h]
theorem wipe_ok (l : List (List UInt8)) (hl : l.length ≤ 16000000) (hr : ∀ x ∈ l, x.length ≤ 16000000) : m_l27_wipe l = some true := by
  unfold m_l27_wipe
  have h0 : ((l, (0 : Int)) : List (List UInt8) × Int) = (Mk l 0, ((0 : Nat) : Int)) := by simp [Mk]
  rw [h0]
  refine whileO_run (fun i => (Mk l i, (i : Int))) l.length (fun i hi => ?_) ?_
  · unfold m_l27_wipe_l0
    simp only []
    have hM : i < (Mk l i).length := by rw [Mk_len l i (by omega)]; exact hi
    rw [if_pos (by omega), geti_nat hM]
    simp only [Option.bind_some]
    rw [Mk_get l i hi, wipe1_ok (Mk l i) i l[i] hM (Mk_get l i hi) (hr _ (List.getElem_mem hi)) (by omega), Mk_set l i hi]
  · unfold m_l27_wipe_l0
    simp only []
    rw [if_neg (by omega)]
    have hML := Mk_len l l.length (Nat.le_refl _)
    have hw : whileO (m_l27_wipe_l2 (Mk l l.length)) (0 : Int) = some true := by
      refine whileO_run (fun i => (i : Int)) l.length (fun i hi => ?_) ?_
      · have hiM : i < (Mk l l.length).length := by omega
        have hrow : geti (Mk l l.length) (i : Int) = some (rowI l i) := by
          rw [geti_nat hiM, ← List.getElem?_eq_getElem hiM]
          unfold Mk
          rw [List.getElem?_append_left (by simpa using hi)]
          simp [hi]
        unfold m_l27_wipe_l2
        rw [if_pos (by omega), hrow]
        simp only [Option.bind_some]
        have hrl : (rowI l i).length ≤ 16000001 := by
          unfold rowI
          simp only [List.length_replicate, List.getD, List.getElem?_eq_getElem hi, Option.getD_some]
          have := hr _ (List.getElem_mem hi)
          omega
        refine whileO_run (fun k => (k : Int)) (rowI l i).length (fun k hk => ?_) ?_
        · unfold m_l27_wipe_l3
          rw [if_pos (by omega), hrow]
          simp only [Option.bind_some]
          rw [geti_nat hk]
          simp only [Option.bind_some]
          rw [if_neg (by simp [rowI, byI]), bw_succ k (by omega)]
        · unfold m_l27_wipe_l3
          rw [if_neg (by omega), bw_succ i (by omega)]
          rfl
      · unfold m_l27_wipe_l2
        rw [if_neg (by omega)]
        rfl
    rw [hw]
    rfl
theorem cut_rows (data : List UInt8) : ∀ x ∈ cut data [] 0, x.length ≤ 16000000 := fun x hx => by
  have := (cut_bounds data [] 0 (by simp) x hx).2
  omega
theorem p_l27_DepotChunks (data : List UInt8) (hd : data.length ≤ 1048576) : m_l27_DepotChunks data = some true := by
  have hc := cut_count data
  unfold m_l27_DepotChunks m_l27_copied
  rw [app_ok (by simp; omega)]
  simp only [Option.bind_some, List.nil_append]
  rw [mchunks_ok data hd, rchunks_ok data hd]
  simp only [Option.bind_some]
  rw [lists_ok _ (by omega) (cut_rows data)]
  simp only [Option.bind_some, decide_true, Bool.and_self, if_true]
  rw [wipe_ok _ (by omega) (cut_rows data)]
  simp only [Option.bind_some, if_true]
  rw [dsame_eq _ _ (by omega)]
  simp only [Option.bind_some, decide_true, if_true]
  rw [dawake_ok]
  rfl
theorem flat_take (l : List (List UInt8)) (i : Nat) (h : i < l.length) : (l.take (i + 1)).flatten = (l.take i).flatten ++ l[i] := by
  rw [List.take_add_one, List.getElem?_eq_getElem h, List.flatten_append]
  simp
theorem flat_le (l : List (List UInt8)) (i : Nat) : (l.take i).flatten.length ≤ l.flatten.length := by
  have := congrArg (fun x => (List.flatten x).length) (List.take_append_drop i l)
  simp only [List.flatten_append, List.length_append] at this
  omega
theorem p_l27_DepotJoins (data : List UInt8) (hd : data.length ≤ 1048576) (which : UInt8) : m_l27_DepotJoins data which = some true := by
  have hc := cut_count data
  have hrow := cut_bounds data [] 0 (by simp)
  have hfl := cut_all data
  unfold m_l27_DepotJoins
  rw [dawake_ok, mchunks_ok data hd]
  simp only [Option.bind_some]
  rw [if_neg (by decide), if_neg (by omega)]
  have hS : ∀ i, ((cut data [] 0).take i).flatten.length ≤ data.length := fun i => by have := flat_le (cut data [] 0) i; rw [hfl] at this; exact this
  refine whileO_run (fun i => (((cut data [] 0).take i).flatten, (i : Int))) (cut data [] 0).length (fun i hi => ?_) ?_
  · unfold m_l27_DepotJoins_l0
    simp only []
    have h1 := hS i
    have h2 := hS (i + 1)
    rw [flat_take _ i hi] at h2 ⊢
    simp only [List.length_append] at h2
    have hr := hrow _ (List.getElem_mem hi)
    have hlow := cut_low data [] 0 i _ (List.getElem?_eq_getElem hi)
    rw [if_pos (by omega), geti_nat hi]
    simp only [Option.bind_some]
    rw [app_ok (by omega)]
    simp only [Option.bind_some]
    rw [if_neg (by
      simp only [Bool.or_eq_true, Bool.and_eq_true, decide_eq_true_eq]
      rw [w64_id (by omega)]
      rintro ((h | h) | ⟨h, h'⟩)
      · omega
      · omega
      · have := hlow (by omega); omega), bw_succ i (by omega)]
  · unfold m_l27_DepotJoins_l0
    simp only []
    rw [if_neg (by omega), if_neg (by simp), List.take_length, hfl, dsame_eq _ _ (by omega)]
    simp only [Option.bind_some, decide_true, Bool.not_true, Bool.false_eq_true, if_false]
    by_cases h0 : (((cut data [] 0).length : Nat) : Int) = 0
    · rw [if_pos h0]
      have : cut data [] 0 = [] := List.length_eq_zero_iff.1 (by omega)
      rw [this] at hfl
      simp only [List.flatten_nil] at hfl
      subst hfl
      rfl
    · rw [if_neg h0, need_ok h0]
      simp only [Option.bind_some]
      have hw8 := which.toNat_lt
      have hkk : Int.tmod (which.toNat : Int) (((cut data [] 0).length : Nat) : Int) = ((which.toNat % (cut data [] 0).length : Nat) : Int) := by
        rw [Int.tmod_eq_emod_of_nonneg (by omega)]; rfl
      have hkl : which.toNat % (cut data [] 0).length < (cut data [] 0).length := Nat.mod_lt _ (by omega)
      have hgo : ∀ k, which.toNat % (cut data [] 0).length = k → whileO (m_l27_DepotJoins_l1 data which (cut data [] 0, 0)) ((0 : Int), (0 : Int)) = some true := by
        intro k hk
        rw [hk] at hkk hkl
        refine whileO_run (fun i => (((((cut data [] 0).take i).flatten.length : Nat) : Int), (i : Int))) k (fun i hi => ?_) ?_
        · unfold m_l27_DepotJoins_l1
          simp only []
          have hil : i < (cut data [] 0).length := by omega
          have h1 := hS i
          have h2 := hS (i + 1)
          rw [flat_take _ i hil] at h2 ⊢
          simp only [List.length_append] at h2 ⊢
          rw [hkk, if_pos (by omega), geti_nat hil]
          simp only [Option.bind_some]
          rw [w64_id (by omega), bw_succ i (by omega)]
          rfl
        · unfold m_l27_DepotJoins_l1
          simp only []
          have h1 := hS k
          rw [hkk, if_neg (by omega), slc_ok (by omega)]
          simp only [Option.bind_some, Int.toNat_natCast, List.take_length]
          rw [mchunks_ok _ (by simp; omega)]
          simp only [Option.bind_some, if_true]
          rw [slc_ok (by omega)]
          simp only [Option.bind_some, Int.toNat_natCast, List.take_length]
          rw [← cut_drop k data, lists_ok _ (by simp; omega) (fun x hx => cut_rows data x (List.mem_of_mem_drop hx))]
          rfl
      rw [hgo _ rfl]
      rfl
end Go.Sx
