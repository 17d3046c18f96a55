import Derived.Test.YtlekdnlojpnlmaaQ6
namespace Go.Sx
open Go.RowKit
set_option linter.unusedVariables false
set_option linter.unusedSimpArgs false
def ps (at_ : Nat) (v : UInt64) (b : List UInt8) (i : Nat) : List UInt8 := b.set (at_ + i) (UInt8.ofNat (shr64 v (8 * i)).toNat)
def pset (b : List UInt8) (at_ n : Nat) (v : UInt64) : List UInt8 := (List.range n).foldl (ps at_ v) b
theorem ps_len (at_ : Nat) (v : UInt64) (n : Nat) (b : List UInt8) : ((List.range n).foldl (ps at_ v) b).length = b.length := by
  induction n with
  | zero => rfl
  | succ n ih => rw [List.range_succ, List.foldl_append]; simp only [List.foldl_cons, List.foldl_nil, ps, List.length_set, ih]
theorem pset_len (b : List UInt8) (at_ n : Nat) (v : UInt64) : (pset b at_ n v).length = b.length := ps_len _ _ _ _
theorem at_i (a i : Nat) (h : a < 1000) (hi : i < 1000) : w64 ((a : Int) + (i : Int)) = ((a + i : Nat) : Int) := by rw [w64_id (by omega)]; omega
theorem wput (b : List UInt8) (at_ n : Nat) (v : UInt64) (hn : n ≤ 8) (hb : at_ + n ≤ b.length) (ha : at_ < 1000) : m_param_put b (at_ : Int) (n : Int) v = some (pset b at_ n v) := by
  unfold m_param_put
  refine whileO_run (fun i => ((List.range i).foldl (ps at_ v) b, (i : Int))) n (fun i hi => ?_) ?_
  · unfold m_param_put_l0
    simp only []
    rw [if_pos (by omega), mul8 i (by omega), need_ok (by omega), at_i _ _ ha (by omega), geti_nat (by rw [ps_len]; omega), w64_succ i (by omega), List.range_succ, List.foldl_append]
    rfl
  · unfold m_param_put_l0
    simp only []
    rw [if_neg (by omega)]
    rfl
theorem m8 : ∀ i : Nat, i < 8 → ((8 : UInt64) * UInt64.ofInt (i : Int)).toNat = 8 * i := by decide +kernel
theorem rput (b : List UInt8) (at_ n : Nat) (v : UInt64) (hn : n ≤ 8) (hb : at_ + n ≤ b.length) (ha : at_ < 1000) : m_r02_lay b (at_ : Int) (n : Int) v = some (pset b at_ n v) := by
  unfold m_r02_lay
  refine whileO_run (fun i => ((List.range i).foldl (ps at_ v) b, (i : Int))) n (fun i hi => ?_) ?_
  · unfold m_r02_lay_l0
    simp only []
    rw [if_pos (by omega), at_i _ _ ha (by omega), geti_nat (by rw [ps_len]; omega), w64_succ i (by omega), m8 i (by omega), List.range_succ, List.foldl_append]
    rfl
  · unfold m_r02_lay_l0
    simp only []
    rw [if_neg (by omega)]
    rfl
/-- bytes with others laid over them -/
def cpy (b : List UInt8) (at_ : Nat) (xs : List UInt8) : List UInt8 := (List.range xs.length).foldl (fun (b : List UInt8) (i : Nat) => b.set (at_ + i) (xs.getD i 0)) b
theorem cpy_eq (at_ : Nat) (xs : List UInt8) (n : Nat) (b : List UInt8) (hn : n ≤ xs.length) (hb : at_ + n ≤ b.length) : (List.range n).foldl (fun (b : List UInt8) (i : Nat) => b.set (at_ + i) (xs.getD i 0)) b = b.take at_ ++ xs.take n ++ b.drop (at_ + n) := by
  induction n with
  | zero => simp
  | succ n ih =>
    rw [List.range_succ, List.foldl_append, ih (by omega) (by omega)]
    simp only [List.foldl_cons, List.foldl_nil]
    have hd : b.drop (at_ + n) = b[at_ + n] :: b.drop (at_ + (n + 1)) := List.drop_eq_getElem_cons (by omega)
    rw [hd, List.set_append_right _ _ (by simp; omega)]
    have hx : at_ + n - (b.take at_ ++ xs.take n).length = 0 := by simp; omega
    rw [hx, List.set_cons_zero, List.take_succ_eq_append_getElem (by omega)]
    simp only [List.append_assoc, List.cons_append, List.nil_append]
    congr 3
    simp [List.getD_eq_getElem?_getD, show n < xs.length from by omega]
theorem cpy_len (b : List UInt8) (at_ : Nat) (xs : List UInt8) (h : at_ + xs.length ≤ b.length) : (cpy b at_ xs).length = b.length := by
  unfold cpy; rw [cpy_eq at_ xs xs.length b (Nat.le_refl _) h]; simp; omega
theorem lcp_cpy (b : List UInt8) (at_ n : Nat) (xs : List UInt8) (hn : xs.length ≤ n) (h : at_ + xs.length ≤ b.length) : lcp b at_ n xs = cpy b at_ xs := by
  unfold cpy; rw [cpy_eq at_ xs xs.length b (Nat.le_refl _) h, lcp, List.take_length, List.take_of_length_le hn, Nat.min_eq_right hn]
/-- the fields' places and sizes -/
def fpl (k : Int) (i : Nat) : Nat × Nat := if k = 1 then [(0, 1), (1, 1), (2, 1), (3, 1), (4, 4), (8, 8), (12, 4), (16, 1), (17, 1)].getD i (0, 0) else [(0, 1), (1, 1), (2, 1), (3, 1), (4, 4), (8, 6), (12, 2), (14, 1), (15, 1)].getD i (0, 0)
theorem fpl_le (k : Int) : ∀ i : Nat, i < 9 → (fpl k i).1 + (fpl k i).2 ≤ 18 ∧ (fpl k i).2 ≤ 8 := by
  intro i hi
  unfold fpl
  by_cases hk : k = 1
  · simp only [hk, if_true]; revert i; decide
  · simp only [hk, if_false]; revert i; decide
theorem rplace (k : Int) (hk : k = 1 ∨ k = 2) : ∀ i : Nat, i < 9 → m_r02_place k ((i + 1 : Nat) : Int) = some (((fpl k i).1 : Int), ((fpl k i).2 : Int)) := by
  rcases hk with rfl | rfl <;> decide +kernel
theorem wrows (k : Int) : ∃ rows, m_param_rows k = some rows ∧ rows.length = 9 ∧ ∀ i : Nat, i < 9 → ∃ row, geti rows (i : Int) = some row ∧ row.1 = ((i + 1 : Nat) : Int) ∧ row.2.1 = ((fpl k i).1 : Int) ∧ row.2.2.1 = ((fpl k i).2 : Int) := by
  by_cases hk : k = 1
  · subst hk
    refine ⟨_, rfl, rfl, fun i hi => ?_⟩
    match i, hi with
    | 0, _ => exact ⟨_, rfl, rfl, rfl, rfl⟩
    | 1, _ => exact ⟨_, rfl, rfl, rfl, rfl⟩
    | 2, _ => exact ⟨_, rfl, rfl, rfl, rfl⟩
    | 3, _ => exact ⟨_, rfl, rfl, rfl, rfl⟩
    | 4, _ => exact ⟨_, rfl, rfl, rfl, rfl⟩
    | 5, _ => exact ⟨_, rfl, rfl, rfl, rfl⟩
    | 6, _ => exact ⟨_, rfl, rfl, rfl, rfl⟩
    | 7, _ => exact ⟨_, rfl, rfl, rfl, rfl⟩
    | 8, _ => exact ⟨_, rfl, rfl, rfl, rfl⟩
  · have h2 : ∀ i, fpl k i = fpl 2 i := fun i => by unfold fpl; simp only [hk, if_false]; rfl
    have h3 : m_param_rows k = m_param_rows 2 := by unfold m_param_rows; rw [if_neg hk, if_neg (by decide)]
    rw [h3]
    simp only [h2]
    refine ⟨_, rfl, rfl, fun i hi => ?_⟩
    match i, hi with
    | 0, _ => exact ⟨_, rfl, rfl, rfl, rfl⟩
    | 1, _ => exact ⟨_, rfl, rfl, rfl, rfl⟩
    | 2, _ => exact ⟨_, rfl, rfl, rfl, rfl⟩
    | 3, _ => exact ⟨_, rfl, rfl, rfl, rfl⟩
    | 4, _ => exact ⟨_, rfl, rfl, rfl, rfl⟩
    | 5, _ => exact ⟨_, rfl, rfl, rfl, rfl⟩
    | 6, _ => exact ⟨_, rfl, rfl, rfl, rfl⟩
    | 7, _ => exact ⟨_, rfl, rfl, rfl, rfl⟩
    | 8, _ => exact ⟨_, rfl, rfl, rfl, rfl⟩
section
variable (k d ky f dp : Int) (lf : UInt32) (off : UInt64) (xof : UInt32) (nd inn : Int) (salt pers : List UInt8)
def pvals : List UInt64 := [UInt64.ofInt d, UInt64.ofInt ky, UInt64.ofInt f, UInt64.ofInt dp, UInt64.ofNat lf.toNat, off, UInt64.ofNat xof.toNat, UInt64.ofInt nd, UInt64.ofInt inn]
theorem wvalue (i : Nat) (hi : i < 9) : m_param_value d ky f dp lf off xof nd inn salt pers ((i + 1 : Nat) : Int) = some ((pvals d ky f dp lf off xof nd inn).getD i 0) := by
  match i, hi with
  | 0, _ => rfl
  | 1, _ => rfl
  | 2, _ => rfl
  | 3, _ => rfl
  | 4, _ => rfl
  | 5, _ => rfl
  | 6, _ => rfl
  | 7, _ => rfl
  | 8, _ => rfl
def ens (b : List UInt8) (i : Nat) : List UInt8 := if i = 6 ∧ xof = 0 then b else pset b (fpl k i).1 (fpl k i).2 ((pvals d ky f dp lf off xof nd inn).getD i 0)
def enf (b : List UInt8) (n : Nat) : List UInt8 := (List.range n).foldl (ens k d ky f dp lf off xof nd inn) b
theorem enf_len (b : List UInt8) (n : Nat) : (enf k d ky f dp lf off xof nd inn b n).length = b.length := by
  unfold enf
  induction n with
  | zero => rfl
  | succ n ih =>
    rw [List.range_succ, List.foldl_append]
    simp only [List.foldl_cons, List.foldl_nil, ens]
    split
    · exact ih
    · rw [pset_len, ih]
def enc' (S : Nat) : List UInt8 := cpy (cpy (enf k d ky f dp lf off xof nd inn (List.replicate S 0) 9) (S / 2) salt) (S / 4 * 3) pers
/-- the block of parameters -/
def encB : List UInt8 := enc' k d ky f dp lf off xof nd inn salt pers (if k = 1 then 64 else 32)
theorem wloop (S q : Nat) (hS : S = 64 ∧ q = 16 ∨ S = 32 ∧ q = 8) (m : Int) (hs : salt.length ≤ q) (hp : pers.length ≤ q) (rows : List (Int × Int × Int × List UInt8 × Int)) (hl : rows.length = 9)
    (hr : ∀ i : Nat, i < 9 → ∃ row, geti rows (i : Int) = some row ∧ row.1 = ((i + 1 : Nat) : Int) ∧ row.2.1 = ((fpl k i).1 : Int) ∧ row.2.2.1 = ((fpl k i).2 : Int)) :
    whileO (m_param_Encode_l0 d ky f dp lf off xof nd inn salt pers ((S : Int), m, (q : Int)) rows) (List.replicate S 0, (0 : Int)) = some (enc' k d ky f dp lf off xof nd inn salt pers S, 0) := by
  refine whileO_run (fun i => (enf k d ky f dp lf off xof nd inn (List.replicate S 0) i, (i : Int))) 9 (fun i hi => ?_) ?_
  · obtain ⟨row, h1, h2, h3, h4⟩ := hr i hi
    obtain ⟨g1, g2⟩ := fpl_le k i hi
    unfold m_param_Encode_l0 m_param_Encode_j1 m_param_Encode_j0
    simp only []
    rw [hl, if_pos (by omega), h1]
    simp only [Option.bind_some]
    rw [h2, h3, h4, w64_succ i (by omega)]
    have hss : enf k d ky f dp lf off xof nd inn (List.replicate S 0) (i + 1) = ens k d ky f dp lf off xof nd inn (enf k d ky f dp lf off xof nd inn (List.replicate S 0) i) i := by
      unfold enf; rw [List.range_succ, List.foldl_append]; rfl
    rw [hss]
    unfold ens
    by_cases hc : i = 6 ∧ xof = 0
    · rw [if_pos (by simp only [Bool.and_eq_true, decide_eq_true_eq]; exact ⟨by omega, hc.2⟩), if_pos hc]
    · rw [if_neg (by simp only [Bool.and_eq_true, decide_eq_true_eq]; exact fun h => hc ⟨by omega, h.2⟩), if_neg hc, wvalue _ _ _ _ _ _ _ _ _ _ _ i hi]
      simp only [Option.bind_some]
      rw [wput _ _ _ _ g2 (by rw [enf_len]; simp; omega) (by omega)]
      rfl
  · unfold m_param_Encode_l0
    simp only []
    have hlen : (enf k d ky f dp lf off xof nd inn (List.replicate S 0) 9).length = S := by rw [enf_len]; simp
    have e1 : w64 ((S : Int) - w64 (2 * (q : Int))) = ((S / 2 : Nat) : Int) := by rw [w64_id (n := 2 * (q : Int)) (by omega), w64_id (by omega)]; omega
    have e2 : w64 ((S : Int) - (q : Int)) = ((S / 4 * 3 : Nat) : Int) := by rw [w64_id (by omega)]; omega
    rw [hl, if_neg (by omega), e1, e2, Int.toNat_natCast]
    rw [slc_ok (by rw [hlen]; omega)]
    simp only [Option.bind_some, Int.toNat_natCast]
    have l1 : ((enf k d ky f dp lf off xof nd inn (List.replicate S 0) 9).take S).drop (S / 2) = (enf k d ky f dp lf off xof nd inn (List.replicate S 0) 9).drop (S / 2) := by rw [List.take_of_length_le (by omega)]
    rw [l1, lcp_cpy _ _ _ _ (by rw [List.length_drop, hlen]; omega) (by rw [hlen]; omega)]
    have hlen2 : (cpy (enf k d ky f dp lf off xof nd inn (List.replicate S 0) 9) (S / 2) salt).length = S := by rw [cpy_len _ _ _ (by omega), hlen]
    rw [slc_ok (by rw [hlen2]; omega)]
    simp only [Option.bind_some, Int.toNat_natCast]
    rw [List.take_of_length_le (by omega), lcp_cpy _ _ _ _ (by rw [List.length_drop, hlen2]; omega) (by rw [hlen2]; omega)]
    rfl
theorem cset_len (at_ : Nat) (xs : List UInt8) (n : Nat) (b : List UInt8) : ((List.range n).foldl (fun (b : List UInt8) (i : Nat) => b.set (at_ + i) (xs.getD i 0)) b).length = b.length := by
  induction n with
  | zero => rfl
  | succ n ih => rw [List.range_succ, List.foldl_append]; simp only [List.foldl_cons, List.foldl_nil, List.length_set, ih]
theorem getD_in (xs : List UInt8) (i : Nat) (h : i < xs.length) : xs.getD i 0 = xs[i] := by simp [List.getD_eq_getElem?_getD, h]
theorem rloop (hk : k = 1 ∨ k = 2) (S q : Nat) (hS : S = 64 ∧ q = 16 ∨ S = 32 ∧ q = 8) (hM : m_r02_Most k = some (S : Int)) (hs : salt.length ≤ q) (hp : pers.length ≤ q) :
    whileO (m_r02_Encode_l0 k d ky f dp lf off xof nd inn salt pers) (List.replicate S 0, (1 : Int)) = some (enc' k d ky f dp lf off xof nd inn salt pers S, 0) := by
  refine whileO_run (fun i => (enf k d ky f dp lf off xof nd inn (List.replicate S 0) i, ((i + 1 : Nat) : Int))) 9 (fun i hi => ?_) ?_
  · obtain ⟨g1, g2⟩ := fpl_le k i hi
    unfold m_r02_Encode_l0 m_r02_Encode_j1 m_r02_Encode_j0
    simp only []
    rw [if_pos (by omega), w64_succ (i + 1) (by omega)]
    have hss : enf k d ky f dp lf off xof nd inn (List.replicate S 0) (i + 1) = ens k d ky f dp lf off xof nd inn (enf k d ky f dp lf off xof nd inn (List.replicate S 0) i) i := by
      unfold enf; rw [List.range_succ, List.foldl_append]; rfl
    rw [hss]
    unfold ens
    by_cases hc : i = 6 ∧ xof = 0
    · rw [if_pos (by simp only [Bool.and_eq_true, decide_eq_true_eq]; exact ⟨by omega, hc.2⟩), if_pos hc]
    · rw [if_neg (by simp only [Bool.and_eq_true, decide_eq_true_eq]; exact fun h => hc ⟨by omega, h.2⟩), if_neg hc, rplace k hk i hi]
      simp only [Option.bind_some]
      have hw : w64 (((i + 1 : Nat) : Int) - 1) = (i : Int) := by rw [w64_id (by omega)]; omega
      have hg : geti [UInt64.ofInt d, UInt64.ofInt ky, UInt64.ofInt f, UInt64.ofInt dp, UInt64.ofNat lf.toNat, off, UInt64.ofNat xof.toNat, UInt64.ofInt nd, UInt64.ofInt inn] (i : Int) = some ((pvals d ky f dp lf off xof nd inn).getD i 0) := by
        rw [geti_nat (by simp; omega)]
        simp [pvals, List.getD_eq_getElem?_getD, hi]
      rw [hw, hg]
      simp only [Option.bind_some]
      rw [rput _ _ _ _ g2 (by rw [enf_len]; simp; omega) (by omega)]
      rfl
  · unfold m_r02_Encode_l0
    simp only []
    have hlen : (enf k d ky f dp lf off xof nd inn (List.replicate S 0) 9).length = S := by rw [enf_len]; simp
    rw [if_neg (by omega), hM]
    simp only [Option.bind_some]
    have t4 : w64 (Int.tdiv (S : Int) 4) = ((S / 4 : Nat) : Int) := by rcases hS with ⟨rfl, _⟩ | ⟨rfl, _⟩ <;> rfl
    have e1 : w64 (2 * ((S / 4 : Nat) : Int)) = ((S / 2 : Nat) : Int) := by rw [w64_id (by omega)]; omega
    have e2 : w64 (3 * ((S / 4 : Nat) : Int)) = ((S / 4 * 3 : Nat) : Int) := by rw [w64_id (by omega)]; omega
    rw [show whileO (m_r02_Encode_l1 salt pers (S : Int)) (enf k d ky f dp lf off xof nd inn (List.replicate S 0) 9, 0) = some (enc' k d ky f dp lf off xof nd inn salt pers S, 0) from ?_]
    · rfl
    refine whileO_run (fun i => ((List.range i).foldl (fun (b : List UInt8) (i : Nat) => b.set (S / 2 + i) (salt.getD i 0)) (enf k d ky f dp lf off xof nd inn (List.replicate S 0) 9), (i : Int))) salt.length (fun i hi => ?_) ?_
    · unfold m_r02_Encode_l1
      simp only []
      rw [if_pos (by omega), t4, e1, geti_nat hi, at_i _ _ (by omega) (by omega), geti_nat (by rw [cset_len, hlen]; omega), w64_succ i (by omega), List.range_succ, List.foldl_append]
      simp only [Option.bind_some, List.foldl_cons, List.foldl_nil, Int.toNat_natCast, getD_in _ _ hi]
    · unfold m_r02_Encode_l1
      simp only []
      rw [if_neg (by omega)]
      rw [show whileO (m_r02_Encode_l2 pers (S : Int)) ((List.range salt.length).foldl (fun (b : List UInt8) (i : Nat) => b.set (S / 2 + i) (salt.getD i 0)) (enf k d ky f dp lf off xof nd inn (List.replicate S 0) 9), 0) = some (enc' k d ky f dp lf off xof nd inn salt pers S, 0) from ?_]
      · rfl
      have hlen2 : (cpy (enf k d ky f dp lf off xof nd inn (List.replicate S 0) 9) (S / 2) salt).length = S := by rw [cpy_len _ _ _ (by omega), hlen]
      refine whileO_run (fun i => ((List.range i).foldl (fun (b : List UInt8) (i : Nat) => b.set (S / 4 * 3 + i) (pers.getD i 0)) (cpy (enf k d ky f dp lf off xof nd inn (List.replicate S 0) 9) (S / 2) salt), (i : Int))) pers.length (fun i hi => ?_) ?_
      · unfold m_r02_Encode_l2
        simp only []
        rw [if_pos (by omega), t4, e2, geti_nat hi, at_i _ _ (by omega) (by omega), geti_nat (by rw [cset_len, hlen2]; omega), w64_succ i (by omega), List.range_succ, List.foldl_append]
        simp only [Option.bind_some, List.foldl_cons, List.foldl_nil, Int.toNat_natCast, getD_in _ _ hi]
      · unfold m_r02_Encode_l2
        simp only []
        rw [if_neg (by omega)]
        rfl
/-- both encodings, where the check lets the parameters pass -/
theorem enc_ok (h : m_r02_Check k d ky f dp lf off xof nd inn salt pers = some 0) :
    m_param_Encode k d ky f dp lf off xof nd inn salt pers = some (encB k d ky f dp lf off xof nd inn salt pers, 0) ∧ m_r02_Encode k d ky f dp lf off xof nd inn salt pers = some (encB k d ky f dp lf off xof nd inn salt pers, 0) := by
  obtain ⟨r, h1, h2⟩ := check_some k d ky f dp lf off xof nd inn salt pers
  rw [h] at h1
  obtain rfl := Option.some.inj h1
  obtain ⟨rows, r1, r2, r3⟩ := wrows k
  rcases h2 rfl with ⟨rfl, _, _, _, hs, hp⟩ | ⟨rfl, _, _, _, hs, hp⟩
  · constructor
    · unfold m_param_Encode
      rw [check_ok, h, r1]
      exact wloop 1 d ky f dp lf off xof nd inn salt pers 64 16 (by omega) 64 hs hp rows r2 r3
    · unfold m_r02_Encode
      rw [h]
      exact rloop 1 d ky f dp lf off xof nd inn salt pers (by omega) 64 16 (by omega) rfl hs hp
  · constructor
    · unfold m_param_Encode
      rw [check_ok, h, r1]
      exact wloop 2 d ky f dp lf off xof nd inn salt pers 32 8 (by omega) 32 hs hp rows r2 r3
    · unfold m_r02_Encode
      rw [h]
      exact rloop 2 d ky f dp lf off xof nd inn salt pers (by omega) 32 8 (by omega) rfl hs hp
theorem encB_len (h : (k = 1 ∧ salt.length ≤ 16 ∧ pers.length ≤ 16) ∨ (k = 2 ∧ salt.length ≤ 8 ∧ pers.length ≤ 8)) : (encB k d ky f dp lf off xof nd inn salt pers).length = if k = 1 then 64 else 32 := by
  unfold encB enc'
  rcases h with ⟨rfl, hs, hp⟩ | ⟨rfl, hs, hp⟩
  · simp only [if_true]
    rw [cpy_len _ _ _ (by rw [cpy_len _ _ _ (by rw [enf_len]; simp; omega), enf_len]; simp; omega), cpy_len _ _ _ (by rw [enf_len]; simp; omega), enf_len]
    simp
  · simp only [show ¬ ((2 : Int) = 1) from by omega, if_false]
    rw [cpy_len _ _ _ (by rw [cpy_len _ _ _ (by rw [enf_len]; simp; omega), enf_len]; simp; omega), cpy_len _ _ _ (by rw [enf_len]; simp; omega), enf_len]
    simp
end
end Go.Sx

