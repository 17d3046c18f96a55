import Derived.Test.YtlekdnlojpnlmaaE4
namespace Go.Sx
open Go.RowKit
set_option linter.unusedVariables false
set_option linter.unusedSimpArgs false
/-! ### the law: pieces of whatever lengths, by name, by place -/
theorem tsame (a : List UInt8) (ha : a.length ≤ 16000000) : m_top_same a a = some true := by
  have key : m_r01_Same a a = some true := by
    unfold m_r01_Same
    rw [if_neg (fun q => q rfl)]
    refine whileO_run (fun i => (i : Int)) a.length (fun i hi => ?_) ?_
    · unfold m_r01_Same_l0
      rw [if_pos (by omega), geti_nat hi, Option.bind_some, Option.bind_some, if_neg (fun q => q rfl), w64_succ i (by omega)]
    · unfold m_r01_Same_l0
      rw [if_neg (by omega)]
      rfl
  unfold m_top_same
  rw [key, Option.bind_some]
theorem fneq {b : Bool} (h : b = false) : ¬ (b = true) := by rw [h]; decide
theorem cnd1 (e : Int) (a k N m : Nat) (x : UInt8) (hx : x.toNat = m) (he : e ≠ 0 → a = N ∧ m ≠ 0) (hk : a + k ≤ N) (hN : N ≤ 3000) : ((decide (e ≠ 0) && (decide ((a : Int) < (N : Int)) || decide (x = 0))) || decide ((N : Int) < w64 ((a : Int) + (k : Int)))) = false := by
  refine fo2 ?_ (decide_eq_false ?_)
  · by_cases h : e = 0
    · rw [decide_eq_false (fun q => q h), Bool.false_and]
    · obtain ⟨h1, h2⟩ := he h
      refine fa1 (fo2 (decide_eq_false (by omega)) (decide_eq_false fun q => h2 ?_))
      rw [← hx, q]
      rfl
  · rw [show (a : Int) + (k : Int) = ((a + k : Nat) : Int) from by omega, w64n _ (by omega)]
    omega
theorem cnd2 (a m N : Nat) (ha : a ≤ N) (hN : N ≤ 3000) (hm : m ≤ 65536) : ((!true) || decide (((min m (N - a) : Nat) : Int) ≠ (if w64 ((N : Int) - (a : Int)) < (m : Int) then w64 ((N : Int) - (a : Int)) else (m : Int)))) = false := by
  rw [show (N : Int) - (a : Int) = ((N - a : Nat) : Int) from by omega, w64n _ (by omega)]
  refine fo2 rfl (decide_eq_false fun q => q ?_)
  split <;> omega
theorem lenN (length : UInt16) : w64 (1 + (Int.tmod (length.toNat : Int) 3000)) = ((1 + length.toNat % 3000 : Nat) : Int) := by
  have h := length.toNat_lt
  rw [show Int.tmod (length.toNat : Int) 3000 = ((length.toNat % 3000 : Nat) : Int) from rfl, show (1 : Int) + ((length.toNat % 3000 : Nat) : Int) = ((1 + length.toNat % 3000 : Nat) : Int) from by omega, w64n _ (by omega)]
section
variable (N : Nat) (hN : 1 ≤ N ∧ N ≤ 3000) (key : List UInt8) (hk : key.length ≤ 64) (data : List UInt8) (hd : data.length ≤ 1048576) (blk : List UInt8)
  (hnw : m_xof_New_w 1 (N : Int) key [] [] = some (Sum.inr (Sum.inl (1, 64, UInt32.ofInt (N : Int), UInt64.ofInt (N : Int), true, key, [], [], 1, 64, blk, key, Stb blk, 0, 0, big.kb key, 128, Vec.rep 64 (0 : UInt8)))))
include hN hk hd hnw in
theorem namedB : m_crew_Named [98, 108, 97, 107, 101, 50, 120, 98] (N : Int) key data = some (seg 1 64 (rootB blk key data) N 0 N, 0) := by
  have ht := xtakeB N hN key hk data hd blk hnw (0 : UInt64) N (by show 0 + N ≤ N; omega)
  rw [show (0 : UInt64).toNat = 0 from rfl] at ht
  unfold m_crew_Named m_crew_variants
  rw [Option.bind_some, if_pos (by decide), if_pos (by decide), if_pos (by decide), if_pos (by decide), if_neg (fun q => q rfl)]
  rw [if_neg (fo (decide_eq_false (by omega)) (decide_eq_false (by omega))), if_neg (by omega)]
  unfold m_crew_stream
  rw [ht, Option.bind_some, Option.bind_some]
variable (kind : UInt8) (hkk : (((1 : UInt8) + (kind % 2)).toNat : Int) = 1) (length : UInt16) (hlen : w64 (1 + (Int.tmod (length.toNat : Int) 3000)) = (N : Int)) (sizes : List UInt8) (hz : sizes.length ≤ 1048576)
  (wr : UInt64) (h : Vec UInt64 8) (lo hi : UInt64) (held : List UInt8)
include hN hk hd hnw hkk hlen hz in
theorem loopB (y : (List UInt8 × Int × Vec UInt64 8 × UInt64 × UInt64 × List UInt8 × Int × Int × Int × List UInt8 × List UInt8 × Bool × UInt64 × Int × Int × UInt32 × UInt64 × Bool × List UInt8 × List UInt8 × List UInt8 × List UInt8 × UInt64 × Vec UInt8 64 × Int)) (hy : y.2.2.2.2.2.2.2.2.2.2.2.2.2.2.2.2.2.2.2.2.2.1 = rootB blk key data) :
    ∀ (j i a : Nat) (at_ : UInt64) (now : Vec UInt8 64) (hv : Int), j + i = sizes.length → at_.toNat = a → a ≤ N → Okw 1 64 (rootB blk key data) N now hv →
      whileO (m_top_WholeStreams_l0 kind length key data sizes (seg 1 64 (rootB blk key data) N 0 N, 0) y) (1, 64, UInt32.ofInt (N : Int), UInt64.ofInt (N : Int), true, key, [], [], 1, 64, blk, key, false, wr, h, lo, hi, held, 128, at_, now, hv, (a : Int), (i : Int)) = some true := by
  have hn' := ofN64 N (by omega)
  intro j
  induction j with
  | zero =>
    intro i a at_ now hv hj hat han ho
    have hsub : (UInt64.ofInt (N : Int) - at_).toNat = N - a := by
      rw [UInt64.toNat_sub_of_le _ _ (UInt64.le_iff_toNat_le.2 (by rw [hat, hn']; omega)), hat, hn']
    refine whileO_done ?_
    unfold m_top_WholeStreams_l0
    dsimp only
    rw [if_neg (by omega)]
    unfold m_xof_Stream_At m_xof_Stream_none_s1
    rw [Option.bind_some, Option.bind_some]
    dsimp only
    rw [if_pos (by rw [hat]; exact w64n _ (by omega))]
    unfold m_xof_Stream_Left m_xof_Stream_none_s1
    rw [Option.bind_some, Option.bind_some]
    dsimp only
    rw [hlen, hsub, show (N : Int) - (a : Int) = ((N - a : Nat) : Int) from by omega, decide_eq_true rfl]
    rfl
  | succ j ih =>
    intro i a at_ now hv hj hat han ho
    have hi' : i < sizes.length := by omega
    have hm := (sizes[i]).toNat_lt
    obtain ⟨e, at1, now1, hv1, q1, q2, q3, q4⟩ := readB N hN key 64 blk key wr at_ now hv h lo hi held (rootB blk key data) (root_lenB blk key data) false a (sizes[i]).toNat hat han (by omega) ho
    obtain ⟨k, hkd⟩ : ∃ k, k = min (sizes[i]).toNat (N - a) := ⟨_, rfl⟩
    have hfr : (UInt64.ofInt (a : Int)).toNat = a := ofN64 a (by omega)
    have ht := xtakeB N hN key hk data hd blk hnw (UInt64.ofInt (a : Int)) k (by rw [hfr]; omega)
    rw [hfr] at ht
    have hw : w64 ((a : Int) + ((k : Nat) : Int)) = ((a + k : Nat) : Int) := by rw [show (a : Int) + (k : Int) = ((a + k : Nat) : Int) from by omega, w64n _ (by omega)]
    have hc2 := cnd2 a (sizes[i]).toNat N han hN.2 (by omega)
    rw [← hkd] at q1 q4 hc2
    rw [whileO_next (s' := (1, 64, UInt32.ofInt (N : Int), UInt64.ofInt (N : Int), true, key, [], [], 1, 64, blk, key, false, wr, h, lo, hi, held, 128, at1, now1, hv1, ((a + k : Nat) : Int), ((i + 1 : Nat) : Int))) (by
      unfold m_top_WholeStreams_l0
      dsimp only
      rw [if_pos (by omega), geti_nat hi', Option.bind_some, hy, q4, Option.bind_some]
      dsimp only
      rw [hlen, seg_len]
      rw [if_neg (fneq (cnd1 e a k N _ _ rfl q3 (by omega) hN.2)), hw, seg_cut _ _ _ _ _ _ (by omega), Option.bind_some, tsame _ (by rw [seg_len]; omega), Option.bind_some]
      rw [if_neg (fneq hc2), hkk, ht, Option.bind_some, if_neg (fun q => q rfl), tsame _ (by rw [seg_len]; omega), Option.bind_some, if_neg (by decide)]
      rw [show w64 ((i : Int) + 1) = ((i + 1 : Nat) : Int) from by rw [show (i : Int) + 1 = ((i + 1 : Nat) : Int) from by omega, w64n _ (by omega)]])]
    exact ih (i + 1) (a + k) at1 now1 hv1 (by omega) (by omega) (by omega) q2
end
theorem wholeB (kind : UInt8) (hkk : (((1 : UInt8) + (kind % 2)).toNat : Int) = 1) (length : UInt16) (key data sizes : List UInt8) (hd : data.length ≤ 1048576) (hz : sizes.length ≤ 1048576) :
    m_top_WholeStreams_j0 kind length key data sizes [98, 108, 97, 107, 101, 50, 120, 98] = some true := by
  have hlen := lenN length
  have hN : 1 ≤ 1 + length.toNat % 3000 ∧ 1 + length.toNat % 3000 ≤ 3000 := by have := Nat.mod_lt length.toNat (show 0 < 3000 by omega); omega
  generalize 1 + length.toNat % 3000 = N at hlen hN
  have hn' := ofN64 N (by omega)
  unfold m_top_WholeStreams_j0
  rw [hlen, hkk]
  by_cases hk : 64 < key.length
  · have hne : m_crew_Named [98, 108, 97, 107, 101, 50, 120, 98] (N : Int) key data = some ([], 8) := by
      unfold m_crew_Named m_crew_variants
      rw [Option.bind_some, if_pos (by decide), if_pos (by decide), if_pos (by decide), if_pos (by decide), if_neg (fun q => q rfl)]
      rw [if_neg (fo (decide_eq_false (by omega)) (decide_eq_false (by omega))), if_pos (by omega)]
    rw [hne, Option.bind_some, newEB N hN key hk, Option.bind_some, Sum.elim_inl, need_ok (by decide), Option.bind_some, if_pos (by show (64 : Int) < ((key.length : Nat) : Int); omega)]
    rfl
  · have hk : key.length ≤ 64 := by omega
    obtain ⟨blk, hb, hnw⟩ := newNB N hN key hk
    have hsub0 : (UInt64.ofInt (N : Int) - 0).toNat = N := by
      rw [show UInt64.ofInt (N : Int) - 0 = UInt64.ofInt (N : Int) from by simp, hn']
    rw [namedB N hN key hk data hd blk hnw, Option.bind_some, hnw, Option.bind_some, Sum.elim_inr, Sum.elim_inl, need_ok (by decide), Option.bind_some, if_neg (by show ¬ (64 : Int) < ((key.length : Nat) : Int); omega)]
    dsimp only
    rw [if_neg (fneq (fo2 (fo2 (decide_eq_false (fun q => q rfl)) rfl) rfl)), writeB key 64 blk 0 0 (Vec.rep 64 (0 : UInt8)) (-1) hk data hd, Option.bind_some, if_neg (by rw [seg_len]; exact fun q => q rfl)]
    dsimp only
    by_cases h0 : 0 < sizes.length
    · have hm := (sizes[0]).toNat_lt
      rw [if_pos (by omega), show geti sizes (0 : Int) = some sizes[0] from geti_nat (i := 0) h0, Option.bind_some]
      obtain ⟨e, at1, now1, hv1, q1, q2, q3, q4⟩ := readNB N hN key 64 blk key (0 + UInt64.ofInt ((data.length : Nat) : Int)) 0 (Vec.rep 64 (0 : UInt8)) (-1) (runB blk key data).1 (runB blk key data).2.1.1 (runB blk key data).2.1.2 (runB blk key data).2.2 (rootB blk key data) (root_lenB blk key data) false 0 (sizes[0]).toNat rfl (by omega) (by omega) (okw_new _ _ _ _ _) (rnoB 64 blk key data key _)
      obtain ⟨k, hkd⟩ : ∃ k, k = min (sizes[0]).toNat (N - 0) := ⟨_, rfl⟩
      have ht := xtakeB N hN key hk data hd blk hnw (0 : UInt64) k (by show 0 + k ≤ N; omega)
      rw [show (0 : UInt64).toNat = 0 from rfl] at ht
      have hw : w64 ((0 : Int) + ((k : Nat) : Int)) = ((0 + k : Nat) : Int) := by rw [show (0 : Int) + (k : Int) = ((0 + k : Nat) : Int) from by omega, w64n _ (by omega)]
      have hc2 := cnd2 0 (sizes[0]).toNat N (by omega) hN.2 (by omega)
      have hc1 := cnd1 e 0 k N _ _ rfl q3 (by omega) hN.2
      have hcut := seg_cut 1 64 (rootB blk key data) N 0 k (by omega)
      rw [← hkd] at q1 q4 hc2
      rw [q4, Option.bind_some]
      dsimp only
      rw [seg_len, if_neg (by exact fneq hc1), hw]
      rw [show slc (seg 1 64 (rootB blk key data) N 0 N) (0 : Int) ((0 + k : Nat) : Int) = some (seg 1 64 (rootB blk key data) N 0 k) from hcut, Option.bind_some, tsame _ (by rw [seg_len]; omega), Option.bind_some]
      rw [if_neg (by exact fneq hc2), ht, Option.bind_some, if_neg (fun q => q rfl), tsame _ (by rw [seg_len]; omega), Option.bind_some, if_neg (by decide)]
      exact loopB N hN key hk data hd blk hnw kind hkk length hlen sizes hz _ _ _ _ _ _ rfl (sizes.length - 1) 1 (0 + k) at1 now1 hv1 (by omega) (by omega) (by omega) q2
    · rw [if_neg (by omega)]
      unfold m_xof_Stream_At_s1 m_xof_Stream_none
      rw [Option.bind_some, Option.bind_some]
      dsimp only
      rw [if_pos (by rfl)]
      unfold m_xof_Stream_Left_s1 m_xof_Stream_none
      rw [Option.bind_some, Option.bind_some]
      dsimp only
      rw [hsub0, show (N : Int) - 0 = (N : Int) from by omega, decide_eq_true rfl]
section
variable (N : Nat) (hN : 1 ≤ N ∧ N ≤ 3000) (key : List UInt8) (hk : key.length ≤ 32) (data : List UInt8) (hd : data.length ≤ 1048576) (blk : List UInt8)
  (hnw : m_xof_New_w 2 (N : Int) key [] [] = some (Sum.inr (Sum.inr (2, 32, UInt32.ofInt (N : Int), UInt64.ofInt (N : Int), true, key, [], [], 2, 32, blk, key, Sts blk, 0, 0, small.kb key, 64, Vec.rep 64 (0 : UInt8)))))
include hN hk hd hnw in
theorem namedS : m_crew_Named [98, 108, 97, 107, 101, 50, 120, 115] (N : Int) key data = some (seg 2 32 (rootS blk key data) N 0 N, 0) := by
  have ht := xtakeS N hN key hk data hd blk hnw (0 : UInt64) N (by show 0 + N ≤ N; omega)
  rw [show (0 : UInt64).toNat = 0 from rfl] at ht
  unfold m_crew_Named m_crew_variants
  rw [Option.bind_some, if_pos (by decide), if_pos (by decide), if_pos (by decide), if_pos (by decide), if_pos (by decide), if_neg (fun q => q rfl)]
  rw [if_neg (fo (decide_eq_false (by omega)) (decide_eq_false (by omega))), if_neg (by omega)]
  unfold m_crew_stream
  rw [ht, Option.bind_some, Option.bind_some]
variable (kind : UInt8) (hkk : (((1 : UInt8) + (kind % 2)).toNat : Int) = 2) (length : UInt16) (hlen : w64 (1 + (Int.tmod (length.toNat : Int) 3000)) = (N : Int)) (sizes : List UInt8) (hz : sizes.length ≤ 1048576)
  (wr : UInt64) (h : Vec UInt32 8) (lo hi : UInt64) (held : List UInt8)
include hN hk hd hnw hkk hlen hz in
theorem loopS (y : (List UInt8 × Int × Vec UInt32 8 × UInt64 × UInt64 × List UInt8 × Int × Int × Int × List UInt8 × List UInt8 × Bool × UInt64 × Int × Int × UInt32 × UInt64 × Bool × List UInt8 × List UInt8 × List UInt8 × List UInt8 × UInt64 × Vec UInt8 64 × Int)) (hy : y.2.2.2.2.2.2.2.2.2.2.2.2.2.2.2.2.2.2.2.2.2.1 = rootS blk key data) :
    ∀ (j i a : Nat) (at_ : UInt64) (now : Vec UInt8 64) (hv : Int), j + i = sizes.length → at_.toNat = a → a ≤ N → Okw 2 32 (rootS blk key data) N now hv →
      whileO (m_top_WholeStreams_l1 kind length key data sizes (seg 2 32 (rootS blk key data) N 0 N, 0) y) (2, 32, UInt32.ofInt (N : Int), UInt64.ofInt (N : Int), true, key, [], [], 2, 32, blk, key, false, wr, h, lo, hi, held, 64, at_, now, hv, (a : Int), (i : Int)) = some true := by
  have hn' := ofN64 N (by omega)
  intro j
  induction j with
  | zero =>
    intro i a at_ now hv hj hat han ho
    have hsub : (UInt64.ofInt (N : Int) - at_).toNat = N - a := by
      rw [UInt64.toNat_sub_of_le _ _ (UInt64.le_iff_toNat_le.2 (by rw [hat, hn']; omega)), hat, hn']
    refine whileO_done ?_
    unfold m_top_WholeStreams_l1
    dsimp only
    rw [if_neg (by omega)]
    unfold m_xof_Stream_At_s2 m_xof_Stream_none_s3
    rw [Option.bind_some, Option.bind_some]
    dsimp only
    rw [if_pos (by rw [hat]; exact w64n _ (by omega))]
    unfold m_xof_Stream_Left_s2 m_xof_Stream_none_s3
    rw [Option.bind_some, Option.bind_some]
    dsimp only
    rw [hlen, hsub, show (N : Int) - (a : Int) = ((N - a : Nat) : Int) from by omega, decide_eq_true rfl]
    rfl
  | succ j ih =>
    intro i a at_ now hv hj hat han ho
    have hi' : i < sizes.length := by omega
    have hm := (sizes[i]).toNat_lt
    obtain ⟨e, at1, now1, hv1, q1, q2, q3, q4⟩ := readS N hN key 32 blk key wr at_ now hv h lo hi held (rootS blk key data) (root_lenS blk key data) false a (sizes[i]).toNat hat han (by omega) ho
    obtain ⟨k, hkd⟩ : ∃ k, k = min (sizes[i]).toNat (N - a) := ⟨_, rfl⟩
    have hfr : (UInt64.ofInt (a : Int)).toNat = a := ofN64 a (by omega)
    have ht := xtakeS N hN key hk data hd blk hnw (UInt64.ofInt (a : Int)) k (by rw [hfr]; omega)
    rw [hfr] at ht
    have hw : w64 ((a : Int) + ((k : Nat) : Int)) = ((a + k : Nat) : Int) := by rw [show (a : Int) + (k : Int) = ((a + k : Nat) : Int) from by omega, w64n _ (by omega)]
    have hc2 := cnd2 a (sizes[i]).toNat N han hN.2 (by omega)
    rw [← hkd] at q1 q4 hc2
    rw [whileO_next (s' := (2, 32, UInt32.ofInt (N : Int), UInt64.ofInt (N : Int), true, key, [], [], 2, 32, blk, key, false, wr, h, lo, hi, held, 64, at1, now1, hv1, ((a + k : Nat) : Int), ((i + 1 : Nat) : Int))) (by
      unfold m_top_WholeStreams_l1
      dsimp only
      rw [if_pos (by omega), geti_nat hi', Option.bind_some, hy, q4, Option.bind_some]
      dsimp only
      rw [hlen, seg_len]
      rw [if_neg (fneq (cnd1 e a k N _ _ rfl q3 (by omega) hN.2)), hw, seg_cut _ _ _ _ _ _ (by omega), Option.bind_some, tsame _ (by rw [seg_len]; omega), Option.bind_some]
      rw [if_neg (fneq hc2), hkk, ht, Option.bind_some, if_neg (fun q => q rfl), tsame _ (by rw [seg_len]; omega), Option.bind_some, if_neg (by decide)]
      rw [show w64 ((i : Int) + 1) = ((i + 1 : Nat) : Int) from by rw [show (i : Int) + 1 = ((i + 1 : Nat) : Int) from by omega, w64n _ (by omega)]])]
    exact ih (i + 1) (a + k) at1 now1 hv1 (by omega) (by omega) (by omega) q2
end
theorem wholeS (kind : UInt8) (hkk : (((1 : UInt8) + (kind % 2)).toNat : Int) = 2) (length : UInt16) (key data sizes : List UInt8) (hd : data.length ≤ 1048576) (hz : sizes.length ≤ 1048576) :
    m_top_WholeStreams_j0 kind length key data sizes [98, 108, 97, 107, 101, 50, 120, 115] = some true := by
  have hlen := lenN length
  have hN : 1 ≤ 1 + length.toNat % 3000 ∧ 1 + length.toNat % 3000 ≤ 3000 := by have := Nat.mod_lt length.toNat (show 0 < 3000 by omega); omega
  generalize 1 + length.toNat % 3000 = N at hlen hN
  have hn' := ofN64 N (by omega)
  unfold m_top_WholeStreams_j0
  rw [hlen, hkk]
  by_cases hk : 32 < key.length
  · have hne : m_crew_Named [98, 108, 97, 107, 101, 50, 120, 115] (N : Int) key data = some ([], 8) := by
      unfold m_crew_Named m_crew_variants
      rw [Option.bind_some, if_pos (by decide), if_pos (by decide), if_pos (by decide), if_pos (by decide), if_pos (by decide), if_neg (fun q => q rfl)]
      rw [if_neg (fo (decide_eq_false (by omega)) (decide_eq_false (by omega))), if_pos (by omega)]
    rw [hne, Option.bind_some, newES N hN key hk, Option.bind_some, Sum.elim_inl, need_ok (by decide), Option.bind_some, if_pos (by show (32 : Int) < ((key.length : Nat) : Int); omega)]
    rfl
  · have hk : key.length ≤ 32 := by omega
    obtain ⟨blk, hb, hnw⟩ := newNS N hN key hk
    have hsub0 : (UInt64.ofInt (N : Int) - 0).toNat = N := by
      rw [show UInt64.ofInt (N : Int) - 0 = UInt64.ofInt (N : Int) from by simp, hn']
    rw [namedS N hN key hk data hd blk hnw, Option.bind_some, hnw, Option.bind_some, Sum.elim_inr, Sum.elim_inr, need_ok (by decide), Option.bind_some, if_neg (by show ¬ (32 : Int) < ((key.length : Nat) : Int); omega)]
    dsimp only
    rw [if_neg (fneq (fo2 (fo2 (decide_eq_false (fun q => q rfl)) rfl) rfl)), writeS key 32 blk 0 0 (Vec.rep 64 (0 : UInt8)) (-1) hk data hd, Option.bind_some, if_neg (by rw [seg_len]; exact fun q => q rfl)]
    dsimp only
    by_cases h0 : 0 < sizes.length
    · have hm := (sizes[0]).toNat_lt
      rw [if_pos (by omega), show geti sizes (0 : Int) = some sizes[0] from geti_nat (i := 0) h0, Option.bind_some]
      obtain ⟨e, at1, now1, hv1, q1, q2, q3, q4⟩ := readNS N hN key 32 blk key (0 + UInt64.ofInt ((data.length : Nat) : Int)) 0 (Vec.rep 64 (0 : UInt8)) (-1) (runS blk key data).1 (runS blk key data).2.1.1 (runS blk key data).2.1.2 (runS blk key data).2.2 (rootS blk key data) (root_lenS blk key data) false 0 (sizes[0]).toNat rfl (by omega) (by omega) (okw_new _ _ _ _ _) (rnoS 32 blk key data key _)
      obtain ⟨k, hkd⟩ : ∃ k, k = min (sizes[0]).toNat (N - 0) := ⟨_, rfl⟩
      have ht := xtakeS N hN key hk data hd blk hnw (0 : UInt64) k (by show 0 + k ≤ N; omega)
      rw [show (0 : UInt64).toNat = 0 from rfl] at ht
      have hw : w64 ((0 : Int) + ((k : Nat) : Int)) = ((0 + k : Nat) : Int) := by rw [show (0 : Int) + (k : Int) = ((0 + k : Nat) : Int) from by omega, w64n _ (by omega)]
      have hc2 := cnd2 0 (sizes[0]).toNat N (by omega) hN.2 (by omega)
      have hc1 := cnd1 e 0 k N _ _ rfl q3 (by omega) hN.2
      have hcut := seg_cut 2 32 (rootS blk key data) N 0 k (by omega)
      rw [← hkd] at q1 q4 hc2
      rw [q4, Option.bind_some]
      dsimp only
      rw [seg_len, if_neg (by exact fneq hc1), hw]
      rw [show slc (seg 2 32 (rootS blk key data) N 0 N) (0 : Int) ((0 + k : Nat) : Int) = some (seg 2 32 (rootS blk key data) N 0 k) from hcut, Option.bind_some, tsame _ (by rw [seg_len]; omega), Option.bind_some]
      rw [if_neg (by exact fneq hc2), ht, Option.bind_some, if_neg (fun q => q rfl), tsame _ (by rw [seg_len]; omega), Option.bind_some, if_neg (by decide)]
      exact loopS N hN key hk data hd blk hnw kind hkk length hlen sizes hz _ _ _ _ _ _ rfl (sizes.length - 1) 1 (0 + k) at1 now1 hv1 (by omega) (by omega) (by omega) q2
    · rw [if_neg (by omega)]
      unfold m_xof_Stream_At_s3 m_xof_Stream_none_s2
      rw [Option.bind_some, Option.bind_some]
      dsimp only
      rw [if_pos (by rfl)]
      unfold m_xof_Stream_Left_s3 m_xof_Stream_none_s2
      rw [Option.bind_some, Option.bind_some]
      dsimp only
      rw [hsub0, show (N : Int) - 0 = (N : Int) from by omega, decide_eq_true rfl]

theorem p_top_WholeStreams (kind : UInt8) (length : UInt16) (key : List UInt8) (hkey : key.length ≤ 1048576) (data : List UInt8) (hd : data.length ≤ 1048576) (sizes : List UInt8) (hz : sizes.length ≤ 1048576) : m_top_WholeStreams kind length key data sizes = some true := by
  have h2 : (((1 : UInt8) + (kind % 2)).toNat : Int) = 1 ∨ (((1 : UInt8) + (kind % 2)).toNat : Int) = 2 := by
    rw [UInt8.toNat_add, UInt8.toNat_mod, show (1 : UInt8).toNat = 1 from rfl, show (2 : UInt8).toNat = 2 from rfl]
    omega
  unfold m_top_WholeStreams
  rcases h2 with h | h
  · rw [if_neg (by rw [h]; decide)]
    exact wholeB kind h length key data sizes hd hz
  · rw [if_pos h]
    exact wholeS kind h length key data sizes hd hz
end Go.Sx

