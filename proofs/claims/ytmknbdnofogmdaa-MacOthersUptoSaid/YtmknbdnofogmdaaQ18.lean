import Derived.Test.YtmknbdnofogmdaaQ17
namespace Go.Sx
open Go.RowKit
set_option linter.unusedVariables false
set_option linter.unusedSimpArgs false
theorem check_zero (k m q : Int) (hq : w64 (Int.tdiv m 4) = q) (hm : m_r02_Most k = some m) (h0 : 0 < m) (d ky : Int) (hd : 1 ≤ d ∧ d ≤ m) (hky : 0 ≤ ky ∧ ky ≤ m) (salt pers : List UInt8) (hs : (salt.length : Int) ≤ q) (hp : (pers.length : Int) ≤ q) : m_r02_Check k d ky 1 1 0 0 0 0 0 salt pers = some 0 := by
  unfold m_r02_Check
  rw [hm]
  simp only [Option.bind_some]
  rw [if_neg (by omega), hq, if_neg (by simp only [Bool.or_eq_true, decide_eq_true_eq]; omega), if_neg (by simp only [Bool.or_eq_true, decide_eq_true_eq]; omega), if_neg (by decide), if_neg (by decide), if_neg (by simp), if_neg (by simp), if_neg (by decide), if_neg (by simp only [Bool.or_eq_true, decide_eq_true_eq]; omega), if_neg (by omega), if_neg (by omega)]
theorem dig_inv (k n : Int) (key salt pers data : List UInt8) (hd : data.length ≤ 12000000) (x : List UInt8 × Int) (h : m_mac_digest k n key salt pers data = some x) (h0 : x.2 = 0) : m_r02_Check k n ((key.length : Nat) : Int) 1 1 0 0 0 0 0 salt pers = some 0 := by
  obtain ⟨y, y1, y2, _⟩ := make_ok k n key salt pers data hd
  rw [h] at y1
  obtain rfl := Option.some.inj y1
  obtain ⟨r, c1, c2⟩ := check_some k n ((key.length : Nat) : Int) 1 1 0 0 0 0 0 salt pers
  unfold m_r06_Make at y2
  rw [c1] at y2
  simp only [Option.bind_some] at y2
  by_cases hr : r ≠ 0
  · rw [if_pos hr] at y2
    have := Option.some.inj y2
    rw [← this] at h0
    exact absurd h0 hr
  · rw [c1]; congr 1; omega
theorem dig_zero (k n : Int) (key salt pers data : List UInt8) (hd : data.length ≤ 12000000) (hc : m_r02_Check k n ((key.length : Nat) : Int) 1 1 0 0 0 0 0 salt pers = some 0) : ∃ x, m_mac_digest k n key salt pers data = some (x, 0) ∧ ((x.length : Nat) : Int) = n := by
  obtain ⟨y, y1, y2, _⟩ := make_ok k n key salt pers data hd
  obtain ⟨r, c1, c2⟩ := check_some k n ((key.length : Nat) : Int) 1 1 0 0 0 0 0 salt pers
  rw [hc] at c1
  obtain rfl := Option.some.inj c1
  have hb := c2 rfl
  obtain ⟨H, blk, M, hk, e1, e2⟩ := hash_ok k n ((key.length : Nat) : Int) 1 1 0 0 0 0 0 salt pers key false n data hc (.inr rfl) hd
  unfold m_r06_Make at y2
  rw [hc] at y2
  simp only [Option.bind_some] at y2
  rw [if_neg (by decide), e2] at y2
  simp only [Option.bind_some, Option.some.injEq] at y2
  have hx : H.ans blk M false n = y := y2
  have hS : ¬ (n < 1 ∨ (H.S : Int) < n) := by rcases H.hk with ⟨k1, _, s⟩ | ⟨k1, _, s⟩ <;> omega
  unfold Half.ans at hx
  rw [if_neg hS] at hx
  have h0 : y.2 = 0 := by rw [← hx]
  refine ⟨y.1, by rw [y1, ← h0], (make_len k n key salt pers data hd y y1 h0).1⟩
section
variable (k m : Int) (ctx : List UInt8) (hm : m_r02_Most k = some m)
include hm
theorem most_cases (h0 : m ≠ 0) : m = 64 ∨ m = 32 := by
  unfold m_r02_Most at hm
  split at hm
  · exact .inl (Option.some.inj hm).symm
  · split at hm
    · exact .inr (Option.some.inj hm).symm
    · exact absurd (Option.some.inj hm).symm h0
theorem sub_inv (master : List UInt8) (id : UInt64) (s : List UInt8 × Int) (hs : m_mac_Subkey k m master id ctx = some s) (h : s.2 = 0) : m ≠ 0 ∧ 1 ≤ master.length ∧ ((master.length : Nat) : Int) ≤ m ∧ (ctx.length : Int) ≤ w64 (Int.tdiv m 4) := by
  unfold m_mac_Subkey at hs
  rw [most_ok, hm] at hs
  simp only [Option.bind_some] at hs
  by_cases h0 : m = 0
  · rw [if_pos h0] at hs; rw [← Option.some.inj hs] at h; exact absurd h (by decide)
  rw [if_neg h0] at hs
  by_cases hl : ((master.length : Nat) : Int) = 0
  · rw [if_pos hl] at hs; rw [← Option.some.inj hs] at h; exact absurd h (by decide)
  rw [if_neg hl] at hs
  by_cases hc : w64 (Int.tdiv m 4) < (ctx.length : Int)
  · rw [if_pos hc] at hs; rw [← Option.some.inj hs] at h; exact absurd h (by decide)
  rw [if_neg hc, store64] at hs
  simp only [Option.bind_some] at hs
  obtain ⟨u, hu, hs⟩ := Option.bind_eq_some_iff.1 hs
  obtain ⟨x, hx, hs⟩ := Option.bind_eq_some_iff.1 hs
  have hs := Option.some.inj hs
  have hx0 : x.2 = 0 := by rw [← hs] at h; exact h
  have hck := dig_inv k m master _ ctx [] (by simp) x hx hx0
  obtain ⟨r, c1, c2⟩ := check_some k m ((master.length : Nat) : Int) 1 1 0 0 0 0 0 ((List.range 8).map fun i => UInt8.ofNat (id.toNat / 256 ^ i)) ctx
  rw [hck] at c1
  have hb := c2 (Option.some.inj c1).symm
  have hmk : m = 64 ∧ k = 1 ∨ m = 32 ∧ k = 2 := by
    unfold m_r02_Most at hm
    split at hm
    · exact .inl ⟨(Option.some.inj hm).symm, by assumption⟩
    · split at hm
      · exact .inr ⟨(Option.some.inj hm).symm, by assumption⟩
      · exact absurd (Option.some.inj hm).symm h0
  refine ⟨h0, by omega, by omega, by omega⟩
theorem sub_good (h0 : m ≠ 0) (hctx : (ctx.length : Int) ≤ w64 (Int.tdiv m 4)) (key : List UInt8) (h1 : 1 ≤ key.length) (h2 : ((key.length : Nat) : Int) ≤ m) (id : UInt64) : ∃ x, m_mac_Subkey k m key id ctx = some (x, 0) ∧ ((x.length : Nat) : Int) = m := by
  have hmc := most_cases k m hm h0
  have hq : w64 (Int.tdiv m 4) = 16 ∨ w64 (Int.tdiv m 4) = 8 := by rcases hmc with rfl | rfl; · left; rfl
                                                                   · right; rfl
  obtain ⟨x, x1, x2⟩ := dig_zero k m key ((List.range 8).map fun i => UInt8.ofNat (id.toNat / 256 ^ i)) ctx [] (by simp) (check_zero k m _ rfl hm (by omega) m _ ⟨by omega, by omega⟩ ⟨by omega, h2⟩ _ _ (by simp; omega) hctx)
  refine ⟨x, ?_, x2⟩
  unfold m_mac_Subkey
  rw [most_ok, hm]
  simp only [Option.bind_some]
  rw [if_neg h0, if_neg (by omega), if_neg (by omega), store64]
  simp only [Option.bind_some]
  rw [need_ok (by omega)]
  simp only [Option.bind_some]
  rw [x1]
  rfl
/-- the key that a number leads to -/
noncomputable def sub (k m : Int) (ctx : List UInt8) (key : List UInt8) (id : UInt64) : List UInt8 := ((m_mac_Subkey k m key id ctx).getD ([], 0)).1
def Good (m : Int) (key : List UInt8) : Prop := 1 ≤ key.length ∧ ((key.length : Nat) : Int) ≤ m
theorem sub_eq (h0 : m ≠ 0) (hctx : (ctx.length : Int) ≤ w64 (Int.tdiv m 4)) (key : List UInt8) (hg : Good m key) (id : UInt64) : m_mac_Subkey k m key id ctx = some (sub k m ctx key id, 0) ∧ Good m (sub k m ctx key id) := by
  obtain ⟨x, x1, x2⟩ := sub_good k m ctx hm h0 hctx key hg.1 hg.2 id
  have hmc := most_cases k m hm h0
  have e : sub k m ctx key id = x := by unfold sub; rw [x1]; rfl
  rw [e]
  refine ⟨x1, ?_, ?_⟩ <;> omega
theorem good_fold (h0 : m ≠ 0) (hctx : (ctx.length : Int) ≤ w64 (Int.tdiv m 4)) (ids : List UInt64) : ∀ key, Good m key → Good m (ids.foldl (sub k m ctx) key) := by
  induction ids with
  | nil => intro key h; exact h
  | cons id ids ih => intro key h; exact ih _ (sub_eq k m ctx hm h0 hctx key h id).2
theorem derive_eq (h0 : m ≠ 0) (hctx : (ctx.length : Int) ≤ w64 (Int.tdiv m 4)) (key : List UInt8) (hg : Good m key) (ids : List UInt64) (hi : ids.length ≤ 16000000) : m_mac_Derive k key ctx ids = some (ids.foldl (sub k m ctx) key, 0) := by
  have hmc := most_cases k m hm h0
  unfold m_mac_Derive
  rw [most_ok, hm]
  simp only [Option.bind_some]
  rw [(sub_eq k m ctx hm h0 hctx key hg 0).1]
  simp only [Option.bind_some]
  rw [if_neg (by decide)]
  unfold m_slices_Clone_byte_byte
  have hg2 := hg.2
  rw [app_ok (by simp; omega)]
  simp only [Option.bind_some, List.nil_append]
  have go : ∀ (d i : Nat) (key : List UInt8), d + i = ids.length → Good m key → whileO (m_mac_Derive_l0 k ctx ids m) (key, (i : Int)) = some ((ids.drop i).foldl (sub k m ctx) key, 0) := by
    intro d
    induction d with
    | zero =>
      intro i key hd hk
      refine whileO_done ?_
      unfold m_mac_Derive_l0; simp only []; rw [if_neg (by omega), List.drop_eq_nil_of_le (by omega)]; rfl
    | succ d ih =>
      intro i key hd hk
      have hlt : i < ids.length := by omega
      have hs := sub_eq k m ctx hm h0 hctx key hk (ids[i]'hlt)
      rw [List.drop_eq_getElem_cons hlt, List.foldl_cons, ← ih (i + 1) _ (by omega) hs.2]
      refine whileO_next ?_
      unfold m_mac_Derive_l0; simp only []
      rw [if_pos (by omega), geti_nat hlt]
      simp only [Option.bind_some]
      rw [hs.1, w64_succ i (by omega)]
      rfl
  exact go ids.length 0 key (by omega) hg
end
theorem wide_ok (b : List UInt8) (hb : b.length ≤ 16000000) : ∃ t, m_l06_wide b = some (b ++ t) ∧ t.length = 70 := by
  unfold m_l06_wide
  rw [app_ok (by simp; omega)]
  simp only [Option.bind_some, List.nil_append]
  refine ⟨(List.range 70).map fun i => UInt8.ofInt (w64 (200 + (Int.tmod (i : Nat) 7))), ?_, by simp⟩
  refine whileO_eq (fun i s => s = (b ++ (List.range i).map (fun i => UInt8.ofInt (w64 (200 + (Int.tmod (i : Nat) 7)))), (i : Int)) ∧ i ≤ 70) _ 70 _ ⟨by simp, by omega⟩ ?_
  rintro i s ⟨rfl, hi⟩
  unfold m_l06_wide_l0
  simp only []
  by_cases hlt : i < 70
  · left
    rw [if_pos (by omega), app_ok (by simp; omega)]
    simp only [Option.bind_some]
    refine ⟨hlt, _, rfl, ?_, by omega⟩
    rw [w64_succ i (by omega), List.range_succ, List.map_append, ← List.append_assoc]
    rfl
  · right
    obtain rfl : i = 70 := by omega
    rw [if_neg (by omega)]
    rfl
theorem kept_ok (full b : List UInt8) (hb : b.length ≤ 16000000) (hf : m_l06_wide b = some full) (hl : full.length ≤ 16000070) (hl2 : full.length ≤ 16000000) : m_l06_kept full b = some true := by
  unfold m_l06_kept
  rw [hf]
  simp only [Option.bind_some]
  rw [same_eq _ _ hl2]
  simp
theorem spoil1_ok (b : List UInt8) (hb : b.length ≤ 16000000) : whileO (m_l06_spoil_l1) (b, (0 : Int)) = some () := by
  refine whileO_eq (fun i s => s.2 = (i : Int) ∧ s.1.length = b.length + i ∧ i ≤ 70) _ 70 _ ⟨rfl, rfl, by omega⟩ ?_
  rintro i ⟨c, s⟩ ⟨h1, h2, hi⟩
  simp only at h1 h2
  subst h1
  unfold m_l06_spoil_l1
  simp only []
  by_cases hlt : i < 70
  · left
    rw [if_pos (by omega), app_ok (by simp; omega)]
    simp only [Option.bind_some]
    refine ⟨hlt, _, rfl, by rw [w64_succ i (by omega)], by simp [h2]; omega, by omega⟩
  · right
    rw [if_neg (by omega)]
    rfl
theorem spoil_ok (b : List UInt8) (hb : b.length ≤ 16000000) : m_l06_spoil b = some () := by
  unfold m_l06_spoil
  refine whileO_eq (fun i s => s.2 = (i : Int) ∧ s.1.length = b.length ∧ i ≤ b.length) _ b.length _ ⟨rfl, rfl, by omega⟩ ?_
  rintro i ⟨c, s⟩ ⟨h1, h2, hi⟩
  simp only at h1 h2
  subst h1
  unfold m_l06_spoil_l0
  simp only []
  by_cases hlt : i < b.length
  · left
    rw [if_pos (by omega), geti_nat (show i < c.length by omega)]
    simp only [Option.bind_some]
    exact ⟨hlt, _, rfl, by rw [w64_succ i (by omega)], by simp [h2], by omega⟩
  · right
    rw [if_neg (by omega), spoil1_ok c (by omega)]
    rfl
theorem p_l06_MacWays (k : Int) (_ : -9223372036854775808 ≤ k ∧ k ≤ 9223372036854775807) (n : Int) (_ : -9223372036854775808 ≤ n ∧ n ≤ 9223372036854775807) (master : List UInt8) (hml : master.length ≤ 1048576) (ctx : List UInt8) (_ : ctx.length ≤ 1048576) (ids : List UInt64) (hil : ids.length ≤ 1048576) (cut : Int) (_ : -9223372036854775808 ≤ cut ∧ cut ≤ 9223372036854775807) : m_l06_MacWays k n master ctx ids cut = some true := by
  obtain ⟨t, ht, htl⟩ := wide_ok master (by omega)
  obtain ⟨m, hm, hm0, hm64⟩ := most_le k
  obtain ⟨s, s1, s2, s3⟩ := subkey_ok k m master 0 ctx
  unfold m_l06_MacWays
  rw [alive_ok, ht]
  simp only [Option.bind_some]
  rw [if_neg (by decide), slc_ok (by simp; omega)]
  simp only [Option.bind_some, Int.toNat_natCast, Int.toNat_zero, List.drop_zero, List.take_left]
  by_cases he : s.2 ≠ 0
  · have hD : m_mac_Derive k master ctx ids = some ([], s.2) := by
      unfold m_mac_Derive
      rw [most_ok, hm]
      simp only [Option.bind_some]
      rw [s1]
      simp only [Option.bind_some]
      rw [if_pos he]
    rw [hD]
    simp only [Option.bind_some]
    rw [if_pos he]
    rfl
  have hs0 : s.2 = 0 := by omega
  obtain ⟨h0, hl1, hl2, hctx⟩ := sub_inv k m ctx hm master 0 s s1 hs0
  have hg : Good m master := ⟨hl1, hl2⟩
  have D := derive_eq k m ctx hm h0 hctx
  have hx := good_fold k m ctx hm h0 hctx ids master hg
  rw [D master hg ids (by omega)]
  simp only [Option.bind_some]
  rw [if_neg (by decide)]
  by_cases hcut : ((decide (cut < 0)) || (decide (((ids.length : Nat) : Int) < cut))) = true
  · rw [if_pos hcut]
  rw [if_neg hcut]
  simp only [Bool.or_eq_true, decide_eq_true_eq, not_or] at hcut
  have hy := good_fold k m ctx hm h0 hctx ((ids.take cut.toNat).drop (0 : Int).toNat) master hg
  rw [slc_ok (by omega)]
  simp only [Option.bind_some]
  rw [D master hg _ (by simp; omega)]
  simp only [Option.bind_some]
  rw [slc_ok (by omega)]
  simp only [Option.bind_some]
  have hz := good_fold k m ctx hm h0 hctx ((ids.take ((ids.length : Nat) : Int).toNat).drop cut.toNat) _ hy
  rw [D _ hy _ (by simp; omega)]
  simp only [Option.bind_some]
  rw [if_neg (by simp)]
  have e : (ids.take ((ids.length : Nat) : Int).toNat).drop cut.toNat = ids.drop cut.toNat := by simp
  have e2 : ((ids.take cut.toNat).drop (0 : Int).toNat) = ids.take cut.toNat := by simp
  rw [e, e2] at hz
  rw [e2] at hy
  rw [e, e2, ← List.foldl_append, List.take_append_drop]
  rw [← List.foldl_append, List.take_append_drop] at hz
  have hxl := hx.2
  have hyl := hy.2
  rw [same_eq _ _ (by omega)]
  simp only [Option.bind_some, decide_true, Bool.not_true, Bool.false_eq_true, if_false]
  have hk := kept_ok (master ++ t) master (by omega) ht (by simp; omega) (by simp; omega)
  by_cases hi : ((ids.length : Nat) : Int) = 0
  · rw [if_pos hi]
    have hin : ids = [] := List.length_eq_zero_iff.1 (by omega)
    rw [same_eq _ _ (by omega)]
    simp only [Option.bind_some]
    rw [if_neg (by subst hin; simp), spoil_ok _ (by omega)]
    simp only [Option.bind_some]
    rw [spoil_ok _ (by omega)]
    simp only [Option.bind_some]
    rw [if_pos trivial, hk]
    rfl
  · rw [if_neg hi, spoil_ok _ (by omega)]
    simp only [Option.bind_some]
    rw [spoil_ok _ (by omega)]
    simp only [Option.bind_some]
    rw [if_pos trivial, hk]
    rfl
end Go.Sx
