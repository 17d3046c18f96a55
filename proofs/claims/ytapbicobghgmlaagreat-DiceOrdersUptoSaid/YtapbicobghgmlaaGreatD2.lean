import Derived.Test.YtapbicobghgmlaaGreatD1
namespace Go.Sx
open Go.RowKit
set_option linter.unusedVariables false
set_option linter.unusedSimpArgs false
/-! ### eight bytes of a stream -/
noncomputable def rdw (root : List UInt8) (at_ : UInt64) : List UInt8 := ((pcs root (at_ / 64)).take (at_.toNat % 64 + 8)).drop (at_.toNat % 64)
def Okn (root : List UInt8) (now : Vec UInt8 64) (hv : Int) : Prop := hv = -1 ∨ ∃ i : UInt64, i.toNat < 4294967296 ∧ hv = (i.toNat : Int) ∧ now.l = pcs root i
theorem okn_new (root : List UInt8) (now : Vec UInt8 64) : Okn root now (-1) := .inl rfl
theorem at_div (at_ : UInt64) : (at_ / 64).toNat = at_.toNat / 64 := by rw [UInt64.toNat_div]; rfl
theorem at_mod (at_ : UInt64) : (at_ % 64).toNat = at_.toNat % 64 := by rw [UInt64.toNat_mod]; rfl
theorem vcp_full (x : Vec UInt8 64) (ys : List UInt8) (h : ys.length = 64) : (vcp x 0 64 ys).l = ys := by
  unfold vcp
  rw [dif_pos (by omega)]
  show lcp x.l 0 64 ys = ys
  unfold lcp
  have := x.h
  simp only [List.take_zero, List.nil_append, Nat.zero_add]
  rw [List.take_of_length_le (by omega), List.drop_eq_nil_of_le (by omega), List.append_nil]
section
variable (root : List UInt8) (hr : root.length ≤ 64) (at_ : UInt64) (h8 : at_.toNat % 8 = 0) (hat : at_.toNat + 8 ≤ 274877906944)
include h8 hat hr
theorem rdw_len : (rdw root at_).length = 8 := by
  have := (pcs_ok root hr (at_ / 64) (by rw [at_div]; omega)).1
  unfold rdw
  simp only [List.length_drop, List.length_take]
  omega
theorem rj1a : (if w64 (64 - (w64 ((at_ % 64).toNat : Int))) < w64 (8 - ((([] : List UInt8).length : Nat) : Int)) then w64 (64 - (w64 ((at_ % 64).toNat : Int))) else w64 (8 - ((([] : List UInt8).length : Nat) : Int))) = 8 := by
  have hm := at_mod at_
  have hp := And.intro hr hat
  have e1 : w64 ((at_ % 64).toNat : Int) = ((at_.toNat % 64 : Nat) : Int) := by rw [hm, w64u _ (by omega)]
  have e2 : w64 (8 - ((([] : List UInt8).length : Nat) : Int)) = 8 := rfl
  have e3 : w64 (64 - ((at_.toNat % 64 : Nat) : Int)) = 64 - ((at_.toNat % 64 : Nat) : Int) := by rw [w64_id]; omega
  rw [e1, e2, e3, if_neg (by omega)]
theorem rj1b (x : Vec UInt8 64) (hx : x.l = pcs root (at_ / 64)) : slc x.l (w64 ((at_ % 64).toNat : Int)) (w64 ((w64 ((at_ % 64).toNat : Int)) + 8)) = some (rdw root at_) := by
  have hm := at_mod at_
  have hp := (pcs_ok root hr (at_ / 64) (by rw [at_div]; omega)).1
  have e1 : w64 ((at_ % 64).toNat : Int) = ((at_.toNat % 64 : Nat) : Int) := by rw [hm, w64u _ (by omega)]
  rw [e1, w64_id (n := ((at_.toNat % 64 : Nat) : Int) + 8) (by omega), slc_ok (by rw [hx, hp]; omega), hx]
  rfl
theorem readK (h : Vec UInt64 8) (lo hi : UInt64) (held : List UInt8) (bl kd d : Int) (blk key : List UInt8) (last : Bool) (wr : UInt64) (now : Vec UInt8 64) (hv : Int) (ho : Okn root now hv) :
    ∃ now' hv', Okn root now' hv' ∧ m_xof_Stream_Read_k_j0 [] [] (h, lo, hi, held, bl, kd, d, blk, key, last, wr, root, at_, now, hv) 8 = some (rdw root at_, 0, h, lo, hi, held, bl, kd, d, blk, key, last, wr, root, at_ + 8, now', hv') := by
  have hp := pcs_ok root hr (at_ / 64) (by rw [at_div]; omega)
  have hl := rdw_len root hr at_ h8 hat
  have ew : w64 ((at_ / 64).toNat : Int) = ((at_ / 64).toNat : Int) := w64u _ (by rw [at_div]; omega)
  have key : ∃ now' hv', Okn root now' hv' ∧ m_xof_Stream_Read_k_l0 [] [] (h, lo, hi, held, bl, kd, d, blk, key, last, wr, root, at_, now, hv) 8 (at_, now, hv, []) = some (.inl (at_ + 8, now', hv', rdw root at_)) := by
    unfold m_xof_Stream_Read_k_l0 m_xof_Stream_Read_k_j1
    simp only []
    rw [if_pos (by decide), rj1a root hr at_ h8 hat]
    by_cases hne : hv = w64 ((at_ / 64).toNat : Int)
    · rw [if_neg (by simpa using hne)]
      rcases ho with hm | ⟨i, hi1, hi2, hi3⟩
      · rw [hm, ew] at hne; omega
      · have hii : i = at_ / 64 := by
          rw [hi2, ew] at hne
          exact UInt64.toNat_inj.1 (by omega)
        subst hii
        rw [rj1b root hr at_ h8 hat now hi3]
        simp only [Option.bind_some]
        rw [app_ok (by simp only [List.length_nil]; omega)]
        exact ⟨now, hv, .inr ⟨_, hi1, hi2, hi3⟩, rfl⟩
    · rw [if_pos hne, hp.2]
      simp only [Option.bind_some]
      rw [rj1b root hr at_ h8 hat _ (vcp_full now _ hp.1)]
      simp only [Option.bind_some]
      rw [app_ok (by simp only [List.length_nil]; omega)]
      exact ⟨_, _, .inr ⟨at_ / 64, by rw [at_div]; omega, ew, vcp_full now _ hp.1⟩, rfl⟩
  obtain ⟨now', hv', ho', hs⟩ := key
  refine ⟨now', hv', ho', ?_⟩
  unfold m_xof_Stream_Read_k_j0
  refine whileO_run (fun i => if i = 0 then (at_, now, hv, []) else (at_ + 8, now', hv', rdw root at_)) 1 (fun i hi => ?_) ?_
  · obtain rfl : i = 0 := by omega
    exact hs
  · rw [if_neg (by decide)]
    unfold m_xof_Stream_Read_k_l0
    simp only []
    rw [if_neg (by rw [hl]; decide)]
    rfl
theorem readK1 (h : Vec UInt64 8) (lo hi : UInt64) (held : List UInt8) (bl kd d : Int) (blk key : List UInt8) (last : Bool) (wr : UInt64) (now : Vec UInt8 64) (hv : Int) (ho : Okn root now hv) :
    ∃ now' hv', Okn root now' hv' ∧ m_xof_Stream_Read_k_s1_j0 [] [] root (h, lo, hi, held, bl, kd, d, blk, key, last, wr, at_, now, hv) 8 = some (rdw root at_, 0, h, lo, hi, held, bl, kd, d, blk, key, last, wr, at_ + 8, now', hv') := by
  have hp := pcs_ok root hr (at_ / 64) (by rw [at_div]; omega)
  have hl := rdw_len root hr at_ h8 hat
  have ew : w64 ((at_ / 64).toNat : Int) = ((at_ / 64).toNat : Int) := w64u _ (by rw [at_div]; omega)
  have key : ∃ now' hv', Okn root now' hv' ∧ m_xof_Stream_Read_k_s1_l0 [] [] root (h, lo, hi, held, bl, kd, d, blk, key, last, wr, at_, now, hv) 8 (at_, now, hv, []) = some (.inl (at_ + 8, now', hv', rdw root at_)) := by
    unfold m_xof_Stream_Read_k_s1_l0 m_xof_Stream_Read_k_s1_j1
    simp only []
    rw [if_pos (by decide), rj1a root hr at_ h8 hat]
    by_cases hne : hv = w64 ((at_ / 64).toNat : Int)
    · rw [if_neg (by simpa using hne)]
      rcases ho with hm | ⟨i, hi1, hi2, hi3⟩
      · rw [hm, ew] at hne; omega
      · have hii : i = at_ / 64 := by
          rw [hi2, ew] at hne
          exact UInt64.toNat_inj.1 (by omega)
        subst hii
        rw [rj1b root hr at_ h8 hat now hi3]
        simp only [Option.bind_some]
        rw [app_ok (by simp only [List.length_nil]; omega)]
        exact ⟨now, hv, .inr ⟨_, hi1, hi2, hi3⟩, rfl⟩
    · rw [if_pos hne, hp.2]
      simp only [Option.bind_some]
      rw [rj1b root hr at_ h8 hat _ (vcp_full now _ hp.1)]
      simp only [Option.bind_some]
      rw [app_ok (by simp only [List.length_nil]; omega)]
      exact ⟨_, _, .inr ⟨at_ / 64, by rw [at_div]; omega, ew, vcp_full now _ hp.1⟩, rfl⟩
  obtain ⟨now', hv', ho', hs⟩ := key
  refine ⟨now', hv', ho', ?_⟩
  unfold m_xof_Stream_Read_k_s1_j0
  refine whileO_run (fun i => if i = 0 then (at_, now, hv, []) else (at_ + 8, now', hv', rdw root at_)) 1 (fun i hi => ?_) ?_
  · obtain rfl : i = 0 := by omega
    exact hs
  · rw [if_neg (by decide)]
    unfold m_xof_Stream_Read_k_s1_l0
    simp only []
    rw [if_neg (by rw [hl]; decide)]
    rfl
end
end Go.Sx

