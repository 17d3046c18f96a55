import Derived.Test.YtapbicobghgmlaaGreatR1
namespace Go.Sx
open Go.RowKit
set_option linter.unusedVariables false
set_option linter.unusedSimpArgs false
/-! ### a number below another -/
section
variable (R : List UInt8) (hR : R.length = 64) (d : Int) (blk nk : List UInt8) (last : Bool) (wr : UInt64) (h : Vec UInt64 8) (lo hi : UInt64) (held : List UInt8)
  (hn : m_node_Node_Out 1 d blk nk last wr h lo hi held 128 64 = some (R, 0, h, lo, hi, held, 128, 1, d, blk, nk, last, wr))
  (seed key : List UInt8) (why : Int)
include hR
theorem drawK1 (at_ : UInt64) (now : Vec UInt8 64) (hv : Int) (h8 : at_.toNat % 8 = 0) (hat : at_.toNat + 8 ≤ 274877906944) (ho : Okn R now hv) :
    ∃ now' hv', Okn R now' hv' ∧ m_dice_Dice_drawn_1_k_s1 seed key [] [] 1 d blk nk last wr h lo hi held 128 R at_ now hv why = some (wdw R at_, h, lo, hi, held, 128, 1, d, blk, nk, last, wr, at_ + 8, now', hv', why) := by
  obtain ⟨now', hv', ho', hs⟩ := sreadK1 R hR d blk nk last wr h lo hi held key at_ now hv h8 hat ho
  refine ⟨now', hv', ho', ?_⟩
  unfold m_dice_Dice_drawn_1_k_s1
  rw [hs, Option.bind_some, if_neg nz, loadK R hR at_ h8 hat, Option.bind_some]
include hn in
theorem drawK (at_ : UInt64) (now : Vec UInt8 64) (hv : Int) (h8 : at_.toNat % 8 = 0) (hat : at_.toNat + 8 ≤ 274877906944) (ho : Okn R now hv) :
    ∃ now' hv', Okn R now' hv' ∧ m_dice_Dice_drawn_1_k seed key [] [] 1 d blk nk last wr h lo hi held 128 at_ now hv why = some (wdw R at_, h, lo, hi, held, 128, 1, d, blk, nk, last, wr, R, at_ + 8, now', hv', why) := by
  obtain ⟨now', hv', ho', hs⟩ := sreadK R hR d blk nk last wr h lo hi held hn key at_ now hv h8 hat ho
  refine ⟨now', hv', ho', ?_⟩
  unfold m_dice_Dice_drawn_1_k
  rw [hs, Option.bind_some, if_neg nz, loadK R hR at_ h8 hat, Option.bind_some]
variable (n : UInt64) (h1 : 0 < n.toNat)
include h1
theorem belowL1 (x : UInt64 × UInt64) : ∀ (k t m : Nat) (at_ : UInt64) (now : Vec UInt8 64) (hv : Int) (w : UInt64), t + k = 64 → at_.toNat = 8 * m → m + k ≤ 34359738368 → Okn R now hv →
    ∃ (v : UInt64) (m' : Nat) (at' : UInt64) (now' : Vec UInt8 64) (hv' : Int), m' ≤ m + k ∧ at'.toNat = 8 * m' ∧ Okn R now' hv' ∧ v.toNat < n.toNat ∧
      whileO (m_dice_below_k_s1_l0 seed key [] [] R n x) (1, d, blk, nk, last, wr, h, lo, hi, held, 128, at_, now, hv, why, w, (t : Int)) = some (v, h, lo, hi, held, 128, 1, d, blk, nk, last, wr, at', now', hv', why) := by
  have hn0 : n ≠ 0 := by intro e; rw [e] at h1; exact absurd h1 (by decide)
  intro k
  induction k with
  | zero =>
    intro t m at_ now hv w ht hm hl ho
    refine ⟨w % n, m, at_, now, hv, by omega, hm, ho, by rw [UInt64.toNat_mod]; exact Nat.mod_lt _ h1, whileO_done ?_⟩
    unfold m_dice_below_k_s1_l0
    dsimp only
    rw [if_neg (by
      rw [show (decide ((t : Int) < 64)) = false from decide_eq_false (by omega), Bool.and_false]; decide), need_ok hn0, Option.bind_some]
    rfl
  | succ k ih =>
    intro t m at_ now hv w ht hm hl ho
    by_cases hc : (((decide (x.2 ≠ 0)) && (decide (((0 - x.2) - 1) < w))) && (decide ((t : Int) < 64))) = true
    · obtain ⟨now1, hv1, ho1, hd⟩ := drawK1 R hR d blk nk last wr h lo hi held seed key why at_ now hv (by omega) (by omega) ho
      obtain ⟨v, m', at', now', hv', q1, q2, q3, q4, q5⟩ := ih (t + 1) (m + 1) (at_ + 8) now1 hv1 (wdw R at_) (by omega) (by rw [UInt64.toNat_add, hm, show (8 : UInt64).toNat = 8 from rfl]; omega) (by omega) ho1
      refine ⟨v, m', at', now', hv', by omega, q2, q3, q4, ?_⟩
      rw [whileO_next (s' := (1, d, blk, nk, last, wr, h, lo, hi, held, 128, at_ + 8, now1, hv1, why, wdw R at_, ((t + 1 : Nat) : Int))) (by
        unfold m_dice_below_k_s1_l0
        dsimp only
        rw [if_pos hc, hd, Option.bind_some]
        dsimp only
        rw [show w64 ((t : Int) + 1) = ((t + 1 : Nat) : Int) from by rw [w64_id] <;> omega])]
      exact q5
    · refine ⟨w % n, m, at_, now, hv, by omega, hm, ho, by rw [UInt64.toNat_mod]; exact Nat.mod_lt _ h1, whileO_done ?_⟩
      unfold m_dice_below_k_s1_l0
      dsimp only
      rw [if_neg hc, need_ok hn0, Option.bind_some]
      rfl
theorem belowL (x : UInt64 × UInt64) (y : (UInt64 × Vec UInt64 8 × UInt64 × UInt64 × List UInt8 × Int × Int × Int × List UInt8 × List UInt8 × Bool × UInt64 × List UInt8 × UInt64 × Vec UInt8 64 × Int × Int)) (hy : y.2.2.2.2.2.2.2.2.2.2.2.2.1 = R) : ∀ (k t m : Nat) (at_ : UInt64) (now : Vec UInt8 64) (hv : Int) (w : UInt64), t + k = 64 → at_.toNat = 8 * m → m + k ≤ 34359738368 → Okn R now hv →
    ∃ (v : UInt64) (m' : Nat) (at' : UInt64) (now' : Vec UInt8 64) (hv' : Int), m' ≤ m + k ∧ at'.toNat = 8 * m' ∧ Okn R now' hv' ∧ v.toNat < n.toNat ∧
      whileO (m_dice_below_k_l0 seed key [] [] n x y) (1, d, blk, nk, last, wr, h, lo, hi, held, 128, at_, now, hv, why, w, (t : Int)) = some (v, h, lo, hi, held, 128, 1, d, blk, nk, last, wr, R, at', now', hv', why) := by
  have hn0 : n ≠ 0 := by intro e; rw [e] at h1; exact absurd h1 (by decide)
  intro k
  induction k with
  | zero =>
    intro t m at_ now hv w ht hm hl ho
    refine ⟨w % n, m, at_, now, hv, by omega, hm, ho, by rw [UInt64.toNat_mod]; exact Nat.mod_lt _ h1, whileO_done ?_⟩
    unfold m_dice_below_k_l0
    dsimp only
    rw [if_neg (by
      rw [show (decide ((t : Int) < 64)) = false from decide_eq_false (by omega), Bool.and_false]; decide), need_ok hn0, Option.bind_some, hy]
    rfl
  | succ k ih =>
    intro t m at_ now hv w ht hm hl ho
    by_cases hc : (((decide (x.2 ≠ 0)) && (decide (((0 - x.2) - 1) < w))) && (decide ((t : Int) < 64))) = true
    · obtain ⟨now1, hv1, ho1, hd⟩ := drawK1 R hR d blk nk last wr h lo hi held seed key why at_ now hv (by omega) (by omega) ho
      obtain ⟨v, m', at', now', hv', q1, q2, q3, q4, q5⟩ := ih (t + 1) (m + 1) (at_ + 8) now1 hv1 (wdw R at_) (by omega) (by rw [UInt64.toNat_add, hm, show (8 : UInt64).toNat = 8 from rfl]; omega) (by omega) ho1
      refine ⟨v, m', at', now', hv', by omega, q2, q3, q4, ?_⟩
      rw [whileO_next (s' := (1, d, blk, nk, last, wr, h, lo, hi, held, 128, at_ + 8, now1, hv1, why, wdw R at_, ((t + 1 : Nat) : Int))) (by
        unfold m_dice_below_k_l0
        dsimp only
        rw [if_pos hc, hy, hd, Option.bind_some]
        dsimp only
        rw [show w64 ((t : Int) + 1) = ((t + 1 : Nat) : Int) from by rw [w64_id] <;> omega])]
      exact q5
    · refine ⟨w % n, m, at_, now, hv, by omega, hm, ho, by rw [UInt64.toNat_mod]; exact Nat.mod_lt _ h1, whileO_done ?_⟩
      unfold m_dice_below_k_l0
      dsimp only
      rw [if_neg hc, need_ok hn0, Option.bind_some, hy]
      rfl
variable (h2 : n.toNat < 256) (m : Nat) (at_ : UInt64) (now : Vec UInt8 64) (hv : Int) (hm : at_.toNat = 8 * m) (hl : m + 64 ≤ 34359738368) (ho : Okn R now hv)
include h2 hm hl ho
theorem belowK1 : ∃ (v : UInt64) (m' : Nat) (at' : UInt64) (now' : Vec UInt8 64) (hv' : Int), m' ≤ m + 64 ∧ at'.toNat = 8 * m' ∧ Okn R now' hv' ∧ v.toNat < n.toNat ∧
      m_dice_below_k_s1 seed key [] [] 1 d blk nk last wr h lo hi held 128 R at_ now hv why n = some (v, h, lo, hi, held, 128, 1, d, blk, nk, last, wr, at', now', hv', why) := by
  have hn0 : n ≠ 0 := by intro e; rw [e] at h1; exact absurd h1 (by decide)
  obtain ⟨x, hx⟩ := divOk n h1 h2
  obtain ⟨now1, hv1, ho1, hd⟩ := drawK1 R hR d blk nk last wr h lo hi held seed key why at_ now hv (by omega) (by omega) ho
  obtain ⟨v, m', at', now', hv', q1, q2, q3, q4, q5⟩ := belowL1 R hR d blk nk last wr h lo hi held seed key why n h1 x 63 1 (m + 1) (at_ + 8) now1 hv1 (wdw R at_) rfl (by rw [UInt64.toNat_add, hm, show (8 : UInt64).toNat = 8 from rfl]; omega) (by omega) ho1
  refine ⟨v, m', at', now', hv', by omega, q2, q3, q4, ?_⟩
  unfold m_dice_below_k_s1
  rw [need_ok hn0, Option.bind_some, hx, Option.bind_some, hd, Option.bind_some]
  exact q5
include hn in
theorem belowK : ∃ (v : UInt64) (m' : Nat) (at' : UInt64) (now' : Vec UInt8 64) (hv' : Int), m' ≤ m + 64 ∧ at'.toNat = 8 * m' ∧ Okn R now' hv' ∧ v.toNat < n.toNat ∧
      m_dice_below_k seed key [] [] 1 d blk nk last wr h lo hi held 128 at_ now hv why n = some (v, h, lo, hi, held, 128, 1, d, blk, nk, last, wr, R, at', now', hv', why) := by
  have hn0 : n ≠ 0 := by intro e; rw [e] at h1; exact absurd h1 (by decide)
  obtain ⟨x, hx⟩ := divOk n h1 h2
  obtain ⟨now1, hv1, ho1, hd⟩ := drawK R hR d blk nk last wr h lo hi held hn seed key why at_ now hv (by omega) (by omega) ho
  obtain ⟨v, m', at', now', hv', q1, q2, q3, q4, q5⟩ := belowL R hR d blk nk last wr h lo hi held seed key why n h1 x (wdw R at_, h, lo, hi, held, 128, 1, d, blk, nk, last, wr, R, at_ + 8, now1, hv1, why) rfl 63 1 (m + 1) (at_ + 8) now1 hv1 (wdw R at_) rfl (by rw [UInt64.toNat_add, hm, show (8 : UInt64).toNat = 8 from rfl]; omega) (by omega) ho1
  refine ⟨v, m', at', now', hv', by omega, q2, q3, q4, ?_⟩
  unfold m_dice_below_k
  rw [need_ok hn0, Option.bind_some, hx, Option.bind_some, hd, Option.bind_some]
  exact q5
end
end Go.Sx

