import Derived.Test.YtapbicobghgmlaaD6
namespace Go.Sx
open Go.RowKit
set_option linter.unusedVariables false
set_option linter.unusedSimpArgs false
/-! ### a skip is words thrown away -/
section
variable (R : List UInt8) (hR : R.length = 64) (blk nk : List UInt8) (h : Vec UInt64 8) (lo hi : UInt64) (held : List UInt8) (hh : held.length ≤ 128)
  (seed key : List UInt8) (by_ : UInt8) (far : UInt64) (x13 : (UInt64 × Int × Vec UInt64 8 × UInt64 × UInt64 × List UInt8 × Int × Int × Int × List UInt8 × List UInt8 × Bool × UInt64))
  (t13 : UInt64 × Vec UInt8 64 × Int) (now0 : Vec UInt8 64)
include hR hh
theorem skLoop (y13 : (UInt64 × Int × Vec UInt64 8 × UInt64 × UInt64 × List UInt8 × Int × Int × Int × List UInt8 × List UInt8 × Bool × UInt64 × List UInt8 × UInt64 × Vec UInt8 64 × Int)) (hy : y13.2.2.2.2.2.2.2.2.2.2.2.2.2.1 = R) : ∀ (n i : Nat) (at_ : UInt64) (now : Vec UInt8 64) (hv : Int), n + i = by_.toNat → at_.toNat = 8 * i → Okn R now hv →
    whileO (m_l25_DiceSkips_k_l0 by_ far (seed, key, [], [], 1, 64, blk, nk, h, lo, hi, held, 128, now0) (seed, key, [], [], 1, 64, blk, nk, h, lo, hi, held, 128, now0) (h, lo, hi, held, 128, 1, 64, blk, nk, false, 0, R, (0 : UInt64) + 8 * UInt64.ofNat by_.toNat, now0, -1) y13) (1, 64, blk, nk, false, 0, h, lo, hi, held, 128, at_, now, hv, (i : Int)) = some true := by
  have hb := by_.toNat_lt
  have hf := far_lt far
  intro n
  induction n with
  | succ n ih =>
    intro i at_ now hv hn hi' ho
    obtain ⟨now', hv', ho', hw⟩ := wordK1 R hR 64 blk nk false 0 h lo hi held hh seed key at_ now hv (by omega) (by omega) ho
    rw [whileO_next (s' := (1, 64, blk, nk, false, 0, h, lo, hi, held, 128, at_ + 8, now', hv', ((i + 1 : Nat) : Int))) (by
      unfold m_l25_DiceSkips_k_l0
      dsimp only
      rw [if_pos (by omega), hy, hw, Option.bind_some, if_neg nz]
      dsimp only
      rw [show w64 ((i : Int) + 1) = ((i + 1 : Nat) : Int) from by rw [w64_id] <;> omega])]
    exact ih (i + 1) (at_ + 8) now' hv' (by omega) (tlp8 at_ i hi' (by omega)) ho'
  | zero =>
    intro i at_ now hv hn hi' ho
    obtain rfl : i = by_.toNat := by omega
    obtain rfl : at_ = (0 : UInt64) + 8 * UInt64.ofNat by_.toNat := UInt64.toNat_inj.1 (by rw [hi', tlStart])
    have hA := hi'
    generalize (0 : UInt64) + 8 * UInt64.ofNat by_.toNat = A at *
    have hA2 := tl8 A (far % 34359738112) by_.toNat hA (by omega)
    have hA3 := tlp8 (A + 8 * (far % 34359738112)) _ hA2 (by omega)
    obtain ⟨now1, hv1, ho1, hw1⟩ := wordK1 R hR 64 blk nk false 0 h lo hi held hh seed key (A + 8 * (far % 34359738112)) now0 (-1) (by omega) (by omega) (okn_new R now0)
    obtain ⟨now2, hv2, ho2, hw2⟩ := wordK1 R hR 64 blk nk false 0 h lo hi held hh seed key (A + 8 * (far % 34359738112)) now hv (by omega) (by omega) ho
    apply whileO_done
    unfold m_l25_DiceSkips_k_l0
    dsimp only
    rw [if_neg (by omega), hy]
    rw [skipK1 R 64 blk nk false 0 h lo hi held seed key A now0 (-1) (far % 34359738112) by_.toNat hA (by omega) (by omega), Option.bind_some, if_neg nz]
    rw [skipK1 R 64 blk nk false 0 h lo hi held seed key A now hv (far % 34359738112) by_.toNat hA (by omega) (by omega), Option.bind_some, if_neg nz]
    dsimp only
    rw [atK1, Option.bind_some, atK1, Option.bind_some]
    dsimp only
    rw [if_neg (fun e => e rfl), atK1, Option.bind_some]
    dsimp only
    rw [if_neg (fun e => e (tlAt _ _ hA2 _ (tlSum far by_)))]
    rw [hw1, Option.bind_some, hw2, Option.bind_some]
    dsimp only
    rw [atK1, Option.bind_some]
    dsimp only
    rw [if_neg (fne (tlEnd _ _ hA3 (by omega))), if_pos (tlEq _)]
    rw [skipX R 64 blk nk false 0 h lo hi held seed key _ now1 hv1 (by_.toNat + (far % 34359738112).toNat + 1) (by omega) hA3 (by omega), Option.bind_some]
    rfl
end
theorem p_l25_DiceSkips (seed : List UInt8) (hs : seed.length ≤ 1048576) (by_ : UInt8) (far : UInt64) : m_l25_DiceSkips_k seed by_ far = some true := by
  have hb := by_.toNat_lt
  have hf := far_lt far
  unfold m_l25_DiceSkips_k
  rw [awakeK, Option.bind_some, if_neg (by decide)]
  by_cases hl : 64 < seed.length
  · rw [newE seed hl, Option.bind_some, Sum.elim_inl, app_ok (by simp only [List.length_nil]; omega), Option.bind_some, List.nil_append, newE seed hl, Option.bind_some, Sum.elim_inl, if_pos (by omega)]
    rfl
  · obtain ⟨blk, hblk, hn⟩ := newX seed (by omega)
    rw [hn, Option.bind_some, Sum.elim_inr, app_ok (by simp only [List.length_nil]; omega), Option.bind_some, List.nil_append, hn, Option.bind_some, Sum.elim_inr, if_neg (by omega)]
    dsimp only
    have hh : (big.kb seed).length ≤ 128 := big.kb_len seed (by show seed.length ≤ 128; omega)
    have hno := nout 64 blk seed false 0 (Stb blk) 0 0 (big.kb seed) hh
    have hR : (Byb (fB (Stb blk) (pad 128 (big.kb seed)) (cntb (0, 0) (UInt64.ofNat (big.kb seed).length)) true false)).length = 64 := Byb_len _
    generalize Byb (fB (Stb blk) (pad 128 (big.kb seed)) (cntb (0, 0) (UInt64.ofNat (big.kb seed).length)) true false) = R at hno hR
    generalize big.kb seed = held at *
    generalize Stb blk = h at *
    generalize Vec.rep 64 (0 : UInt8) = now0
    have hA := tlStart by_
    rw [skipK R hR 64 blk seed false 0 h 0 0 held hno seed seed 0 now0 (-1) (UInt64.ofNat by_.toNat) 0 rfl (by omega) (by rw [uby]; omega), Option.bind_some, Sum.elim_inr]
    by_cases h0 : 0 < (by_.toNat : Int)
    · rw [if_pos h0]
      obtain ⟨now', hv', ho', hw⟩ := wordK R hR 64 blk seed false 0 h 0 0 held hh hno seed seed 0 now0 (-1) rfl (by decide) (okn_new R now0)
      rw [hw, Option.bind_some, if_neg nz]
      dsimp only
      exact skLoop R hR blk seed h 0 0 held hh seed seed by_ far now0 _ rfl (by_.toNat - 1) 1 (0 + 8) now' hv' (by omega) rfl ho'
    · rw [if_neg h0]
      dsimp only
      have hb0 : by_.toNat = 0 := by omega
      generalize hAe : (0 : UInt64) + 8 * UInt64.ofNat by_.toNat = A at *
      have hA2 := tl8 A (far % 34359738112) by_.toNat hA (by omega)
      have hA3 := tlp8 (A + 8 * (far % 34359738112)) _ hA2 (by omega)
      have hA0 : A = 0 := UInt64.toNat_inj.1 (by rw [hA, hb0]; rfl)
      obtain ⟨now1, hv1, ho1, hw1⟩ := wordK1 R hR 64 blk seed false 0 h 0 0 held hh seed seed (A + 8 * (far % 34359738112)) now0 (-1) (by omega) (by omega) (okn_new R now0)
      rw [skipK1 R 64 blk seed false 0 h 0 0 held seed seed A now0 (-1) (far % 34359738112) by_.toNat hA (by omega) (by omega), Option.bind_some, if_neg nz]
      rw [skipK R hR 64 blk seed false 0 h 0 0 held hno seed seed 0 now0 (-1) (far % 34359738112) 0 rfl (by omega) (by omega), Option.bind_some, Sum.elim_inr]
      rw [show (0 : UInt64) + 8 * (far % 34359738112) = A + 8 * (far % 34359738112) from by rw [hA0]]
      dsimp only
      rw [atK1, Option.bind_some, atK1, Option.bind_some]
      dsimp only
      rw [if_neg (fun e => e rfl), Option.bind_some]
      dsimp only
      rw [if_neg (fun e => e (tlAt _ _ hA2 _ (tlSum far by_)))]
      rw [hw1, Option.bind_some, Option.bind_some]
      dsimp only
      rw [atK1, Option.bind_some]
      dsimp only
      rw [if_neg (fne (tlEnd _ _ hA3 (by omega))), if_pos (tlEq _)]
      rw [skipX R 64 blk seed false 0 h 0 0 held seed seed _ now1 hv1 (by_.toNat + (far % 34359738112).toNat + 1) (by omega) hA3 (by omega), Option.bind_some]
      rfl
end Go.Sx

