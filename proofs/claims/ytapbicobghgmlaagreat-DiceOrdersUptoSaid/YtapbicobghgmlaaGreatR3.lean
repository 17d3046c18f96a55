import Derived.Test.YtapbicobghgmlaaGreatR2
namespace Go.Sx
open Go.RowKit
set_option linter.unusedVariables false
set_option linter.unusedSimpArgs false
/-! ### the places, turned about -/
theorem u64i (n : Nat) (h : n < 256) : (UInt64.ofInt (n : Int)).toNat = n := by
  rw [u64_nat, UInt64.toNat_ofNat_of_lt' (by show n < 18446744073709551616; omega)]
theorem swapOk (l : List Int) (i j : Nat) (hi : i < l.length) (hj : j < l.length) :
    ∃ x y z, geti l (j : Int) = some x ∧ geti l (i : Int) = some y ∧ geti (l.set i x) (j : Int) = some z ∧ ((l.set i x).set j y).Perm l ∧ ((l.set i x).set j y).length = l.length := by
  refine ⟨l[j], l[i], (l.set i l[j])[j]'(by simpa using hj), geti_nat hj, geti_nat hi, geti_nat (by simpa using hj), ?_, by simp⟩
  exact List.set_set_perm hi hj
section
variable (R : List UInt8) (hR : R.length = 64) (d : Int) (blk nk : List UInt8) (last : Bool) (wr : UInt64) (h : Vec UInt64 8) (lo hi : UInt64) (held : List UInt8)
  (hn : m_node_Node_Out 1 d blk nk last wr h lo hi held 128 64 = some (R, 0, h, lo, hi, held, 128, 1, d, blk, nk, last, wr))
  (seed key : List UInt8) (why p : Int)
include hR
theorem orderL1 : ∀ (i m : Nat) (at_ : UInt64) (now : Vec UInt8 64) (hv : Int) (l : List Int), l.length < 256 → (i < l.length ∨ i = 0) → at_.toNat = 8 * m → m + 64 * i ≤ 34359738368 → Okn R now hv →
    ∃ (l' : List Int) (m' : Nat) (at' : UInt64) (now' : Vec UInt8 64) (hv' : Int), l'.Perm l ∧ m' ≤ m + 64 * i ∧ at'.toNat = 8 * m' ∧ Okn R now' hv' ∧
      whileO (m_dice_Dice_Order_1_k_s1_l0 seed key [] [] R p) (1, d, blk, nk, last, wr, h, lo, hi, held, 128, at_, now, hv, why, l, (i : Int)) = some (h, lo, hi, held, 128, 1, d, blk, nk, last, wr, at', now', hv', why, p, l') := by
  intro i
  induction i with
  | zero =>
    intro m at_ now hv l hl hil hm hb ho
    refine ⟨l, m, at_, now, hv, .refl _, by omega, hm, ho, whileO_done ?_⟩
    unfold m_dice_Dice_Order_1_k_s1_l0
    dsimp only
    rw [if_neg (by decide)]
    rfl
  | succ i ih =>
    intro m at_ now hv l hl hil hm hb ho
    have hil : i + 1 < l.length := by omega
    have hw : w64 (((i + 1 : Nat) : Int) + 1) = ((i + 2 : Nat) : Int) := by rw [w64_id] <;> omega
    have hw' : w64 (((i + 1 : Nat) : Int) - 1) = ((i : Nat) : Int) := by rw [w64_id] <;> omega
    have hu := u64i (i + 2) (by omega)
    obtain ⟨v, m1, at1, now1, hv1, q1, q2, q3, q4, q5⟩ := belowK1 R hR d blk nk last wr h lo hi held seed key why (UInt64.ofInt ((i + 2 : Nat) : Int)) (by omega) (by omega) m at_ now hv hm (by omega) ho
    obtain ⟨x, y, z, s1, s2, s3, s4, s5⟩ := swapOk l (i + 1) v.toNat hil (by omega)
    obtain ⟨l', m', at', now', hv', r1, r2, r3, r4, r5⟩ := ih m1 at1 now1 hv1 ((l.set (i + 1) x).set v.toNat y) (by omega) (by omega) q2 (by omega) q3
    refine ⟨l', m', at', now', hv', r1.trans s4, by omega, r3, r4, ?_⟩
    rw [whileO_next (s' := (1, d, blk, nk, last, wr, h, lo, hi, held, 128, at1, now1, hv1, why, (l.set (i + 1) x).set v.toNat y, (i : Int))) (by
      unfold m_dice_Dice_Order_1_k_s1_l0
      dsimp only
      rw [if_pos (by omega), hw, q5, Option.bind_some]
      dsimp only
      rw [s1, s2, Option.bind_some, Option.bind_some, Option.bind_some, show Int.toNat ((i + 1 : Nat) : Int) = i + 1 from rfl, s3, Option.bind_some, hw']
      rfl)]
    exact r5
theorem orderL (y0 : (UInt64 × Vec UInt64 8 × UInt64 × UInt64 × List UInt8 × Int × Int × Int × List UInt8 × List UInt8 × Bool × UInt64 × List UInt8 × UInt64 × Vec UInt8 64 × Int × Int)) (hy : y0.2.2.2.2.2.2.2.2.2.2.2.2.1 = R) : ∀ (i m : Nat) (at_ : UInt64) (now : Vec UInt8 64) (hv : Int) (l : List Int), l.length < 256 → (i < l.length ∨ i = 0) → at_.toNat = 8 * m → m + 64 * i ≤ 34359738368 → Okn R now hv →
    ∃ (l' : List Int) (m' : Nat) (at' : UInt64) (now' : Vec UInt8 64) (hv' : Int), l'.Perm l ∧ m' ≤ m + 64 * i ∧ at'.toNat = 8 * m' ∧ Okn R now' hv' ∧
      whileO (m_dice_Dice_Order_1_k_l0 seed key [] [] p y0) (1, d, blk, nk, last, wr, h, lo, hi, held, 128, at_, now, hv, why, l, (i : Int)) = some (Sum.inl (h, lo, hi, held, 128, 1, d, blk, nk, last, wr, R, at', now', hv', why, p, l')) := by
  intro i
  induction i with
  | zero =>
    intro m at_ now hv l hl hil hm hb ho
    refine ⟨l, m, at_, now, hv, .refl _, by omega, hm, ho, whileO_done ?_⟩
    unfold m_dice_Dice_Order_1_k_l0
    dsimp only
    rw [if_neg (by decide), hy]
    rfl
  | succ i ih =>
    intro m at_ now hv l hl hil hm hb ho
    have hil : i + 1 < l.length := by omega
    have hw : w64 (((i + 1 : Nat) : Int) + 1) = ((i + 2 : Nat) : Int) := by rw [w64_id] <;> omega
    have hw' : w64 (((i + 1 : Nat) : Int) - 1) = ((i : Nat) : Int) := by rw [w64_id] <;> omega
    have hu := u64i (i + 2) (by omega)
    obtain ⟨v, m1, at1, now1, hv1, q1, q2, q3, q4, q5⟩ := belowK1 R hR d blk nk last wr h lo hi held seed key why (UInt64.ofInt ((i + 2 : Nat) : Int)) (by omega) (by omega) m at_ now hv hm (by omega) ho
    obtain ⟨x, y, z, s1, s2, s3, s4, s5⟩ := swapOk l (i + 1) v.toNat hil (by omega)
    obtain ⟨l', m', at', now', hv', r1, r2, r3, r4, r5⟩ := ih m1 at1 now1 hv1 ((l.set (i + 1) x).set v.toNat y) (by omega) (by omega) q2 (by omega) q3
    refine ⟨l', m', at', now', hv', r1.trans s4, by omega, r3, r4, ?_⟩
    rw [whileO_next (s' := (1, d, blk, nk, last, wr, h, lo, hi, held, 128, at1, now1, hv1, why, (l.set (i + 1) x).set v.toNat y, (i : Int))) (by
      unfold m_dice_Dice_Order_1_k_l0
      dsimp only
      rw [if_pos (by omega), hw, hy, q5, Option.bind_some]
      dsimp only
      rw [s1, s2, Option.bind_some, Option.bind_some, Option.bind_some, show Int.toNat ((i + 1 : Nat) : Int) = i + 1 from rfl, s3, Option.bind_some, hw']
      rfl)]
    exact r5
variable (n : Nat) (hn2 : n < 256) (l : List Int) (hll : l.length = n) (m : Nat) (at_ : UInt64) (now : Vec UInt8 64) (hv : Int) (hm : at_.toNat = 8 * m) (hb : m + 64 * n ≤ 34359738368) (ho : Okn R now hv)
include hn2 hll hm hb ho
theorem order1K1 : ∃ (l' : List Int) (m' : Nat) (at' : UInt64) (now' : Vec UInt8 64) (hv' : Int), l'.Perm l ∧ m' ≤ m + 64 * n ∧ at'.toNat = 8 * m' ∧ Okn R now' hv' ∧
      m_dice_Dice_Order_1_k_s1 seed key [] [] 1 d blk nk last wr h lo hi held 128 R at_ now hv why (n : Int) l = some (h, lo, hi, held, 128, 1, d, blk, nk, last, wr, at', now', hv', why, (n : Int), l') := by
  unfold m_dice_Dice_Order_1_k_s1
  have hw0 : w64 ((n : Int) - 1) = (n : Int) - 1 := by rw [w64_id] <;> omega
  rw [hw0]
  by_cases h1 : 1 ≤ (n : Int) - 1
  · obtain ⟨i, rfl⟩ : ∃ i, n = i + 2 := ⟨n - 2, by omega⟩
    have e1 : ((i + 2 : Nat) : Int) - 1 = ((i + 1 : Nat) : Int) := by omega
    rw [e1] at h1 ⊢
    rw [if_pos h1]
    have hw : w64 (((i + 1 : Nat) : Int) + 1) = ((i + 2 : Nat) : Int) := by rw [w64_id] <;> omega
    have hw' : w64 (((i + 1 : Nat) : Int) - 1) = ((i : Nat) : Int) := by rw [w64_id] <;> omega
    have hu := u64i (i + 2) (by omega)
    obtain ⟨v, m1, at1, now1, hv1, q1, q2, q3, q4, q5⟩ := belowK1 R hR d blk nk last wr h lo hi held seed key why (UInt64.ofInt ((i + 2 : Nat) : Int)) (by omega) (by omega) m at_ now hv hm (by omega) ho
    obtain ⟨x, y, z, s1, s2, s3, s4, s5⟩ := swapOk l (i + 1) v.toNat (by omega) (by omega)
    obtain ⟨l', m', at', now', hv', r1, r2, r3, r4, r5⟩ := orderL1 R hR d blk nk last wr h lo hi held seed key why ((i + 2 : Nat) : Int) i m1 at1 now1 hv1 ((l.set (i + 1) x).set v.toNat y) (by omega) (by omega) q2 (by omega) q3
    refine ⟨l', m', at', now', hv', r1.trans s4, by omega, r3, r4, ?_⟩
    rw [hw, q5, Option.bind_some]
    dsimp only
    rw [s1, s2, Option.bind_some, Option.bind_some, Option.bind_some, show Int.toNat ((i + 1 : Nat) : Int) = i + 1 from rfl, s3, Option.bind_some, hw']
    exact r5
  · rw [if_neg h1]
    exact ⟨l, m, at_, now, hv, .refl _, by omega, hm, ho, rfl⟩
include hn in
theorem order1K : (2 ≤ n ∧ ∃ (l' : List Int) (m' : Nat) (at' : UInt64) (now' : Vec UInt8 64) (hv' : Int), l'.Perm l ∧ m' ≤ m + 64 * n ∧ at'.toNat = 8 * m' ∧ Okn R now' hv' ∧
      m_dice_Dice_Order_1_k seed key [] [] 1 d blk nk last wr h lo hi held 128 at_ now hv why (n : Int) l = some (Sum.inl (h, lo, hi, held, 128, 1, d, blk, nk, last, wr, R, at', now', hv', why, (n : Int), l'))) ∨
    (n < 2 ∧ m_dice_Dice_Order_1_k seed key [] [] 1 d blk nk last wr h lo hi held 128 at_ now hv why (n : Int) l = some (Sum.inr (h, lo, hi, held, 128, 1, d, blk, nk, last, wr, at_, now, hv, why, (n : Int), l))) := by
  unfold m_dice_Dice_Order_1_k
  have hw0 : w64 ((n : Int) - 1) = (n : Int) - 1 := by rw [w64_id] <;> omega
  rw [hw0]
  by_cases h1 : 1 ≤ (n : Int) - 1
  · refine .inl ⟨by omega, ?_⟩
    obtain ⟨i, rfl⟩ : ∃ i, n = i + 2 := ⟨n - 2, by omega⟩
    have e1 : ((i + 2 : Nat) : Int) - 1 = ((i + 1 : Nat) : Int) := by omega
    rw [e1] at h1 ⊢
    rw [if_pos h1]
    have hw : w64 (((i + 1 : Nat) : Int) + 1) = ((i + 2 : Nat) : Int) := by rw [w64_id] <;> omega
    have hw' : w64 (((i + 1 : Nat) : Int) - 1) = ((i : Nat) : Int) := by rw [w64_id] <;> omega
    have hu := u64i (i + 2) (by omega)
    obtain ⟨v, m1, at1, now1, hv1, q1, q2, q3, q4, q5⟩ := belowK R hR d blk nk last wr h lo hi held hn seed key why (UInt64.ofInt ((i + 2 : Nat) : Int)) (by omega) (by omega) m at_ now hv hm (by omega) ho
    obtain ⟨x, y, z, s1, s2, s3, s4, s5⟩ := swapOk l (i + 1) v.toNat (by omega) (by omega)
    obtain ⟨l', m', at', now', hv', r1, r2, r3, r4, r5⟩ := orderL R hR d blk nk last wr h lo hi held seed key why ((i + 2 : Nat) : Int) (v, h, lo, hi, held, 128, 1, d, blk, nk, last, wr, R, at1, now1, hv1, why) rfl i m1 at1 now1 hv1 ((l.set (i + 1) x).set v.toNat y) (by omega) (by omega) q2 (by omega) q3
    refine ⟨l', m', at', now', hv', r1.trans s4, by omega, r3, r4, ?_⟩
    rw [hw, q5, Option.bind_some]
    dsimp only
    rw [s1, s2, Option.bind_some, Option.bind_some, Option.bind_some, show Int.toNat ((i + 1 : Nat) : Int) = i + 1 from rfl, s3, Option.bind_some, hw']
    exact r5
  · refine .inr ⟨by omega, ?_⟩
    rw [if_neg h1]
end
end Go.Sx

