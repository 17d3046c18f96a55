import Derived.Test.YtenfdhhjafddlaaSxP
import Derived.Test.YtenfdhhjafddlaaNS
namespace Go.Sx
set_option linter.unusedVariables false
theorem add_ok (lo hi n : UInt64) : m_word_Add lo hi n = some ((UInt64.ofNat (lo.toNat + 18446744073709551616 * hi.toNat + n.toNat), UInt64.ofNat ((lo.toNat + 18446744073709551616 * hi.toNat + n.toNat) / 18446744073709551616)), decide (340282366920938463463374607431768211456 ≤ lo.toNat + 18446744073709551616 * hi.toNat + n.toNat)) := by
  have hl := lo.toNat_lt
  have hh := hi.toNat_lt
  have hn := n.toNat_lt
  unfold m_word_Add add64
  simp only [show (0 : UInt64).toNat = 0 from rfl, Nat.zero_le, if_true, Option.bind_some, Nat.add_zero]
  have hc : (UInt64.ofNat ((lo.toNat + n.toNat) / 18446744073709551616)).toNat = (lo.toNat + n.toNat) / 18446744073709551616 := by
    simp only [UInt64.toNat_ofNat']; omega
  rw [hc, if_pos (by omega)]
  simp only [Option.bind_some, Option.some.injEq, Prod.mk.injEq]
  refine ⟨⟨?_, ?_⟩, ?_⟩
  · rw [← UInt64.toNat_inj]; simp only [UInt64.toNat_ofNat']; omega
  · rw [← UInt64.toNat_inj]; simp only [UInt64.toNat_ofNat']; omega
  · rw [decide_eq_decide, ← UInt64.toNat_inj]
    simp only [UInt64.toNat_ofNat', show (1 : UInt64).toNat = 1 from rfl]
    omega
theorem p_l01_WordSums (lo hi n m : UInt64) : m_l01_WordSums lo hi n m = some true := by
  have hl := lo.toNat_lt
  have hh := hi.toNat_lt
  have hn := n.toNat_lt
  have hm := m.toNat_lt
  unfold m_l01_WordSums
  simp only [add_ok, Option.bind_some]
  rw [if_neg (by decide)]
  simp only [Option.some.injEq, Bool.and_true, Bool.and_eq_true, decide_eq_true_eq]
  have e : ∀ k : Nat, (UInt64.ofNat k).toNat = k % 18446744073709551616 := fun k => by simp only [UInt64.toNat_ofNat']
  simp only [e]
  refine ⟨⟨?_, ?_⟩, ?_⟩
  · rw [← UInt64.toNat_inj]; simp only [e]; omega
  · rw [← UInt64.toNat_inj]; simp only [e]; omega
  · rw [← Bool.decide_or, ← Bool.decide_or, decide_eq_decide]
    omega
end Go.Sx
