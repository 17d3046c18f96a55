import Derived.Test.YtapbicobghgmlaaD5
namespace Go.Sx
open Go.RowKit
set_option linter.unusedVariables false
set_option linter.unusedSimpArgs false
/-! ### numbers of the law -/
theorem uby (b : UInt8) : (UInt64.ofNat b.toNat).toNat = b.toNat := by
  have := b.toNat_lt
  rw [UInt64.toNat_ofNat_of_lt' (by show b.toNat < 18446744073709551616; omega)]
theorem far_lt (far : UInt64) : (far % 34359738112).toNat < 34359738112 := by
  rw [UInt64.toNat_mod]
  have e : (34359738112 : UInt64).toNat = 34359738112 := rfl
  rw [e]; omega
theorem tl8 (at_ f : UInt64) (m : Nat) (hm : at_.toNat = 8 * m) (hb : m + f.toNat < 34359738368) : (at_ + 8 * f).toNat = 8 * (m + f.toNat) := sk4 at_ f m hm (by omega) (by omega)
theorem tlAt (at_ : UInt64) (m : Nat) (hm : at_.toNat = 8 * m) (s : UInt64) (hs : s.toNat = m) : at_ / 8 = s := by
  apply UInt64.toNat_inj.1
  rw [at8 at_ m hm, hs]
theorem tlEnd (at_ : UInt64) (m : Nat) (hm : at_.toNat = 8 * m) (hl : m < 34359738368) : ((decide (at_ / 8 = 34359738368)) || (decide ((0 : Int) ≠ 0))) = false := by
  have : ¬ (at_ / 8 = 34359738368) := by
    intro e
    have h := congrArg UInt64.toNat e
    rw [at8 at_ m hm, show (34359738368 : UInt64).toNat = 34359738368 from rfl] at h
    omega
  rw [decide_eq_false this]
  rfl
theorem tlEq (w : UInt64) : ((decide ((0 : Int) = 0)) && (decide (w = w))) = true := by simp
theorem tlp8 (at_ : UInt64) (m : Nat) (hm : at_.toNat = 8 * m) (hl : m < 34359738368) : (at_ + 8).toNat = 8 * (m + 1) := by
  rw [UInt64.toNat_add, hm, show (8 : UInt64).toNat = 8 from rfl]
  omega
theorem tlSum (far : UInt64) (b : UInt8) : (far % 34359738112 + UInt64.ofNat b.toNat).toNat = b.toNat + (far % 34359738112).toNat := by
  have h1 := far_lt far
  have h2 := b.toNat_lt
  rw [UInt64.toNat_add, uby]
  omega
theorem tlStart (b : UInt8) : ((0 : UInt64) + 8 * UInt64.ofNat b.toNat).toNat = 8 * b.toNat := by
  have h2 := b.toNat_lt
  have := sk4 (0 : UInt64) (UInt64.ofNat b.toNat) 0 rfl (by omega) (by rw [uby]; omega)
  rw [this, uby]; omega
end Go.Sx

