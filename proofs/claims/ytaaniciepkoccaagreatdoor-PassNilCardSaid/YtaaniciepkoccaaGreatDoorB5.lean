import Derived.Test.YtaaniciepkoccaaGreatDoorSyP
import Derived.Test.YtaaniciepkoccaaGreatDoorMM
namespace Go.Sx
open Go.RowKit
set_option linter.unusedVariables false
set_option linter.unusedSimpArgs false
set_option maxRecDepth 20000
theorem wk {σ ρ : Type} {step : σ → Option (σ ⊕ ρ)} {s : σ} {r : ρ} (k : Nat) (h : runK step k s = some r) : whileO step s = some r := whileO_some.2 ⟨k, h⟩
def old18 : List UInt8 := [36, 97, 114, 103, 111, 110, 50, 105, 100, 36, 118, 61, 49, 56]
theorem pl1 : m_pass_pen_lit old18 0 true [36, 97, 114, 103, 111, 110, 50] = some (old18, 7, true) := wk 12 (by kernel_rfl)
theorem pl2 : m_pass_pen_lit old18 9 true [36, 118, 61, 49, 57, 36, 109, 61] = some (old18, 13, false) := wk 12 (by kernel_rfl)
theorem plf (t : List UInt8) : m_pass_pen_lit old18 13 false t = some (old18, 13, false) := by
  unfold m_pass_pen_lit
  refine whileO_done ?_
  unfold m_pass_pen_lit_l0
  simp only []
  rw [if_neg (by simp)]
  rfl
theorem pnf : m_pass_pen_number old18 13 false = some (0, old18, 13, false) := rfl
theorem pwf : m_pass_whole 0 = some 0 := by
  unfold m_pass_whole
  rw [if_neg (by decide)]
  rfl
theorem pef : m_pass_pen_letters old18 13 false = some ([], 13, old18, 13, false) := by
  unfold m_pass_pen_letters
  refine whileO_done ?_
  unfold m_pass_pen_letters_l0
  rw [if_neg (by simp)]
  rfl
theorem phx : m_strings_HasPrefix [105, 100, 36, 118, 61, 49, 56] [105, 100] = some true := by kernel_rfl
theorem pparse : m_pass_Parse old18 = some (0, 0, 0, 0, 0, [], [], 13, 4) := by
  unfold m_pass_Parse
  rw [pl1]
  simp only [Option.bind_some, if_true]
  rw [show slc old18 7 ((old18.length : Nat) : Int) = some [105, 100, 36, 118, 61, 49, 56] from by kernel_rfl]
  simp only [Option.bind_some]
  rw [phx]
  simp only [Option.bind_some, if_true]
  rw [show w64 ((7 : Int) + 2) = 9 from by rw [w64_id (by omega)]; rfl]
  unfold m_pass_Parse_j0
  rw [pl2]
  simp only [Option.bind_some, pnf, pwf, plf, pef]
  rw [if_pos (by decide)]
theorem passawake_ok : m_l21_awake = some true := by
  unfold m_l21_awake
  rw [show ([36, 97, 114, 103, 111, 110, 50, 105, 100, 36, 118, 61, 49, 56] : List UInt8) = old18 from rfl, pparse]
  rfl
theorem p_l21_PassNil (name word : List UInt8) (now : UInt64) : m_l21_PassNil name word now = some true := by
  unfold m_l21_PassNil
  rw [passawake_ok]
  rfl
end Go.Sx
