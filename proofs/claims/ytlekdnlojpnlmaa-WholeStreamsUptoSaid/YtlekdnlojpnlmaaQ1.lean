import Derived.Test.YtlekdnlojpnlmaaSyP
import Derived.Test.YtlekdnlojpnlmaaMM
namespace Go.Sx
open Go.RowKit
set_option linter.unusedVariables false
set_option linter.unusedSimpArgs false
/-! ### arrays and loops -/
section
variable {α σ ρ : Type}
def Vec.g [Inhabited α] {n : Nat} (v : Vec α n) (i : Nat) : α := v.l.getD i default
theorem geti_v [Inhabited α] {n : Nat} (v : Vec α n) (i : Nat) (h : i < n) : geti v.l (i : Int) = some (v.g i) := by
  have hl : i < v.l.length := by rw [v.h]; exact h
  rw [geti_nat hl]
  simp [Vec.g, List.getD_eq_getElem?_getD, hl]
theorem w64_succ (i : Nat) (h : i < 1000000000000000000) : w64 ((i : Int) + 1) = ((i + 1 : Nat) : Int) := by rw [w64_id (by omega)]; omega
theorem loopN (step : σ × Int → Option ((σ × Int) ⊕ ρ)) (n : Nat) (F : σ → Nat → σ) (s : σ) (r : ρ) (h : ∀ s i, i < n → step (s, (i : Int)) = some (.inl (F s i, ((i + 1 : Nat) : Int))))
    (he : step ((List.range n).foldl F s, (n : Int)) = some (.inr r)) : whileO step (s, 0) = some r := by
  refine whileO_run (fun i => ((List.range i).foldl F s, (i : Int))) n (fun i hi => ?_) he
  show step ((List.range i).foldl F s, (i : Int)) = some (.inl ((List.range (i + 1)).foldl F s, ((i + 1 : Nat) : Int)))
  rw [h _ _ hi, List.range_succ, List.foldl_append]
  rfl
theorem vec8 {v : Vec α 8} : ∃ a b c d e f g h, v = ⟨[a, b, c, d, e, f, g, h], rfl⟩ := by
  obtain ⟨l, hl⟩ := v
  match l, hl with
  | [a, b, c, d, e, f, g, h], _ => exact ⟨a, b, c, d, e, f, g, h, rfl⟩
end

/-! ### one half: words of 64 bits -/
def rot64 (x : UInt64) (k : Nat) : UInt64 := shr64 x k ||| shl64 x (64 - k)
theorem rl32 (x : UInt64) : m_bits_RotateLeft64 x (-32) = some (rot64 x 32) := by
  show some (shl64 x 32 ||| shr64 x 32) = _
  rw [UInt64.or_comm]; rfl
theorem rl24 (x : UInt64) : m_bits_RotateLeft64 x (-24) = some (rot64 x 24) := by
  show some (shl64 x 40 ||| shr64 x 24) = _
  rw [UInt64.or_comm]; rfl
theorem rl16 (x : UInt64) : m_bits_RotateLeft64 x (-16) = some (rot64 x 16) := by
  show some (shl64 x 48 ||| shr64 x 16) = _
  rw [UInt64.or_comm]; rfl
theorem rl63 (x : UInt64) : m_bits_RotateLeft64 x (-63) = some (rot64 x 63) := by
  show some (shl64 x 1 ||| shr64 x 63) = _
  rw [UInt64.or_comm]; rfl
theorem tn32 (x : UInt64) : m_r01_Turn64 x 32 = some (rot64 x 32) := by kernel_rfl
theorem tn24 (x : UInt64) : m_r01_Turn64 x 24 = some (rot64 x 24) := by kernel_rfl
theorem tn16 (x : UInt64) : m_r01_Turn64 x 16 = some (rot64 x 16) := by kernel_rfl
theorem tn63 (x : UInt64) : m_r01_Turn64 x 63 = some (rot64 x 63) := by kernel_rfl
def Gb (v : Vec UInt64 16) (a b c d : Nat) (x y : UInt64) : Vec UInt64 16 :=
  let v1 := vst v a (v.g a + (v.g b + x))
  let v2 := vst v1 d (rot64 (v1.g d ^^^ v1.g a) 32)
  let v3 := vst v2 c (v2.g c + v2.g d)
  let v4 := vst v3 b (rot64 (v3.g b ^^^ v3.g c) 24)
  let v5 := vst v4 a (v4.g a + (v4.g b + y))
  let v6 := vst v5 d (rot64 (v5.g d ^^^ v5.g a) 16)
  let v7 := vst v6 c (v6.g c + v6.g d)
  vst v7 b (rot64 (v7.g b ^^^ v7.g c) 63)
theorem step_ok (v : Vec UInt64 16) (a b c d : Nat) (x y : UInt64) (ha : a < 16) (hb : b < 16) (hc : c < 16) (hd : d < 16) (p : Vec Int 4) (hp : p.l = [(a : Int), (b : Int), (c : Int), (d : Int)]) : m_mixb_step v p x y = some (Gb v a b c d x y) := by
  unfold m_mixb_step
  have e0 : geti p.l 0 = some (a : Int) := by rw [hp]; rfl
  have e1 : geti p.l 1 = some (b : Int) := by rw [hp]; rfl
  have e2 : geti p.l 2 = some (c : Int) := by rw [hp]; rfl
  have e3 : geti p.l 3 = some (d : Int) := by rw [hp]; rfl
  simp only [e0, e1, e2, e3, geti_v _ a ha, geti_v _ b hb, geti_v _ c hc, geti_v _ d hd, Option.bind_some, rl32, rl24, rl16, rl63]
  rfl
theorem G_ok (v : Vec UInt64 16) (a b c d : Nat) (x y : UInt64) (ha : a < 16) (hb : b < 16) (hc : c < 16) (hd : d < 16) (hn : a ≠ b ∧ a ≠ c ∧ a ≠ d ∧ b ≠ c ∧ b ≠ d ∧ c ≠ d) : m_r03_G v a b c d x y = some (Gb v a b c d x y, 0) := by
  have pl : ∀ i : Nat, i < 16 → m_r03_place (i : Int) = some true := by
    intro i hi
    unfold m_r03_place
    simp only [Option.some.injEq, Bool.and_eq_true, decide_eq_true_eq]
    omega
  unfold m_r03_G
  simp only [pl a ha, pl b hb, pl c hc, pl d hd, Option.bind_some, Bool.not_true, Bool.false_or, Bool.or_eq_true, decide_eq_true_eq, Bool.false_eq_true, if_false, false_or]
  rw [if_neg (by omega)]
  simp only [geti_v _ a ha, geti_v _ b hb, geti_v _ c hc, geti_v _ d hd, Option.bind_some, tn32, tn24, tn16, tn63, UInt64.add_assoc]
  rfl
/-- the places of a round's eight steps -/
def pls : List (Nat × Nat × Nat × Nat) := [(0, 4, 8, 12), (1, 5, 9, 13), (2, 6, 10, 14), (3, 7, 11, 15), (0, 5, 10, 15), (1, 6, 11, 12), (2, 7, 8, 13), (3, 4, 9, 14)]
def pl (i : Nat) : Nat × Nat × Nat × Nat := pls.getD i (0, 0, 0, 0)
theorem pl_ok : ∀ i : Nat, i < 8 → (pl i).1 < 16 ∧ (pl i).2.1 < 16 ∧ (pl i).2.2.1 < 16 ∧ (pl i).2.2.2 < 16 ∧ (pl i).1 ≠ (pl i).2.1 ∧ (pl i).1 ≠ (pl i).2.2.1 ∧ (pl i).1 ≠ (pl i).2.2.2 ∧ (pl i).2.1 ≠ (pl i).2.2.1 ∧ (pl i).2.1 ≠ (pl i).2.2.2 ∧ (pl i).2.2.1 ≠ (pl i).2.2.2 := by decide
def sgs : List Nat := [0, 1, 2, 3, 4, 5, 6, 7, 8, 9, 10, 11, 12, 13, 14, 15, 14, 10, 4, 8, 9, 15, 13, 6, 1, 12, 0, 2, 11, 7, 5, 3, 11, 8, 12, 0, 5, 2, 15, 13, 10, 14, 3, 6, 7, 1, 9, 4, 7, 9, 3, 1, 13, 12, 11, 14, 2, 6, 5, 10, 4, 0, 15, 8, 9, 0, 5, 7, 2, 4, 10, 15, 14, 1, 11, 12, 6, 8, 3, 13, 2, 12, 6, 10, 0, 11, 8, 3, 4, 13, 7, 5, 15, 14, 1, 9, 12, 5, 1, 15, 14, 13, 4, 10, 0, 7, 6, 3, 9, 2, 8, 11, 13, 11, 7, 14, 12, 1, 3, 9, 5, 0, 15, 4, 8, 6, 2, 10, 6, 15, 14, 9, 11, 3, 0, 8, 12, 2, 13, 7, 1, 4, 10, 5, 10, 2, 8, 4, 7, 6, 1, 5, 15, 11, 9, 14, 3, 12, 13, 0]
def sg (r i : Nat) : Nat := sgs.getD (16 * (r % 10) + i) 0
theorem sg_lt : ∀ r : Nat, r < 12 → ∀ i : Nat, i < 16 → sg r i < 16 := by decide +kernel
theorem rsg : ∀ r : Nat, r < 12 → ∀ i : Nat, i < 16 → m_r03_Sigma (r : Int) (i : Int) = some (sg r i : Int) := by decide +kernel
theorem wsg (r : Nat) (hr : r < 12) : ∃ row, m_mixb_Sigma (r : Int) = some row ∧ ∀ i : Nat, i < 16 → geti row.l (i : Int) = some (sg r i : Int) := by
  match r, hr with
  | 0, _ => exact ⟨_, rfl, by decide +kernel⟩
  | 1, _ => exact ⟨_, rfl, by decide +kernel⟩
  | 2, _ => exact ⟨_, rfl, by decide +kernel⟩
  | 3, _ => exact ⟨_, rfl, by decide +kernel⟩
  | 4, _ => exact ⟨_, rfl, by decide +kernel⟩
  | 5, _ => exact ⟨_, rfl, by decide +kernel⟩
  | 6, _ => exact ⟨_, rfl, by decide +kernel⟩
  | 7, _ => exact ⟨_, rfl, by decide +kernel⟩
  | 8, _ => exact ⟨_, rfl, by decide +kernel⟩
  | 9, _ => exact ⟨_, rfl, by decide +kernel⟩
  | 10, _ => exact ⟨_, rfl, by decide +kernel⟩
  | 11, _ => exact ⟨_, rfl, by decide +kernel⟩
def Sb (m : Vec UInt64 16) (r : Nat) (v : Vec UInt64 16) (i : Nat) : Vec UInt64 16 := Gb v (pl i).1 (pl i).2.1 (pl i).2.2.1 (pl i).2.2.2 (m.g (sg r (2 * i))) (m.g (sg r (2 * i + 1)))
def Rb (v m : Vec UInt64 16) (r : Nat) : Vec UInt64 16 := (List.range 8).foldl (Sb m r) v
theorem two_i (i : Nat) (h : i < 100) : w64 (2 * (i : Int)) = ((2 * i : Nat) : Int) := by rw [w64_id (by omega)]; omega
theorem turn_ok (v m : Vec UInt64 16) (r : Nat) (hr : r < 12) : m_mixb_turn v m (r : Int) = some (Rb v m r, m) := by
  obtain ⟨row, h1, h2⟩ := wsg r hr
  unfold m_mixb_turn
  rw [h1]
  simp only [Option.bind_some]
  unfold m_mixb_places
  simp only [Option.bind_some]
  refine loopN _ 8 (Sb m r) v _ (fun v i hi => ?_) ?_
  · unfold m_mixb_turn_l0
    obtain ⟨p1, p2, p3, p4, _⟩ := pl_ok i hi
    simp only []
    rw [if_pos (by omega), two_i i (by omega), w64_succ _ (by omega), w64_succ _ (by omega), h2 _ (by omega), h2 _ (by omega)]
    simp only [Option.bind_some]
    rw [geti_v _ _ (sg_lt r hr _ (by omega)), geti_v _ _ (sg_lt r hr _ (by omega))]
    have key : ∃ p : Vec Int 4, geti (⟨[(⟨[(0 : Int), (4 : Int), (8 : Int), (12 : Int)], rfl⟩ : Vec Int 4), (⟨[(1 : Int), (5 : Int), (9 : Int), (13 : Int)], rfl⟩ : Vec Int 4), (⟨[(2 : Int), (6 : Int), (10 : Int), (14 : Int)], rfl⟩ : Vec Int 4), (⟨[(3 : Int), (7 : Int), (11 : Int), (15 : Int)], rfl⟩ : Vec Int 4), (⟨[(0 : Int), (5 : Int), (10 : Int), (15 : Int)], rfl⟩ : Vec Int 4), (⟨[(1 : Int), (6 : Int), (11 : Int), (12 : Int)], rfl⟩ : Vec Int 4), (⟨[(2 : Int), (7 : Int), (8 : Int), (13 : Int)], rfl⟩ : Vec Int 4), (⟨[(3 : Int), (4 : Int), (9 : Int), (14 : Int)], rfl⟩ : Vec Int 4)], rfl⟩ : Vec (Vec Int 4) 8).l (i : Int) = some p ∧ p.l = [((pl i).1 : Int), ((pl i).2.1 : Int), ((pl i).2.2.1 : Int), ((pl i).2.2.2 : Int)] := by
      match i, hi with
      | 0, _ => exact ⟨_, rfl, rfl⟩
      | 1, _ => exact ⟨_, rfl, rfl⟩
      | 2, _ => exact ⟨_, rfl, rfl⟩
      | 3, _ => exact ⟨_, rfl, rfl⟩
      | 4, _ => exact ⟨_, rfl, rfl⟩
      | 5, _ => exact ⟨_, rfl, rfl⟩
      | 6, _ => exact ⟨_, rfl, rfl⟩
      | 7, _ => exact ⟨_, rfl, rfl⟩
    obtain ⟨p, k1, k2⟩ := key
    rw [k1]
    simp only [Option.bind_some]
    rw [step_ok v _ _ _ _ _ _ p1 p2 p3 p4 p k2]
    rfl
  · rfl
theorem Places_ok (i : Nat) (hi : i < 8) : ∃ p : Vec Int 4, m_r03_Places (i : Int) = some p ∧ p.l = [((pl i).1 : Int), ((pl i).2.1 : Int), ((pl i).2.2.1 : Int), ((pl i).2.2.2 : Int)] := by
  match i, hi with
  | 0, _ => exact ⟨_, rfl, rfl⟩
  | 1, _ => exact ⟨_, rfl, rfl⟩
  | 2, _ => exact ⟨_, rfl, rfl⟩
  | 3, _ => exact ⟨_, rfl, rfl⟩
  | 4, _ => exact ⟨_, rfl, rfl⟩
  | 5, _ => exact ⟨_, rfl, rfl⟩
  | 6, _ => exact ⟨_, rfl, rfl⟩
  | 7, _ => exact ⟨_, rfl, rfl⟩
theorem Round_ok (v m : Vec UInt64 16) (r : Nat) (hr : r < 12) : m_r03_Round v m (r : Int) = some (Rb v m r, 0) := by
  unfold m_r03_Round
  rw [if_neg (by simp only [Bool.or_eq_true, decide_eq_true_eq]; omega)]
  refine loopN _ 8 (Sb m r) v _ (fun v i hi => ?_) ?_
  · unfold m_r03_Round_l0
    obtain ⟨p1, p2, p3, p4, hn⟩ := pl_ok i hi
    obtain ⟨p, k1, k2⟩ := Places_ok i hi
    have e0 : geti p.l 0 = some ((pl i).1 : Int) := by rw [k2]; rfl
    have e1 : geti p.l 1 = some ((pl i).2.1 : Int) := by rw [k2]; rfl
    have e2 : geti p.l 2 = some ((pl i).2.2.1 : Int) := by rw [k2]; rfl
    have e3 : geti p.l 3 = some ((pl i).2.2.2 : Int) := by rw [k2]; rfl
    simp only []
    rw [if_pos (by omega), k1, two_i i (by omega), w64_succ _ (by omega), w64_succ _ (by omega)]
    simp only [Option.bind_some, e0, e1, e2, e3]
    rw [rsg r hr _ (by omega), rsg r hr _ (by omega)]
    simp only [Option.bind_some]
    rw [geti_v _ _ (sg_lt r hr _ (by omega)), geti_v _ _ (sg_lt r hr _ (by omega))]
    simp only [Option.bind_some]
    rw [G_ok v _ _ _ _ _ _ p1 p2 p3 p4 hn]
    rfl
  · rfl
end Go.Sx

