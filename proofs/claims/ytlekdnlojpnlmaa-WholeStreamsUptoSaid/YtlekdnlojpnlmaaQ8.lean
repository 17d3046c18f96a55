import Derived.Test.YtlekdnlojpnlmaaQ7
namespace Go.Sx
open Go.RowKit
set_option linter.unusedVariables false
set_option linter.unusedSimpArgs false
/-! ### a node's run over its bytes -/
section
variable {σ : Type}
/-- all but the last piece of B bytes are taken in -/
def absorb (f : σ → List UInt8 → UInt64 × UInt64 → σ) (B : Nat) (h : σ) (c : UInt64 × UInt64) (M : List UInt8) : σ × (UInt64 × UInt64) × List UInt8 :=
  if hlt : 0 < B ∧ B < M.length then absorb f B (f h (M.take B) (cntb c (UInt64.ofNat B))) (cntb c (UInt64.ofNat B)) (M.drop B) else (h, c, M)
termination_by M.length
decreasing_by simp only [List.length_drop]; omega
theorem absorb_stop (f : σ → List UInt8 → UInt64 × UInt64 → σ) (B : Nat) (h : σ) (c : UInt64 × UInt64) (M : List UInt8) (hM : M.length ≤ B) : absorb f B h c M = (h, c, M) := by
  rw [absorb, dif_neg (by omega)]
theorem absorb_go (f : σ → List UInt8 → UInt64 × UInt64 → σ) (B : Nat) (h : σ) (c : UInt64 × UInt64) (M : List UInt8) (hB : 0 < B) (hM : B < M.length) : absorb f B h c M = absorb f B (f h (M.take B) (cntb c (UInt64.ofNat B))) (cntb c (UInt64.ofNat B)) (M.drop B) := by
  rw [absorb, dif_pos ⟨hB, hM⟩]
theorem absorb_end (f : σ → List UInt8 → UInt64 × UInt64 → σ) (B : Nat) (hB : 0 < B) : ∀ (n : Nat) (h : σ) (c : UInt64 × UInt64) (M : List UInt8), M.length ≤ n → (absorb f B h c M).2.2.length ≤ B ∧ (absorb f B h c M).2.2 = M.drop (M.length - (absorb f B h c M).2.2.length) ∧ (absorb f B h c M).2.2.length ≤ M.length := by
  intro n
  induction n with
  | zero => intro h c M hM; rw [absorb_stop f B h c M (by omega)]; simp; omega
  | succ n ih =>
    intro h c M hM
    by_cases hl : B < M.length
    · rw [absorb_go f B h c M hB hl]
      obtain ⟨h1, h2, h3⟩ := ih (f h (M.take B) (cntb c (UInt64.ofNat B))) (cntb c (UInt64.ofNat B)) (M.drop B) (by simp only [List.length_drop]; omega)
      refine ⟨h1, ?_, by simp only [List.length_drop] at h3; omega⟩
      rw [List.drop_drop] at h2
      simp only [List.length_drop] at h2 h3
      rw [show B + (M.length - B - (absorb f B (f h (M.take B) (cntb c (UInt64.ofNat B))) (cntb c (UInt64.ofNat B)) (M.drop B)).2.2.length) = M.length - (absorb f B (f h (M.take B) (cntb c (UInt64.ofNat B))) (cntb c (UInt64.ofNat B)) (M.drop B)).2.2.length from by omega] at h2
      exact h2
    · rw [absorb_stop f B h c M (by omega)]
      simp; omega
end
/-- bytes with noughts behind them -/
def pad (n : Nat) (xs : List UInt8) : List UInt8 := xs ++ List.replicate (n - xs.length) 0
theorem pad_len (n : Nat) (xs : List UInt8) (h : xs.length ≤ n) : (pad n xs).length = n := by simp [pad]; omega
theorem u64_nat (n : Nat) : UInt64.ofInt (n : Int) = UInt64.ofNat n := by
  rw [← UInt64.toNat_inj]
  unfold UInt64.ofInt
  simp
  omega
theorem wadd (c : UInt64 × UInt64) (n : UInt64) : ∃ o, m_word_Add c.1 c.2 n = some ((cntb c n).1, (cntb c n).2, o) := ⟨_, add_ok _ _ _⟩
theorem wpad (b : List UInt8) (n : Nat) (hb : b.length ≤ n) (hn : n ≤ 1000) : m_node_padded b (n : Int) = some (pad n b) := by
  unfold m_node_padded
  rw [need_ok (by omega)]
  simp only [Option.bind_some]
  rw [app_ok (by simp; omega)]
  simp only [Option.bind_some]
  have e : w64 ((n : Int) - (b.length : Int)) = ((n - b.length : Nat) : Int) := by rw [w64_id (by omega)]; omega
  rw [e]
  unfold appz
  rw [if_pos (by simp; omega)]
  simp only [Option.bind_some, Int.toNat_natCast]
  rfl

/-! ### the document's node -/
end Go.Sx

