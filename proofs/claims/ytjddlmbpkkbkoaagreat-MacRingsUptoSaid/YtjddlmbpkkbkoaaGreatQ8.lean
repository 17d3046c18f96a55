import Derived.Test.YtjddlmbpkkbkoaaGreatQ7
namespace Go.Sx
open Go.RowKit
set_option linter.unusedVariables false
set_option linter.unusedSimpArgs false
section
variable {σ : Type}
def absorb (f : σ → List UInt8 → UInt64 × UInt64 → σ) (B : Nat) (h : σ) (c : UInt64 × UInt64) (M : List UInt8) : σ × (UInt64 × UInt64) × List UInt8 :=
  if hlt : 0 < B ∧ B < M.length then absorb f B (f h (M.take B) (cntb c (UInt64.ofNat B))) (cntb c (UInt64.ofNat B)) (M.drop B) else (h, c, M)
termination_by M.length
decreasing_by simp only [List.length_drop]; omega
theorem absorb_stop (f : σ → List UInt8 → UInt64 × UInt64 → σ) (B : Nat) (h : σ) (c : UInt64 × UInt64) (M : List UInt8) (hM : M.length ≤ B) : absorb f B h c M = (h, c, M) := by
  rw [absorb, dif_neg (by omega)]
theorem absorb_go (f : σ → List UInt8 → UInt64 × UInt64 → σ) (B : Nat) (h : σ) (c : UInt64 × UInt64) (M : List UInt8) (hB : 0 < B) (hM : B < M.length) : absorb f B h c M = absorb f B (f h (M.take B) (cntb c (UInt64.ofNat B))) (cntb c (UInt64.ofNat B)) (M.drop B) := by
  rw [absorb, dif_pos ⟨hB, hM⟩]
theorem absorb_end (f : σ → List UInt8 → UInt64 × UInt64 → σ) (B : Nat) (hB : 0 < B) : ∀ (n : Nat) (h : σ) (c : UInt64 × UInt64) (M : List UInt8), M.length ≤ n → (absorb f B h c M).2.2.length ≤ B ∧ (absorb f B h c M).2.2 = M.drop (M.length - (absorb f B h c M).2.2.length) ∧ (absorb f B h c M).2.2.length ≤ M.length := by
  intro n
  induction n with
  | zero => intro h c M hM; rw [absorb_stop f B h c M (by omega)]; simp; omega
  | succ n ih =>
    intro h c M hM
    by_cases hl : B < M.length
    · rw [absorb_go f B h c M hB hl]
      obtain ⟨h1, h2, h3⟩ := ih (f h (M.take B) (cntb c (UInt64.ofNat B))) (cntb c (UInt64.ofNat B)) (M.drop B) (by simp only [List.length_drop]; omega)
      refine ⟨h1, ?_, by simp only [List.length_drop] at h3; omega⟩
      rw [List.drop_drop] at h2
      simp only [List.length_drop] at h2 h3
      rw [show B + (M.length - B - (absorb f B (f h (M.take B) (cntb c (UInt64.ofNat B))) (cntb c (UInt64.ofNat B)) (M.drop B)).2.2.length) = M.length - (absorb f B (f h (M.take B) (cntb c (UInt64.ofNat B))) (cntb c (UInt64.ofNat B)) (M.drop B)).2.2.length from by omega] at h2
      exact h2
    · rw [absorb_stop f B h c M (by omega)]
      simp; omega
end
def pad (n : Nat) (xs : List UInt8) : List UInt8 := xs ++ List.replicate (n - xs.length) 0
theorem pad_len (n : Nat) (xs : List UInt8) (h : xs.length ≤ n) : (pad n xs).length = n := by simp [pad]; omega
theorem u64_nat (n : Nat) : UInt64.ofInt (n : Int) = UInt64.ofNat n := by
  rw [← UInt64.toNat_inj]
  unfold UInt64.ofInt
  simp
  omega
theorem wadd (c : UInt64 × UInt64) (n : UInt64) : ∃ o, m_word_Add c.1 c.2 n = some ((cntb c n).1, (cntb c n).2, o) := ⟨_, add_ok _ _ _⟩
theorem radd' (c : UInt64 × UInt64) (n : UInt64) : ∃ o, m_r01_Add c.1 c.2 n = some ((cntb c n).1, (cntb c n).2, o) := ⟨_, radd _ _ _⟩
theorem wpad (b : List UInt8) (n : Nat) (hb : b.length ≤ n) (hn : n ≤ 1000) : m_node_padded b (n : Int) = some (pad n b) := by
  unfold m_node_padded
  rw [need_ok (by omega)]
  simp only [Option.bind_some]
  rw [app_ok (by simp; omega)]
  simp only [Option.bind_some]
  have e : w64 ((n : Int) - (b.length : Int)) = ((n - b.length : Nat) : Int) := by rw [w64_id (by omega)]; omega
  rw [e]
  unfold appz
  rw [if_pos (by simp; omega)]
  simp only [Option.bind_some, Int.toNat_natCast]
  rfl

theorem cut_ok (b : List UInt8) (a n : Nat) (hb : b.length ≤ 33554432) (ha : a ≤ b.length) (hn : n ≤ 1000) : m_r05_cut b (a : Int) (n : Int) = some (pad n ((b.drop a).take n)) := by
  unfold m_r05_cut
  have hz : ∀ i, i ≤ n → (pad n ((b.drop a).take n)).take i = pad i ((b.drop a).take i) := by
    intro i hi
    unfold pad
    rw [List.take_append, List.take_take, Nat.min_eq_left hi, List.take_replicate]
    congr 2
    simp only [List.length_take, List.length_drop]; omega
  have hlen := pad_len n ((b.drop a).take n) (by simp; omega)
  suffices hsf : whileO (m_r05_cut_l0 b (a : Int) (n : Int)) (([] : List UInt8), (0 : Int)) = some ((pad n ((b.drop a).take n)).take n) by rw [hsf, List.take_of_length_le (by omega)]
  refine whileO_run (fun i => ((pad n ((b.drop a).take n)).take i, (i : Int))) n (fun i hi => ?_) ?_
  · unfold m_r05_cut_l0 m_r05_cut_j1 m_r05_cut_j0
    have e1 : w64 ((a : Int) + (i : Int)) = ((a + i : Nat) : Int) := by rw [w64_id (by omega)]; omega
    have hs : (pad n ((b.drop a).take n)).take (i + 1) = (pad n ((b.drop a).take n)).take i ++ [(pad n ((b.drop a).take n))[i]] := List.take_succ_eq_append_getElem (by omega)
    simp only []
    rw [if_pos (by omega), e1, hs, w64_succ i (by omega)]
    by_cases hin : a + i < b.length
    · rw [if_pos (by omega), geti_nat hin]
      simp only [Option.bind_some]
      rw [app_ok (by simp; omega)]
      simp only [Option.bind_some]
      have hx : (pad n ((b.drop a).take n))[i] = b[a + i] := by
        unfold pad
        rw [List.getElem_append_left (by simp; omega)]
        simp
      rw [hx]
    · rw [if_neg (by omega), app_ok (by simp; omega)]
      simp only [Option.bind_some]
      have hx : (pad n ((b.drop a).take n))[i] = 0 := by
        unfold pad
        rw [List.getElem_append_right (by simp; omega)]
        simp
      rw [hx]
  · unfold m_r05_cut_l0
    simp only []
    rw [if_neg (by omega)]
    rfl
theorem keyed_ok (k : Int) (B : Nat) (hB : m_r05_Block k = some (B : Int)) (hBl : B ≤ 1000) (key : List UInt8) (hk : key.length ≤ B) : m_r05_keyed k key = some (if key = [] then [] else pad B key) := by
  unfold m_r05_keyed
  by_cases h0 : key = []
  · subst h0; rfl
  rw [if_neg (by have := List.length_pos_iff.2 h0; omega), if_neg h0]
  have hlen := pad_len B key hk
  suffices hsf : whileO (m_r05_keyed_l0 k key) (([] : List UInt8), (0 : Int)) = some ((pad B key).take B) by rw [hsf, List.take_of_length_le (by omega)]
  refine whileO_run (fun i => ((pad B key).take i, (i : Int))) B (fun i hi => ?_) ?_
  · unfold m_r05_keyed_l0 m_r05_keyed_j1 m_r05_keyed_j0
    have hs : (pad B key).take (i + 1) = (pad B key).take i ++ [(pad B key)[i]] := List.take_succ_eq_append_getElem (by omega)
    simp only []
    rw [hB]
    simp only [Option.bind_some]
    rw [if_pos (by omega), hs, w64_succ i (by omega)]
    by_cases hin : i < key.length
    · rw [if_pos (by omega), geti_nat hin]
      simp only [Option.bind_some]
      rw [app_ok (by simp; omega)]
      simp only [Option.bind_some]
      have hx : (pad B key)[i] = key[i] := by
        unfold pad
        rw [List.getElem_append_left (by omega)]
      rw [hx]
    · rw [if_neg (by omega), app_ok (by simp; omega)]
      simp only [Option.bind_some]
      have hx : (pad B key)[i] = 0 := by
        unfold pad
        rw [List.getElem_append_right (by omega)]
        simp
      rw [hx]
  · unfold m_r05_keyed_l0
    simp only []
    rw [hB]
    simp only [Option.bind_some]
    rw [if_neg (by omega)]
    rfl
end Go.Sx

