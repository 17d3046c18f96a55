import Derived.Test.YtenfdhhjafddlaaDoorSxI
import Derived.Test.YtenfdhhjafddlaaDoorProg
namespace Go.Sx
open Go.RowKit Go.Proofs
set_option linter.unusedVariables false
set_option maxRecDepth 20000
theorem yd_go4 : IsGo Tryd.prog 4 := ⟨⟨Tryd.f4, _, Tryd.func4, rfl, by kernel_rfl⟩⟩
theorem yd_go5 : IsGo Tryd.prog 5 := ⟨⟨Tryd.f5, _, Tryd.func5, rfl, by kernel_rfl⟩⟩
theorem yd_go6 : IsGo Tryd.prog 6 := ⟨⟨Tryd.f6, _, Tryd.func6, rfl, by kernel_rfl⟩⟩
theorem yd_go7 : IsGo Tryd.prog 7 := ⟨⟨Tryd.f7, _, Tryd.func7, rfl, by kernel_rfl⟩⟩
theorem yd_go8 : IsGo Tryd.prog 8 := ⟨⟨Tryd.f8, _, Tryd.func8, rfl, by kernel_rfl⟩⟩
theorem yd_go12 : IsGo Tryd.prog 12 := ⟨⟨Tryd.f12, _, Tryd.func12, rfl, by kernel_rfl⟩⟩
theorem yd_go13 : IsGo Tryd.prog 13 := ⟨⟨Tryd.f13, _, Tryd.func13, rfl, by kernel_rfl⟩⟩
theorem yd_mixed : Tryd.prog.follows .mixedOrders = true := by kernel_rfl

-- internal/strconv.small
noncomputable def m_internal_strconv_small (i : Int) : Option (List UInt8) :=
  if i < 10 then (Option.bind (slc [48, 49, 50, 51, 52, 53, 54, 55, 56, 57, 97, 98, 99, 100, 101, 102, 103, 104, 105, 106, 107, 108, 109, 110, 111, 112, 113, 114, 115, 116, 117, 118, 119, 120, 121, 122] i (w64 (i + 1))) fun s_ => some (([48, 49, 50, 51, 52, 53, 54, 55, 56, 57, 97, 98, 99, 100, 101, 102, 103, 104, 105, 106, 107, 108, 109, 110, 111, 112, 113, 114, 115, 116, 117, 118, 119, 120, 121, 122].take (Int.toNat (w64 (i + 1)))).drop (Int.toNat i))) else (Option.bind (slc [48, 48, 48, 49, 48, 50, 48, 51, 48, 52, 48, 53, 48, 54, 48, 55, 48, 56, 48, 57, 49, 48, 49, 49, 49, 50, 49, 51, 49, 52, 49, 53, 49, 54, 49, 55, 49, 56, 49, 57, 50, 48, 50, 49, 50, 50, 50, 51, 50, 52, 50, 53, 50, 54, 50, 55, 50, 56, 50, 57, 51, 48, 51, 49, 51, 50, 51, 51, 51, 52, 51, 53, 51, 54, 51, 55, 51, 56, 51, 57, 52, 48, 52, 49, 52, 50, 52, 51, 52, 52, 52, 53, 52, 54, 52, 55, 52, 56, 52, 57, 53, 48, 53, 49, 53, 50, 53, 51, 53, 52, 53, 53, 53, 54, 53, 55, 53, 56, 53, 57, 54, 48, 54, 49, 54, 50, 54, 51, 54, 52, 54, 53, 54, 54, 54, 55, 54, 56, 54, 57, 55, 48, 55, 49, 55, 50, 55, 51, 55, 52, 55, 53, 55, 54, 55, 55, 55, 56, 55, 57, 56, 48, 56, 49, 56, 50, 56, 51, 56, 52, 56, 53, 56, 54, 56, 55, 56, 56, 56, 57, 57, 48, 57, 49, 57, 50, 57, 51, 57, 52, 57, 53, 57, 54, 57, 55, 57, 56, 57, 57] (w64 (i * 2)) (w64 ((w64 (i * 2)) + 2))) fun s_1 => some (([48, 48, 48, 49, 48, 50, 48, 51, 48, 52, 48, 53, 48, 54, 48, 55, 48, 56, 48, 57, 49, 48, 49, 49, 49, 50, 49, 51, 49, 52, 49, 53, 49, 54, 49, 55, 49, 56, 49, 57, 50, 48, 50, 49, 50, 50, 50, 51, 50, 52, 50, 53, 50, 54, 50, 55, 50, 56, 50, 57, 51, 48, 51, 49, 51, 50, 51, 51, 51, 52, 51, 53, 51, 54, 51, 55, 51, 56, 51, 57, 52, 48, 52, 49, 52, 50, 52, 51, 52, 52, 52, 53, 52, 54, 52, 55, 52, 56, 52, 57, 53, 48, 53, 49, 53, 50, 53, 51, 53, 52, 53, 53, 53, 54, 53, 55, 53, 56, 53, 57, 54, 48, 54, 49, 54, 50, 54, 51, 54, 52, 54, 53, 54, 54, 54, 55, 54, 56, 54, 57, 55, 48, 55, 49, 55, 50, 55, 51, 55, 52, 55, 53, 55, 54, 55, 55, 55, 56, 55, 57, 56, 48, 56, 49, 56, 50, 56, 51, 56, 52, 56, 53, 56, 54, 56, 55, 56, 56, 56, 57, 57, 48, 57, 49, 57, 50, 57, 51, 57, 52, 57, 53, 57, 54, 57, 55, 57, 56, 57, 57].take (Int.toNat (w64 ((w64 (i * 2)) + 2)))).drop (Int.toNat (w64 (i * 2)))))
theorem c_internal_strconv_small {w : World} (i : Int) (r : List UInt8) (hm : m_internal_strconv_small i = some r) :
    Calls Tryd.prog 8 (vals [I i]) w (fun e w' => e = .returned (SV.val (.s r)) ∧ Cx w w' []) := by
  unfold m_internal_strconv_small at hm
  refine calls [I i] Tryd.func8 rfl (of_decide_eq_true (by kernel_rfl)) ?_
  have k := Cx.refl w
  refine W_seq ?_
  refine W_quiet [] [] [(0, I i)] [] (by kernel_rfl) trivial ?_
  refine At_go ?_
  refine W_seq ?_
  refine W_seq ?_
  refine W_quiet [] [] [(0, I i), (4, .b (decide (i < 10)))] [] (by kernel_rfl) trivial ?_
  refine At_go ?_
  refine W_condp (i < 10) (by kernel_rfl) (fun hc => ?_) (fun hc => ?_)
  · rw [if_pos hc] at hm
    refine W_seq ?_
    obtain ⟨s_, h_s_, hm⟩ := Option.bind_eq_some_iff.1 hm
    have hs := slc_some h_s_
    refine W_quiet [] [] [(2, .s (([48, 49, 50, 51, 52, 53, 54, 55, 56, 57, 97, 98, 99, 100, 101, 102, 103, 104, 105, 106, 107, 108, 109, 110, 111, 112, 113, 114, 115, 116, 117, 118, 119, 120, 121, 122].take (Int.toNat (w64 (i + 1)))).drop (Int.toNat i)))] [fun w => 0 ≤ (w64 (i + 1)) ∧ (w64 (i + 1)) ≤ (([48, 49, 50, 51, 52, 53, 54, 55, 56, 57, 97, 98, 99, 100, 101, 102, 103, 104, 105, 106, 107, 108, 109, 110, 111, 112, 113, 114, 115, 116, 117, 118, 119, 120, 121, 122].length : Nat) : Int), fun w => 0 ≤ i ∧ i ≤ ((Int.toNat (w64 (i + 1)) : Nat) : Int)] (by kernel_rfl) (⟨by omega, by omega, trivial⟩) ?_
    refine At_go ?_
    refine W_ret (At_tr ?_)
    obtain rfl := Option.some.inj hm
    refine At_ret [] [.s (([48, 49, 50, 51, 52, 53, 54, 55, 56, 57, 97, 98, 99, 100, 101, 102, 103, 104, 105, 106, 107, 108, 109, 110, 111, 112, 113, 114, 115, 116, 117, 118, 119, 120, 121, 122].take (Int.toNat (w64 (i + 1)))).drop (Int.toNat i))] [] (by kernel_rfl) trivial ?_
    exact ⟨rfl, k⟩
  rw [if_neg hc] at hm
  refine W_skip ?_
  refine At_go ?_
  refine W_seq ?_
  obtain ⟨s_1, h_s_1, hm⟩ := Option.bind_eq_some_iff.1 hm
  have hs1 := slc_some h_s_1
  refine W_quiet [] [] [(2, .s (([48, 48, 48, 49, 48, 50, 48, 51, 48, 52, 48, 53, 48, 54, 48, 55, 48, 56, 48, 57, 49, 48, 49, 49, 49, 50, 49, 51, 49, 52, 49, 53, 49, 54, 49, 55, 49, 56, 49, 57, 50, 48, 50, 49, 50, 50, 50, 51, 50, 52, 50, 53, 50, 54, 50, 55, 50, 56, 50, 57, 51, 48, 51, 49, 51, 50, 51, 51, 51, 52, 51, 53, 51, 54, 51, 55, 51, 56, 51, 57, 52, 48, 52, 49, 52, 50, 52, 51, 52, 52, 52, 53, 52, 54, 52, 55, 52, 56, 52, 57, 53, 48, 53, 49, 53, 50, 53, 51, 53, 52, 53, 53, 53, 54, 53, 55, 53, 56, 53, 57, 54, 48, 54, 49, 54, 50, 54, 51, 54, 52, 54, 53, 54, 54, 54, 55, 54, 56, 54, 57, 55, 48, 55, 49, 55, 50, 55, 51, 55, 52, 55, 53, 55, 54, 55, 55, 55, 56, 55, 57, 56, 48, 56, 49, 56, 50, 56, 51, 56, 52, 56, 53, 56, 54, 56, 55, 56, 56, 56, 57, 57, 48, 57, 49, 57, 50, 57, 51, 57, 52, 57, 53, 57, 54, 57, 55, 57, 56, 57, 57].take (Int.toNat (w64 ((w64 (i * 2)) + 2)))).drop (Int.toNat (w64 (i * 2)))))] [fun w => 0 ≤ (w64 ((w64 (i * 2)) + 2)) ∧ (w64 ((w64 (i * 2)) + 2)) ≤ (([48, 48, 48, 49, 48, 50, 48, 51, 48, 52, 48, 53, 48, 54, 48, 55, 48, 56, 48, 57, 49, 48, 49, 49, 49, 50, 49, 51, 49, 52, 49, 53, 49, 54, 49, 55, 49, 56, 49, 57, 50, 48, 50, 49, 50, 50, 50, 51, 50, 52, 50, 53, 50, 54, 50, 55, 50, 56, 50, 57, 51, 48, 51, 49, 51, 50, 51, 51, 51, 52, 51, 53, 51, 54, 51, 55, 51, 56, 51, 57, 52, 48, 52, 49, 52, 50, 52, 51, 52, 52, 52, 53, 52, 54, 52, 55, 52, 56, 52, 57, 53, 48, 53, 49, 53, 50, 53, 51, 53, 52, 53, 53, 53, 54, 53, 55, 53, 56, 53, 57, 54, 48, 54, 49, 54, 50, 54, 51, 54, 52, 54, 53, 54, 54, 54, 55, 54, 56, 54, 57, 55, 48, 55, 49, 55, 50, 55, 51, 55, 52, 55, 53, 55, 54, 55, 55, 55, 56, 55, 57, 56, 48, 56, 49, 56, 50, 56, 51, 56, 52, 56, 53, 56, 54, 56, 55, 56, 56, 56, 57, 57, 48, 57, 49, 57, 50, 57, 51, 57, 52, 57, 53, 57, 54, 57, 55, 57, 56, 57, 57].length : Nat) : Int), fun w => 0 ≤ (w64 (i * 2)) ∧ (w64 (i * 2)) ≤ ((Int.toNat (w64 ((w64 (i * 2)) + 2)) : Nat) : Int)] (by kernel_rfl) (⟨by omega, by omega, trivial⟩) ?_
  refine At_go ?_
  refine W_ret ?_
  obtain rfl := Option.some.inj hm
  refine At_ret [] [.s (([48, 48, 48, 49, 48, 50, 48, 51, 48, 52, 48, 53, 48, 54, 48, 55, 48, 56, 48, 57, 49, 48, 49, 49, 49, 50, 49, 51, 49, 52, 49, 53, 49, 54, 49, 55, 49, 56, 49, 57, 50, 48, 50, 49, 50, 50, 50, 51, 50, 52, 50, 53, 50, 54, 50, 55, 50, 56, 50, 57, 51, 48, 51, 49, 51, 50, 51, 51, 51, 52, 51, 53, 51, 54, 51, 55, 51, 56, 51, 57, 52, 48, 52, 49, 52, 50, 52, 51, 52, 52, 52, 53, 52, 54, 52, 55, 52, 56, 52, 57, 53, 48, 53, 49, 53, 50, 53, 51, 53, 52, 53, 53, 53, 54, 53, 55, 53, 56, 53, 57, 54, 48, 54, 49, 54, 50, 54, 51, 54, 52, 54, 53, 54, 54, 54, 55, 54, 56, 54, 57, 55, 48, 55, 49, 55, 50, 55, 51, 55, 52, 55, 53, 55, 54, 55, 55, 55, 56, 55, 57, 56, 48, 56, 49, 56, 50, 56, 51, 56, 52, 56, 53, 56, 54, 56, 55, 56, 56, 56, 57, 57, 48, 57, 49, 57, 50, 57, 51, 57, 52, 57, 53, 57, 54, 57, 55, 57, 56, 57, 57].take (Int.toNat (w64 ((w64 (i * 2)) + 2)))).drop (Int.toNat (w64 (i * 2))))] [] (by kernel_rfl) trivial ?_
  exact ⟨rfl, k⟩

-- math/bits.Len64
noncomputable def m_bits_Len64_j2 (x3 : UInt64) (n2 : Int) : Option Int :=
  Option.bind (geti ([0, 1, 2, 2, 3, 3, 3, 3, 4, 4, 4, 4, 4, 4, 4, 4, 5, 5, 5, 5, 5, 5, 5, 5, 5, 5, 5, 5, 5, 5, 5, 5, 6, 6, 6, 6, 6, 6, 6, 6, 6, 6, 6, 6, 6, 6, 6, 6, 6, 6, 6, 6, 6, 6, 6, 6, 6, 6, 6, 6, 6, 6, 6, 6, 7, 7, 7, 7, 7, 7, 7, 7, 7, 7, 7, 7, 7, 7, 7, 7, 7, 7, 7, 7, 7, 7, 7, 7, 7, 7, 7, 7, 7, 7, 7, 7, 7, 7, 7, 7, 7, 7, 7, 7, 7, 7, 7, 7, 7, 7, 7, 7, 7, 7, 7, 7, 7, 7, 7, 7, 7, 7, 7, 7, 7, 7, 7, 7, 8, 8, 8, 8, 8, 8, 8, 8, 8, 8, 8, 8, 8, 8, 8, 8, 8, 8, 8, 8, 8, 8, 8, 8, 8, 8, 8, 8, 8, 8, 8, 8, 8, 8, 8, 8, 8, 8, 8, 8, 8, 8, 8, 8, 8, 8, 8, 8, 8, 8, 8, 8, 8, 8, 8, 8, 8, 8, 8, 8, 8, 8, 8, 8, 8, 8, 8, 8, 8, 8, 8, 8, 8, 8, 8, 8, 8, 8, 8, 8, 8, 8, 8, 8, 8, 8, 8, 8, 8, 8, 8, 8, 8, 8, 8, 8, 8, 8, 8, 8, 8, 8, 8, 8, 8, 8, 8, 8, 8, 8, 8, 8, 8, 8, 8, 8, 8, 8, 8, 8, 8, 8, 8, 8, 8, 8, 8, 8] : List UInt8) ((UInt8.ofNat x3.toNat).toNat : Int)) fun c => some (w64 (n2 + (c.toNat : Int)))
noncomputable def m_bits_Len64_j1 (x2 : UInt64) (n1 : Int) : Option Int :=
  if (256 : UInt64) ≤ x2 then (m_bits_Len64_j2 (shr64 x2 ((8 : UInt64).toNat)) (w64 (n1 + 8))) else (m_bits_Len64_j2 x2 n1)
noncomputable def m_bits_Len64_j0 (x1 : UInt64) (n : Int) : Option Int :=
  if (65536 : UInt64) ≤ x1 then (m_bits_Len64_j1 (shr64 x1 ((16 : UInt64).toNat)) (w64 (n + 16))) else (m_bits_Len64_j1 x1 n)
noncomputable def m_bits_Len64 (x : UInt64) : Option Int :=
  if (4294967296 : UInt64) ≤ x then (m_bits_Len64_j0 (shr64 x ((32 : UInt64).toNat)) 32) else (m_bits_Len64_j0 x 0)
theorem c_bits_Len64 {w : World} (x : UInt64) (r : Int) (hm : m_bits_Len64 x = some r) :
    Calls Tryd.prog 13 (vals [.u64 x]) w (fun e w' => e = .returned (SV.val (I r)) ∧ Cx w w' []) := by
  unfold m_bits_Len64 at hm
  refine calls [.u64 x] Tryd.func13 rfl (of_decide_eq_true (by kernel_rfl)) ?_
  have k := Cx.refl w
  refine W_seq ?_
  refine W_quiet [] [] [(0, .u64 x), (2, I 0)] [] (by kernel_rfl) trivial ?_
  refine At_go ?_
  refine W_cut (fun L wr => ∃ (x1 : UInt64) (n : Int), m_bits_Len64_j0 x1 n = some r ∧ L = [(0, .u64 x1), (2, I n)] ∧ Cx w wr []) ?_ ?_
  ·
    refine W_seq ?_
    refine W_quiet [] [] [(0, .u64 x), (2, I 0), (4, .b (decide ((4294967296 : UInt64) ≤ x)))] [] (by kernel_rfl) trivial ?_
    refine At_go ?_
    refine W_condp ((4294967296 : UInt64) ≤ x) (by kernel_rfl) (fun hc => ?_) (fun hc => ?_)
    · rw [if_pos hc] at hm
      refine W_seq ?_
      refine W_quiet [] [] [(0, .u64 (shr64 x ((32 : UInt64).toNat)))] [] (by kernel_rfl) trivial ?_
      refine At_go ?_
      refine W_quiet [] [] [(0, .u64 (shr64 x ((32 : UInt64).toNat))), (2, I 32)] [] (by kernel_rfl) trivial ?_
      refine At_forget [(0, .u64 (shr64 x ((32 : UInt64).toNat))), (2, I 32)] (by kernel_rfl) ?_
      exact At_cut ⟨shr64 x ((32 : UInt64).toNat), 32, hm, rfl, k⟩
    rw [if_neg hc] at hm
    refine W_skip ?_
    refine At_forget [(0, .u64 x), (2, I 0)] (by kernel_rfl) ?_
    exact At_cut ⟨x, 0, hm, rfl, k⟩
  rintro L_ w_ ⟨x1, n, hm, rfl, k_⟩
  simp only [m_bits_Len64_j0] at hm
  refine W_cut (fun L wr => ∃ (x2 : UInt64) (n1 : Int), m_bits_Len64_j1 x2 n1 = some r ∧ L = [(0, .u64 x2), (2, I n1)] ∧ Cx w wr []) ?_ ?_
  ·
    refine W_seq ?_
    refine W_quiet [] [] [(0, .u64 x1), (2, I n), (8, .b (decide ((65536 : UInt64) ≤ x1)))] [] (by kernel_rfl) trivial ?_
    refine At_go ?_
    refine W_condp ((65536 : UInt64) ≤ x1) (by kernel_rfl) (fun hc1 => ?_) (fun hc1 => ?_)
    · rw [if_pos hc1] at hm
      refine W_seq ?_
      refine W_quiet [] [] [(0, .u64 (shr64 x1 ((16 : UInt64).toNat))), (2, I n)] [] (by kernel_rfl) trivial ?_
      refine At_go ?_
      refine W_quiet [] [] [(0, .u64 (shr64 x1 ((16 : UInt64).toNat))), (2, I (w64 (n + 16)))] [] (by kernel_rfl) trivial ?_
      refine At_forget [(0, .u64 (shr64 x1 ((16 : UInt64).toNat))), (2, I (w64 (n + 16)))] (by kernel_rfl) ?_
      exact At_cut ⟨shr64 x1 ((16 : UInt64).toNat), w64 (n + 16), hm, rfl, k_⟩
    rw [if_neg hc1] at hm
    refine W_skip ?_
    refine At_forget [(0, .u64 x1), (2, I n)] (by kernel_rfl) ?_
    exact At_cut ⟨x1, n, hm, rfl, k_⟩
  rintro L_ w_1 ⟨x2, n1, hm, rfl, k_1⟩
  simp only [m_bits_Len64_j1] at hm
  refine W_cut (fun L wr => ∃ (x3 : UInt64) (n2 : Int), m_bits_Len64_j2 x3 n2 = some r ∧ L = [(0, .u64 x3), (2, I n2)] ∧ Cx w wr []) ?_ ?_
  ·
    refine W_seq ?_
    refine W_quiet [] [] [(0, .u64 x2), (2, I n1), (14, .b (decide ((256 : UInt64) ≤ x2)))] [] (by kernel_rfl) trivial ?_
    refine At_go ?_
    refine W_condp ((256 : UInt64) ≤ x2) (by kernel_rfl) (fun hc2 => ?_) (fun hc2 => ?_)
    · rw [if_pos hc2] at hm
      refine W_seq ?_
      refine W_quiet [] [] [(0, .u64 (shr64 x2 ((8 : UInt64).toNat))), (2, I n1)] [] (by kernel_rfl) trivial ?_
      refine At_go ?_
      refine W_quiet [] [] [(0, .u64 (shr64 x2 ((8 : UInt64).toNat))), (2, I (w64 (n1 + 8)))] [] (by kernel_rfl) trivial ?_
      refine At_forget [(0, .u64 (shr64 x2 ((8 : UInt64).toNat))), (2, I (w64 (n1 + 8)))] (by kernel_rfl) ?_
      exact At_cut ⟨shr64 x2 ((8 : UInt64).toNat), w64 (n1 + 8), hm, rfl, k_1⟩
    rw [if_neg hc2] at hm
    refine W_skip ?_
    refine At_forget [(0, .u64 x2), (2, I n1)] (by kernel_rfl) ?_
    exact At_cut ⟨x2, n1, hm, rfl, k_1⟩
  rintro L_ w_2 ⟨x3, n2, hm, rfl, k_2⟩
  simp only [m_bits_Len64_j2] at hm
  refine W_seq ?_
  obtain ⟨c, h_c, hm⟩ := Option.bind_eq_some_iff.1 hm
  refine W_quiet [] [.u8 c] [(2, I (w64 (n2 + (c.toNat : Int))))] [fun w => 0 ≤ ((UInt8.ofNat x3.toNat).toNat : Int) ∧ [0, 1, 2, 2, 3, 3, 3, 3, 4, 4, 4, 4, 4, 4, 4, 4, 5, 5, 5, 5, 5, 5, 5, 5, 5, 5, 5, 5, 5, 5, 5, 5, 6, 6, 6, 6, 6, 6, 6, 6, 6, 6, 6, 6, 6, 6, 6, 6, 6, 6, 6, 6, 6, 6, 6, 6, 6, 6, 6, 6, 6, 6, 6, 6, 7, 7, 7, 7, 7, 7, 7, 7, 7, 7, 7, 7, 7, 7, 7, 7, 7, 7, 7, 7, 7, 7, 7, 7, 7, 7, 7, 7, 7, 7, 7, 7, 7, 7, 7, 7, 7, 7, 7, 7, 7, 7, 7, 7, 7, 7, 7, 7, 7, 7, 7, 7, 7, 7, 7, 7, 7, 7, 7, 7, 7, 7, 7, 7, 8, 8, 8, 8, 8, 8, 8, 8, 8, 8, 8, 8, 8, 8, 8, 8, 8, 8, 8, 8, 8, 8, 8, 8, 8, 8, 8, 8, 8, 8, 8, 8, 8, 8, 8, 8, 8, 8, 8, 8, 8, 8, 8, 8, 8, 8, 8, 8, 8, 8, 8, 8, 8, 8, 8, 8, 8, 8, 8, 8, 8, 8, 8, 8, 8, 8, 8, 8, 8, 8, 8, 8, 8, 8, 8, 8, 8, 8, 8, 8, 8, 8, 8, 8, 8, 8, 8, 8, 8, 8, 8, 8, 8, 8, 8, 8, 8, 8, 8, 8, 8, 8, 8, 8, 8, 8, 8, 8, 8, 8, 8, 8, 8, 8, 8, 8, 8, 8, 8, 8, 8, 8, 8, 8, 8, 8, 8, 8][Int.toNat ((UInt8.ofNat x3.toNat).toNat : Int)]? = some c] (by kernel_rfl) (⟨geti_some h_c, trivial⟩) ?_
  refine At_go ?_
  refine W_ret ?_
  obtain rfl := Option.some.inj hm
  refine At_ret [] [I (w64 (n2 + (c.toNat : Int)))] [] (by kernel_rfl) trivial ?_
  exact ⟨rfl, k_2⟩

-- internal/strconv.log10Pow2
noncomputable def m_internal_strconv_log10Pow2 (x : Int) : Option Int :=
  some (shrI .i64 (w64 (x * 78913)) ((18 : UInt64).toNat))
theorem c_internal_strconv_log10Pow2 {w : World} (x : Int) (r : Int) (hm : m_internal_strconv_log10Pow2 x = some r) :
    Calls Tryd.prog 12 (vals [I x]) w (fun e w' => e = .returned (SV.val (I r)) ∧ Cx w w' []) := by
  unfold m_internal_strconv_log10Pow2 at hm
  refine calls [I x] Tryd.func12 rfl (of_decide_eq_true (by kernel_rfl)) ?_
  have k := Cx.refl w
  refine W_seq ?_
  refine W_quiet [] [] [(0, I x)] [] (by kernel_rfl) trivial ?_
  refine At_go ?_
  refine W_seq ?_
  refine W_quiet [] [] [(2, I (shrI .i64 (w64 (x * 78913)) ((18 : UInt64).toNat)))] [] (by kernel_rfl) trivial ?_
  refine At_go ?_
  refine W_ret ?_
  obtain rfl := Option.some.inj hm
  refine At_ret [] [I (shrI .i64 (w64 (x * 78913)) ((18 : UInt64).toNat))] [] (by kernel_rfl) trivial ?_
  exact ⟨rfl, k⟩

-- internal/strconv.FormatInt
noncomputable def m_internal_strconv_FormatInt (i : Int) (base : Int) : Option (List UInt8) :=
  if base = 10 then (if ((decide (0 ≤ i)) && (decide (i < 100))) = true then (Option.bind (m_internal_strconv_small i) fun r_ => some r_) else none) else none
theorem c_internal_strconv_FormatInt {w : World} (i : Int) (base : Int) (r : List UInt8) (hm : m_internal_strconv_FormatInt i base = some r) :
    Calls Tryd.prog 7 (vals [I i, I base]) w (fun e w' => e = .returned (SV.val (.s r)) ∧ Cx w w' []) := by
  unfold m_internal_strconv_FormatInt at hm
  refine calls [I i, I base] Tryd.func7 rfl (of_decide_eq_true (by kernel_rfl)) ?_
  have k := Cx.refl w
  refine W_seq ?_
  refine W_quiet [] [] [(0, I i), (1, I base)] [] (by kernel_rfl) trivial ?_
  refine At_go ?_
  refine W_seq ?_
  refine W_seq ?_
  refine W_quiet [] [] [(0, I i), (1, I base), (11, .b (decide (base = 10)))] [] (by kernel_rfl) trivial ?_
  refine At_go ?_
  refine W_condp (base = 10) (by kernel_rfl) (fun hc => ?_) (fun hc => ?_)
  · rw [if_pos hc] at hm
    refine W_seq ?_
    refine W_seq ?_
    refine W_quiet [] [] [(0, I i), (17, .b ((decide (0 ≤ i)) && (decide (i < 100))))] [] (by kernel_rfl) trivial ?_
    refine At_go ?_
    refine W_cond ((decide (0 ≤ i)) && (decide (i < 100))) (by kernel_rfl) (fun hc1 => ?_) (fun hc1 => ?_)
    · rw [if_pos hc1] at hm
      refine W_seq ?_
      refine W_reg ?_
      refine WL_seg 1 [] [] [(18, I i)] [] (by kernel_rfl) trivial ?_
      refine WL_op ?_
      obtain ⟨r_, h_r_, hm⟩ := Option.bind_eq_some_iff.1 hm
      refine Op_call [] 19 [I i] yd_go8 (by kernel_rfl) (c_internal_strconv_small i _ h_r_) ?_
      rintro e_ w_ ⟨rfl, k_⟩
      have k_1 := k.call k_
      refine ⟨.s r_, rfl, ?_⟩
      refine WL_seg 1 [] [] [(4, .s r_)] [] (by kernel_rfl) trivial ?_
      refine WL_nil ?_
      refine At_go ?_
      refine W_ret (At_tr (At_tr ?_))
      obtain rfl := Option.some.inj hm
      refine At_ret [] [.s r_] [] (by kernel_rfl) trivial ?_
      exact ⟨rfl, k_1⟩
    rw [if_neg (by rw [hc1]; decide)] at hm
    cases hm
  rw [if_neg hc] at hm
  cases hm

-- internal/strconv.Itoa
noncomputable def m_internal_strconv_Itoa (i : Int) : Option (List UInt8) :=
  Option.bind (m_internal_strconv_FormatInt i 10) fun r_ => some r_
theorem c_internal_strconv_Itoa {w : World} (i : Int) (r : List UInt8) (hm : m_internal_strconv_Itoa i = some r) :
    Calls Tryd.prog 6 (vals [I i]) w (fun e w' => e = .returned (SV.val (.s r)) ∧ Cx w w' []) := by
  unfold m_internal_strconv_Itoa at hm
  refine calls [I i] Tryd.func6 rfl (of_decide_eq_true (by kernel_rfl)) ?_
  have k := Cx.refl w
  refine W_seq ?_
  refine W_quiet [] [] [(0, I i)] [] (by kernel_rfl) trivial ?_
  refine At_go ?_
  refine W_seq ?_
  refine W_reg ?_
  refine WL_seg 1 [] [] [(3, I i)] [] (by kernel_rfl) trivial ?_
  refine WL_op ?_
  obtain ⟨r_, h_r_, hm⟩ := Option.bind_eq_some_iff.1 hm
  refine Op_call [] 4 [I i, I 10] yd_go7 (by kernel_rfl) (c_internal_strconv_FormatInt i 10 _ h_r_) ?_
  rintro e_ w_ ⟨rfl, k_⟩
  have k_1 := k.call k_
  refine ⟨.s r_, rfl, ?_⟩
  refine WL_seg 1 [] [] [(2, .s r_)] [] (by kernel_rfl) trivial ?_
  refine WL_nil ?_
  refine At_go ?_
  refine W_ret ?_
  obtain rfl := Option.some.inj hm
  refine At_ret [] [.s r_] [] (by kernel_rfl) trivial ?_
  exact ⟨rfl, k_1⟩

-- strconv.Itoa
noncomputable def m_strconv_Itoa (i : Int) : Option (List UInt8) :=
  Option.bind (m_internal_strconv_Itoa i) fun r_ => some r_
theorem c_strconv_Itoa {w : World} (i : Int) (r : List UInt8) (hm : m_strconv_Itoa i = some r) :
    Calls Tryd.prog 5 (vals [I i]) w (fun e w' => e = .returned (SV.val (.s r)) ∧ Cx w w' []) := by
  unfold m_strconv_Itoa at hm
  refine calls [I i] Tryd.func5 rfl (of_decide_eq_true (by kernel_rfl)) ?_
  have k := Cx.refl w
  refine W_seq ?_
  refine W_quiet [] [] [(0, I i)] [] (by kernel_rfl) trivial ?_
  refine At_go ?_
  refine W_seq ?_
  refine W_reg ?_
  refine WL_seg 1 [] [] [(3, I i)] [] (by kernel_rfl) trivial ?_
  refine WL_op ?_
  obtain ⟨r_, h_r_, hm⟩ := Option.bind_eq_some_iff.1 hm
  refine Op_call [] 4 [I i] yd_go6 (by kernel_rfl) (c_internal_strconv_Itoa i _ h_r_) ?_
  rintro e_ w_ ⟨rfl, k_⟩
  have k_1 := k.call k_
  refine ⟨.s r_, rfl, ?_⟩
  refine WL_seg 1 [] [] [(2, .s r_)] [] (by kernel_rfl) trivial ?_
  refine WL_nil ?_
  refine At_go ?_
  refine W_ret ?_
  obtain rfl := Option.some.inj hm
  refine At_ret [] [.s r_] [] (by kernel_rfl) trivial ?_
  exact ⟨rfl, k_1⟩

-- (quern/api.Errno).Error
noncomputable def m_api_Errno_Error (e_ : Int) : Option (List UInt8) :=
  Option.bind (m_strconv_Itoa e_) fun r_ => Option.bind (need ([101, 114, 114, 111, 114, 32].length + r_.length ≤ 9223372036854775807)) fun u => some ([101, 114, 114, 111, 114, 32] ++ r_)
theorem c_api_Errno_Error {w : World} (e_ : Int) (r : List UInt8) (hm : m_api_Errno_Error e_ = some r) :
    Calls Tryd.prog 4 (vals [I e_]) w (fun e w' => e = .returned (SV.val (.s r)) ∧ Cx w w' []) := by
  unfold m_api_Errno_Error at hm
  refine calls [I e_] Tryd.func4 rfl (of_decide_eq_true (by kernel_rfl)) ?_
  have k := Cx.refl w
  refine W_seq ?_
  refine W_quiet [] [] [(0, I e_)] [] (by kernel_rfl) trivial ?_
  refine At_go ?_
  refine W_seq ?_
  refine W_reg ?_
  refine WL_seg 1 [] [] [(3, I e_)] [] (by kernel_rfl) trivial ?_
  refine WL_op ?_
  obtain ⟨r_, h_r_, hm⟩ := Option.bind_eq_some_iff.1 hm
  refine Op_call [] 4 [I e_] yd_go5 (by kernel_rfl) (c_strconv_Itoa e_ _ h_r_) ?_
  rintro e_ w_ ⟨rfl, k_⟩
  have k_1 := k.call k_
  refine ⟨.s r_, rfl, ?_⟩
  obtain ⟨u, h_u, hm⟩ := Option.bind_eq_some_iff.1 hm
  refine WL_seg 2 [] [] [(2, .s ([101, 114, 114, 111, 114, 32] ++ r_))] [fun w => [101, 114, 114, 111, 114, 32].length + r_.length ≤ 9223372036854775807] (by kernel_rfl) (⟨need_some h_u, trivial⟩) ?_
  refine WL_nil ?_
  refine At_go ?_
  refine W_ret ?_
  obtain rfl := Option.some.inj hm
  refine At_ret [] [.s ([101, 114, 114, 111, 114, 32] ++ r_)] [] (by kernel_rfl) trivial ?_
  exact ⟨rfl, k_1⟩

-- quern/quernlaw01.WordNames
noncomputable def m_l01_WordNames  : Option Bool :=
  Option.bind (m_api_Errno_Error 4) fun r_ => some (decide (r_ = [101, 114, 114, 111, 114, 32, 52]))
theorem c_l01_WordNames {w : World}  (r : Bool) (hm : m_l01_WordNames = some r) :
    Calls Tryd.prog 3 (vals []) w (fun e w' => e = .returned (SV.val (.b r)) ∧ Cx w w' []) := by
  unfold m_l01_WordNames at hm
  refine calls [] Tryd.func3 rfl (of_decide_eq_true (by kernel_rfl)) ?_
  have k := Cx.refl w
  refine W_seq ?_
  refine W_quiet [] [] [] [] (by kernel_rfl) trivial ?_
  refine At_go ?_
  refine W_seq ?_
  refine W_reg ?_
  refine WL_seg 1 [] [] [(1, .b true)] [] (by kernel_rfl) trivial ?_
  refine WL_op ?_
  obtain ⟨r_, h_r_, hm⟩ := Option.bind_eq_some_iff.1 hm
  refine Op_call [1] 2 [I 4] yd_go4 (by kernel_rfl) (c_api_Errno_Error 4 _ h_r_) ?_
  rintro e_ w_ ⟨rfl, k_⟩
  have k_1 := k.call k_
  refine ⟨.s r_, rfl, ?_⟩
  refine WL_seg 3 [1] [] [(0, .b (decide (r_ = [101, 114, 114, 111, 114, 32, 52])))] [] (by kernel_rfl) trivial ?_
  refine WL_nil ?_
  refine At_go ?_
  refine W_ret ?_
  obtain rfl := Option.some.inj hm
  refine At_ret [] [.b (decide (r_ = [101, 114, 114, 111, 114, 32, 52]))] [] (by kernel_rfl) trivial ?_
  exact ⟨rfl, k_1⟩
end Go.Sx
