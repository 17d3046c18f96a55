import Derived.Test.YtenfdhhjafddlaaSxI
import Derived.Test.YtenfdhhjafddlaaProg
namespace Go.Sx
open Go.RowKit Go.Proofs
set_option linter.unusedVariables false
set_option maxRecDepth 20000
theorem yt_go19 : IsGo Try.prog 19 := ⟨⟨Try.f19, _, Try.func19, rfl, by kernel_rfl⟩⟩
theorem yt_add43 : IsAdd Try.prog 43 := ⟨⟨Try.f43, Try.func43, by kernel_rfl, by kernel_rfl, by kernel_rfl, by kernel_rfl⟩⟩
theorem yt_mixed : Try.prog.follows .mixedOrders = true := by kernel_rfl

-- quern/word.Add
noncomputable def m_word_Add (c_Lo : UInt64) (c_Hi : UInt64) (n : UInt64) : Option ((UInt64 × UInt64) × Bool) :=
  Option.bind (add64 c_Lo n 0) fun r_ => Option.bind (add64 c_Hi 0 r_.2) fun r_1 => some ((r_.1, r_1.1), decide (r_1.2 = 1))
theorem c_word_Add {w : World} (c_Lo : UInt64) (c_Hi : UInt64) (n : UInt64) (r : (UInt64 × UInt64) × Bool) (hm : m_word_Add c_Lo c_Hi n = some r) :
    Calls Try.prog 19 (vals [.agg [.u64 c_Lo, .u64 c_Hi], .u64 n]) w (fun e w' => e = .returned (SV.val (.tup [.agg [.u64 r.1.1, .u64 r.1.2], .b r.2])) ∧ Cx w w' []) := by
  unfold m_word_Add at hm
  refine calls [.agg [.u64 c_Lo, .u64 c_Hi], .u64 n] Try.func19 rfl (of_decide_eq_true (by kernel_rfl)) ?_
  have k := Cx.refl w
  refine W_seq ?_
  refine W_reg ?_
  refine WL_op ?_
  refine Op_box [] 2 (.agg [.u64 c_Lo, .u64 c_Hi]) [.u64 c_Lo, .u64 c_Hi] (SV.vals [.u64 c_Lo, .u64 c_Hi]) (by kernel_rfl) rfl k ?_
  intro g w_ k_
  refine WL_op ?_
  refine Op_alloc [] 4 [.u64 0, .u64 0] (SV.vals [.u64 0, .u64 0]) (by kernel_rfl) rfl k_ ?_
  intro g1 w_1 k_1
  refine WL_seg 1 [] [] [(1, .u64 n), (2, pt g 0), (4, pt g1 0)] [] (by kernel_rfl) trivial ?_
  refine WL_nil ?_
  refine At_go ?_
  refine W_seq ?_
  refine W_reg ?_
  refine WL_seg 3 [] [.u64 c_Lo] [(2, pt g 0), (4, pt g1 0), (12, .u64 c_Lo), (13, .u64 n)] [fun w => ∃ a, some (⟨g, 0, none⟩ : Addr) = some a ∧ w.cell? a = some (SV.val (.u64 c_Lo))] (by kernel_rfl) (⟨⟨_, rfl, k_1.bxc 0 rfl 0 rfl⟩, trivial⟩) ?_
  refine WL_op ?_
  obtain ⟨r_, h_r_, hm⟩ := Option.bind_eq_some_iff.1 hm
  refine Op_add64 yt_add43 [] 14 c_Lo n 0 (by kernel_rfl) h_r_ ?_
  refine WL_seg 5 [] [] [(2, pt g 0), (4, pt g1 0), (6, .u64 r_.1), (7, .u64 r_.2)] [] (by kernel_rfl) trivial ?_
  refine WL_nil ?_
  refine At_go ?_
  refine W_seq ?_
  refine W_reg ?_
  refine WL_seg 3 [] [.u64 c_Hi] [(4, pt g1 0), (6, .u64 r_.1), (19, .u64 c_Hi), (20, .u64 r_.2)] [fun w => ∃ a, some (⟨g, 1, none⟩ : Addr) = some a ∧ w.cell? a = some (SV.val (.u64 c_Hi))] (by kernel_rfl) (⟨⟨_, rfl, k_1.bxc 0 rfl 1 rfl⟩, trivial⟩) ?_
  refine WL_op ?_
  obtain ⟨r_1, h_r_1, hm⟩ := Option.bind_eq_some_iff.1 hm
  refine Op_add64 yt_add43 [] 21 c_Hi 0 r_.2 (by kernel_rfl) h_r_1 ?_
  refine WL_seg 5 [] [] [(4, pt g1 0), (6, .u64 r_.1), (8, .u64 r_1.1), (9, .u64 r_1.2)] [] (by kernel_rfl) trivial ?_
  refine WL_nil ?_
  refine At_go ?_
  refine W_seq ?_
  refine W_reg ?_
  refine WL_seg 5 [] [] [(4, pt g1 0), (26, .agg [.u64 r_.1, .u64 r_1.1]), (28, .b (decide (r_1.2 = 1)))] [] (by kernel_rfl) trivial ?_
  refine WL_op ?_
  refine Op_bsetA [] 1 0 [.u64 r_.1, .u64 r_1.1] (by kernel_rfl) k_1 rfl ?_
  intro w_2 k_2x
  have k_2 : Cx w w_2 [Bx 33 g (SV.vals [.u64 c_Lo, .u64 c_Hi]), Bx 33 g1 (SV.vals [.u64 r_.1, .u64 r_1.1])] := k_2x
  refine WL_seg 1 [] [] [(4, pt g1 0), (5, .b (decide (r_1.2 = 1)))] [] (by kernel_rfl) trivial ?_
  refine WL_nil ?_
  refine At_go ?_
  refine W_ret ?_
  obtain rfl := Option.some.inj hm
  refine At_ret [.agg [.u64 r_.1, .u64 r_1.1]] [.agg [.u64 r_.1, .u64 r_1.1], .b (decide (r_1.2 = 1))] [fun w => Rd w (some ⟨g1, 0, none⟩) (SV.vals [.u64 r_.1, .u64 r_1.1])] (by kernel_rfl) (⟨k_2.bxr 1 rfl 0 2, trivial⟩) ?_
  have k_3 : Cx w w_2 [] := ((k_2.drop 1).drop 0)
  exact ⟨rfl, k_3⟩

-- quern/quernlaw01.WordSums
noncomputable def m_l01_WordSums (c_Lo : UInt64) (c_Hi : UInt64) (n : UInt64) (m : UInt64) : Option Bool :=
  Option.bind (m_word_Add 18446744073709551615 0 1) fun r_ => if (((decide (r_.1.2 ≠ 1)) || (decide (r_.1.1 ≠ 0))) || r_.2) = true then (some false) else (Option.bind (m_word_Add c_Lo c_Hi n) fun r_1 => Option.bind (m_word_Add r_1.1.1 r_1.1.2 m) fun r_2 => Option.bind (m_word_Add c_Lo c_Hi m) fun r_3 => Option.bind (m_word_Add r_3.1.1 r_3.1.2 n) fun r_4 => some ((decide (r_2.1.1 = r_4.1.1) && (decide (r_2.1.2 = r_4.1.2) && true)) && (decide ((r_1.2 || r_2.2) = (r_3.2 || r_4.2)))))
theorem c_l01_WordSums {w : World} (c_Lo : UInt64) (c_Hi : UInt64) (n : UInt64) (m : UInt64) (r : Bool) (hm : m_l01_WordSums c_Lo c_Hi n m = some r) :
    Calls Try.prog 5 (vals [.agg [.u64 c_Lo, .u64 c_Hi], .u64 n, .u64 m]) w (fun e w' => e = .returned (SV.val (.b r)) ∧ Cx w w' []) := by
  unfold m_l01_WordSums at hm
  refine calls [.agg [.u64 c_Lo, .u64 c_Hi], .u64 n, .u64 m] Try.func5 rfl (of_decide_eq_true (by kernel_rfl)) ?_
  have k := Cx.refl w
  refine W_seq ?_
  refine W_reg ?_
  refine WL_op ?_
  refine Op_box [] 3 (.agg [.u64 c_Lo, .u64 c_Hi]) [.u64 c_Lo, .u64 c_Hi] (SV.vals [.u64 c_Lo, .u64 c_Hi]) (by kernel_rfl) rfl k ?_
  intro g w_ k_
  refine WL_seg 1 [] [] [(1, .u64 n), (2, .u64 m), (3, pt g 0)] [] (by kernel_rfl) trivial ?_
  refine WL_nil ?_
  refine At_go ?_
  refine W_seq ?_
  refine W_reg ?_
  refine WL_seg 1 [] [] [(1, .u64 n), (2, .u64 m), (3, pt g 0), (16, .agg [.u64 18446744073709551615, .u64 0])] [] (by kernel_rfl) trivial ?_
  refine WL_op ?_
  obtain ⟨r_, h_r_, hm⟩ := Option.bind_eq_some_iff.1 hm
  refine Op_call [] 17 [.agg [.u64 18446744073709551615, .u64 0], .u64 1] yt_go19 (by kernel_rfl) (c_word_Add 18446744073709551615 0 1 _ h_r_) ?_
  rintro e_ w_1 ⟨rfl, k_1⟩
  have k_2 := k_.call k_1
  refine ⟨.tup [.agg [.u64 r_.1.1, .u64 r_.1.2], .b r_.2], rfl, ?_⟩
  refine WL_seg 3 [] [] [(1, .u64 n), (2, .u64 m), (3, pt g 0), (18, .agg [.u64 r_.1.1, .u64 r_.1.2]), (19, .b r_.2)] [] (by kernel_rfl) trivial ?_
  refine WL_op ?_
  refine Op_alloc [] 7 [.u64 0, .u64 0] (SV.vals [.u64 0, .u64 0]) (by kernel_rfl) rfl k_2 ?_
  intro g1 w_2 k_3
  refine WL_op ?_
  refine Op_bsetA [] 1 0 [.u64 r_.1.1, .u64 r_.1.2] (by kernel_rfl) k_3 rfl ?_
  intro w_3 k_4x
  have k_4 : Cx w w_3 [Bx 33 g (SV.vals [.u64 c_Lo, .u64 c_Hi]), Bx 33 g1 (SV.vals [.u64 r_.1.1, .u64 r_.1.2])] := k_4x
  refine WL_seg 1 [] [] [(1, .u64 n), (2, .u64 m), (3, pt g 0), (7, pt g1 0), (8, .b r_.2)] [] (by kernel_rfl) trivial ?_
  refine WL_nil ?_
  refine At_go ?_
  refine W_seq ?_
  refine W_seq ?_
  refine W_quiet [] [.u64 r_.1.2, .u64 r_.1.1] [(1, .u64 n), (2, .u64 m), (3, pt g 0), (30, .b (((decide (r_.1.2 ≠ 1)) || (decide (r_.1.1 ≠ 0))) || r_.2))] [fun w => ∃ a, some (⟨g1, 1, none⟩ : Addr) = some a ∧ w.cell? a = some (SV.val (.u64 r_.1.2)), fun w => (decide (r_.1.2 ≠ 1)) = false → ∃ a, some (⟨g1, 0, none⟩ : Addr) = some a ∧ w.cell? a = some (SV.val (.u64 r_.1.1))] (by kernel_rfl) (⟨⟨_, rfl, k_4.bxc 1 rfl 1 rfl⟩, fun hg0 => ⟨_, rfl, k_4.bxc 1 rfl 0 rfl⟩, trivial⟩) ?_
  refine At_go ?_
  refine W_cond (((decide (r_.1.2 ≠ 1)) || (decide (r_.1.1 ≠ 0))) || r_.2) (by kernel_rfl) (fun hc => ?_) (fun hc => ?_)
  · rw [if_pos hc] at hm
    refine W_seq ?_
    refine W_quiet [] [] [(6, .b false)] [] (by kernel_rfl) trivial ?_
    refine At_go ?_
    refine W_ret (At_tr ?_)
    obtain rfl := Option.some.inj hm
    refine At_ret [] [.b false] [] (by kernel_rfl) trivial ?_
    have k_5 : Cx w w_3 [] := ((k_4.drop 1).drop 0)
    exact ⟨rfl, k_5⟩
  rw [if_neg (by rw [hc]; decide)] at hm
  refine W_skip ?_
  refine At_go ?_
  refine W_seq ?_
  refine W_reg ?_
  refine WL_seg 2 [] [.agg [.u64 c_Lo, .u64 c_Hi]] [(1, .u64 n), (2, .u64 m), (3, pt g 0), (32, .agg [.u64 c_Lo, .u64 c_Hi]), (33, .u64 n)] [fun w => ∃ a, some (⟨g, 0, none⟩ : Addr) = some a ∧ Rd w (some a) (SV.vals [.u64 c_Lo, .u64 c_Hi])] (by kernel_rfl) (⟨⟨_, rfl, k_4.bxr 0 rfl 0 2⟩, trivial⟩) ?_
  refine WL_op ?_
  obtain ⟨r_1, h_r_1, hm⟩ := Option.bind_eq_some_iff.1 hm
  refine Op_call [] 34 [.agg [.u64 c_Lo, .u64 c_Hi], .u64 n] yt_go19 (by kernel_rfl) (c_word_Add c_Lo c_Hi n _ h_r_1) ?_
  rintro e_ w_4 ⟨rfl, k_6⟩
  have k_7 := k_4.call k_6
  refine ⟨.tup [.agg [.u64 r_1.1.1, .u64 r_1.1.2], .b r_1.2], rfl, ?_⟩
  refine WL_seg 3 [] [] [(1, .u64 n), (2, .u64 m), (3, pt g 0), (35, .agg [.u64 r_1.1.1, .u64 r_1.1.2]), (36, .b r_1.2)] [] (by kernel_rfl) trivial ?_
  refine WL_op ?_
  refine Op_alloc [] 9 [.u64 0, .u64 0] (SV.vals [.u64 0, .u64 0]) (by kernel_rfl) rfl k_7 ?_
  intro g2 w_5 k_8
  refine WL_op ?_
  refine Op_bsetA [] 2 0 [.u64 r_1.1.1, .u64 r_1.1.2] (by kernel_rfl) k_8 rfl ?_
  intro w_6 k_9x
  have k_9 : Cx w w_6 [Bx 33 g (SV.vals [.u64 c_Lo, .u64 c_Hi]), Bx 33 g1 (SV.vals [.u64 r_.1.1, .u64 r_.1.2]), Bx 33 g2 (SV.vals [.u64 r_1.1.1, .u64 r_1.1.2])] := k_9x
  refine WL_seg 1 [] [] [(1, .u64 n), (2, .u64 m), (3, pt g 0), (9, pt g2 0), (10, .b r_1.2)] [] (by kernel_rfl) trivial ?_
  refine WL_nil ?_
  refine At_go ?_
  refine W_seq ?_
  refine W_reg ?_
  refine WL_seg 2 [] [.agg [.u64 r_1.1.1, .u64 r_1.1.2]] [(1, .u64 n), (2, .u64 m), (3, pt g 0), (9, pt g2 0), (10, .b r_1.2), (38, .agg [.u64 r_1.1.1, .u64 r_1.1.2]), (39, .u64 m)] [fun w => ∃ a, some (⟨g2, 0, none⟩ : Addr) = some a ∧ Rd w (some a) (SV.vals [.u64 r_1.1.1, .u64 r_1.1.2])] (by kernel_rfl) (⟨⟨_, rfl, k_9.bxr 2 rfl 0 2⟩, trivial⟩) ?_
  refine WL_op ?_
  obtain ⟨r_2, h_r_2, hm⟩ := Option.bind_eq_some_iff.1 hm
  refine Op_call [] 40 [.agg [.u64 r_1.1.1, .u64 r_1.1.2], .u64 m] yt_go19 (by kernel_rfl) (c_word_Add r_1.1.1 r_1.1.2 m _ h_r_2) ?_
  rintro e_ w_7 ⟨rfl, k_10⟩
  have k_11 := k_9.call k_10
  refine ⟨.tup [.agg [.u64 r_2.1.1, .u64 r_2.1.2], .b r_2.2], rfl, ?_⟩
  refine WL_seg 3 [] [] [(1, .u64 n), (2, .u64 m), (3, pt g 0), (9, pt g2 0), (10, .b r_1.2), (41, .agg [.u64 r_2.1.1, .u64 r_2.1.2]), (42, .b r_2.2)] [] (by kernel_rfl) trivial ?_
  refine WL_op ?_
  refine Op_bsetA [] 2 0 [.u64 r_2.1.1, .u64 r_2.1.2] (by kernel_rfl) k_11 rfl ?_
  intro w_8 k_12x
  have k_12 : Cx w w_8 [Bx 33 g (SV.vals [.u64 c_Lo, .u64 c_Hi]), Bx 33 g1 (SV.vals [.u64 r_.1.1, .u64 r_.1.2]), Bx 33 g2 (SV.vals [.u64 r_2.1.1, .u64 r_2.1.2])] := k_12x
  refine WL_seg 1 [] [] [(1, .u64 n), (2, .u64 m), (3, pt g 0), (9, pt g2 0), (10, .b r_1.2), (11, .b r_2.2)] [] (by kernel_rfl) trivial ?_
  refine WL_nil ?_
  refine At_go ?_
  refine W_seq ?_
  refine W_reg ?_
  refine WL_seg 2 [] [.agg [.u64 c_Lo, .u64 c_Hi]] [(1, .u64 n), (9, pt g2 0), (10, .b r_1.2), (11, .b r_2.2), (44, .agg [.u64 c_Lo, .u64 c_Hi]), (45, .u64 m)] [fun w => ∃ a, some (⟨g, 0, none⟩ : Addr) = some a ∧ Rd w (some a) (SV.vals [.u64 c_Lo, .u64 c_Hi])] (by kernel_rfl) (⟨⟨_, rfl, k_12.bxr 0 rfl 0 2⟩, trivial⟩) ?_
  refine WL_op ?_
  obtain ⟨r_3, h_r_3, hm⟩ := Option.bind_eq_some_iff.1 hm
  refine Op_call [] 46 [.agg [.u64 c_Lo, .u64 c_Hi], .u64 m] yt_go19 (by kernel_rfl) (c_word_Add c_Lo c_Hi m _ h_r_3) ?_
  rintro e_ w_9 ⟨rfl, k_13⟩
  have k_14 := k_12.call k_13
  refine ⟨.tup [.agg [.u64 r_3.1.1, .u64 r_3.1.2], .b r_3.2], rfl, ?_⟩
  refine WL_seg 3 [] [] [(1, .u64 n), (9, pt g2 0), (10, .b r_1.2), (11, .b r_2.2), (47, .agg [.u64 r_3.1.1, .u64 r_3.1.2]), (48, .b r_3.2)] [] (by kernel_rfl) trivial ?_
  refine WL_op ?_
  refine Op_alloc [] 12 [.u64 0, .u64 0] (SV.vals [.u64 0, .u64 0]) (by kernel_rfl) rfl k_14 ?_
  intro g3 w_10 k_15
  refine WL_op ?_
  refine Op_bsetA [] 3 0 [.u64 r_3.1.1, .u64 r_3.1.2] (by kernel_rfl) k_15 rfl ?_
  intro w_11 k_16x
  have k_16 : Cx w w_11 [Bx 33 g (SV.vals [.u64 c_Lo, .u64 c_Hi]), Bx 33 g1 (SV.vals [.u64 r_.1.1, .u64 r_.1.2]), Bx 33 g2 (SV.vals [.u64 r_2.1.1, .u64 r_2.1.2]), Bx 33 g3 (SV.vals [.u64 r_3.1.1, .u64 r_3.1.2])] := k_16x
  refine WL_seg 1 [] [] [(1, .u64 n), (9, pt g2 0), (10, .b r_1.2), (11, .b r_2.2), (12, pt g3 0), (13, .b r_3.2)] [] (by kernel_rfl) trivial ?_
  refine WL_nil ?_
  refine At_go ?_
  refine W_seq ?_
  refine W_reg ?_
  refine WL_seg 2 [] [.agg [.u64 r_3.1.1, .u64 r_3.1.2]] [(9, pt g2 0), (10, .b r_1.2), (11, .b r_2.2), (12, pt g3 0), (13, .b r_3.2), (50, .agg [.u64 r_3.1.1, .u64 r_3.1.2]), (51, .u64 n)] [fun w => ∃ a, some (⟨g3, 0, none⟩ : Addr) = some a ∧ Rd w (some a) (SV.vals [.u64 r_3.1.1, .u64 r_3.1.2])] (by kernel_rfl) (⟨⟨_, rfl, k_16.bxr 3 rfl 0 2⟩, trivial⟩) ?_
  refine WL_op ?_
  obtain ⟨r_4, h_r_4, hm⟩ := Option.bind_eq_some_iff.1 hm
  refine Op_call [] 52 [.agg [.u64 r_3.1.1, .u64 r_3.1.2], .u64 n] yt_go19 (by kernel_rfl) (c_word_Add r_3.1.1 r_3.1.2 n _ h_r_4) ?_
  rintro e_ w_12 ⟨rfl, k_17⟩
  have k_18 := k_16.call k_17
  refine ⟨.tup [.agg [.u64 r_4.1.1, .u64 r_4.1.2], .b r_4.2], rfl, ?_⟩
  refine WL_seg 3 [] [] [(9, pt g2 0), (10, .b r_1.2), (11, .b r_2.2), (12, pt g3 0), (13, .b r_3.2), (53, .agg [.u64 r_4.1.1, .u64 r_4.1.2]), (54, .b r_4.2)] [] (by kernel_rfl) trivial ?_
  refine WL_op ?_
  refine Op_bsetA [] 3 0 [.u64 r_4.1.1, .u64 r_4.1.2] (by kernel_rfl) k_18 rfl ?_
  intro w_13 k_19x
  have k_19 : Cx w w_13 [Bx 33 g (SV.vals [.u64 c_Lo, .u64 c_Hi]), Bx 33 g1 (SV.vals [.u64 r_.1.1, .u64 r_.1.2]), Bx 33 g2 (SV.vals [.u64 r_2.1.1, .u64 r_2.1.2]), Bx 33 g3 (SV.vals [.u64 r_4.1.1, .u64 r_4.1.2])] := k_19x
  refine WL_seg 1 [] [] [(9, pt g2 0), (10, .b r_1.2), (11, .b r_2.2), (12, pt g3 0), (13, .b r_3.2), (14, .b r_4.2)] [] (by kernel_rfl) trivial ?_
  refine WL_nil ?_
  refine At_go ?_
  refine W_seq ?_
  refine W_quiet [] [.agg [.u64 r_2.1.1, .u64 r_2.1.2], .agg [.u64 r_4.1.1, .u64 r_4.1.2]] [(6, .b ((decide (r_2.1.1 = r_4.1.1) && (decide (r_2.1.2 = r_4.1.2) && true)) && (decide ((r_1.2 || r_2.2) = (r_3.2 || r_4.2)))))] [fun w => ∃ a, some (⟨g2, 0, none⟩ : Addr) = some a ∧ Rd w (some a) (SV.vals [.u64 r_2.1.1, .u64 r_2.1.2]), fun w => ∃ a, some (⟨g3, 0, none⟩ : Addr) = some a ∧ Rd w (some a) (SV.vals [.u64 r_4.1.1, .u64 r_4.1.2])] (by kernel_rfl) (⟨⟨_, rfl, k_19.bxr 2 rfl 0 2⟩, ⟨_, rfl, k_19.bxr 3 rfl 0 2⟩, trivial⟩) ?_
  refine At_go ?_
  refine W_ret ?_
  obtain rfl := Option.some.inj hm
  refine At_ret [] [.b ((decide (r_2.1.1 = r_4.1.1) && (decide (r_2.1.2 = r_4.1.2) && true)) && (decide ((r_1.2 || r_2.2) = (r_3.2 || r_4.2))))] [] (by kernel_rfl) trivial ?_
  have k_20 : Cx w w_13 [] := ((((k_19.drop 3).drop 2).drop 1).drop 0)
  exact ⟨rfl, k_20⟩
end Go.Sx
