import Derived.Test.YtenfdhhjafddlaaSxI
import Derived.Test.YtenfdhhjafddlaaProg
namespace Go.Sx
open Go.RowKit Go.Proofs
set_option linter.unusedVariables false
set_option maxRecDepth 20000
theorem yt_go14 : IsGo Try.prog 14 := ⟨⟨Try.f14, _, Try.func14, rfl, by kernel_rfl⟩⟩
theorem yt_go15 : IsGo Try.prog 15 := ⟨⟨Try.f15, _, Try.func15, rfl, by kernel_rfl⟩⟩
theorem yt_go16 : IsGo Try.prog 16 := ⟨⟨Try.f16, _, Try.func16, rfl, by kernel_rfl⟩⟩
theorem yt_go17 : IsGo Try.prog 17 := ⟨⟨Try.f17, _, Try.func17, rfl, by kernel_rfl⟩⟩
theorem yt_go18 : IsGo Try.prog 18 := ⟨⟨Try.f18, _, Try.func18, rfl, by kernel_rfl⟩⟩
theorem yt_go19 : IsGo Try.prog 19 := ⟨⟨Try.f19, _, Try.func19, rfl, by kernel_rfl⟩⟩
theorem yt_go20 : IsGo Try.prog 20 := ⟨⟨Try.f20, _, Try.func20, rfl, by kernel_rfl⟩⟩
theorem yt_go21 : IsGo Try.prog 21 := ⟨⟨Try.f21, _, Try.func21, rfl, by kernel_rfl⟩⟩
theorem yt_go22 : IsGo Try.prog 22 := ⟨⟨Try.f22, _, Try.func22, rfl, by kernel_rfl⟩⟩
theorem yt_go23 : IsGo Try.prog 23 := ⟨⟨Try.f23, _, Try.func23, rfl, by kernel_rfl⟩⟩
theorem yt_go24 : IsGo Try.prog 24 := ⟨⟨Try.f24, _, Try.func24, rfl, by kernel_rfl⟩⟩
theorem yt_go25 : IsGo Try.prog 25 := ⟨⟨Try.f25, _, Try.func25, rfl, by kernel_rfl⟩⟩
theorem yt_go26 : IsGo Try.prog 26 := ⟨⟨Try.f26, _, Try.func26, rfl, by kernel_rfl⟩⟩
theorem yt_go27 : IsGo Try.prog 27 := ⟨⟨Try.f27, _, Try.func27, rfl, by kernel_rfl⟩⟩
theorem yt_go28 : IsGo Try.prog 28 := ⟨⟨Try.f28, _, Try.func28, rfl, by kernel_rfl⟩⟩
theorem yt_go29 : IsGo Try.prog 29 := ⟨⟨Try.f29, _, Try.func29, rfl, by kernel_rfl⟩⟩
theorem yt_go30 : IsGo Try.prog 30 := ⟨⟨Try.f30, _, Try.func30, rfl, by kernel_rfl⟩⟩
theorem yt_go31 : IsGo Try.prog 31 := ⟨⟨Try.f31, _, Try.func31, rfl, by kernel_rfl⟩⟩
theorem yt_go32 : IsGo Try.prog 32 := ⟨⟨Try.f32, _, Try.func32, rfl, by kernel_rfl⟩⟩
theorem yt_go33 : IsGo Try.prog 33 := ⟨⟨Try.f33, _, Try.func33, rfl, by kernel_rfl⟩⟩
theorem yt_go36 : IsGo Try.prog 36 := ⟨⟨Try.f36, _, Try.func36, rfl, by kernel_rfl⟩⟩
theorem yt_go37 : IsGo Try.prog 37 := ⟨⟨Try.f37, _, Try.func37, rfl, by kernel_rfl⟩⟩
theorem yt_go38 : IsGo Try.prog 38 := ⟨⟨Try.f38, _, Try.func38, rfl, by kernel_rfl⟩⟩
theorem yt_go39 : IsGo Try.prog 39 := ⟨⟨Try.f39, _, Try.func39, rfl, by kernel_rfl⟩⟩
theorem yt_go40 : IsGo Try.prog 40 := ⟨⟨Try.f40, _, Try.func40, rfl, by kernel_rfl⟩⟩
theorem yt_go41 : IsGo Try.prog 41 := ⟨⟨Try.f41, _, Try.func41, rfl, by kernel_rfl⟩⟩
theorem yt_go42 : IsGo Try.prog 42 := ⟨⟨Try.f42, _, Try.func42, rfl, by kernel_rfl⟩⟩
theorem yt_go44 : IsGo Try.prog 44 := ⟨⟨Try.f44, _, Try.func44, rfl, by kernel_rfl⟩⟩
theorem yt_go45 : IsGo Try.prog 45 := ⟨⟨Try.f45, _, Try.func45, rfl, by kernel_rfl⟩⟩
theorem yt_go46 : IsGo Try.prog 46 := ⟨⟨Try.f46, _, Try.func46, rfl, by kernel_rfl⟩⟩
theorem yt_go47 : IsGo Try.prog 47 := ⟨⟨Try.f47, _, Try.func47, rfl, by kernel_rfl⟩⟩
theorem yt_go48 : IsGo Try.prog 48 := ⟨⟨Try.f48, _, Try.func48, rfl, by kernel_rfl⟩⟩
theorem yt_go49 : IsGo Try.prog 49 := ⟨⟨Try.f49, _, Try.func49, rfl, by kernel_rfl⟩⟩
theorem yt_add43 : IsAdd Try.prog 43 := ⟨⟨Try.f43, Try.func43, by kernel_rfl, by kernel_rfl, by kernel_rfl, by kernel_rfl⟩⟩
theorem yt_tf22 : TF Try.prog 22 5 (.int .u8 0) 1 := ⟨by kernel_rfl, by kernel_rfl, rfl, by decide⟩
theorem yt_mixed : Try.prog.follows .mixedOrders = true := by kernel_rfl

-- quern/quernlaw01.copied
noncomputable def m_l01_copied (b : List UInt8) : Option (List UInt8) :=
  Option.bind (app ([] : List UInt8) b 1) fun b1 => some b1
theorem c_l01_copied {w : World} (b : List UInt8) (A_b : Option Addr) (n_b c_b : Nat) (h_b : Rd w A_b (b.map bV)) (hn_b : b.length = n_b) (hc_b : n_b ≤ c_b) (r : List UInt8) (hm : m_l01_copied b = some r) :
    Calls Try.prog 15 (vals [sl A_b n_b c_b]) w (fun e w' => ∃ A90 nA90 c90, r.length = nA90 ∧ e = .returned (SV.val (sl A90 nA90 c90)) ∧ Cx w w' [OwS 5 bV A90 nA90 c90 r]) := by
  subst hn_b
  unfold m_l01_copied at hm
  refine calls [sl A_b b.length c_b] Try.func15 rfl (of_decide_eq_true (by kernel_rfl)) ?_
  have k := Cx.refl w
  refine W_seq ?_
  refine W_quiet [] [] [(0, sl A_b b.length c_b)] [] (by kernel_rfl) trivial ?_
  refine At_go ?_
  refine W_seq ?_
  refine W_reg ?_
  refine WL_op ?_
  refine Op_mk yt_tf22 bV [] 3 ([] : List UInt8) [] [] (by kernel_rfl) (by kernel_rfl) (by kernel_rfl) k ?_
  intro A w_ k_
  refine WL_seg 1 [] [] [(3, sl A 0 0), (4, sl A_b b.length c_b)] [] (by kernel_rfl) trivial ?_
  refine WL_op ?_
  obtain ⟨b1, h_b1, hm⟩ := Option.bind_eq_some_iff.1 hm
  obtain ⟨hz, hl⟩ := app_some h_b1
  refine Op_append (c2 := c_b) yt_tf22 one_b [] 5 0 (by kernel_rfl) k_ rfl rfl (h_b.cx k_) (by have := k_.len 0 rfl; have := hm; omega) ?_
  intro A1 c w_1 k_1
  rw [← hl] at k_1
  refine WL_seg 1 [] [] [(2, sl A1 (0 + b.length) c)] [] (by kernel_rfl) trivial ?_
  refine WL_nil ?_
  refine At_go ?_
  refine W_ret ?_
  obtain rfl := Option.some.inj hm
  refine At_ret [] [sl A1 (0 + b.length) c] [] (by kernel_rfl) trivial ?_
  exact ⟨A1, _, c, k_1.len 0 rfl, rfl, k_1⟩

-- quern/word.Same
noncomputable def m_word_Same (a : List UInt8) (b : List UInt8) : Option Bool :=
  some (decide (a = b))
theorem c_word_Same {w : World} (a : List UInt8) (A_a : Option Addr) (n_a c_a : Nat) (h_a : Rd w A_a (a.map bV)) (hn_a : a.length = n_a) (hc_a : n_a ≤ c_a) (b : List UInt8) (A_b : Option Addr) (n_b c_b : Nat) (h_b : Rd w A_b (b.map bV)) (hn_b : b.length = n_b) (hc_b : n_b ≤ c_b) (r : Bool) (hm : m_word_Same a b = some r) :
    Calls Try.prog 14 (vals [sl A_a n_a c_a, sl A_b n_b c_b]) w (fun e w' => e = .returned (SV.val (.b r)) ∧ Cx w w' []) := by
  subst hn_a
  subst hn_b
  unfold m_word_Same at hm
  refine calls [sl A_a a.length c_a, sl A_b b.length c_b] Try.func14 rfl (of_decide_eq_true (by kernel_rfl)) ?_
  have k := Cx.refl w
  refine W_seq ?_
  refine W_quiet [] [] [(0, sl A_a a.length c_a), (1, sl A_b b.length c_b)] [] (by kernel_rfl) trivial ?_
  refine At_go ?_
  refine W_seq ?_
  refine W_quiet [] [.s a, .s b] [(4, .b (decide (a = b)))] [fun w => Rd w A_a (a.map bV) ∧ a.length = a.length, fun w => Rd w A_b (b.map bV) ∧ b.length = b.length] (by kernel_rfl) (⟨⟨(h_a.cx k), rfl⟩, ⟨(h_b.cx k), rfl⟩, trivial⟩) ?_
  refine At_go ?_
  refine W_ret ?_
  obtain rfl := Option.some.inj hm
  refine At_ret [] [.b (decide (a = b))] [] (by kernel_rfl) trivial ?_
  exact ⟨rfl, k⟩

-- quern/quernref01.Same
noncomputable def m_r01_Same_l0 (a : List UInt8) (b : List UInt8) : Int → Option (Int ⊕ Bool)
  | i1 => if i1 < ((a.length : Nat) : Int) then (Option.bind (geti a i1) fun x2 => Option.bind (geti b i1) fun x3 => if x2 ≠ x3 then (Option.map Sum.inr (some false)) else (some (.inl (w64 (i1 + 1))))) else (Option.map Sum.inr (some true))
noncomputable def m_r01_Same (a : List UInt8) (b : List UInt8) : Option Bool :=
  if ((a.length : Nat) : Int) ≠ ((b.length : Nat) : Int) then (some false) else (whileO (m_r01_Same_l0 a b) 0)
theorem c_r01_Same {w : World} (a : List UInt8) (A_a : Option Addr) (n_a c_a : Nat) (h_a : Rd w A_a (a.map bV)) (hn_a : a.length = n_a) (hc_a : n_a ≤ c_a) (b : List UInt8) (A_b : Option Addr) (n_b c_b : Nat) (h_b : Rd w A_b (b.map bV)) (hn_b : b.length = n_b) (hc_b : n_b ≤ c_b) (r : Bool) (hm : m_r01_Same a b = some r) :
    Calls Try.prog 40 (vals [sl A_a n_a c_a, sl A_b n_b c_b]) w (fun e w' => e = .returned (SV.val (.b r)) ∧ Cx w w' []) := by
  subst hn_a
  subst hn_b
  unfold m_r01_Same at hm
  refine calls [sl A_a a.length c_a, sl A_b b.length c_b] Try.func40 rfl (of_decide_eq_true (by kernel_rfl)) ?_
  have k := Cx.refl w
  refine W_seq ?_
  refine W_quiet [] [] [(0, sl A_a a.length c_a), (1, sl A_b b.length c_b)] [] (by kernel_rfl) trivial ?_
  refine At_go ?_
  refine W_seq ?_
  refine W_seq ?_
  refine W_quiet [] [] [(0, sl A_a a.length c_a), (1, sl A_b b.length c_b), (10, .b (decide (((a.length : Nat) : Int) ≠ ((b.length : Nat) : Int))))] [] (by kernel_rfl) trivial ?_
  refine At_go ?_
  refine W_condp (((a.length : Nat) : Int) ≠ ((b.length : Nat) : Int)) (by kernel_rfl) (fun hc => ?_) (fun hc => ?_)
  · rw [if_pos hc] at hm
    refine W_seq ?_
    refine W_quiet [] [] [(4, .b false)] [] (by kernel_rfl) trivial ?_
    refine At_go ?_
    refine W_ret (At_tr ?_)
    obtain rfl := Option.some.inj hm
    refine At_ret [] [.b false] [] (by kernel_rfl) trivial ?_
    exact ⟨rfl, k⟩
  rw [if_neg hc] at hm
  refine W_skip ?_
  refine At_go ?_
  refine W_seq ?_
  refine W_seq ?_
  refine W_quiet [] [] [(0, sl A_a a.length c_a), (1, sl A_b b.length c_b), (5, I 0)] [] (by kernel_rfl) trivial ?_
  refine At_go ?_
  refine W_block ?_
  refine W_forget [(0, sl A_a a.length c_a), (1, sl A_b b.length c_b), (5, I 0)] (by kernel_rfl) ?_
  refine W_loop (m_r01_Same_l0 a b) (fun s L wr => ∃ (i1 : Int), i1 = s ∧ L = [(0, sl A_a a.length c_a), (1, sl A_b b.length c_b), (5, I i1)] ∧ Cx w wr []) 0 r hm ⟨0, rfl, rfl, k⟩ ?_
  intro s0_ L_ w_ y0 hrel hstep hr0
  obtain ⟨i1, rfl, rfl, k_1⟩ := hrel
  have hm := hstep; simp only [m_r01_Same_l0] at hm
  clear hstep
  refine W_seq ?_
  refine W_seq ?_
  refine W_quiet [] [] [(0, sl A_a a.length c_a), (1, sl A_b b.length c_b), (5, I i1), (14, .b (decide (i1 < ((a.length : Nat) : Int))))] [] (by kernel_rfl) trivial ?_
  refine At_go ?_
  refine W_condp (i1 < ((a.length : Nat) : Int)) (by kernel_rfl) (fun hc3 => ?_) (fun hc3 => ?_)
  · rw [if_pos hc3] at hm
    refine W_skip ?_
    refine At_go ?_
    refine W_seq ?_
    refine W_block ?_
    refine W_seq ?_
    obtain ⟨x2, h_x2, hm⟩ := Option.bind_eq_some_iff.1 hm
    obtain ⟨x3, h_x3, hm⟩ := Option.bind_eq_some_iff.1 hm
    refine W_draw yt_mixed [.u8 x2, .u8 x3] [(0, sl A_a a.length c_a), (1, sl A_b b.length c_b), (5, I i1), (25, .b (decide (x2 ≠ x3)))] [fun w => 0 ≤ i1 ∧ i1 < ((a.length : Nat) : Int) ∧ A_a.isSome = true, fun w => ∃ a, ixA A_a i1 1 = some a ∧ w.cell? a = some (SV.val (.u8 x2)), fun w => 0 ≤ i1 ∧ i1 < ((b.length : Nat) : Int) ∧ A_b.isSome = true, fun w => ∃ a, ixA A_b i1 1 = some a ∧ w.cell? a = some (SV.val (.u8 x3))] (by kernel_rfl) (by kernel_rfl) (fun m => ⟨Rd.ix (h_a.cx (k_1.drew m)) h_x2 rfl, Rd.ld (φ := bV) (h_a.cx (k_1.drew m)) h_x2, Rd.ix (h_b.cx (k_1.drew m)) h_x3 rfl, Rd.ld (φ := bV) (h_b.cx (k_1.drew m)) h_x3, trivial⟩) (fun m1 => ?_)
    have k_2 := k_1.drew m1
    refine At_go ?_
    refine W_condp (x2 ≠ x3) (by kernel_rfl) (fun hc4 => ?_) (fun hc4 => ?_)
    · rw [if_pos hc4] at hm
      refine W_seq ?_
      refine W_quiet [] [] [(4, .b false)] [] (by kernel_rfl) trivial ?_
      refine At_go ?_
      refine W_ret (At_ir (At_tr (At_tr (At_ir (At_tr ?_)))))
      have hm := exit_of hm hr0
      obtain rfl := Option.some.inj hm
      refine At_ret [] [.b false] [] (by kernel_rfl) trivial ?_
      exact ⟨rfl, k_2⟩
    rw [if_neg hc4] at hm
    refine W_skip ?_
    refine At_in ?_
    refine At_go ?_
    refine W_quiet [] [] [(0, sl A_a a.length c_a), (1, sl A_b b.length c_b), (5, I (w64 (i1 + 1)))] [] (by kernel_rfl) trivial ?_
    refine At_forget [(0, sl A_a a.length c_a), (1, sl A_b b.length c_b), (5, I (w64 (i1 + 1)))] (by kernel_rfl) ?_
    exact At_round (w64 (i1 + 1)) (Option.some.inj hm).symm ⟨w64 (i1 + 1), rfl, rfl, k_2⟩
  rw [if_neg hc3] at hm
  refine W_exit (At_te (At_te (At_ie ?_)))
  have hm := exit_of hm hr0
  refine At_go ?_
  refine W_seq ?_
  refine W_quiet [] [] [(4, .b true)] [] (by kernel_rfl) trivial ?_
  refine At_go ?_
  refine W_ret ?_
  obtain rfl := Option.some.inj hm
  refine At_ret [] [.b true] [] (by kernel_rfl) trivial ?_
  exact ⟨rfl, k_1⟩

-- quern/quernlaw01.same
noncomputable def m_l01_same (a : List UInt8) (b : List UInt8) : Option Bool :=
  Option.bind (m_r01_Same a b) fun r_ => some r_
theorem c_l01_same {w : World} (a : List UInt8) (A_a : Option Addr) (n_a c_a : Nat) (h_a : Rd w A_a (a.map bV)) (hn_a : a.length = n_a) (hc_a : n_a ≤ c_a) (b : List UInt8) (A_b : Option Addr) (n_b c_b : Nat) (h_b : Rd w A_b (b.map bV)) (hn_b : b.length = n_b) (hc_b : n_b ≤ c_b) (r : Bool) (hm : m_l01_same a b = some r) :
    Calls Try.prog 16 (vals [sl A_a n_a c_a, sl A_b n_b c_b]) w (fun e w' => e = .returned (SV.val (.b r)) ∧ Cx w w' []) := by
  subst hn_a
  subst hn_b
  unfold m_l01_same at hm
  refine calls [sl A_a a.length c_a, sl A_b b.length c_b] Try.func16 rfl (of_decide_eq_true (by kernel_rfl)) ?_
  have k := Cx.refl w
  refine W_seq ?_
  refine W_quiet [] [] [(0, sl A_a a.length c_a), (1, sl A_b b.length c_b)] [] (by kernel_rfl) trivial ?_
  refine At_go ?_
  refine W_seq ?_
  refine W_reg ?_
  refine WL_seg 2 [] [] [(5, sl A_a a.length c_a), (6, sl A_b b.length c_b)] [] (by kernel_rfl) trivial ?_
  refine WL_op ?_
  obtain ⟨r_, h_r_, hm⟩ := Option.bind_eq_some_iff.1 hm
  refine Op_call [] 7 [sl A_a a.length c_a, sl A_b b.length c_b] yt_go40 (by kernel_rfl) (c_r01_Same a A_a a.length c_a (h_a.cx k) rfl hc_a b A_b b.length c_b (h_b.cx k) rfl hc_b _ h_r_) ?_
  rintro e_ w_ ⟨rfl, k_⟩
  have k_1 := k.call k_
  refine ⟨.b r_, rfl, ?_⟩
  refine WL_seg 1 [] [] [(4, .b r_)] [] (by kernel_rfl) trivial ?_
  refine WL_nil ?_
  refine At_go ?_
  refine W_ret ?_
  obtain rfl := Option.some.inj hm
  refine At_ret [] [.b r_] [] (by kernel_rfl) trivial ?_
  exact ⟨rfl, k_1⟩

-- quern/quernlaw01.WordSame
noncomputable def m_l01_WordSame_j0 (a : List UInt8) (c2 : List UInt8) : Option Bool :=
  Option.bind (m_word_Same a c2) fun r_5 => Option.bind (m_l01_same a c2) fun r_6 => if r_5 = r_6 then (Option.bind (m_l01_copied a) fun r_7 => Option.bind (app r_7 ([0] : List UInt8) 1) fun b1 => Option.bind (m_word_Same a b1) fun r_8 => some (!r_8)) else (some false)
noncomputable def m_l01_WordSame_j1 (a : List UInt8) (by_ : UInt8) (r_4 : List UInt8) (k_12 : Int) : Option Bool :=
  Option.bind (geti r_4 k_12) fun x => Option.bind (geti r_4 k_12) fun x1 => m_l01_WordSame_j0 a (r_4.set (Int.toNat k_12) (x ^^^ by_))
noncomputable def m_l01_WordSame (a : List UInt8) (b : List UInt8) (at_ : Int) (by_ : UInt8) : Option Bool :=
  Option.bind (m_l01_copied a) fun r_ => Option.bind (m_word_Same a r_) fun r_1 => if (!r_1) = true then (some false) else (Option.bind (m_word_Same a b) fun r_2 => Option.bind (m_l01_same a b) fun r_3 => if r_2 ≠ r_3 then (some false) else (Option.bind (m_l01_copied a) fun r_4 => if 0 < ((r_4.length : Nat) : Int) then (Option.bind (need (((r_4.length : Nat) : Int) ≠ 0)) fun u => if (Int.tmod at_ ((r_4.length : Nat) : Int)) < 0 then (m_l01_WordSame_j1 a by_ r_4 (w64 ((Int.tmod at_ ((r_4.length : Nat) : Int)) + ((r_4.length : Nat) : Int)))) else (m_l01_WordSame_j1 a by_ r_4 (Int.tmod at_ ((r_4.length : Nat) : Int)))) else (m_l01_WordSame_j0 a r_4)))
theorem c_l01_WordSame {w : World} (a : List UInt8) (A_a : Option Addr) (n_a c_a : Nat) (h_a : Rd w A_a (a.map bV)) (hn_a : a.length = n_a) (hc_a : n_a ≤ c_a) (b : List UInt8) (A_b : Option Addr) (n_b c_b : Nat) (h_b : Rd w A_b (b.map bV)) (hn_b : b.length = n_b) (hc_b : n_b ≤ c_b) (at_ : Int) (by_ : UInt8) (r : Bool) (hm : m_l01_WordSame a b at_ by_ = some r) :
    Calls Try.prog 3 (vals [sl A_a n_a c_a, sl A_b n_b c_b, I at_, .u8 by_]) w (fun e w' => e = .returned (SV.val (.b r)) ∧ Cx w w' []) := by
  subst hn_a
  subst hn_b
  unfold m_l01_WordSame at hm
  refine calls [sl A_a a.length c_a, sl A_b b.length c_b, I at_, .u8 by_] Try.func3 rfl (of_decide_eq_true (by kernel_rfl)) ?_
  have k := Cx.refl w
  refine W_seq ?_
  refine W_quiet [] [] [(0, sl A_a a.length c_a), (1, sl A_b b.length c_b), (2, I at_), (3, .u8 by_)] [] (by kernel_rfl) trivial ?_
  refine At_go ?_
  refine W_seq ?_
  refine W_seq ?_
  refine W_reg ?_
  refine WL_seg 2 [] [] [(0, sl A_a a.length c_a), (1, sl A_b b.length c_b), (2, I at_), (3, .u8 by_), (11, sl A_a a.length c_a), (12, sl A_a a.length c_a)] [] (by kernel_rfl) trivial ?_
  refine WL_op ?_
  obtain ⟨r_, h_r_, hm⟩ := Option.bind_eq_some_iff.1 hm
  refine Op_call [] 13 [sl A_a a.length c_a] yt_go15 (by kernel_rfl) (c_l01_copied a A_a a.length c_a (h_a.cx k) rfl hc_a _ h_r_) ?_
  rintro e_ w_ ⟨A, _, c, rfl, rfl, k_⟩
  have k_1 := k.call k_
  refine ⟨sl A r_.length c, rfl, ?_⟩
  refine WL_op ?_
  obtain ⟨r_1, h_r_1, hm⟩ := Option.bind_eq_some_iff.1 hm
  refine Op_call [] 14 [sl A_a a.length c_a, sl A r_.length c] yt_go14 (by kernel_rfl) (c_word_Same a A_a a.length c_a (h_a.cx k_1) rfl hc_a r_ A r_.length c (k_1.rd 0 rfl) (k_1.len 0 rfl) (k_1.lec 0 rfl) _ h_r_1) ?_
  rintro e_ w_1 ⟨rfl, k_2⟩
  have k_3 := k_1.call k_2
  refine ⟨.b r_1, rfl, ?_⟩
  refine WL_seg 2 [] [] [(0, sl A_a a.length c_a), (1, sl A_b b.length c_b), (2, I at_), (3, .u8 by_), (16, .b (!r_1))] [] (by kernel_rfl) trivial ?_
  refine WL_split 16 (!r_1) [(0, sl A_a a.length c_a), (1, sl A_b b.length c_b), (2, I at_), (3, .u8 by_), (16, .b true)] [(0, sl A_a a.length c_a), (1, sl A_b b.length c_b), (2, I at_), (3, .u8 by_), (16, .b false)] (by kernel_rfl) (by kernel_rfl) (by kernel_rfl) (fun hg => ?_) (fun hg => ?_)
  · rw [if_pos hg] at hm
    refine WL_seg 8 [16] [] [(0, sl A_a a.length c_a), (2, I at_), (3, .u8 by_), (24, .b true)] [] (by kernel_rfl) trivial ?_
    refine WL_nil ?_
    refine At_go ?_
    refine W_cond true (by kernel_rfl) (fun _ => ?_) (fun h => by cases h)
    refine W_seq ?_
    refine W_quiet [] [] [(8, .b false)] [] (by kernel_rfl) trivial ?_
    refine At_go ?_
    refine W_ret (At_tr ?_)
    obtain rfl := Option.some.inj hm
    refine At_ret [] [.b false] [] (by kernel_rfl) trivial ?_
    have k_4 : Cx w w_1 [] := (k_3.drop 0)
    exact ⟨rfl, k_4⟩
  · rw [if_neg (by rw [hg]; decide)] at hm
    refine WL_seg 2 [16] [] [(0, sl A_a a.length c_a), (1, sl A_b b.length c_b), (2, I at_), (3, .u8 by_), (16, .b false), (17, sl A_a a.length c_a), (18, sl A_b b.length c_b)] [] (by kernel_rfl) trivial ?_
    refine WL_op ?_
    obtain ⟨r_2, h_r_2, hm⟩ := Option.bind_eq_some_iff.1 hm
    refine Op_call [16] 19 [sl A_a a.length c_a, sl A_b b.length c_b] yt_go14 (by kernel_rfl) (c_word_Same a A_a a.length c_a (h_a.cx k_3) rfl hc_a b A_b b.length c_b (h_b.cx k_3) rfl hc_b _ h_r_2) ?_
    rintro e_ w_2 ⟨rfl, k_5⟩
    have k_6 := k_3.call k_5
    refine ⟨.b r_2, rfl, ?_⟩
    refine WL_seg 2 [16] [] [(0, sl A_a a.length c_a), (2, I at_), (3, .u8 by_), (16, .b false), (19, .b r_2), (20, sl A_a a.length c_a), (21, sl A_b b.length c_b)] [] (by kernel_rfl) trivial ?_
    refine WL_op ?_
    obtain ⟨r_3, h_r_3, hm⟩ := Option.bind_eq_some_iff.1 hm
    refine Op_call [16] 22 [sl A_a a.length c_a, sl A_b b.length c_b] yt_go16 (by kernel_rfl) (c_l01_same a A_a a.length c_a (h_a.cx k_6) rfl hc_a b A_b b.length c_b (h_b.cx k_6) rfl hc_b _ h_r_3) ?_
    rintro e_ w_3 ⟨rfl, k_7⟩
    have k_8 := k_6.call k_7
    refine ⟨.b r_3, rfl, ?_⟩
    refine WL_seg 2 [16] [] [(0, sl A_a a.length c_a), (2, I at_), (3, .u8 by_), (24, .b (decide (r_2 ≠ r_3)))] [] (by kernel_rfl) trivial ?_
    refine WL_nil ?_
    refine At_go ?_
    refine W_condp (r_2 ≠ r_3) (by kernel_rfl) (fun hc => ?_) (fun hc => ?_)
    · rw [if_pos hc] at hm
      refine W_seq ?_
      refine W_quiet [] [] [(8, .b false)] [] (by kernel_rfl) trivial ?_
      refine At_go ?_
      refine W_ret (At_tr ?_)
      obtain rfl := Option.some.inj hm
      refine At_ret [] [.b false] [] (by kernel_rfl) trivial ?_
      have k_9 : Cx w w_3 [] := (k_8.drop 0)
      exact ⟨rfl, k_9⟩
    rw [if_neg hc] at hm
    refine W_skip ?_
    refine At_go ?_
    refine W_seq ?_
    refine W_reg ?_
    refine WL_seg 1 [] [] [(0, sl A_a a.length c_a), (2, I at_), (3, .u8 by_), (25, sl A_a a.length c_a)] [] (by kernel_rfl) trivial ?_
    refine WL_op ?_
    obtain ⟨r_4, h_r_4, hm⟩ := Option.bind_eq_some_iff.1 hm
    refine Op_call [] 26 [sl A_a a.length c_a] yt_go15 (by kernel_rfl) (c_l01_copied a A_a a.length c_a (h_a.cx k_8) rfl hc_a _ h_r_4) ?_
    rintro e_ w_4 ⟨A1, _, c1, rfl, rfl, k_10⟩
    have k_11 := k_8.call k_10
    refine ⟨sl A1 r_4.length c1, rfl, ?_⟩
    refine WL_seg 1 [] [] [(0, sl A_a a.length c_a), (2, I at_), (3, .u8 by_), (9, sl A1 r_4.length c1)] [] (by kernel_rfl) trivial ?_
    refine WL_nil ?_
    refine At_go ?_
    refine W_cut (fun L wr => ∃ (c2 : List UInt8) (A2 : Option Addr) (n : Nat) (c3 : Nat), m_l01_WordSame_j0 a c2 = some r ∧ L = [(0, sl A_a a.length c_a), (9, sl A2 n c3)] ∧ c2.length = n ∧ Cx w wr [OwS 5 bV A2 n c3 c2]) ?_ ?_
    ·
      refine W_seq ?_
      refine W_quiet [] [] [(0, sl A_a a.length c_a), (2, I at_), (3, .u8 by_), (9, sl A1 r_4.length c1), (29, .b (decide (0 < ((r_4.length : Nat) : Int))))] [] (by kernel_rfl) trivial ?_
      refine At_go ?_
      refine W_condp (0 < ((r_4.length : Nat) : Int)) (by kernel_rfl) (fun hc1 => ?_) (fun hc1 => ?_)
      · rw [if_pos hc1] at hm
        refine W_seq ?_
        obtain ⟨u, h_u, hm⟩ := Option.bind_eq_some_iff.1 hm
        refine W_quiet [] [] [(0, sl A_a a.length c_a), (3, .u8 by_), (9, sl A1 r_4.length c1), (10, I (Int.tmod at_ ((r_4.length : Nat) : Int)))] [fun w => ((r_4.length : Nat) : Int) ≠ 0] (by kernel_rfl) (⟨need_some h_u, trivial⟩) ?_
        refine At_go ?_
        refine W_cut (fun L wr => ∃ (k_12 : Int), m_l01_WordSame_j1 a by_ r_4 k_12 = some r ∧ L = [(0, sl A_a a.length c_a), (3, .u8 by_), (9, sl A1 r_4.length c1), (10, I k_12)] ∧ Cx w wr [OwS 5 bV A1 r_4.length c1 r_4]) ?_ ?_
        ·
          refine W_seq ?_
          refine W_quiet [] [] [(0, sl A_a a.length c_a), (3, .u8 by_), (9, sl A1 r_4.length c1), (10, I (Int.tmod at_ ((r_4.length : Nat) : Int))), (35, .b (decide ((Int.tmod at_ ((r_4.length : Nat) : Int)) < 0)))] [] (by kernel_rfl) trivial ?_
          refine At_go ?_
          refine W_condp ((Int.tmod at_ ((r_4.length : Nat) : Int)) < 0) (by kernel_rfl) (fun hc2 => ?_) (fun hc2 => ?_)
          · rw [if_pos hc2] at hm
            refine W_quiet [] [] [(0, sl A_a a.length c_a), (3, .u8 by_), (9, sl A1 r_4.length c1), (10, I (w64 ((Int.tmod at_ ((r_4.length : Nat) : Int)) + ((r_4.length : Nat) : Int))))] [] (by kernel_rfl) trivial ?_
            refine At_forget [(0, sl A_a a.length c_a), (3, .u8 by_), (9, sl A1 r_4.length c1), (10, I (w64 ((Int.tmod at_ ((r_4.length : Nat) : Int)) + ((r_4.length : Nat) : Int))))] (by kernel_rfl) ?_
            have k_13 : Cx w w_4 [OwS 5 bV A1 r_4.length c1 r_4] := (k_11.drop 0)
            exact At_cut ⟨w64 ((Int.tmod at_ ((r_4.length : Nat) : Int)) + ((r_4.length : Nat) : Int)), hm, rfl, k_13⟩
          rw [if_neg hc2] at hm
          refine W_skip ?_
          refine At_forget [(0, sl A_a a.length c_a), (3, .u8 by_), (9, sl A1 r_4.length c1), (10, I (Int.tmod at_ ((r_4.length : Nat) : Int)))] (by kernel_rfl) ?_
          have k_14 : Cx w w_4 [OwS 5 bV A1 r_4.length c1 r_4] := (k_11.drop 0)
          exact At_cut ⟨Int.tmod at_ ((r_4.length : Nat) : Int), hm, rfl, k_14⟩
        rintro L_ w_5 ⟨k_12, hm, rfl, k_15⟩
        simp only [m_l01_WordSame_j1] at hm
        refine W_reg ?_
        obtain ⟨x, h_x, hm⟩ := Option.bind_eq_some_iff.1 hm
        obtain ⟨x1, h_x1, hm⟩ := Option.bind_eq_some_iff.1 hm
        refine WL_seg 9 [] [.u8 x] [(0, sl A_a a.length c_a), (9, sl A1 r_4.length c1), (47, .u8 (x ^^^ by_)), (48, .v (.pointer (ixA A1 k_12 1)))] [fun w => 0 ≤ k_12 ∧ k_12 < ((r_4.length : Nat) : Int) ∧ A1.isSome = true, fun w => ∃ a, ixA A1 k_12 1 = some a ∧ w.cell? a = some (SV.val (.u8 x)), fun w => 0 ≤ k_12 ∧ k_12 < ((r_4.length : Nat) : Int) ∧ A1.isSome = true] (by kernel_rfl) (⟨Rd.ix (k_15.rd 0 rfl) h_x (k_15.len 0 rfl), Rd.ld (φ := bV) (k_15.rd 0 rfl) h_x, Rd.ix (k_15.rd 0 rfl) h_x1 (k_15.len 0 rfl), trivial⟩) ?_
        refine WL_op ?_
        refine Op_store (φ := bV) one_b [] 0 k_12 (x ^^^ by_) (.u8 (x ^^^ by_)) (by kernel_rfl) rfl k_15 rfl (geti_lt h_x1).1 (by have := (geti_lt h_x1).2; have := k_15.len 0 rfl; omega) ?_
        intro w_6 k_16
        refine WL_nil ?_
        refine At_forget [(0, sl A_a a.length c_a), (9, sl A1 r_4.length c1)] (by kernel_rfl) ?_
        exact At_cut ⟨r_4.set (Int.toNat k_12) (x ^^^ by_), A1, r_4.length, c1, hm, rfl, k_16.len 0 rfl, k_16⟩
      rw [if_neg hc1] at hm
      refine W_skip ?_
      refine At_forget [(0, sl A_a a.length c_a), (9, sl A1 r_4.length c1)] (by kernel_rfl) ?_
      have k_17 : Cx w w_4 [OwS 5 bV A1 r_4.length c1 r_4] := (k_11.drop 0)
      exact At_cut ⟨r_4, A1, r_4.length, c1, hm, rfl, k_17.len 0 rfl, k_17⟩
    rintro L_ w_7 ⟨c2, A2, _, c3, hm, rfl, rfl, k_18⟩
    simp only [m_l01_WordSame_j0] at hm
    refine W_seq ?_
    refine W_reg ?_
    refine WL_seg 2 [] [] [(0, sl A_a a.length c_a), (9, sl A2 c2.length c3), (49, sl A_a a.length c_a), (50, sl A2 c2.length c3)] [] (by kernel_rfl) trivial ?_
    refine WL_op ?_
    obtain ⟨r_5, h_r_5, hm⟩ := Option.bind_eq_some_iff.1 hm
    refine Op_call [] 51 [sl A_a a.length c_a, sl A2 c2.length c3] yt_go14 (by kernel_rfl) (c_word_Same a A_a a.length c_a (h_a.cx k_18) rfl hc_a c2 A2 c2.length c3 (k_18.rd 0 rfl) (k_18.len 0 rfl) (k_18.lec 0 rfl) _ h_r_5) ?_
    rintro e_ w_8 ⟨rfl, k_19⟩
    have k_20 := k_18.call k_19
    refine ⟨.b r_5, rfl, ?_⟩
    refine WL_seg 2 [] [] [(0, sl A_a a.length c_a), (51, .b r_5), (52, sl A_a a.length c_a), (53, sl A2 c2.length c3)] [] (by kernel_rfl) trivial ?_
    refine WL_op ?_
    obtain ⟨r_6, h_r_6, hm⟩ := Option.bind_eq_some_iff.1 hm
    refine Op_call [] 54 [sl A_a a.length c_a, sl A2 c2.length c3] yt_go16 (by kernel_rfl) (c_l01_same a A_a a.length c_a (h_a.cx k_20) rfl hc_a c2 A2 c2.length c3 (k_20.rd 0 rfl) (k_20.len 0 rfl) (k_20.lec 0 rfl) _ h_r_6) ?_
    rintro e_ w_9 ⟨rfl, k_21⟩
    have k_22 := k_20.call k_21
    refine ⟨.b r_6, rfl, ?_⟩
    refine WL_seg 2 [] [] [(0, sl A_a a.length c_a), (56, .b (decide (r_5 = r_6)))] [] (by kernel_rfl) trivial ?_
    refine WL_split 56 (decide (r_5 = r_6)) [(0, sl A_a a.length c_a), (56, .b true)] [(0, sl A_a a.length c_a), (56, .b false)] (by kernel_rfl) (by kernel_rfl) (by kernel_rfl) (fun hg1 => ?_) (fun hg1 => ?_)
    · rw [if_pos (of_decide_eq_true hg1)] at hm
      refine WL_seg 2 [56] [] [(56, .b true), (57, sl A_a a.length c_a), (58, sl A_a a.length c_a)] [] (by kernel_rfl) trivial ?_
      refine WL_op ?_
      obtain ⟨r_7, h_r_7, hm⟩ := Option.bind_eq_some_iff.1 hm
      refine Op_call [56] 59 [sl A_a a.length c_a] yt_go15 (by kernel_rfl) (c_l01_copied a A_a a.length c_a (h_a.cx k_22) rfl hc_a _ h_r_7) ?_
      rintro e_ w_10 ⟨A3, _, c4, rfl, rfl, k_23⟩
      have k_24 := k_22.call k_23
      refine ⟨sl A3 r_7.length c4, rfl, ?_⟩
      refine WL_op ?_
      refine Op_mk yt_tf22 bV [56] 60 ([0] : List UInt8) [(0, .u8 0)] [.u8 0] (by kernel_rfl) (by kernel_rfl) (by kernel_rfl) k_24 ?_
      intro A4 w_11 k_25
      refine WL_op ?_
      obtain ⟨b1, h_b1, hm⟩ := Option.bind_eq_some_iff.1 hm
      obtain ⟨hz, hl⟩ := app_some h_b1
      refine Op_append (c2 := 1) yt_tf22 one_b [56] 61 1 (by kernel_rfl) k_25 rfl (k_25.len 2 rfl) (k_25.rd 2 rfl) (by have := k_25.len 1 rfl; have := k_25.len 2 rfl; omega) ?_
      intro A5 c5 w_12 k_26
      rw [← hl] at k_26
      have k_27 : Cx w w_12 [OwS 5 bV A5 (r_7.length + 1) c5 b1] := ((k_26.drop 2).drop 0)
      refine WL_op ?_
      obtain ⟨r_8, h_r_8, hm⟩ := Option.bind_eq_some_iff.1 hm
      refine Op_call [56] 62 [sl A_a a.length c_a, sl A5 (r_7.length + 1) c5] yt_go14 (by kernel_rfl) (c_word_Same a A_a a.length c_a (h_a.cx k_27) rfl hc_a b1 A5 (r_7.length + 1) c5 (k_27.rd 0 rfl) (k_27.len 0 rfl) (k_27.lec 0 rfl) _ h_r_8) ?_
      rintro e_ w_13 ⟨rfl, k_28⟩
      have k_29 := k_27.call k_28
      refine ⟨.b r_8, rfl, ?_⟩
      refine WL_seg 3 [56] [] [(8, .b (!r_8))] [] (by kernel_rfl) trivial ?_
      refine WL_nil ?_
      refine At_go ?_
      refine W_ret ?_
      obtain rfl := Option.some.inj hm
      refine At_ret [] [.b (!r_8)] [] (by kernel_rfl) trivial ?_
      have k_30 : Cx w w_13 [] := (k_29.drop 0)
      exact ⟨rfl, k_30⟩
    · rw [if_neg (of_decide_eq_false hg1)] at hm
      refine WL_seg 9 [56] [] [(8, .b false)] [] (by kernel_rfl) trivial ?_
      refine WL_nil ?_
      refine At_go ?_
      refine W_ret ?_
      obtain rfl := Option.some.inj hm
      refine At_ret [] [.b false] [] (by kernel_rfl) trivial ?_
      have k_31 : Cx w w_9 [] := (k_22.drop 0)
      exact ⟨rfl, k_31⟩

-- math/bits.RotateLeft32
noncomputable def m_bits_RotateLeft32 (x : UInt32) (k_ : Int) : Option UInt32 :=
  some ((shl32 x (((UInt64.ofInt k_) &&& 31).toNat)) ||| (shr32 x (((32 : UInt64) - ((UInt64.ofInt k_) &&& 31)).toNat)))
theorem c_bits_RotateLeft32 {w : World} (x : UInt32) (k_ : Int) (r : UInt32) (hm : m_bits_RotateLeft32 x k_ = some r) :
    Calls Try.prog 41 (vals [.u32 x, I k_]) w (fun e w' => e = .returned (SV.val (.u32 r)) ∧ Cx w w' []) := by
  unfold m_bits_RotateLeft32 at hm
  refine calls [.u32 x, I k_] Try.func41 rfl (of_decide_eq_true (by kernel_rfl)) ?_
  have k := Cx.refl w
  refine W_seq ?_
  refine W_quiet [] [] [(0, .u32 x), (1, I k_)] [] (by kernel_rfl) trivial ?_
  refine At_go ?_
  refine W_seq ?_
  refine W_quiet [] [] [(0, .u32 x), (5, .u64 ((UInt64.ofInt k_) &&& 31))] [] (by kernel_rfl) trivial ?_
  refine At_go ?_
  refine W_seq ?_
  refine W_quiet [] [] [(4, .u32 ((shl32 x (((UInt64.ofInt k_) &&& 31).toNat)) ||| (shr32 x (((32 : UInt64) - ((UInt64.ofInt k_) &&& 31)).toNat))))] [] (by kernel_rfl) trivial ?_
  refine At_go ?_
  refine W_ret ?_
  obtain rfl := Option.some.inj hm
  refine At_ret [] [.u32 ((shl32 x (((UInt64.ofInt k_) &&& 31).toNat)) ||| (shr32 x (((32 : UInt64) - ((UInt64.ofInt k_) &&& 31)).toNat)))] [] (by kernel_rfl) trivial ?_
  exact ⟨rfl, k⟩

-- quern/word.Turn32
noncomputable def m_word_Turn32 (w_ : UInt32) (n : Int) : Option UInt32 :=
  Option.bind (m_bits_RotateLeft32 w_ (w64 (32 - (Int.tmod (w64 ((Int.tmod n 32) + 32)) 32)))) fun r_ => some r_
theorem c_word_Turn32 {w : World} (w_ : UInt32) (n : Int) (r : UInt32) (hm : m_word_Turn32 w_ n = some r) :
    Calls Try.prog 17 (vals [.u32 w_, I n]) w (fun e w' => e = .returned (SV.val (.u32 r)) ∧ Cx w w' []) := by
  unfold m_word_Turn32 at hm
  refine calls [.u32 w_, I n] Try.func17 rfl (of_decide_eq_true (by kernel_rfl)) ?_
  have k := Cx.refl w
  refine W_seq ?_
  refine W_quiet [] [] [(0, .u32 w_), (1, I n)] [] (by kernel_rfl) trivial ?_
  refine At_go ?_
  refine W_seq ?_
  refine W_reg ?_
  refine WL_seg 6 [] [] [(5, .u32 w_), (10, I (w64 (32 - (Int.tmod (w64 ((Int.tmod n 32) + 32)) 32))))] [fun w => (32 : Int) ≠ (0 : Int), fun w => (32 : Int) ≠ (0 : Int)] (by kernel_rfl) (⟨by omega, by omega, trivial⟩) ?_
  refine WL_op ?_
  obtain ⟨r_, h_r_, hm⟩ := Option.bind_eq_some_iff.1 hm
  refine Op_call [] 11 [.u32 w_, I (w64 (32 - (Int.tmod (w64 ((Int.tmod n 32) + 32)) 32)))] yt_go41 (by kernel_rfl) (c_bits_RotateLeft32 w_ (w64 (32 - (Int.tmod (w64 ((Int.tmod n 32) + 32)) 32))) _ h_r_) ?_
  rintro e_ w_1 ⟨rfl, k_⟩
  have k_1 := k.call k_
  refine ⟨.u32 r_, rfl, ?_⟩
  refine WL_seg 1 [] [] [(4, .u32 r_)] [] (by kernel_rfl) trivial ?_
  refine WL_nil ?_
  refine At_go ?_
  refine W_ret ?_
  obtain rfl := Option.some.inj hm
  refine At_ret [] [.u32 r_] [] (by kernel_rfl) trivial ?_
  exact ⟨rfl, k_1⟩

-- math/bits.RotateLeft64
noncomputable def m_bits_RotateLeft64 (x : UInt64) (k_ : Int) : Option UInt64 :=
  some ((shl64 x (((UInt64.ofInt k_) &&& 63).toNat)) ||| (shr64 x (((64 : UInt64) - ((UInt64.ofInt k_) &&& 63)).toNat)))
theorem c_bits_RotateLeft64 {w : World} (x : UInt64) (k_ : Int) (r : UInt64) (hm : m_bits_RotateLeft64 x k_ = some r) :
    Calls Try.prog 42 (vals [.u64 x, I k_]) w (fun e w' => e = .returned (SV.val (.u64 r)) ∧ Cx w w' []) := by
  unfold m_bits_RotateLeft64 at hm
  refine calls [.u64 x, I k_] Try.func42 rfl (of_decide_eq_true (by kernel_rfl)) ?_
  have k := Cx.refl w
  refine W_seq ?_
  refine W_quiet [] [] [(0, .u64 x), (1, I k_)] [] (by kernel_rfl) trivial ?_
  refine At_go ?_
  refine W_seq ?_
  refine W_quiet [] [] [(0, .u64 x), (5, .u64 ((UInt64.ofInt k_) &&& 63))] [] (by kernel_rfl) trivial ?_
  refine At_go ?_
  refine W_seq ?_
  refine W_quiet [] [] [(4, .u64 ((shl64 x (((UInt64.ofInt k_) &&& 63).toNat)) ||| (shr64 x (((64 : UInt64) - ((UInt64.ofInt k_) &&& 63)).toNat))))] [] (by kernel_rfl) trivial ?_
  refine At_go ?_
  refine W_ret ?_
  obtain rfl := Option.some.inj hm
  refine At_ret [] [.u64 ((shl64 x (((UInt64.ofInt k_) &&& 63).toNat)) ||| (shr64 x (((64 : UInt64) - ((UInt64.ofInt k_) &&& 63)).toNat)))] [] (by kernel_rfl) trivial ?_
  exact ⟨rfl, k⟩

-- quern/word.Turn64
noncomputable def m_word_Turn64 (w_ : UInt64) (n : Int) : Option UInt64 :=
  Option.bind (m_bits_RotateLeft64 w_ (w64 (64 - (Int.tmod (w64 ((Int.tmod n 64) + 64)) 64)))) fun r_ => some r_
theorem c_word_Turn64 {w : World} (w_ : UInt64) (n : Int) (r : UInt64) (hm : m_word_Turn64 w_ n = some r) :
    Calls Try.prog 18 (vals [.u64 w_, I n]) w (fun e w' => e = .returned (SV.val (.u64 r)) ∧ Cx w w' []) := by
  unfold m_word_Turn64 at hm
  refine calls [.u64 w_, I n] Try.func18 rfl (of_decide_eq_true (by kernel_rfl)) ?_
  have k := Cx.refl w
  refine W_seq ?_
  refine W_quiet [] [] [(0, .u64 w_), (1, I n)] [] (by kernel_rfl) trivial ?_
  refine At_go ?_
  refine W_seq ?_
  refine W_reg ?_
  refine WL_seg 6 [] [] [(5, .u64 w_), (10, I (w64 (64 - (Int.tmod (w64 ((Int.tmod n 64) + 64)) 64))))] [fun w => (64 : Int) ≠ (0 : Int), fun w => (64 : Int) ≠ (0 : Int)] (by kernel_rfl) (⟨by omega, by omega, trivial⟩) ?_
  refine WL_op ?_
  obtain ⟨r_, h_r_, hm⟩ := Option.bind_eq_some_iff.1 hm
  refine Op_call [] 11 [.u64 w_, I (w64 (64 - (Int.tmod (w64 ((Int.tmod n 64) + 64)) 64)))] yt_go42 (by kernel_rfl) (c_bits_RotateLeft64 w_ (w64 (64 - (Int.tmod (w64 ((Int.tmod n 64) + 64)) 64))) _ h_r_) ?_
  rintro e_ w_1 ⟨rfl, k_⟩
  have k_1 := k.call k_
  refine ⟨.u64 r_, rfl, ?_⟩
  refine WL_seg 1 [] [] [(4, .u64 r_)] [] (by kernel_rfl) trivial ?_
  refine WL_nil ?_
  refine At_go ?_
  refine W_ret ?_
  obtain rfl := Option.some.inj hm
  refine At_ret [] [.u64 r_] [] (by kernel_rfl) trivial ?_
  exact ⟨rfl, k_1⟩

-- quern/quernlaw01.WordBack
noncomputable def m_l01_WordBack (w_ : UInt32) (x : UInt64) (n : Int) (m : Int) : Option Bool :=
  Option.bind (m_word_Turn32 1 1) fun r_ => if r_ ≠ 2147483648 then (some false) else (Option.bind (m_word_Turn64 3 1) fun r_1 => if r_1 ≠ 9223372036854775809 then (some false) else (Option.bind (m_word_Turn32 w_ (w64 m)) fun r_2 => Option.bind (m_word_Turn32 r_2 (w64 (0 - (w64 m)))) fun r_3 => if r_3 ≠ w_ then (some false) else (Option.bind (m_word_Turn64 x (w64 m)) fun r_4 => Option.bind (m_word_Turn64 r_4 (w64 (0 - (w64 m)))) fun r_5 => if r_5 ≠ x then (some false) else (Option.bind (m_word_Turn32 w_ (Int.tmod n 64)) fun r_6 => Option.bind (m_word_Turn32 r_6 (w64 m)) fun r_7 => Option.bind (m_word_Turn32 w_ (w64 ((Int.tmod n 64) + (w64 m)))) fun r_8 => if r_7 ≠ r_8 then (some false) else (Option.bind (m_word_Turn64 x (Int.tmod n 64)) fun r_9 => Option.bind (m_word_Turn64 r_9 (w64 m)) fun r_10 => Option.bind (m_word_Turn64 x (w64 ((Int.tmod n 64) + (w64 m)))) fun r_11 => if r_10 ≠ r_11 then (some false) else (Option.bind (m_word_Turn32 (w_ ^^^ 1) (w64 m)) fun r_12 => Option.bind (m_word_Turn32 w_ (w64 m)) fun r_13 => Option.bind (m_word_Turn32 1 (w64 m)) fun r_14 => if r_12 = (r_13 ^^^ r_14) then (Option.bind (m_word_Turn64 (x ^^^ 1) (w64 m)) fun r_15 => Option.bind (m_word_Turn64 x (w64 m)) fun r_16 => Option.bind (m_word_Turn64 1 (w64 m)) fun r_17 => some (decide (r_15 = (r_16 ^^^ r_17)))) else (some false)))))))
theorem c_l01_WordBack {w : World} (w_ : UInt32) (x : UInt64) (n : Int) (m : Int) (r : Bool) (hm : m_l01_WordBack w_ x n m = some r) :
    Calls Try.prog 4 (vals [.u32 w_, .u64 x, I n, .i .i8 m]) w (fun e w' => e = .returned (SV.val (.b r)) ∧ Cx w w' []) := by
  unfold m_l01_WordBack at hm
  refine calls [.u32 w_, .u64 x, I n, .i .i8 m] Try.func4 rfl (of_decide_eq_true (by kernel_rfl)) ?_
  have k := Cx.refl w
  refine W_seq ?_
  refine W_quiet [] [] [(0, .u32 w_), (1, .u64 x), (2, I n), (3, .i .i8 m)] [] (by kernel_rfl) trivial ?_
  refine At_go ?_
  refine W_seq ?_
  refine W_quiet [] [] [(0, .u32 w_), (1, .u64 x), (2, I n), (9, I (w64 m))] [] (by kernel_rfl) trivial ?_
  refine At_go ?_
  refine W_seq ?_
  refine W_seq ?_
  refine W_reg ?_
  refine WL_op ?_
  obtain ⟨r_, h_r_, hm⟩ := Option.bind_eq_some_iff.1 hm
  refine Op_call [] 12 [.u32 1, I 1] yt_go17 (by kernel_rfl) (c_word_Turn32 1 1 _ h_r_) ?_
  rintro e_ w_1 ⟨rfl, k_⟩
  have k_1 := k.call k_
  refine ⟨.u32 r_, rfl, ?_⟩
  refine WL_seg 2 [] [] [(0, .u32 w_), (1, .u64 x), (2, I n), (9, I (w64 m)), (14, .b (decide (r_ ≠ 2147483648)))] [] (by kernel_rfl) trivial ?_
  refine WL_split 14 (decide (r_ ≠ 2147483648)) [(0, .u32 w_), (1, .u64 x), (2, I n), (9, I (w64 m)), (14, .b true)] [(0, .u32 w_), (1, .u64 x), (2, I n), (9, I (w64 m)), (14, .b false)] (by kernel_rfl) (by kernel_rfl) (by kernel_rfl) (fun hg => ?_) (fun hg => ?_)
  · rw [if_pos (of_decide_eq_true hg)] at hm
    refine WL_seg 3 [14] [] [(0, .u32 w_), (1, .u64 x), (2, I n), (9, I (w64 m)), (17, .b true)] [] (by kernel_rfl) trivial ?_
    refine WL_nil ?_
    refine At_go ?_
    refine W_cond true (by kernel_rfl) (fun _ => ?_) (fun h => by cases h)
    refine W_seq ?_
    refine W_quiet [] [] [(8, .b false)] [] (by kernel_rfl) trivial ?_
    refine At_go ?_
    refine W_ret (At_tr ?_)
    obtain rfl := Option.some.inj hm
    refine At_ret [] [.b false] [] (by kernel_rfl) trivial ?_
    exact ⟨rfl, k_1⟩
  · rw [if_neg (of_decide_eq_false hg)] at hm
    refine WL_op ?_
    obtain ⟨r_1, h_r_1, hm⟩ := Option.bind_eq_some_iff.1 hm
    refine Op_call [14] 15 [.u64 3, I 1] yt_go18 (by kernel_rfl) (c_word_Turn64 3 1 _ h_r_1) ?_
    rintro e_ w_2 ⟨rfl, k_2⟩
    have k_3 := k_1.call k_2
    refine ⟨.u64 r_1, rfl, ?_⟩
    refine WL_seg 2 [14] [] [(0, .u32 w_), (1, .u64 x), (2, I n), (9, I (w64 m)), (17, .b (decide (r_1 ≠ 9223372036854775809)))] [] (by kernel_rfl) trivial ?_
    refine WL_nil ?_
    refine At_go ?_
    refine W_condp (r_1 ≠ 9223372036854775809) (by kernel_rfl) (fun hc => ?_) (fun hc => ?_)
    · rw [if_pos hc] at hm
      refine W_seq ?_
      refine W_quiet [] [] [(8, .b false)] [] (by kernel_rfl) trivial ?_
      refine At_go ?_
      refine W_ret (At_tr ?_)
      obtain rfl := Option.some.inj hm
      refine At_ret [] [.b false] [] (by kernel_rfl) trivial ?_
      exact ⟨rfl, k_3⟩
    rw [if_neg hc] at hm
    refine W_skip ?_
    refine At_go ?_
    refine W_seq ?_
    refine W_seq ?_
    refine W_reg ?_
    refine WL_seg 2 [] [] [(0, .u32 w_), (1, .u64 x), (2, I n), (9, I (w64 m)), (18, .u32 w_), (19, I (w64 m))] [] (by kernel_rfl) trivial ?_
    refine WL_op ?_
    obtain ⟨r_2, h_r_2, hm⟩ := Option.bind_eq_some_iff.1 hm
    refine Op_call [] 20 [.u32 w_, I (w64 m)] yt_go17 (by kernel_rfl) (c_word_Turn32 w_ (w64 m) _ h_r_2) ?_
    rintro e_ w_3 ⟨rfl, k_4⟩
    have k_5 := k_3.call k_4
    refine ⟨.u32 r_2, rfl, ?_⟩
    refine WL_seg 2 [] [] [(0, .u32 w_), (1, .u64 x), (2, I n), (9, I (w64 m)), (20, .u32 r_2), (22, I (w64 (0 - (w64 m))))] [] (by kernel_rfl) trivial ?_
    refine WL_op ?_
    obtain ⟨r_3, h_r_3, hm⟩ := Option.bind_eq_some_iff.1 hm
    refine Op_call [] 23 [.u32 r_2, I (w64 (0 - (w64 m)))] yt_go17 (by kernel_rfl) (c_word_Turn32 r_2 (w64 (0 - (w64 m))) _ h_r_3) ?_
    rintro e_ w_4 ⟨rfl, k_6⟩
    have k_7 := k_5.call k_6
    refine ⟨.u32 r_3, rfl, ?_⟩
    refine WL_seg 3 [] [] [(0, .u32 w_), (1, .u64 x), (2, I n), (9, I (w64 m)), (26, .b (decide (r_3 ≠ w_)))] [] (by kernel_rfl) trivial ?_
    refine WL_split 26 (decide (r_3 ≠ w_)) [(0, .u32 w_), (1, .u64 x), (2, I n), (9, I (w64 m)), (26, .b true)] [(0, .u32 w_), (1, .u64 x), (2, I n), (9, I (w64 m)), (26, .b false)] (by kernel_rfl) (by kernel_rfl) (by kernel_rfl) (fun hg1 => ?_) (fun hg1 => ?_)
    · rw [if_pos (of_decide_eq_true hg1)] at hm
      refine WL_seg 9 [26] [] [(0, .u32 w_), (1, .u64 x), (2, I n), (9, I (w64 m)), (35, .b true)] [] (by kernel_rfl) trivial ?_
      refine WL_nil ?_
      refine At_go ?_
      refine W_cond true (by kernel_rfl) (fun _ => ?_) (fun h => by cases h)
      refine W_seq ?_
      refine W_quiet [] [] [(8, .b false)] [] (by kernel_rfl) trivial ?_
      refine At_go ?_
      refine W_ret (At_tr ?_)
      obtain rfl := Option.some.inj hm
      refine At_ret [] [.b false] [] (by kernel_rfl) trivial ?_
      exact ⟨rfl, k_7⟩
    · rw [if_neg (of_decide_eq_false hg1)] at hm
      refine WL_seg 2 [26] [] [(0, .u32 w_), (1, .u64 x), (2, I n), (9, I (w64 m)), (26, .b false), (27, .u64 x), (28, I (w64 m))] [] (by kernel_rfl) trivial ?_
      refine WL_op ?_
      obtain ⟨r_4, h_r_4, hm⟩ := Option.bind_eq_some_iff.1 hm
      refine Op_call [26] 29 [.u64 x, I (w64 m)] yt_go18 (by kernel_rfl) (c_word_Turn64 x (w64 m) _ h_r_4) ?_
      rintro e_ w_5 ⟨rfl, k_8⟩
      have k_9 := k_7.call k_8
      refine ⟨.u64 r_4, rfl, ?_⟩
      refine WL_seg 2 [26] [] [(0, .u32 w_), (1, .u64 x), (2, I n), (9, I (w64 m)), (26, .b false), (29, .u64 r_4), (31, I (w64 (0 - (w64 m))))] [] (by kernel_rfl) trivial ?_
      refine WL_op ?_
      obtain ⟨r_5, h_r_5, hm⟩ := Option.bind_eq_some_iff.1 hm
      refine Op_call [26] 32 [.u64 r_4, I (w64 (0 - (w64 m)))] yt_go18 (by kernel_rfl) (c_word_Turn64 r_4 (w64 (0 - (w64 m))) _ h_r_5) ?_
      rintro e_ w_6 ⟨rfl, k_10⟩
      have k_11 := k_9.call k_10
      refine ⟨.u64 r_5, rfl, ?_⟩
      refine WL_seg 3 [26] [] [(0, .u32 w_), (1, .u64 x), (2, I n), (9, I (w64 m)), (35, .b (decide (r_5 ≠ x)))] [] (by kernel_rfl) trivial ?_
      refine WL_nil ?_
      refine At_go ?_
      refine W_condp (r_5 ≠ x) (by kernel_rfl) (fun hc1 => ?_) (fun hc1 => ?_)
      · rw [if_pos hc1] at hm
        refine W_seq ?_
        refine W_quiet [] [] [(8, .b false)] [] (by kernel_rfl) trivial ?_
        refine At_go ?_
        refine W_ret (At_tr ?_)
        obtain rfl := Option.some.inj hm
        refine At_ret [] [.b false] [] (by kernel_rfl) trivial ?_
        exact ⟨rfl, k_11⟩
      rw [if_neg hc1] at hm
      refine W_skip ?_
      refine At_go ?_
      refine W_seq ?_
      refine W_seq ?_
      refine W_reg ?_
      refine WL_seg 3 [] [] [(0, .u32 w_), (1, .u64 x), (2, I n), (9, I (w64 m)), (36, .u32 w_), (38, I (Int.tmod n 64))] [fun w => (64 : Int) ≠ (0 : Int)] (by kernel_rfl) (⟨by omega, trivial⟩) ?_
      refine WL_op ?_
      obtain ⟨r_6, h_r_6, hm⟩ := Option.bind_eq_some_iff.1 hm
      refine Op_call [] 39 [.u32 w_, I (Int.tmod n 64)] yt_go17 (by kernel_rfl) (c_word_Turn32 w_ (Int.tmod n 64) _ h_r_6) ?_
      rintro e_ w_7 ⟨rfl, k_12⟩
      have k_13 := k_11.call k_12
      refine ⟨.u32 r_6, rfl, ?_⟩
      refine WL_seg 1 [] [] [(0, .u32 w_), (1, .u64 x), (2, I n), (9, I (w64 m)), (39, .u32 r_6), (40, I (w64 m))] [] (by kernel_rfl) trivial ?_
      refine WL_op ?_
      obtain ⟨r_7, h_r_7, hm⟩ := Option.bind_eq_some_iff.1 hm
      refine Op_call [] 41 [.u32 r_6, I (w64 m)] yt_go17 (by kernel_rfl) (c_word_Turn32 r_6 (w64 m) _ h_r_7) ?_
      rintro e_ w_8 ⟨rfl, k_14⟩
      have k_15 := k_13.call k_14
      refine ⟨.u32 r_7, rfl, ?_⟩
      refine WL_seg 5 [] [] [(0, .u32 w_), (1, .u64 x), (2, I n), (9, I (w64 m)), (41, .u32 r_7), (42, .u32 w_), (46, I (w64 ((Int.tmod n 64) + (w64 m))))] [fun w => (64 : Int) ≠ (0 : Int)] (by kernel_rfl) (⟨by omega, trivial⟩) ?_
      refine WL_op ?_
      obtain ⟨r_8, h_r_8, hm⟩ := Option.bind_eq_some_iff.1 hm
      refine Op_call [] 47 [.u32 w_, I (w64 ((Int.tmod n 64) + (w64 m)))] yt_go17 (by kernel_rfl) (c_word_Turn32 w_ (w64 ((Int.tmod n 64) + (w64 m))) _ h_r_8) ?_
      rintro e_ w_9 ⟨rfl, k_16⟩
      have k_17 := k_15.call k_16
      refine ⟨.u32 r_8, rfl, ?_⟩
      refine WL_seg 2 [] [] [(0, .u32 w_), (1, .u64 x), (2, I n), (9, I (w64 m)), (49, .b (decide (r_7 ≠ r_8)))] [] (by kernel_rfl) trivial ?_
      refine WL_split 49 (decide (r_7 ≠ r_8)) [(0, .u32 w_), (1, .u64 x), (2, I n), (9, I (w64 m)), (49, .b true)] [(0, .u32 w_), (1, .u64 x), (2, I n), (9, I (w64 m)), (49, .b false)] (by kernel_rfl) (by kernel_rfl) (by kernel_rfl) (fun hg2 => ?_) (fun hg2 => ?_)
      · rw [if_pos (of_decide_eq_true hg2)] at hm
        refine WL_seg 14 [49] [] [(0, .u32 w_), (1, .u64 x), (9, I (w64 m)), (63, .b true)] [] (by kernel_rfl) trivial ?_
        refine WL_nil ?_
        refine At_go ?_
        refine W_cond true (by kernel_rfl) (fun _ => ?_) (fun h => by cases h)
        refine W_seq ?_
        refine W_quiet [] [] [(8, .b false)] [] (by kernel_rfl) trivial ?_
        refine At_go ?_
        refine W_ret (At_tr ?_)
        obtain rfl := Option.some.inj hm
        refine At_ret [] [.b false] [] (by kernel_rfl) trivial ?_
        exact ⟨rfl, k_17⟩
      · rw [if_neg (of_decide_eq_false hg2)] at hm
        refine WL_seg 3 [49] [] [(0, .u32 w_), (1, .u64 x), (2, I n), (9, I (w64 m)), (49, .b false), (50, .u64 x), (52, I (Int.tmod n 64))] [fun w => (64 : Int) ≠ (0 : Int)] (by kernel_rfl) (⟨by omega, trivial⟩) ?_
        refine WL_op ?_
        obtain ⟨r_9, h_r_9, hm⟩ := Option.bind_eq_some_iff.1 hm
        refine Op_call [49] 53 [.u64 x, I (Int.tmod n 64)] yt_go18 (by kernel_rfl) (c_word_Turn64 x (Int.tmod n 64) _ h_r_9) ?_
        rintro e_ w_10 ⟨rfl, k_18⟩
        have k_19 := k_17.call k_18
        refine ⟨.u64 r_9, rfl, ?_⟩
        refine WL_seg 1 [49] [] [(0, .u32 w_), (1, .u64 x), (2, I n), (9, I (w64 m)), (49, .b false), (53, .u64 r_9), (54, I (w64 m))] [] (by kernel_rfl) trivial ?_
        refine WL_op ?_
        obtain ⟨r_10, h_r_10, hm⟩ := Option.bind_eq_some_iff.1 hm
        refine Op_call [49] 55 [.u64 r_9, I (w64 m)] yt_go18 (by kernel_rfl) (c_word_Turn64 r_9 (w64 m) _ h_r_10) ?_
        rintro e_ w_11 ⟨rfl, k_20⟩
        have k_21 := k_19.call k_20
        refine ⟨.u64 r_10, rfl, ?_⟩
        refine WL_seg 5 [49] [] [(0, .u32 w_), (1, .u64 x), (9, I (w64 m)), (49, .b false), (55, .u64 r_10), (56, .u64 x), (60, I (w64 ((Int.tmod n 64) + (w64 m))))] [fun w => (64 : Int) ≠ (0 : Int)] (by kernel_rfl) (⟨by omega, trivial⟩) ?_
        refine WL_op ?_
        obtain ⟨r_11, h_r_11, hm⟩ := Option.bind_eq_some_iff.1 hm
        refine Op_call [49] 61 [.u64 x, I (w64 ((Int.tmod n 64) + (w64 m)))] yt_go18 (by kernel_rfl) (c_word_Turn64 x (w64 ((Int.tmod n 64) + (w64 m))) _ h_r_11) ?_
        rintro e_ w_12 ⟨rfl, k_22⟩
        have k_23 := k_21.call k_22
        refine ⟨.u64 r_11, rfl, ?_⟩
        refine WL_seg 2 [49] [] [(0, .u32 w_), (1, .u64 x), (9, I (w64 m)), (63, .b (decide (r_10 ≠ r_11)))] [] (by kernel_rfl) trivial ?_
        refine WL_nil ?_
        refine At_go ?_
        refine W_condp (r_10 ≠ r_11) (by kernel_rfl) (fun hc2 => ?_) (fun hc2 => ?_)
        · rw [if_pos hc2] at hm
          refine W_seq ?_
          refine W_quiet [] [] [(8, .b false)] [] (by kernel_rfl) trivial ?_
          refine At_go ?_
          refine W_ret (At_tr ?_)
          obtain rfl := Option.some.inj hm
          refine At_ret [] [.b false] [] (by kernel_rfl) trivial ?_
          exact ⟨rfl, k_23⟩
        rw [if_neg hc2] at hm
        refine W_skip ?_
        refine At_go ?_
        refine W_seq ?_
        refine W_reg ?_
        refine WL_seg 3 [] [] [(0, .u32 w_), (1, .u64 x), (9, I (w64 m)), (65, .u32 (w_ ^^^ 1)), (66, I (w64 m))] [] (by kernel_rfl) trivial ?_
        refine WL_op ?_
        obtain ⟨r_12, h_r_12, hm⟩ := Option.bind_eq_some_iff.1 hm
        refine Op_call [] 67 [.u32 (w_ ^^^ 1), I (w64 m)] yt_go17 (by kernel_rfl) (c_word_Turn32 (w_ ^^^ 1) (w64 m) _ h_r_12) ?_
        rintro e_ w_13 ⟨rfl, k_24⟩
        have k_25 := k_23.call k_24
        refine ⟨.u32 r_12, rfl, ?_⟩
        refine WL_seg 2 [] [] [(1, .u64 x), (9, I (w64 m)), (67, .u32 r_12), (68, .u32 w_), (69, I (w64 m))] [] (by kernel_rfl) trivial ?_
        refine WL_op ?_
        obtain ⟨r_13, h_r_13, hm⟩ := Option.bind_eq_some_iff.1 hm
        refine Op_call [] 70 [.u32 w_, I (w64 m)] yt_go17 (by kernel_rfl) (c_word_Turn32 w_ (w64 m) _ h_r_13) ?_
        rintro e_ w_14 ⟨rfl, k_26⟩
        have k_27 := k_25.call k_26
        refine ⟨.u32 r_13, rfl, ?_⟩
        refine WL_seg 1 [] [] [(1, .u64 x), (9, I (w64 m)), (67, .u32 r_12), (70, .u32 r_13), (71, I (w64 m))] [] (by kernel_rfl) trivial ?_
        refine WL_op ?_
        obtain ⟨r_14, h_r_14, hm⟩ := Option.bind_eq_some_iff.1 hm
        refine Op_call [] 72 [.u32 1, I (w64 m)] yt_go17 (by kernel_rfl) (c_word_Turn32 1 (w64 m) _ h_r_14) ?_
        rintro e_ w_15 ⟨rfl, k_28⟩
        have k_29 := k_27.call k_28
        refine ⟨.u32 r_14, rfl, ?_⟩
        refine WL_seg 3 [] [] [(1, .u64 x), (9, I (w64 m)), (75, .b (decide (r_12 = (r_13 ^^^ r_14))))] [] (by kernel_rfl) trivial ?_
        refine WL_split 75 (decide (r_12 = (r_13 ^^^ r_14))) [(1, .u64 x), (9, I (w64 m)), (75, .b true)] [(1, .u64 x), (9, I (w64 m)), (75, .b false)] (by kernel_rfl) (by kernel_rfl) (by kernel_rfl) (fun hg3 => ?_) (fun hg3 => ?_)
        · rw [if_pos (of_decide_eq_true hg3)] at hm
          refine WL_seg 3 [75] [] [(1, .u64 x), (9, I (w64 m)), (75, .b true), (77, .u64 (x ^^^ 1)), (78, I (w64 m))] [] (by kernel_rfl) trivial ?_
          refine WL_op ?_
          obtain ⟨r_15, h_r_15, hm⟩ := Option.bind_eq_some_iff.1 hm
          refine Op_call [75] 79 [.u64 (x ^^^ 1), I (w64 m)] yt_go18 (by kernel_rfl) (c_word_Turn64 (x ^^^ 1) (w64 m) _ h_r_15) ?_
          rintro e_ w_16 ⟨rfl, k_30⟩
          have k_31 := k_29.call k_30
          refine ⟨.u64 r_15, rfl, ?_⟩
          refine WL_seg 2 [75] [] [(9, I (w64 m)), (75, .b true), (79, .u64 r_15), (80, .u64 x), (81, I (w64 m))] [] (by kernel_rfl) trivial ?_
          refine WL_op ?_
          obtain ⟨r_16, h_r_16, hm⟩ := Option.bind_eq_some_iff.1 hm
          refine Op_call [75] 82 [.u64 x, I (w64 m)] yt_go18 (by kernel_rfl) (c_word_Turn64 x (w64 m) _ h_r_16) ?_
          rintro e_ w_17 ⟨rfl, k_32⟩
          have k_33 := k_31.call k_32
          refine ⟨.u64 r_16, rfl, ?_⟩
          refine WL_seg 1 [75] [] [(75, .b true), (79, .u64 r_15), (82, .u64 r_16), (83, I (w64 m))] [] (by kernel_rfl) trivial ?_
          refine WL_op ?_
          obtain ⟨r_17, h_r_17, hm⟩ := Option.bind_eq_some_iff.1 hm
          refine Op_call [75] 84 [.u64 1, I (w64 m)] yt_go18 (by kernel_rfl) (c_word_Turn64 1 (w64 m) _ h_r_17) ?_
          rintro e_ w_18 ⟨rfl, k_34⟩
          have k_35 := k_33.call k_34
          refine ⟨.u64 r_17, rfl, ?_⟩
          refine WL_seg 4 [75] [] [(8, .b (decide (r_15 = (r_16 ^^^ r_17))))] [] (by kernel_rfl) trivial ?_
          refine WL_nil ?_
          refine At_go ?_
          refine W_ret ?_
          obtain rfl := Option.some.inj hm
          refine At_ret [] [.b (decide (r_15 = (r_16 ^^^ r_17)))] [] (by kernel_rfl) trivial ?_
          exact ⟨rfl, k_35⟩
        · rw [if_neg (of_decide_eq_false hg3)] at hm
          refine WL_seg 13 [75] [] [(8, .b false)] [] (by kernel_rfl) trivial ?_
          refine WL_nil ?_
          refine At_go ?_
          refine W_ret ?_
          obtain rfl := Option.some.inj hm
          refine At_ret [] [.b false] [] (by kernel_rfl) trivial ?_
          exact ⟨rfl, k_29⟩

-- quern/word.Add
noncomputable def m_word_Add (c_Lo : UInt64) (c_Hi : UInt64) (n : UInt64) : Option ((UInt64 × UInt64) × Bool) :=
  Option.bind (add64 c_Lo n 0) fun r_ => Option.bind (add64 c_Hi 0 r_.2) fun r_1 => some ((r_.1, r_1.1), decide (r_1.2 = 1))
theorem c_word_Add {w : World} (c_Lo : UInt64) (c_Hi : UInt64) (n : UInt64) (r : (UInt64 × UInt64) × Bool) (hm : m_word_Add c_Lo c_Hi n = some r) :
    Calls Try.prog 19 (vals [.agg [.u64 c_Lo, .u64 c_Hi], .u64 n]) w (fun e w' => e = .returned (SV.val (.tup [.agg [.u64 r.1.1, .u64 r.1.2], .b r.2])) ∧ Cx w w' []) := by
  unfold m_word_Add at hm
  refine calls [.agg [.u64 c_Lo, .u64 c_Hi], .u64 n] Try.func19 rfl (of_decide_eq_true (by kernel_rfl)) ?_
  have k := Cx.refl w
  refine W_seq ?_
  refine W_reg ?_
  refine WL_op ?_
  refine Op_box [] 2 (.agg [.u64 c_Lo, .u64 c_Hi]) [.u64 c_Lo, .u64 c_Hi] (SV.vals [.u64 c_Lo, .u64 c_Hi]) (by kernel_rfl) rfl k ?_
  intro g w_ k_
  refine WL_op ?_
  refine Op_alloc [] 4 [.u64 0, .u64 0] (SV.vals [.u64 0, .u64 0]) (by kernel_rfl) rfl k_ ?_
  intro g1 w_1 k_1
  refine WL_seg 1 [] [] [(1, .u64 n), (2, pt g 0), (4, pt g1 0)] [] (by kernel_rfl) trivial ?_
  refine WL_nil ?_
  refine At_go ?_
  refine W_seq ?_
  refine W_reg ?_
  refine WL_seg 3 [] [.u64 c_Lo] [(2, pt g 0), (4, pt g1 0), (12, .u64 c_Lo), (13, .u64 n)] [fun w => ∃ a, some (⟨g, 0, none⟩ : Addr) = some a ∧ w.cell? a = some (SV.val (.u64 c_Lo))] (by kernel_rfl) (⟨⟨_, rfl, k_1.bxc 0 rfl 0 rfl⟩, trivial⟩) ?_
  refine WL_op ?_
  obtain ⟨r_, h_r_, hm⟩ := Option.bind_eq_some_iff.1 hm
  refine Op_add64 yt_add43 [] 14 c_Lo n 0 (by kernel_rfl) h_r_ ?_
  refine WL_seg 5 [] [] [(2, pt g 0), (4, pt g1 0), (6, .u64 r_.1), (7, .u64 r_.2)] [] (by kernel_rfl) trivial ?_
  refine WL_nil ?_
  refine At_go ?_
  refine W_seq ?_
  refine W_reg ?_
  refine WL_seg 3 [] [.u64 c_Hi] [(4, pt g1 0), (6, .u64 r_.1), (19, .u64 c_Hi), (20, .u64 r_.2)] [fun w => ∃ a, some (⟨g, 1, none⟩ : Addr) = some a ∧ w.cell? a = some (SV.val (.u64 c_Hi))] (by kernel_rfl) (⟨⟨_, rfl, k_1.bxc 0 rfl 1 rfl⟩, trivial⟩) ?_
  refine WL_op ?_
  obtain ⟨r_1, h_r_1, hm⟩ := Option.bind_eq_some_iff.1 hm
  refine Op_add64 yt_add43 [] 21 c_Hi 0 r_.2 (by kernel_rfl) h_r_1 ?_
  refine WL_seg 5 [] [] [(4, pt g1 0), (6, .u64 r_.1), (8, .u64 r_1.1), (9, .u64 r_1.2)] [] (by kernel_rfl) trivial ?_
  refine WL_nil ?_
  refine At_go ?_
  refine W_seq ?_
  refine W_reg ?_
  refine WL_seg 5 [] [] [(4, pt g1 0), (26, .agg [.u64 r_.1, .u64 r_1.1]), (28, .b (decide (r_1.2 = 1)))] [] (by kernel_rfl) trivial ?_
  refine WL_op ?_
  refine Op_bsetA [] 1 0 [.u64 r_.1, .u64 r_1.1] (by kernel_rfl) k_1 rfl ?_
  intro w_2 k_2x
  have k_2 : Cx w w_2 [Bx 33 g (SV.vals [.u64 c_Lo, .u64 c_Hi]), Bx 33 g1 (SV.vals [.u64 r_.1, .u64 r_1.1])] := k_2x
  refine WL_seg 1 [] [] [(4, pt g1 0), (5, .b (decide (r_1.2 = 1)))] [] (by kernel_rfl) trivial ?_
  refine WL_nil ?_
  refine At_go ?_
  refine W_ret ?_
  obtain rfl := Option.some.inj hm
  refine At_ret [.agg [.u64 r_.1, .u64 r_1.1]] [.agg [.u64 r_.1, .u64 r_1.1], .b (decide (r_1.2 = 1))] [fun w => Rd w (some ⟨g1, 0, none⟩) (SV.vals [.u64 r_.1, .u64 r_1.1])] (by kernel_rfl) (⟨k_2.bxr 1 rfl 0 2, trivial⟩) ?_
  have k_3 : Cx w w_2 [] := ((k_2.drop 1).drop 0)
  exact ⟨rfl, k_3⟩

-- quern/word.Store32
noncomputable def m_word_Store32 (w_ : UInt32) : Option (List UInt8) :=
  some ([UInt8.ofNat w_.toNat, UInt8.ofNat (shr32 w_ ((8 : UInt64).toNat)).toNat, UInt8.ofNat (shr32 w_ ((16 : UInt64).toNat)).toNat, UInt8.ofNat (shr32 w_ ((24 : UInt64).toNat)).toNat] : List UInt8)
theorem c_word_Store32 {w : World} (w_ : UInt32) (r : List UInt8) (hm : m_word_Store32 w_ = some r) :
    Calls Try.prog 20 (vals [.u32 w_]) w (fun e w' => ∃ A90 nA90 c90, r.length = nA90 ∧ e = .returned (SV.val (sl A90 nA90 c90)) ∧ Cx w w' [OwS 5 bV A90 nA90 c90 r]) := by
  unfold m_word_Store32 at hm
  refine calls [.u32 w_] Try.func20 rfl (of_decide_eq_true (by kernel_rfl)) ?_
  have k := Cx.refl w
  refine W_seq ?_
  refine W_quiet [] [] [(0, .u32 w_)] [] (by kernel_rfl) trivial ?_
  refine At_go ?_
  refine W_seq ?_
  refine W_reg ?_
  refine WL_seg 11 [] [] [(4, .u8 (UInt8.ofNat w_.toNat)), (7, .u8 (UInt8.ofNat (shr32 w_ ((8 : UInt64).toNat)).toNat)), (10, .u8 (UInt8.ofNat (shr32 w_ ((16 : UInt64).toNat)).toNat)), (13, .u8 (UInt8.ofNat (shr32 w_ ((24 : UInt64).toNat)).toNat))] [] (by kernel_rfl) trivial ?_
  refine WL_op ?_
  refine Op_mk yt_tf22 bV [] 14 ([UInt8.ofNat w_.toNat, UInt8.ofNat (shr32 w_ ((8 : UInt64).toNat)).toNat, UInt8.ofNat (shr32 w_ ((16 : UInt64).toNat)).toNat, UInt8.ofNat (shr32 w_ ((24 : UInt64).toNat)).toNat] : List UInt8) [(0, .u8 (UInt8.ofNat w_.toNat)), (1, .u8 (UInt8.ofNat (shr32 w_ ((8 : UInt64).toNat)).toNat)), (2, .u8 (UInt8.ofNat (shr32 w_ ((16 : UInt64).toNat)).toNat)), (3, .u8 (UInt8.ofNat (shr32 w_ ((24 : UInt64).toNat)).toNat))] [.u8 (UInt8.ofNat w_.toNat), .u8 (UInt8.ofNat (shr32 w_ ((8 : UInt64).toNat)).toNat), .u8 (UInt8.ofNat (shr32 w_ ((16 : UInt64).toNat)).toNat), .u8 (UInt8.ofNat (shr32 w_ ((24 : UInt64).toNat)).toNat)] (by kernel_rfl) (by kernel_rfl) (by kernel_rfl) k ?_
  intro A w_1 k_
  refine WL_seg 1 [] [] [(2, sl A 4 4)] [] (by kernel_rfl) trivial ?_
  refine WL_nil ?_
  refine At_go ?_
  refine W_ret ?_
  obtain rfl := Option.some.inj hm
  refine At_ret [] [sl A 4 4] [] (by kernel_rfl) trivial ?_
  exact ⟨A, _, 4, k_.len 0 rfl, rfl, k_⟩

-- quern/word.Store64
noncomputable def m_word_Store64_l0 (w_ : UInt64) : ((List UInt8) × Int) → Option (((List UInt8) × Int) ⊕ (List UInt8))
  | (b1, x2) => if x2 < 8 then (Option.bind (need (0 ≤ w64 (8 * x2))) fun u => Option.bind (geti b1 x2) fun x3 => some (.inl (b1.set (Int.toNat x2) (UInt8.ofNat (shr64 w_ (Int.toNat (w64 (8 * x2)))).toNat), w64 (x2 + 1)))) else (Option.map Sum.inr (some b1))
noncomputable def m_word_Store64 (w_ : UInt64) : Option (List UInt8) :=
  whileO (m_word_Store64_l0 w_) (List.replicate (Int.toNat 8) (0 : UInt8), 0)
theorem c_word_Store64 {w : World} (w_ : UInt64) (r : List UInt8) (hm : m_word_Store64 w_ = some r) :
    Calls Try.prog 21 (vals [.u64 w_]) w (fun e w' => ∃ A90 nA90 c90, r.length = nA90 ∧ e = .returned (SV.val (sl A90 nA90 c90)) ∧ Cx w w' [OwS 5 bV A90 nA90 c90 r]) := by
  unfold m_word_Store64 at hm
  refine calls [.u64 w_] Try.func21 rfl (of_decide_eq_true (by kernel_rfl)) ?_
  have k := Cx.refl w
  refine W_seq ?_
  refine W_quiet [] [] [(0, .u64 w_)] [] (by kernel_rfl) trivial ?_
  refine At_go ?_
  refine W_seq ?_
  refine W_reg ?_
  refine WL_op ?_
  refine Op_make yt_tf22 bV (0 : UInt8) rfl [] 5 (I 8) (I 8) 8 8 (by kernel_rfl) (by omega) (by omega) (by omega) k ?_
  intro A w_1 k_
  refine WL_seg 1 [] [] [(0, .u64 w_), (3, sl A (Int.toNat 8) (Int.toNat 8))] [] (by kernel_rfl) trivial ?_
  refine WL_nil ?_
  refine At_go ?_
  refine W_seq ?_
  refine W_seq ?_
  refine W_quiet [] [] [(0, .u64 w_), (3, sl A (Int.toNat 8) (Int.toNat 8)), (6, I 0)] [] (by kernel_rfl) trivial ?_
  refine At_go ?_
  refine W_block ?_
  refine W_forget [(0, .u64 w_), (3, sl A (Int.toNat 8) (Int.toNat 8)), (6, I 0)] (by kernel_rfl) ?_
  refine W_loop (m_word_Store64_l0 w_) (fun s L wr => ∃ (b1 : List UInt8) (x2 : Int) (A2 : Option Addr) (n1 : Nat) (c1 : Nat), (b1, x2) = s ∧ L = [(0, .u64 w_), (3, sl A2 n1 c1), (6, I x2)] ∧ b1.length = n1 ∧ Cx w wr [OwS 5 bV A2 n1 c1 b1]) (List.replicate (Int.toNat 8) (0 : UInt8), 0) r hm ⟨List.replicate (Int.toNat 8) (0 : UInt8), 0, A, Int.toNat 8, Int.toNat 8, rfl, rfl, k_.len 0 rfl, k_⟩ ?_
  intro s0_ L_ w_3 y0 hrel hstep hr0
  obtain ⟨b1, x2, A2, _, c1, rfl, rfl, rfl, k_2⟩ := hrel
  have hm := hstep; simp only [m_word_Store64_l0] at hm
  clear hstep
  refine W_seq ?_
  refine W_quiet [] [] [(0, .u64 w_), (3, sl A2 b1.length c1), (6, I x2), (7, .b (decide (x2 < 8)))] [] (by kernel_rfl) trivial ?_
  refine At_go ?_
  refine W_seq ?_
  refine W_condp (x2 < 8) (by kernel_rfl) (fun hc1 => ?_) (fun hc1 => ?_)
  · rw [if_pos hc1] at hm
    refine W_skip ?_
    refine At_go ?_
    refine W_seq ?_
    refine W_block ?_
    refine W_seq ?_
    refine W_quiet [] [] [(0, .u64 w_), (3, sl A2 b1.length c1), (4, I x2), (6, I x2)] [] (by kernel_rfl) trivial ?_
    refine At_go ?_
    refine W_reg ?_
    obtain ⟨u, h_u, hm⟩ := Option.bind_eq_some_iff.1 hm
    obtain ⟨x3, h_x3, hm⟩ := Option.bind_eq_some_iff.1 hm
    refine WL_seg 8 [] [] [(0, .u64 w_), (3, sl A2 b1.length c1), (6, I x2), (15, .u8 (UInt8.ofNat (shr64 w_ (Int.toNat (w64 (8 * x2)))).toNat)), (16, .v (.pointer (ixA A2 x2 1)))] [fun w => 0 ≤ w64 (8 * x2), fun w => 0 ≤ x2 ∧ x2 < ((b1.length : Nat) : Int) ∧ A2.isSome = true] (by kernel_rfl) (⟨need_some h_u, Rd.ix (k_2.rd 0 rfl) h_x3 (k_2.len 0 rfl), trivial⟩) ?_
    refine WL_op ?_
    refine Op_store (φ := bV) one_b [] 0 x2 (UInt8.ofNat (shr64 w_ (Int.toNat (w64 (8 * x2)))).toNat) (.u8 (UInt8.ofNat (shr64 w_ (Int.toNat (w64 (8 * x2)))).toNat)) (by kernel_rfl) rfl k_2 rfl (geti_lt h_x3).1 (by have := (geti_lt h_x3).2; have := k_2.len 0 rfl; omega) ?_
    intro w_4 k_3
    refine WL_nil ?_
    refine At_in ?_
    refine At_go ?_
    refine W_quiet [] [] [(0, .u64 w_), (3, sl A2 b1.length c1), (6, I (w64 (x2 + 1)))] [] (by kernel_rfl) trivial ?_
    refine At_forget [(0, .u64 w_), (3, sl A2 b1.length c1), (6, I (w64 (x2 + 1)))] (by kernel_rfl) ?_
    exact At_round (b1.set (Int.toNat x2) (UInt8.ofNat (shr64 w_ (Int.toNat (w64 (8 * x2)))).toNat), w64 (x2 + 1)) (Option.some.inj hm).symm ⟨b1.set (Int.toNat x2) (UInt8.ofNat (shr64 w_ (Int.toNat (w64 (8 * x2)))).toNat), w64 (x2 + 1), A2, b1.length, c1, rfl, rfl, k_3.len 0 rfl, k_3⟩
  rw [if_neg hc1] at hm
  refine W_exit (At_te (At_te (At_ie ?_)))
  have hm := exit_of hm hr0
  refine At_go ?_
  refine W_seq ?_
  refine W_quiet [] [] [(2, sl A2 b1.length c1)] [] (by kernel_rfl) trivial ?_
  refine At_go ?_
  refine W_ret ?_
  obtain rfl := Option.some.inj hm
  refine At_ret [] [sl A2 b1.length c1] [] (by kernel_rfl) trivial ?_
  exact ⟨A2, _, c1, k_2.len 0 rfl, rfl, k_2⟩

-- quern/quernref01.Store
noncomputable def m_r01_Store_l0 (n : Int) : (UInt64 × (List UInt8) × Int) → Option ((UInt64 × (List UInt8) × Int) ⊕ (List UInt8))
  | (w_4, b2, i1) => if i1 < n then (Option.bind (app b2 ([UInt8.ofNat (w_4 % 256).toNat] : List UInt8) 1) fun b3 => some (.inl (w_4 / 256, b3, w64 (i1 + 1)))) else (Option.map Sum.inr (some b2))
noncomputable def m_r01_Store (w_ : UInt64) (n : Int) : Option (List UInt8) :=
  whileO (m_r01_Store_l0 n) (w_, [], 0)
theorem c_r01_Store {w : World} (w_ : UInt64) (n : Int) (r : List UInt8) (hm : m_r01_Store w_ n = some r) :
    Calls Try.prog 22 (vals [.u64 w_, I n]) w (fun e w' => ∃ A90 nA90 c90, r.length = nA90 ∧ e = .returned (SV.val (sl A90 nA90 c90)) ∧ Cx w w' [OwS 5 bV A90 nA90 c90 r]) := by
  unfold m_r01_Store at hm
  refine calls [.u64 w_, I n] Try.func22 rfl (of_decide_eq_true (by kernel_rfl)) ?_
  have k := Cx.refl w
  refine W_seq ?_
  refine W_quiet [] [] [(0, .u64 w_), (1, I n)] [] (by kernel_rfl) trivial ?_
  refine At_go ?_
  refine W_seq ?_
  refine W_quiet [] [] [(0, .u64 w_), (1, I n), (5, sl none 0 0)] [] (by kernel_rfl) trivial ?_
  refine At_go ?_
  refine W_seq ?_
  refine W_seq ?_
  refine W_quiet [] [] [(0, .u64 w_), (1, I n), (5, sl none 0 0), (6, I 0)] [] (by kernel_rfl) trivial ?_
  refine At_go ?_
  refine W_block ?_
  refine W_forget [(0, .u64 w_), (1, I n), (5, sl none 0 0), (6, I 0)] (by kernel_rfl) ?_
  have k_6 := k.nil 5 bV
  refine W_loop (m_r01_Store_l0 n) (fun s L wr => ∃ (w_4 : UInt64) (b2 : List UInt8) (i1 : Int) (A3 : Option Addr) (n2 : Nat) (c2 : Nat), (w_4, b2, i1) = s ∧ L = [(0, .u64 w_4), (1, I n), (5, sl A3 n2 c2), (6, I i1)] ∧ b2.length = n2 ∧ Cx w wr [OwS 5 bV A3 n2 c2 b2]) (w_, [], 0) r hm ⟨w_, [], 0, none, 0, 0, rfl, rfl, k_6.len 0 rfl, k_6⟩ ?_
  intro s0_ L_ w_5 y0 hrel hstep hr0
  obtain ⟨w_4, b2, i1, A3, _, c2, rfl, rfl, rfl, k_5⟩ := hrel
  have hm := hstep; simp only [m_r01_Store_l0] at hm
  clear hstep
  refine W_seq ?_
  refine W_seq ?_
  refine W_quiet [] [] [(0, .u64 w_4), (1, I n), (5, sl A3 b2.length c2), (6, I i1), (9, .b (decide (i1 < n)))] [] (by kernel_rfl) trivial ?_
  refine At_go ?_
  refine W_condp (i1 < n) (by kernel_rfl) (fun hc1 => ?_) (fun hc1 => ?_)
  · rw [if_pos hc1] at hm
    refine W_skip ?_
    refine At_go ?_
    refine W_seq ?_
    refine W_block ?_
    refine W_seq ?_
    refine W_reg ?_
    refine WL_seg 4 [] [] [(0, .u64 w_4), (1, I n), (5, sl A3 b2.length c2), (6, I i1), (12, sl A3 b2.length c2), (15, .u8 (UInt8.ofNat (w_4 % 256).toNat))] [fun w => (256 : UInt64) ≠ 0] (by kernel_rfl) (⟨(by show (256 : UInt64) ≠ 0; decide), trivial⟩) ?_
    refine WL_op ?_
    refine Op_mk yt_tf22 bV [] 16 ([UInt8.ofNat (w_4 % 256).toNat] : List UInt8) [(0, .u8 (UInt8.ofNat (w_4 % 256).toNat))] [.u8 (UInt8.ofNat (w_4 % 256).toNat)] (by kernel_rfl) (by kernel_rfl) (by kernel_rfl) k_5 ?_
    intro A4 w_6 k_7
    refine WL_op ?_
    obtain ⟨b3, h_b3, hm⟩ := Option.bind_eq_some_iff.1 hm
    obtain ⟨hz1, hl1⟩ := app_some h_b3
    refine Op_append (c2 := 1) yt_tf22 one_b [] 17 0 (by kernel_rfl) k_7 rfl (k_7.len 1 rfl) (k_7.rd 1 rfl) (by have := k_7.len 0 rfl; have := k_7.len 1 rfl; omega) ?_
    intro A5 c3 w_7 k_8
    rw [← hl1] at k_8
    have k_9 : Cx w w_7 [OwS 5 bV A5 (b2.length + 1) c3 b3] := (k_8.drop 1)
    refine WL_seg 1 [] [] [(0, .u64 w_4), (1, I n), (5, sl A5 (b2.length + 1) c3), (6, I i1)] [] (by kernel_rfl) trivial ?_
    refine WL_nil ?_
    refine At_go ?_
    refine W_quiet [] [] [(0, .u64 (w_4 / 256)), (1, I n), (5, sl A5 (b2.length + 1) c3), (6, I i1)] [fun w => (256 : UInt64) ≠ 0] (by kernel_rfl) (⟨(by show (256 : UInt64) ≠ 0; decide), trivial⟩) ?_
    refine At_in ?_
    refine At_go ?_
    refine W_quiet [] [] [(0, .u64 (w_4 / 256)), (1, I n), (5, sl A5 (b2.length + 1) c3), (6, I (w64 (i1 + 1)))] [] (by kernel_rfl) trivial ?_
    refine At_forget [(0, .u64 (w_4 / 256)), (1, I n), (5, sl A5 (b2.length + 1) c3), (6, I (w64 (i1 + 1)))] (by kernel_rfl) ?_
    exact At_round (w_4 / 256, b3, w64 (i1 + 1)) (Option.some.inj hm).symm ⟨w_4 / 256, b3, w64 (i1 + 1), A5, b2.length + 1, c3, rfl, rfl, k_9.len 0 rfl, k_9⟩
  rw [if_neg hc1] at hm
  refine W_exit (At_te (At_te (At_ie ?_)))
  have hm := exit_of hm hr0
  refine At_go ?_
  refine W_seq ?_
  refine W_quiet [] [] [(4, sl A3 b2.length c2)] [] (by kernel_rfl) trivial ?_
  refine At_go ?_
  refine W_ret ?_
  obtain rfl := Option.some.inj hm
  refine At_ret [] [sl A3 b2.length c2] [] (by kernel_rfl) trivial ?_
  exact ⟨A3, _, c2, k_5.len 0 rfl, rfl, k_5⟩

-- quern/word.load
noncomputable def m_word_load_l0 (b : List UInt8) (at_ : Int) (n : Int) : (UInt64 × Int) → Option ((UInt64 × Int) ⊕ (UInt64 × Int))
  | (w_1, x2) => if x2 < n then (Option.bind (geti b (w64 (at_ + x2))) fun x3 => Option.bind (need (0 ≤ w64 (8 * x2))) fun u => some (.inl (w_1 ||| (shl64 (UInt64.ofNat x3.toNat) (Int.toNat (w64 (8 * x2)))), w64 (x2 + 1)))) else (Option.map Sum.inr (some (w_1, 0)))
noncomputable def m_word_load (b : List UInt8) (at_ : Int) (n : Int) : Option (UInt64 × Int) :=
  if at_ < 0 then (some (0, 1)) else (if ((decide (((b.length : Nat) : Int) < at_)) || (decide ((w64 (((b.length : Nat) : Int) - at_)) < n))) = true then (some (0, 3)) else (whileO (m_word_load_l0 b at_ n) (0, 0)))
theorem c_word_load {w : World} (b : List UInt8) (A_b : Option Addr) (n_b c_b : Nat) (h_b : Rd w A_b (b.map bV)) (hn_b : b.length = n_b) (hc_b : n_b ≤ c_b) (at_ : Int) (n : Int) (r : UInt64 × Int) (hm : m_word_load b at_ n = some r) :
    Calls Try.prog 44 (vals [sl A_b n_b c_b, I at_, I n]) w (fun e w' => e = .returned (SV.val (.tup [.u64 r.1, I r.2])) ∧ Cx w w' []) := by
  subst hn_b
  unfold m_word_load at hm
  refine calls [sl A_b b.length c_b, I at_, I n] Try.func44 rfl (of_decide_eq_true (by kernel_rfl)) ?_
  have k := Cx.refl w
  refine W_seq ?_
  refine W_quiet [] [] [(0, sl A_b b.length c_b), (1, I at_), (2, I n)] [] (by kernel_rfl) trivial ?_
  refine At_go ?_
  refine W_seq ?_
  refine W_seq ?_
  refine W_quiet [] [] [(0, sl A_b b.length c_b), (1, I at_), (2, I n), (11, .b (decide (at_ < 0)))] [] (by kernel_rfl) trivial ?_
  refine At_go ?_
  refine W_condp (at_ < 0) (by kernel_rfl) (fun hc => ?_) (fun hc => ?_)
  · rw [if_pos hc] at hm
    refine W_seq ?_
    refine W_quiet [] [] [(6, .u64 0), (7, I 1)] [] (by kernel_rfl) trivial ?_
    refine At_go ?_
    refine W_ret (At_tr ?_)
    obtain rfl := Option.some.inj hm
    refine At_ret [] [.u64 0, I 1] [] (by kernel_rfl) trivial ?_
    exact ⟨rfl, k⟩
  rw [if_neg hc] at hm
  refine W_skip ?_
  refine At_go ?_
  refine W_seq ?_
  refine W_seq ?_
  refine W_quiet [] [] [(0, sl A_b b.length c_b), (1, I at_), (2, I n), (23, .b ((decide (((b.length : Nat) : Int) < at_)) || (decide ((w64 (((b.length : Nat) : Int) - at_)) < n))))] [] (by kernel_rfl) trivial ?_
  refine At_go ?_
  refine W_cond ((decide (((b.length : Nat) : Int) < at_)) || (decide ((w64 (((b.length : Nat) : Int) - at_)) < n))) (by kernel_rfl) (fun hc1 => ?_) (fun hc1 => ?_)
  · rw [if_pos hc1] at hm
    refine W_seq ?_
    refine W_quiet [] [] [(6, .u64 0), (7, I 3)] [] (by kernel_rfl) trivial ?_
    refine At_go ?_
    refine W_ret (At_tr ?_)
    obtain rfl := Option.some.inj hm
    refine At_ret [] [.u64 0, I 3] [] (by kernel_rfl) trivial ?_
    exact ⟨rfl, k⟩
  rw [if_neg (by rw [hc1]; decide)] at hm
  refine W_skip ?_
  refine At_go ?_
  refine W_seq ?_
  refine W_quiet [] [] [(0, sl A_b b.length c_b), (1, I at_), (2, I n), (8, .u64 0)] [] (by kernel_rfl) trivial ?_
  refine At_go ?_
  refine W_seq ?_
  refine W_seq ?_
  refine W_quiet [] [] [(0, sl A_b b.length c_b), (1, I at_), (8, .u64 0), (24, I n), (25, I 0)] [] (by kernel_rfl) trivial ?_
  refine At_go ?_
  refine W_block ?_
  refine W_forget [(0, sl A_b b.length c_b), (1, I at_), (8, .u64 0), (24, I n), (25, I 0)] (by kernel_rfl) ?_
  refine W_loop (m_word_load_l0 b at_ n) (fun s L wr => ∃ (w_1 : UInt64) (x2 : Int), (w_1, x2) = s ∧ L = [(0, sl A_b b.length c_b), (1, I at_), (8, .u64 w_1), (24, I n), (25, I x2)] ∧ Cx w wr []) (0, 0) r hm ⟨0, 0, rfl, rfl, k⟩ ?_
  intro s0_ L_ w_2 y0 hrel hstep hr0
  obtain ⟨w_1, x2, rfl, rfl, k_⟩ := hrel
  have hm := hstep; simp only [m_word_load_l0] at hm
  clear hstep
  refine W_seq ?_
  refine W_quiet [] [] [(0, sl A_b b.length c_b), (1, I at_), (8, .u64 w_1), (24, I n), (25, I x2), (26, .b (decide (x2 < n)))] [] (by kernel_rfl) trivial ?_
  refine At_go ?_
  refine W_seq ?_
  refine W_condp (x2 < n) (by kernel_rfl) (fun hc3 => ?_) (fun hc3 => ?_)
  · rw [if_pos hc3] at hm
    refine W_skip ?_
    refine At_go ?_
    refine W_seq ?_
    refine W_block ?_
    refine W_seq ?_
    refine W_quiet [] [] [(0, sl A_b b.length c_b), (1, I at_), (8, .u64 w_1), (9, I x2), (24, I n), (25, I x2)] [] (by kernel_rfl) trivial ?_
    refine At_go ?_
    obtain ⟨x3, h_x3, hm⟩ := Option.bind_eq_some_iff.1 hm
    obtain ⟨u, h_u, hm⟩ := Option.bind_eq_some_iff.1 hm
    refine W_quiet [] [.u8 x3] [(0, sl A_b b.length c_b), (1, I at_), (8, .u64 (w_1 ||| (shl64 (UInt64.ofNat x3.toNat) (Int.toNat (w64 (8 * x2)))))), (24, I n), (25, I x2)] [fun w => 0 ≤ (w64 (at_ + x2)) ∧ (w64 (at_ + x2)) < ((b.length : Nat) : Int) ∧ A_b.isSome = true, fun w => ∃ a, ixA A_b (w64 (at_ + x2)) 1 = some a ∧ w.cell? a = some (SV.val (.u8 x3)), fun w => 0 ≤ w64 (8 * x2)] (by kernel_rfl) (⟨Rd.ix (h_b.cx k_) h_x3 rfl, Rd.ld (φ := bV) (h_b.cx k_) h_x3, need_some h_u, trivial⟩) ?_
    refine At_in ?_
    refine At_go ?_
    refine W_quiet [] [] [(0, sl A_b b.length c_b), (1, I at_), (8, .u64 (w_1 ||| (shl64 (UInt64.ofNat x3.toNat) (Int.toNat (w64 (8 * x2)))))), (24, I n), (25, I (w64 (x2 + 1)))] [] (by kernel_rfl) trivial ?_
    refine At_forget [(0, sl A_b b.length c_b), (1, I at_), (8, .u64 (w_1 ||| (shl64 (UInt64.ofNat x3.toNat) (Int.toNat (w64 (8 * x2)))))), (24, I n), (25, I (w64 (x2 + 1)))] (by kernel_rfl) ?_
    exact At_round (w_1 ||| (shl64 (UInt64.ofNat x3.toNat) (Int.toNat (w64 (8 * x2)))), w64 (x2 + 1)) (Option.some.inj hm).symm ⟨w_1 ||| (shl64 (UInt64.ofNat x3.toNat) (Int.toNat (w64 (8 * x2)))), w64 (x2 + 1), rfl, rfl, k_⟩
  rw [if_neg hc3] at hm
  refine W_exit (At_te (At_te (At_ie ?_)))
  have hm := exit_of hm hr0
  refine At_go ?_
  refine W_seq ?_
  refine W_quiet [] [] [(6, .u64 w_1), (7, I 0)] [] (by kernel_rfl) trivial ?_
  refine At_go ?_
  refine W_ret ?_
  obtain rfl := Option.some.inj hm
  refine At_ret [] [.u64 w_1, I 0] [] (by kernel_rfl) trivial ?_
  exact ⟨rfl, k_⟩

-- quern/word.Load32
noncomputable def m_word_Load32 (b : List UInt8) (at_ : Int) : Option (UInt32 × Int) :=
  Option.bind (m_word_load b at_ 4) fun r_ => some (UInt32.ofNat r_.1.toNat, r_.2)
theorem c_word_Load32 {w : World} (b : List UInt8) (A_b : Option Addr) (n_b c_b : Nat) (h_b : Rd w A_b (b.map bV)) (hn_b : b.length = n_b) (hc_b : n_b ≤ c_b) (at_ : Int) (r : UInt32 × Int) (hm : m_word_Load32 b at_ = some r) :
    Calls Try.prog 23 (vals [sl A_b n_b c_b, I at_]) w (fun e w' => e = .returned (SV.val (.tup [.u32 r.1, I r.2])) ∧ Cx w w' []) := by
  subst hn_b
  unfold m_word_Load32 at hm
  refine calls [sl A_b b.length c_b, I at_] Try.func23 rfl (of_decide_eq_true (by kernel_rfl)) ?_
  have k := Cx.refl w
  refine W_seq ?_
  refine W_quiet [] [] [(0, sl A_b b.length c_b), (1, I at_)] [] (by kernel_rfl) trivial ?_
  refine At_go ?_
  refine W_seq ?_
  refine W_reg ?_
  refine WL_seg 2 [] [] [(9, sl A_b b.length c_b), (10, I at_)] [] (by kernel_rfl) trivial ?_
  refine WL_op ?_
  obtain ⟨r_, h_r_, hm⟩ := Option.bind_eq_some_iff.1 hm
  refine Op_call [] 11 [sl A_b b.length c_b, I at_, I 4] yt_go44 (by kernel_rfl) (c_word_load b A_b b.length c_b (h_b.cx k) rfl hc_b at_ 4 _ h_r_) ?_
  rintro e_ w_ ⟨rfl, k_⟩
  have k_1 := k.call k_
  refine ⟨.tup [.u64 r_.1, I r_.2], rfl, ?_⟩
  refine WL_seg 5 [] [] [(6, .u64 r_.1), (7, I r_.2)] [] (by kernel_rfl) trivial ?_
  refine WL_nil ?_
  refine At_go ?_
  refine W_seq ?_
  refine W_quiet [] [] [(4, .u32 (UInt32.ofNat r_.1.toNat)), (5, I r_.2)] [] (by kernel_rfl) trivial ?_
  refine At_go ?_
  refine W_ret ?_
  obtain rfl := Option.some.inj hm
  refine At_ret [] [.u32 (UInt32.ofNat r_.1.toNat), I r_.2] [] (by kernel_rfl) trivial ?_
  exact ⟨rfl, k_1⟩

-- quern/word.Load64
noncomputable def m_word_Load64 (b : List UInt8) (at_ : Int) : Option (UInt64 × Int) :=
  Option.bind (m_word_load b at_ 8) fun r_ => some (r_.1, r_.2)
theorem c_word_Load64 {w : World} (b : List UInt8) (A_b : Option Addr) (n_b c_b : Nat) (h_b : Rd w A_b (b.map bV)) (hn_b : b.length = n_b) (hc_b : n_b ≤ c_b) (at_ : Int) (r : UInt64 × Int) (hm : m_word_Load64 b at_ = some r) :
    Calls Try.prog 24 (vals [sl A_b n_b c_b, I at_]) w (fun e w' => e = .returned (SV.val (.tup [.u64 r.1, I r.2])) ∧ Cx w w' []) := by
  subst hn_b
  unfold m_word_Load64 at hm
  refine calls [sl A_b b.length c_b, I at_] Try.func24 rfl (of_decide_eq_true (by kernel_rfl)) ?_
  have k := Cx.refl w
  refine W_seq ?_
  refine W_quiet [] [] [(0, sl A_b b.length c_b), (1, I at_)] [] (by kernel_rfl) trivial ?_
  refine At_go ?_
  refine W_seq ?_
  refine W_reg ?_
  refine WL_seg 2 [] [] [(6, sl A_b b.length c_b), (7, I at_)] [] (by kernel_rfl) trivial ?_
  refine WL_op ?_
  obtain ⟨r_, h_r_, hm⟩ := Option.bind_eq_some_iff.1 hm
  refine Op_call [] 8 [sl A_b b.length c_b, I at_, I 8] yt_go44 (by kernel_rfl) (c_word_load b A_b b.length c_b (h_b.cx k) rfl hc_b at_ 8 _ h_r_) ?_
  rintro e_ w_ ⟨rfl, k_⟩
  have k_1 := k.call k_
  refine ⟨.tup [.u64 r_.1, I r_.2], rfl, ?_⟩
  refine WL_seg 4 [] [] [(4, .u64 r_.1), (5, I r_.2)] [] (by kernel_rfl) trivial ?_
  refine WL_nil ?_
  refine At_go ?_
  refine W_ret ?_
  obtain rfl := Option.some.inj hm
  refine At_ret [] [.u64 r_.1, I r_.2] [] (by kernel_rfl) trivial ?_
  exact ⟨rfl, k_1⟩

-- quern/quernlaw01.WordStores
noncomputable def m_l01_WordStores (w_ : UInt32) (x : UInt64) : Option Bool :=
  Option.bind (m_word_Store32 w_) fun r_ => Option.bind (m_word_Store64 x) fun r_1 => Option.bind (m_r01_Store (UInt64.ofNat w_.toNat) 4) fun r_2 => Option.bind (m_l01_same r_ r_2) fun r_3 => if (!r_3) = true then (some false) else (Option.bind (m_r01_Store x 8) fun r_4 => Option.bind (m_l01_same r_1 r_4) fun r_5 => if (!r_5) = true then (some false) else (Option.bind (m_word_Load32 r_ 0) fun r_6 => Option.bind (m_word_Load64 r_1 0) fun r_7 => some ((((decide (r_6.1 = w_)) && (decide (r_7.1 = x))) && (decide (r_6.2 = 0))) && (decide (r_7.2 = 0)))))
theorem c_l01_WordStores {w : World} (w_ : UInt32) (x : UInt64) (r : Bool) (hm : m_l01_WordStores w_ x = some r) :
    Calls Try.prog 6 (vals [.u32 w_, .u64 x]) w (fun e w' => e = .returned (SV.val (.b r)) ∧ Cx w w' []) := by
  unfold m_l01_WordStores at hm
  refine calls [.u32 w_, .u64 x] Try.func6 rfl (of_decide_eq_true (by kernel_rfl)) ?_
  have k := Cx.refl w
  refine W_seq ?_
  refine W_quiet [] [] [(0, .u32 w_), (1, .u64 x)] [] (by kernel_rfl) trivial ?_
  refine At_go ?_
  refine W_seq ?_
  refine W_reg ?_
  refine WL_seg 1 [] [] [(0, .u32 w_), (1, .u64 x), (11, .u32 w_)] [] (by kernel_rfl) trivial ?_
  refine WL_op ?_
  obtain ⟨r_, h_r_, hm⟩ := Option.bind_eq_some_iff.1 hm
  refine Op_call [] 12 [.u32 w_] yt_go20 (by kernel_rfl) (c_word_Store32 w_ _ h_r_) ?_
  rintro e_ w_1 ⟨A, _, c, rfl, rfl, k_⟩
  have k_1 := k.call k_
  refine ⟨sl A r_.length c, rfl, ?_⟩
  refine WL_seg 1 [] [] [(0, .u32 w_), (1, .u64 x), (5, sl A r_.length c)] [] (by kernel_rfl) trivial ?_
  refine WL_nil ?_
  refine At_go ?_
  refine W_seq ?_
  refine W_reg ?_
  refine WL_seg 1 [] [] [(0, .u32 w_), (1, .u64 x), (5, sl A r_.length c), (13, .u64 x)] [] (by kernel_rfl) trivial ?_
  refine WL_op ?_
  obtain ⟨r_1, h_r_1, hm⟩ := Option.bind_eq_some_iff.1 hm
  refine Op_call [] 14 [.u64 x] yt_go21 (by kernel_rfl) (c_word_Store64 x _ h_r_1) ?_
  rintro e_ w_2 ⟨A1, _, c1, rfl, rfl, k_2⟩
  have k_3 := k_1.call k_2
  refine ⟨sl A1 r_1.length c1, rfl, ?_⟩
  refine WL_seg 1 [] [] [(0, .u32 w_), (1, .u64 x), (5, sl A r_.length c), (6, sl A1 r_1.length c1)] [] (by kernel_rfl) trivial ?_
  refine WL_nil ?_
  refine At_go ?_
  refine W_seq ?_
  refine W_seq ?_
  refine W_reg ?_
  refine WL_seg 3 [] [] [(0, .u32 w_), (1, .u64 x), (5, sl A r_.length c), (6, sl A1 r_1.length c1), (15, sl A r_.length c), (17, .u64 (UInt64.ofNat w_.toNat))] [] (by kernel_rfl) trivial ?_
  refine WL_op ?_
  obtain ⟨r_2, h_r_2, hm⟩ := Option.bind_eq_some_iff.1 hm
  refine Op_call [] 18 [.u64 (UInt64.ofNat w_.toNat), I 4] yt_go22 (by kernel_rfl) (c_r01_Store (UInt64.ofNat w_.toNat) 4 _ h_r_2) ?_
  rintro e_ w_3 ⟨A2, _, c2, rfl, rfl, k_4⟩
  have k_5 := k_3.call k_4
  refine ⟨sl A2 r_2.length c2, rfl, ?_⟩
  refine WL_op ?_
  obtain ⟨r_3, h_r_3, hm⟩ := Option.bind_eq_some_iff.1 hm
  refine Op_call [] 19 [sl A r_.length c, sl A2 r_2.length c2] yt_go16 (by kernel_rfl) (c_l01_same r_ A r_.length c (k_5.rd 0 rfl) (k_5.len 0 rfl) (k_5.lec 0 rfl) r_2 A2 r_2.length c2 (k_5.rd 2 rfl) (k_5.len 2 rfl) (k_5.lec 2 rfl) _ h_r_3) ?_
  rintro e_ w_4 ⟨rfl, k_6⟩
  have k_7 := k_5.call k_6
  refine ⟨.b r_3, rfl, ?_⟩
  refine WL_seg 2 [] [] [(0, .u32 w_), (1, .u64 x), (5, sl A r_.length c), (6, sl A1 r_1.length c1), (21, .b (!r_3))] [] (by kernel_rfl) trivial ?_
  refine WL_split 21 (!r_3) [(0, .u32 w_), (1, .u64 x), (5, sl A r_.length c), (6, sl A1 r_1.length c1), (21, .b true)] [(0, .u32 w_), (1, .u64 x), (5, sl A r_.length c), (6, sl A1 r_1.length c1), (21, .b false)] (by kernel_rfl) (by kernel_rfl) (by kernel_rfl) (fun hg => ?_) (fun hg => ?_)
  · rw [if_pos hg] at hm
    refine WL_seg 6 [21] [] [(0, .u32 w_), (1, .u64 x), (5, sl A r_.length c), (6, sl A1 r_1.length c1), (27, .b true)] [] (by kernel_rfl) trivial ?_
    refine WL_nil ?_
    refine At_go ?_
    refine W_cond true (by kernel_rfl) (fun _ => ?_) (fun h => by cases h)
    refine W_seq ?_
    refine W_quiet [] [] [(4, .b false)] [] (by kernel_rfl) trivial ?_
    refine At_go ?_
    refine W_ret (At_tr ?_)
    obtain rfl := Option.some.inj hm
    refine At_ret [] [.b false] [] (by kernel_rfl) trivial ?_
    have k_8 : Cx w w_4 [] := (((k_7.drop 2).drop 1).drop 0)
    exact ⟨rfl, k_8⟩
  · rw [if_neg (by rw [hg]; decide)] at hm
    refine WL_seg 2 [21] [] [(0, .u32 w_), (1, .u64 x), (5, sl A r_.length c), (6, sl A1 r_1.length c1), (21, .b false), (22, sl A1 r_1.length c1), (23, .u64 x)] [] (by kernel_rfl) trivial ?_
    refine WL_op ?_
    obtain ⟨r_4, h_r_4, hm⟩ := Option.bind_eq_some_iff.1 hm
    refine Op_call [21] 24 [.u64 x, I 8] yt_go22 (by kernel_rfl) (c_r01_Store x 8 _ h_r_4) ?_
    rintro e_ w_5 ⟨A3, _, c3, rfl, rfl, k_9⟩
    have k_10 := k_7.call k_9
    refine ⟨sl A3 r_4.length c3, rfl, ?_⟩
    refine WL_op ?_
    obtain ⟨r_5, h_r_5, hm⟩ := Option.bind_eq_some_iff.1 hm
    refine Op_call [21] 25 [sl A1 r_1.length c1, sl A3 r_4.length c3] yt_go16 (by kernel_rfl) (c_l01_same r_1 A1 r_1.length c1 (k_10.rd 1 rfl) (k_10.len 1 rfl) (k_10.lec 1 rfl) r_4 A3 r_4.length c3 (k_10.rd 3 rfl) (k_10.len 3 rfl) (k_10.lec 3 rfl) _ h_r_5) ?_
    rintro e_ w_6 ⟨rfl, k_11⟩
    have k_12 := k_10.call k_11
    refine ⟨.b r_5, rfl, ?_⟩
    refine WL_seg 2 [21] [] [(0, .u32 w_), (1, .u64 x), (5, sl A r_.length c), (6, sl A1 r_1.length c1), (27, .b (!r_5))] [] (by kernel_rfl) trivial ?_
    refine WL_nil ?_
    refine At_go ?_
    refine W_cond (!r_5) (by kernel_rfl) (fun hc => ?_) (fun hc => ?_)
    · rw [if_pos hc] at hm
      refine W_seq ?_
      refine W_quiet [] [] [(4, .b false)] [] (by kernel_rfl) trivial ?_
      refine At_go ?_
      refine W_ret (At_tr ?_)
      obtain rfl := Option.some.inj hm
      refine At_ret [] [.b false] [] (by kernel_rfl) trivial ?_
      have k_13 : Cx w w_6 [] := ((((k_12.drop 3).drop 2).drop 1).drop 0)
      exact ⟨rfl, k_13⟩
    rw [if_neg (by rw [hc]; decide)] at hm
    refine W_skip ?_
    refine At_go ?_
    refine W_seq ?_
    refine W_reg ?_
    refine WL_seg 1 [] [] [(0, .u32 w_), (1, .u64 x), (6, sl A1 r_1.length c1), (29, sl A r_.length c)] [] (by kernel_rfl) trivial ?_
    refine WL_op ?_
    obtain ⟨r_6, h_r_6, hm⟩ := Option.bind_eq_some_iff.1 hm
    refine Op_call [] 30 [sl A r_.length c, I 0] yt_go23 (by kernel_rfl) (c_word_Load32 r_ A r_.length c (k_12.rd 0 rfl) (k_12.len 0 rfl) (k_12.lec 0 rfl) 0 _ h_r_6) ?_
    rintro e_ w_7 ⟨rfl, k_14⟩
    have k_15 := k_12.call k_14
    refine ⟨.tup [.u32 r_6.1, I r_6.2], rfl, ?_⟩
    refine WL_seg 5 [] [] [(0, .u32 w_), (1, .u64 x), (6, sl A1 r_1.length c1), (7, .u32 r_6.1), (8, I r_6.2)] [] (by kernel_rfl) trivial ?_
    refine WL_nil ?_
    refine At_go ?_
    refine W_seq ?_
    refine W_reg ?_
    refine WL_seg 1 [] [] [(0, .u32 w_), (1, .u64 x), (7, .u32 r_6.1), (8, I r_6.2), (34, sl A1 r_1.length c1)] [] (by kernel_rfl) trivial ?_
    refine WL_op ?_
    obtain ⟨r_7, h_r_7, hm⟩ := Option.bind_eq_some_iff.1 hm
    refine Op_call [] 35 [sl A1 r_1.length c1, I 0] yt_go24 (by kernel_rfl) (c_word_Load64 r_1 A1 r_1.length c1 (k_15.rd 1 rfl) (k_15.len 1 rfl) (k_15.lec 1 rfl) 0 _ h_r_7) ?_
    rintro e_ w_8 ⟨rfl, k_16⟩
    have k_17 := k_15.call k_16
    refine ⟨.tup [.u64 r_7.1, I r_7.2], rfl, ?_⟩
    refine WL_seg 5 [] [] [(0, .u32 w_), (1, .u64 x), (7, .u32 r_6.1), (8, I r_6.2), (9, .u64 r_7.1), (10, I r_7.2)] [] (by kernel_rfl) trivial ?_
    refine WL_nil ?_
    refine At_go ?_
    refine W_seq ?_
    refine W_quiet [] [] [(4, .b ((((decide (r_6.1 = w_)) && (decide (r_7.1 = x))) && (decide (r_6.2 = 0))) && (decide (r_7.2 = 0))))] [] (by kernel_rfl) trivial ?_
    refine At_go ?_
    refine W_ret ?_
    obtain rfl := Option.some.inj hm
    refine At_ret [] [.b ((((decide (r_6.1 = w_)) && (decide (r_7.1 = x))) && (decide (r_6.2 = 0))) && (decide (r_7.2 = 0)))] [] (by kernel_rfl) trivial ?_
    have k_18 : Cx w w_8 [] := ((((k_17.drop 3).drop 2).drop 1).drop 0)
    exact ⟨rfl, k_18⟩

-- quern/quernref01.Load
noncomputable def m_r01_Load_l0 (b : List UInt8) (at_ : Int) : (UInt64 × Int) → Option ((UInt64 × Int) ⊕ (UInt64 × Int))
  | (w_1, i1) => if 0 ≤ i1 then (Option.bind (geti b (w64 (at_ + i1))) fun x1 => some (.inl ((w_1 * 256) + (UInt64.ofNat x1.toNat), w64 (i1 - 1)))) else (Option.map Sum.inr (some (w_1, 0)))
noncomputable def m_r01_Load (b : List UInt8) (at_ : Int) (n : Int) : Option (UInt64 × Int) :=
  if at_ < 0 then (some (0, 1)) else (if ((decide (((b.length : Nat) : Int) < at_)) || (decide ((w64 (((b.length : Nat) : Int) - at_)) < n))) = true then (some (0, 3)) else (whileO (m_r01_Load_l0 b at_) (0, w64 (n - 1))))
theorem c_r01_Load {w : World} (b : List UInt8) (A_b : Option Addr) (n_b c_b : Nat) (h_b : Rd w A_b (b.map bV)) (hn_b : b.length = n_b) (hc_b : n_b ≤ c_b) (at_ : Int) (n : Int) (r : UInt64 × Int) (hm : m_r01_Load b at_ n = some r) :
    Calls Try.prog 25 (vals [sl A_b n_b c_b, I at_, I n]) w (fun e w' => e = .returned (SV.val (.tup [.u64 r.1, I r.2])) ∧ Cx w w' []) := by
  subst hn_b
  unfold m_r01_Load at hm
  refine calls [sl A_b b.length c_b, I at_, I n] Try.func25 rfl (of_decide_eq_true (by kernel_rfl)) ?_
  have k := Cx.refl w
  refine W_seq ?_
  refine W_quiet [] [] [(0, sl A_b b.length c_b), (1, I at_), (2, I n)] [] (by kernel_rfl) trivial ?_
  refine At_go ?_
  refine W_seq ?_
  refine W_seq ?_
  refine W_quiet [] [] [(0, sl A_b b.length c_b), (1, I at_), (2, I n), (11, .b (decide (at_ < 0)))] [] (by kernel_rfl) trivial ?_
  refine At_go ?_
  refine W_condp (at_ < 0) (by kernel_rfl) (fun hc => ?_) (fun hc => ?_)
  · rw [if_pos hc] at hm
    refine W_seq ?_
    refine W_quiet [] [] [(6, .u64 0), (7, I 1)] [] (by kernel_rfl) trivial ?_
    refine At_go ?_
    refine W_ret (At_tr ?_)
    obtain rfl := Option.some.inj hm
    refine At_ret [] [.u64 0, I 1] [] (by kernel_rfl) trivial ?_
    exact ⟨rfl, k⟩
  rw [if_neg hc] at hm
  refine W_skip ?_
  refine At_go ?_
  refine W_seq ?_
  refine W_seq ?_
  refine W_quiet [] [] [(0, sl A_b b.length c_b), (1, I at_), (2, I n), (23, .b ((decide (((b.length : Nat) : Int) < at_)) || (decide ((w64 (((b.length : Nat) : Int) - at_)) < n))))] [] (by kernel_rfl) trivial ?_
  refine At_go ?_
  refine W_cond ((decide (((b.length : Nat) : Int) < at_)) || (decide ((w64 (((b.length : Nat) : Int) - at_)) < n))) (by kernel_rfl) (fun hc1 => ?_) (fun hc1 => ?_)
  · rw [if_pos hc1] at hm
    refine W_seq ?_
    refine W_quiet [] [] [(6, .u64 0), (7, I 3)] [] (by kernel_rfl) trivial ?_
    refine At_go ?_
    refine W_ret (At_tr ?_)
    obtain rfl := Option.some.inj hm
    refine At_ret [] [.u64 0, I 3] [] (by kernel_rfl) trivial ?_
    exact ⟨rfl, k⟩
  rw [if_neg (by rw [hc1]; decide)] at hm
  refine W_skip ?_
  refine At_go ?_
  refine W_seq ?_
  refine W_quiet [] [] [(0, sl A_b b.length c_b), (1, I at_), (2, I n), (8, .u64 0)] [] (by kernel_rfl) trivial ?_
  refine At_go ?_
  refine W_seq ?_
  refine W_seq ?_
  refine W_quiet [] [] [(0, sl A_b b.length c_b), (1, I at_), (8, .u64 0), (9, I (w64 (n - 1)))] [] (by kernel_rfl) trivial ?_
  refine At_go ?_
  refine W_block ?_
  refine W_forget [(0, sl A_b b.length c_b), (1, I at_), (8, .u64 0), (9, I (w64 (n - 1)))] (by kernel_rfl) ?_
  refine W_loop (m_r01_Load_l0 b at_) (fun s L wr => ∃ (w_1 : UInt64) (i1 : Int), (w_1, i1) = s ∧ L = [(0, sl A_b b.length c_b), (1, I at_), (8, .u64 w_1), (9, I i1)] ∧ Cx w wr []) (0, w64 (n - 1)) r hm ⟨0, w64 (n - 1), rfl, rfl, k⟩ ?_
  intro s0_ L_ w_2 y0 hrel hstep hr0
  obtain ⟨w_1, i1, rfl, rfl, k_⟩ := hrel
  have hm := hstep; simp only [m_r01_Load_l0] at hm
  clear hstep
  refine W_seq ?_
  refine W_seq ?_
  refine W_quiet [] [] [(0, sl A_b b.length c_b), (1, I at_), (8, .u64 w_1), (9, I i1), (27, .b (decide (0 ≤ i1)))] [] (by kernel_rfl) trivial ?_
  refine At_go ?_
  refine W_condp (0 ≤ i1) (by kernel_rfl) (fun hc3 => ?_) (fun hc3 => ?_)
  · rw [if_pos hc3] at hm
    refine W_skip ?_
    refine At_go ?_
    refine W_seq ?_
    refine W_block ?_
    obtain ⟨x1, h_x1, hm⟩ := Option.bind_eq_some_iff.1 hm
    refine W_quiet [] [.u8 x1] [(0, sl A_b b.length c_b), (1, I at_), (8, .u64 ((w_1 * 256) + (UInt64.ofNat x1.toNat))), (9, I i1)] [fun w => 0 ≤ (w64 (at_ + i1)) ∧ (w64 (at_ + i1)) < ((b.length : Nat) : Int) ∧ A_b.isSome = true, fun w => ∃ a, ixA A_b (w64 (at_ + i1)) 1 = some a ∧ w.cell? a = some (SV.val (.u8 x1))] (by kernel_rfl) (⟨Rd.ix (h_b.cx k_) h_x1 rfl, Rd.ld (φ := bV) (h_b.cx k_) h_x1, trivial⟩) ?_
    refine At_in ?_
    refine At_go ?_
    refine W_quiet [] [] [(0, sl A_b b.length c_b), (1, I at_), (8, .u64 ((w_1 * 256) + (UInt64.ofNat x1.toNat))), (9, I (w64 (i1 - 1)))] [] (by kernel_rfl) trivial ?_
    refine At_forget [(0, sl A_b b.length c_b), (1, I at_), (8, .u64 ((w_1 * 256) + (UInt64.ofNat x1.toNat))), (9, I (w64 (i1 - 1)))] (by kernel_rfl) ?_
    exact At_round ((w_1 * 256) + (UInt64.ofNat x1.toNat), w64 (i1 - 1)) (Option.some.inj hm).symm ⟨(w_1 * 256) + (UInt64.ofNat x1.toNat), w64 (i1 - 1), rfl, rfl, k_⟩
  rw [if_neg hc3] at hm
  refine W_exit (At_te (At_te (At_ie ?_)))
  have hm := exit_of hm hr0
  refine At_go ?_
  refine W_seq ?_
  refine W_quiet [] [] [(6, .u64 w_1), (7, I 0)] [] (by kernel_rfl) trivial ?_
  refine At_go ?_
  refine W_ret ?_
  obtain rfl := Option.some.inj hm
  refine At_ret [] [.u64 w_1, I 0] [] (by kernel_rfl) trivial ?_
  exact ⟨rfl, k_⟩

-- quern/word.Hex
noncomputable def m_word_Hex_l0 (b : List UInt8) : ((List UInt8) × Int) → Option (((List UInt8) × Int) ⊕ (List UInt8))
  | (s_2, x2) => if x2 < ((b.length : Nat) : Int) then (Option.bind (geti b x2) fun x3 => Option.bind (geti [48, 49, 50, 51, 52, 53, 54, 55, 56, 57, 97, 98, 99, 100, 101, 102] ((shr8 x3 ((4 : UInt64).toNat)).toNat : Int)) fun c5 => Option.bind (geti [48, 49, 50, 51, 52, 53, 54, 55, 56, 57, 97, 98, 99, 100, 101, 102] ((x3 &&& 15).toNat : Int)) fun c6 => Option.bind (app s_2 ([c5, c6] : List UInt8) 1) fun s_3 => some (.inl (s_3, w64 (x2 + 1)))) else (Option.map Sum.inr (some s_2))
noncomputable def m_word_Hex (b : List UInt8) : Option (List UInt8) :=
  Option.bind (need ((0 : Int) ≤ 0 ∧ (0 : Int) ≤ w64 (2 * ((b.length : Nat) : Int)) ∧ Int.toNat (w64 (2 * ((b.length : Nat) : Int))) * 1 ≤ 140737488355328)) fun u => whileO (m_word_Hex_l0 b) (List.replicate (Int.toNat 0) (0 : UInt8), 0)
theorem c_word_Hex {w : World} (b : List UInt8) (A_b : Option Addr) (n_b c_b : Nat) (h_b : Rd w A_b (b.map bV)) (hn_b : b.length = n_b) (hc_b : n_b ≤ c_b) (r : List UInt8) (hm : m_word_Hex b = some r) :
    Calls Try.prog 29 (vals [sl A_b n_b c_b]) w (fun e w' => e = .returned (SV.val (.s r)) ∧ Cx w w' []) := by
  subst hn_b
  unfold m_word_Hex at hm
  refine calls [sl A_b b.length c_b] Try.func29 rfl (of_decide_eq_true (by kernel_rfl)) ?_
  have k := Cx.refl w
  refine W_seq ?_
  refine W_quiet [] [] [(0, sl A_b b.length c_b)] [] (by kernel_rfl) trivial ?_
  refine At_go ?_
  refine W_seq ?_
  refine W_reg ?_
  refine WL_seg 3 [] [] [(0, sl A_b b.length c_b), (8, I (w64 (2 * ((b.length : Nat) : Int))))] [] (by kernel_rfl) trivial ?_
  refine WL_op ?_
  obtain ⟨u, h_u, hm⟩ := Option.bind_eq_some_iff.1 hm
  refine Op_make yt_tf22 bV (0 : UInt8) rfl [] 9 (I 0) (I (w64 (2 * ((b.length : Nat) : Int)))) 0 (w64 (2 * ((b.length : Nat) : Int))) (by kernel_rfl) (need_some h_u).1 (need_some h_u).2.1 (need_some h_u).2.2 k ?_
  intro A w_ k_
  refine WL_seg 1 [] [] [(0, sl A_b b.length c_b), (3, sl A (Int.toNat 0) (Int.toNat (w64 (2 * ((b.length : Nat) : Int)))))] [] (by kernel_rfl) trivial ?_
  refine WL_nil ?_
  refine At_go ?_
  refine W_seq ?_
  refine W_seq ?_
  refine W_quiet [] [] [(3, sl A (Int.toNat 0) (Int.toNat (w64 (2 * ((b.length : Nat) : Int))))), (10, sl A_b b.length c_b), (11, I ((b.length : Nat) : Int)), (12, I 0)] [] (by kernel_rfl) trivial ?_
  refine At_go ?_
  refine W_block ?_
  refine W_forget [(3, sl A (Int.toNat 0) (Int.toNat (w64 (2 * ((b.length : Nat) : Int))))), (10, sl A_b b.length c_b), (11, I ((b.length : Nat) : Int)), (12, I 0)] (by kernel_rfl) ?_
  refine W_loop (m_word_Hex_l0 b) (fun s L wr => ∃ (s_2 : List UInt8) (x2 : Int) (A4 : Option Addr) (n1 : Nat) (c4 : Nat), (s_2, x2) = s ∧ L = [(3, sl A4 n1 c4), (10, sl A_b b.length c_b), (11, I ((b.length : Nat) : Int)), (12, I x2)] ∧ s_2.length = n1 ∧ Cx w wr [OwS 5 bV A4 n1 c4 s_2]) (List.replicate (Int.toNat 0) (0 : UInt8), 0) r hm ⟨List.replicate (Int.toNat 0) (0 : UInt8), 0, A, Int.toNat 0, Int.toNat (w64 (2 * ((b.length : Nat) : Int))), rfl, rfl, k_.len 0 rfl, k_⟩ ?_
  intro s0_ L_ w_3 y0 hrel hstep hr0
  obtain ⟨s_2, x2, A4, _, c4, rfl, rfl, rfl, k_9⟩ := hrel
  have hm := hstep; simp only [m_word_Hex_l0] at hm
  clear hstep
  refine W_seq ?_
  refine W_quiet [] [] [(3, sl A4 s_2.length c4), (10, sl A_b b.length c_b), (11, I ((b.length : Nat) : Int)), (12, I x2), (13, .b (decide (x2 < ((b.length : Nat) : Int))))] [] (by kernel_rfl) trivial ?_
  refine At_go ?_
  refine W_seq ?_
  refine W_condp (x2 < ((b.length : Nat) : Int)) (by kernel_rfl) (fun hc1 => ?_) (fun hc1 => ?_)
  · rw [if_pos hc1] at hm
    refine W_skip ?_
    refine At_go ?_
    refine W_seq ?_
    refine W_block ?_
    refine W_seq ?_
    obtain ⟨x3, h_x3, hm⟩ := Option.bind_eq_some_iff.1 hm
    refine W_quiet [] [.u8 x3] [(3, sl A4 s_2.length c4), (5, .u8 x3), (10, sl A_b b.length c_b), (11, I ((b.length : Nat) : Int)), (12, I x2)] [fun w => 0 ≤ x2 ∧ x2 < ((b.length : Nat) : Int) ∧ A_b.isSome = true, fun w => ∃ a, ixA A_b x2 1 = some a ∧ w.cell? a = some (SV.val (.u8 x3))] (by kernel_rfl) (⟨Rd.ix (h_b.cx k_9) h_x3 rfl, Rd.ld (φ := bV) (h_b.cx k_9) h_x3, trivial⟩) ?_
    refine At_go ?_
    have k_10 := k_9.drew 1
    have k_11 : Cx w (w_3.drewN 1) [] := (k_10.drop 0)
    refine W_mix yt_mixed [(0, true), (1, true), (2, true), (3, true), (4, true), (5, true), (6, true), (7, false), (8, false), (9, true)] (fun x => Cx w x []) (by kernel_rfl) k_11 (fun listed => ?_)
    obtain ⟨c5, h_c5, hm⟩ := Option.bind_eq_some_iff.1 hm
    obtain ⟨c6, h_c6, hm⟩ := Option.bind_eq_some_iff.1 hm
    refine MX_q 7 [] [.u8 c5, .u8 c6] [(3, sl A4 s_2.length c4), (10, sl A_b b.length c_b), (11, I ((b.length : Nat) : Int)), (12, I x2), (16, sl A4 s_2.length c4), (19, .u8 c5), (22, .u8 c6)] [fun w => 0 ≤ ((shr8 x3 ((4 : UInt64).toNat)).toNat : Int) ∧ [48, 49, 50, 51, 52, 53, 54, 55, 56, 57, 97, 98, 99, 100, 101, 102][Int.toNat ((shr8 x3 ((4 : UInt64).toNat)).toNat : Int)]? = some c5, fun w => 0 ≤ ((x3 &&& 15).toNat : Int) ∧ [48, 49, 50, 51, 52, 53, 54, 55, 56, 57, 97, 98, 99, 100, 101, 102][Int.toNat ((x3 &&& 15).toNat : Int)]? = some c6] (by kernel_rfl) (fun x hx => ⟨geti_some h_c5, geti_some h_c6, trivial⟩) (fun listed => ?_)
    refine MX_op (fun x => Cx w x []) (fun _ h => h) rfl ?_
    refine Op_mk yt_tf22 bV [] 23 ([c5, c6] : List UInt8) [(0, .u8 c5), (1, .u8 c6)] [.u8 c5, .u8 c6] (by kernel_rfl) (by kernel_rfl) (by kernel_rfl) k_10 ?_
    intro A5 w_4 k_12
    have k_13 : Cx w w_4 [] := ((k_12.drop 1).drop 0)
    refine ⟨k_13, fun listed => ?_⟩
    refine MX_op (fun x => Cx w x []) (fun _ h => h) rfl ?_
    obtain ⟨s_3, h_s_3, hm⟩ := Option.bind_eq_some_iff.1 hm
    obtain ⟨hz1, hl1⟩ := app_some h_s_3
    refine Op_append (c2 := 2) yt_tf22 one_b [] 24 0 (by kernel_rfl) k_12 rfl (k_12.len 1 rfl) (k_12.rd 1 rfl) (by have := k_12.len 0 rfl; have := k_12.len 1 rfl; omega) ?_
    intro A6 c7 w_5 k_14
    rw [← hl1] at k_14
    have k_15 : Cx w w_5 [OwS 5 bV A6 (s_2.length + 2) c7 s_3] := (k_14.drop 1)
    have k_16 : Cx w w_5 [] := (k_15.drop 0)
    refine ⟨k_16, fun listed => ?_⟩
    refine MX_q 1 [] [] [(3, sl A6 (s_2.length + 2) c7), (10, sl A_b b.length c_b), (11, I ((b.length : Nat) : Int)), (12, I x2)] [] (by kernel_rfl) (fun x hx => trivial) (fun listed => ?_)
    refine MX_nil ?_
    refine At_in ?_
    refine At_go ?_
    refine W_quiet [] [] [(3, sl A6 (s_2.length + 2) c7), (10, sl A_b b.length c_b), (11, I ((b.length : Nat) : Int)), (12, I (w64 (x2 + 1)))] [] (by kernel_rfl) trivial ?_
    refine At_forget [(3, sl A6 (s_2.length + 2) c7), (10, sl A_b b.length c_b), (11, I ((b.length : Nat) : Int)), (12, I (w64 (x2 + 1)))] (by kernel_rfl) ?_
    exact At_round (s_3, w64 (x2 + 1)) (Option.some.inj hm).symm ⟨s_3, w64 (x2 + 1), A6, s_2.length + 2, c7, rfl, rfl, k_15.len 0 rfl, k_15⟩
  rw [if_neg hc1] at hm
  refine W_exit (At_te (At_te (At_ie ?_)))
  have hm := exit_of hm hr0
  refine At_go ?_
  refine W_seq ?_
  refine W_quiet [] [.s s_2] [(2, .s s_2)] [fun w => Rd w A4 (s_2.map bV) ∧ s_2.length = s_2.length] (by kernel_rfl) (⟨⟨(k_9.rd 0 rfl), (k_9.len 0 rfl)⟩, trivial⟩) ?_
  refine At_go ?_
  refine W_ret ?_
  obtain rfl := Option.some.inj hm
  refine At_ret [] [.s s_2] [] (by kernel_rfl) trivial ?_
  have k_17 : Cx w w_3 [] := (k_9.drop 0)
  exact ⟨rfl, k_17⟩

-- quern/quernlaw01.awake
noncomputable def m_l01_awake  : Option Bool :=
  Option.bind (m_word_Load32 ([1, 2, 3, 4] : List UInt8) 0) fun r_ => if ((decide (r_.1 = 67305985)) && (decide (r_.2 = 0))) = true then (Option.bind (m_word_Hex ([0, 255] : List UInt8)) fun r_1 => if r_1 = [48, 48, 102, 102] then (Option.bind (m_word_Turn64 1 1) fun r_2 => some (decide (r_2 = 9223372036854775808))) else (some false)) else (some false)
theorem c_l01_awake {w : World}  (r : Bool) (hm : m_l01_awake = some r) :
    Calls Try.prog 26 (vals []) w (fun e w' => e = .returned (SV.val (.b r)) ∧ Cx w w' []) := by
  unfold m_l01_awake at hm
  refine calls [] Try.func26 rfl (of_decide_eq_true (by kernel_rfl)) ?_
  have k := Cx.refl w
  refine W_seq ?_
  refine W_quiet [] [] [] [] (by kernel_rfl) trivial ?_
  refine At_go ?_
  refine W_seq ?_
  refine W_reg ?_
  refine WL_op ?_
  refine Op_mk yt_tf22 bV [] 4 ([1, 2, 3, 4] : List UInt8) [(0, .u8 1), (1, .u8 2), (2, .u8 3), (3, .u8 4)] [.u8 1, .u8 2, .u8 3, .u8 4] (by kernel_rfl) (by kernel_rfl) (by kernel_rfl) k ?_
  intro A w_ k_
  refine WL_op ?_
  obtain ⟨r_, h_r_, hm⟩ := Option.bind_eq_some_iff.1 hm
  refine Op_call [] 5 [sl A 4 4, I 0] yt_go23 (by kernel_rfl) (c_word_Load32 ([1, 2, 3, 4] : List UInt8) A 4 4 (k_.rd 0 rfl) (k_.len 0 rfl) (k_.lec 0 rfl) 0 _ h_r_) ?_
  rintro e_ w_1 ⟨rfl, k_1⟩
  have k_2 := k_.call k_1
  refine ⟨.tup [.u32 r_.1, I r_.2], rfl, ?_⟩
  refine WL_seg 5 [] [] [(1, .u32 r_.1), (2, I r_.2)] [] (by kernel_rfl) trivial ?_
  refine WL_nil ?_
  refine At_go ?_
  refine W_seq ?_
  refine W_reg ?_
  refine WL_seg 7 [] [] [(14, .b ((decide (r_.1 = 67305985)) && (decide (r_.2 = 0))))] [] (by kernel_rfl) trivial ?_
  refine WL_split 14 ((decide (r_.1 = 67305985)) && (decide (r_.2 = 0))) [(14, .b true)] [(14, .b false)] (by kernel_rfl) (by kernel_rfl) (by kernel_rfl) (fun hg => ?_) (fun hg => ?_)
  · rw [if_pos hg] at hm
    refine WL_op ?_
    refine Op_mk yt_tf22 bV [14] 15 ([0, 255] : List UInt8) [(0, .u8 0), (1, .u8 255)] [.u8 0, .u8 255] (by kernel_rfl) (by kernel_rfl) (by kernel_rfl) k_2 ?_
    intro A1 w_2 k_3
    refine WL_op ?_
    obtain ⟨r_1, h_r_1, hm⟩ := Option.bind_eq_some_iff.1 hm
    refine Op_call [14] 16 [sl A1 2 2] yt_go29 (by kernel_rfl) (c_word_Hex ([0, 255] : List UInt8) A1 2 2 (k_3.rd 1 rfl) (k_3.len 1 rfl) (k_3.lec 1 rfl) _ h_r_1) ?_
    rintro e_ w_3 ⟨rfl, k_4⟩
    have k_5 := k_3.call k_4
    refine ⟨.s r_1, rfl, ?_⟩
    refine WL_seg 3 [14] [] [(19, .b (decide (r_1 = [48, 48, 102, 102])))] [] (by kernel_rfl) trivial ?_
    refine WL_split 19 (decide (r_1 = [48, 48, 102, 102])) [(19, .b true)] [(19, .b false)] (by kernel_rfl) (by kernel_rfl) (by kernel_rfl) (fun hg1 => ?_) (fun hg1 => ?_)
    · rw [if_pos (of_decide_eq_true hg1)] at hm
      refine WL_op ?_
      obtain ⟨r_2, h_r_2, hm⟩ := Option.bind_eq_some_iff.1 hm
      refine Op_call [19] 20 [.u64 1, I 1] yt_go18 (by kernel_rfl) (c_word_Turn64 1 1 _ h_r_2) ?_
      rintro e_ w_4 ⟨rfl, k_6⟩
      have k_7 := k_5.call k_6
      refine ⟨.u64 r_2, rfl, ?_⟩
      refine WL_seg 3 [19] [] [(0, .b (decide (r_2 = 9223372036854775808)))] [] (by kernel_rfl) trivial ?_
      refine WL_nil ?_
      refine At_go ?_
      refine W_ret ?_
      obtain rfl := Option.some.inj hm
      refine At_ret [] [.b (decide (r_2 = 9223372036854775808))] [] (by kernel_rfl) trivial ?_
      have k_8 : Cx w w_4 [] := ((k_7.drop 1).drop 0)
      exact ⟨rfl, k_8⟩
    · rw [if_neg (of_decide_eq_false hg1)] at hm
      refine WL_seg 4 [19] [] [(0, .b false)] [] (by kernel_rfl) trivial ?_
      refine WL_nil ?_
      refine At_go ?_
      refine W_ret ?_
      obtain rfl := Option.some.inj hm
      refine At_ret [] [.b false] [] (by kernel_rfl) trivial ?_
      have k_9 : Cx w w_3 [] := ((k_5.drop 1).drop 0)
      exact ⟨rfl, k_9⟩
  · rw [if_neg (by rw [hg]; decide)] at hm
    refine WL_seg 5 [14] [] [(19, .b false)] [] (by kernel_rfl) trivial ?_
    refine WL_seg 4 [19] [] [(0, .b false)] [] (by kernel_rfl) trivial ?_
    refine WL_nil ?_
    refine At_go ?_
    refine W_ret ?_
    obtain rfl := Option.some.inj hm
    refine At_ret [] [.b false] [] (by kernel_rfl) trivial ?_
    have k_10 : Cx w w_1 [] := (k_2.drop 0)
    exact ⟨rfl, k_10⟩

-- quern/quernlaw01.WordLoads
noncomputable def m_l01_WordLoads (b : List UInt8) (at_ : Int) : Option Bool :=
  Option.bind (m_l01_copied b) fun r_ => Option.bind (m_word_Load32 r_ at_) fun r_1 => Option.bind (m_word_Load64 r_ at_) fun r_2 => Option.bind (m_r01_Load b at_ 4) fun r_3 => Option.bind (m_r01_Load b at_ 8) fun r_4 => if ((((decide ((UInt64.ofNat r_1.1.toNat) = r_3.1)) && (decide (r_1.2 = r_3.2))) && (decide (r_2.1 = r_4.1))) && (decide (r_2.2 = r_4.2))) = true then (Option.bind (m_l01_same b r_) fun r_5 => if r_5 = true then (Option.bind m_l01_awake fun r_6 => some r_6) else (some false)) else (some false)
theorem c_l01_WordLoads {w : World} (b : List UInt8) (A_b : Option Addr) (n_b c_b : Nat) (h_b : Rd w A_b (b.map bV)) (hn_b : b.length = n_b) (hc_b : n_b ≤ c_b) (at_ : Int) (r : Bool) (hm : m_l01_WordLoads b at_ = some r) :
    Calls Try.prog 7 (vals [sl A_b n_b c_b, I at_]) w (fun e w' => e = .returned (SV.val (.b r)) ∧ Cx w w' []) := by
  subst hn_b
  unfold m_l01_WordLoads at hm
  refine calls [sl A_b b.length c_b, I at_] Try.func7 rfl (of_decide_eq_true (by kernel_rfl)) ?_
  have k := Cx.refl w
  refine W_seq ?_
  refine W_quiet [] [] [(0, sl A_b b.length c_b), (1, I at_)] [] (by kernel_rfl) trivial ?_
  refine At_go ?_
  refine W_seq ?_
  refine W_reg ?_
  refine WL_seg 1 [] [] [(0, sl A_b b.length c_b), (1, I at_), (14, sl A_b b.length c_b)] [] (by kernel_rfl) trivial ?_
  refine WL_op ?_
  obtain ⟨r_, h_r_, hm⟩ := Option.bind_eq_some_iff.1 hm
  refine Op_call [] 15 [sl A_b b.length c_b] yt_go15 (by kernel_rfl) (c_l01_copied b A_b b.length c_b (h_b.cx k) rfl hc_b _ h_r_) ?_
  rintro e_ w_ ⟨A, _, c, rfl, rfl, k_⟩
  have k_1 := k.call k_
  refine ⟨sl A r_.length c, rfl, ?_⟩
  refine WL_seg 1 [] [] [(0, sl A_b b.length c_b), (1, I at_), (5, sl A r_.length c)] [] (by kernel_rfl) trivial ?_
  refine WL_nil ?_
  refine At_go ?_
  refine W_seq ?_
  refine W_reg ?_
  refine WL_seg 2 [] [] [(0, sl A_b b.length c_b), (1, I at_), (5, sl A r_.length c), (17, sl A r_.length c), (18, I at_)] [] (by kernel_rfl) trivial ?_
  refine WL_op ?_
  obtain ⟨r_1, h_r_1, hm⟩ := Option.bind_eq_some_iff.1 hm
  refine Op_call [] 19 [sl A r_.length c, I at_] yt_go23 (by kernel_rfl) (c_word_Load32 r_ A r_.length c (k_1.rd 0 rfl) (k_1.len 0 rfl) (k_1.lec 0 rfl) at_ _ h_r_1) ?_
  rintro e_ w_1 ⟨rfl, k_2⟩
  have k_3 := k_1.call k_2
  refine ⟨.tup [.u32 r_1.1, I r_1.2], rfl, ?_⟩
  refine WL_seg 5 [] [] [(0, sl A_b b.length c_b), (1, I at_), (5, sl A r_.length c), (6, .u32 r_1.1), (7, I r_1.2)] [] (by kernel_rfl) trivial ?_
  refine WL_nil ?_
  refine At_go ?_
  refine W_seq ?_
  refine W_reg ?_
  refine WL_seg 2 [] [] [(0, sl A_b b.length c_b), (1, I at_), (5, sl A r_.length c), (6, .u32 r_1.1), (7, I r_1.2), (23, sl A r_.length c), (24, I at_)] [] (by kernel_rfl) trivial ?_
  refine WL_op ?_
  obtain ⟨r_2, h_r_2, hm⟩ := Option.bind_eq_some_iff.1 hm
  refine Op_call [] 25 [sl A r_.length c, I at_] yt_go24 (by kernel_rfl) (c_word_Load64 r_ A r_.length c (k_3.rd 0 rfl) (k_3.len 0 rfl) (k_3.lec 0 rfl) at_ _ h_r_2) ?_
  rintro e_ w_2 ⟨rfl, k_4⟩
  have k_5 := k_3.call k_4
  refine ⟨.tup [.u64 r_2.1, I r_2.2], rfl, ?_⟩
  refine WL_seg 5 [] [] [(0, sl A_b b.length c_b), (1, I at_), (5, sl A r_.length c), (6, .u32 r_1.1), (7, I r_1.2), (8, .u64 r_2.1), (9, I r_2.2)] [] (by kernel_rfl) trivial ?_
  refine WL_nil ?_
  refine At_go ?_
  refine W_seq ?_
  refine W_reg ?_
  refine WL_seg 2 [] [] [(0, sl A_b b.length c_b), (1, I at_), (5, sl A r_.length c), (6, .u32 r_1.1), (7, I r_1.2), (8, .u64 r_2.1), (9, I r_2.2), (29, sl A_b b.length c_b), (30, I at_)] [] (by kernel_rfl) trivial ?_
  refine WL_op ?_
  obtain ⟨r_3, h_r_3, hm⟩ := Option.bind_eq_some_iff.1 hm
  refine Op_call [] 31 [sl A_b b.length c_b, I at_, I 4] yt_go25 (by kernel_rfl) (c_r01_Load b A_b b.length c_b (h_b.cx k_5) rfl hc_b at_ 4 _ h_r_3) ?_
  rintro e_ w_3 ⟨rfl, k_6⟩
  have k_7 := k_5.call k_6
  refine ⟨.tup [.u64 r_3.1, I r_3.2], rfl, ?_⟩
  refine WL_seg 5 [] [] [(0, sl A_b b.length c_b), (1, I at_), (5, sl A r_.length c), (6, .u32 r_1.1), (7, I r_1.2), (8, .u64 r_2.1), (9, I r_2.2), (10, .u64 r_3.1), (11, I r_3.2)] [] (by kernel_rfl) trivial ?_
  refine WL_nil ?_
  refine At_go ?_
  refine W_seq ?_
  refine W_reg ?_
  refine WL_seg 2 [] [] [(0, sl A_b b.length c_b), (5, sl A r_.length c), (6, .u32 r_1.1), (7, I r_1.2), (8, .u64 r_2.1), (9, I r_2.2), (10, .u64 r_3.1), (11, I r_3.2), (35, sl A_b b.length c_b), (36, I at_)] [] (by kernel_rfl) trivial ?_
  refine WL_op ?_
  obtain ⟨r_4, h_r_4, hm⟩ := Option.bind_eq_some_iff.1 hm
  refine Op_call [] 37 [sl A_b b.length c_b, I at_, I 8] yt_go25 (by kernel_rfl) (c_r01_Load b A_b b.length c_b (h_b.cx k_7) rfl hc_b at_ 8 _ h_r_4) ?_
  rintro e_ w_4 ⟨rfl, k_8⟩
  have k_9 := k_7.call k_8
  refine ⟨.tup [.u64 r_4.1, I r_4.2], rfl, ?_⟩
  refine WL_seg 5 [] [] [(0, sl A_b b.length c_b), (5, sl A r_.length c), (6, .u32 r_1.1), (7, I r_1.2), (8, .u64 r_2.1), (9, I r_2.2), (10, .u64 r_3.1), (11, I r_3.2), (12, .u64 r_4.1), (13, I r_4.2)] [] (by kernel_rfl) trivial ?_
  refine WL_nil ?_
  refine At_go ?_
  refine W_seq ?_
  refine W_reg ?_
  refine WL_seg 20 [] [] [(0, sl A_b b.length c_b), (5, sl A r_.length c), (59, .b ((((decide ((UInt64.ofNat r_1.1.toNat) = r_3.1)) && (decide (r_1.2 = r_3.2))) && (decide (r_2.1 = r_4.1))) && (decide (r_2.2 = r_4.2))))] [] (by kernel_rfl) trivial ?_
  refine WL_split 59 ((((decide ((UInt64.ofNat r_1.1.toNat) = r_3.1)) && (decide (r_1.2 = r_3.2))) && (decide (r_2.1 = r_4.1))) && (decide (r_2.2 = r_4.2))) [(0, sl A_b b.length c_b), (5, sl A r_.length c), (59, .b true)] [(0, sl A_b b.length c_b), (5, sl A r_.length c), (59, .b false)] (by kernel_rfl) (by kernel_rfl) (by kernel_rfl) (fun hg => ?_) (fun hg => ?_)
  · rw [if_pos hg] at hm
    refine WL_seg 2 [59] [] [(59, .b true), (60, sl A_b b.length c_b), (61, sl A r_.length c)] [] (by kernel_rfl) trivial ?_
    refine WL_op ?_
    obtain ⟨r_5, h_r_5, hm⟩ := Option.bind_eq_some_iff.1 hm
    refine Op_call [59] 62 [sl A_b b.length c_b, sl A r_.length c] yt_go16 (by kernel_rfl) (c_l01_same b A_b b.length c_b (h_b.cx k_9) rfl hc_b r_ A r_.length c (k_9.rd 0 rfl) (k_9.len 0 rfl) (k_9.lec 0 rfl) _ h_r_5) ?_
    rintro e_ w_5 ⟨rfl, k_10⟩
    have k_11 := k_9.call k_10
    refine ⟨.b r_5, rfl, ?_⟩
    refine WL_seg 2 [59] [] [(64, .b r_5)] [] (by kernel_rfl) trivial ?_
    refine WL_split 64 r_5 [(64, .b true)] [(64, .b false)] (by kernel_rfl) (by kernel_rfl) (by kernel_rfl) (fun hg1 => ?_) (fun hg1 => ?_)
    · rw [if_pos hg1] at hm
      refine WL_op ?_
      obtain ⟨r_6, h_r_6, hm⟩ := Option.bind_eq_some_iff.1 hm
      refine Op_call [64] 65 [] yt_go26 (by kernel_rfl) (c_l01_awake  _ h_r_6) ?_
      rintro e_ w_6 ⟨rfl, k_12⟩
      have k_13 := k_11.call k_12
      refine ⟨.b r_6, rfl, ?_⟩
      refine WL_seg 2 [64] [] [(4, .b r_6)] [] (by kernel_rfl) trivial ?_
      refine WL_nil ?_
      refine At_go ?_
      refine W_ret ?_
      obtain rfl := Option.some.inj hm
      refine At_ret [] [.b r_6] [] (by kernel_rfl) trivial ?_
      have k_14 : Cx w w_6 [] := (k_13.drop 0)
      exact ⟨rfl, k_14⟩
    · rw [if_neg (by rw [hg1]; decide)] at hm
      refine WL_seg 3 [64] [] [(4, .b false)] [] (by kernel_rfl) trivial ?_
      refine WL_nil ?_
      refine At_go ?_
      refine W_ret ?_
      obtain rfl := Option.some.inj hm
      refine At_ret [] [.b false] [] (by kernel_rfl) trivial ?_
      have k_15 : Cx w w_5 [] := (k_11.drop 0)
      exact ⟨rfl, k_15⟩
  · rw [if_neg (by rw [hg]; decide)] at hm
    refine WL_seg 5 [59] [] [(64, .b false)] [] (by kernel_rfl) trivial ?_
    refine WL_seg 3 [64] [] [(4, .b false)] [] (by kernel_rfl) trivial ?_
    refine WL_nil ?_
    refine At_go ?_
    refine W_ret ?_
    obtain rfl := Option.some.inj hm
    refine At_ret [] [.b false] [] (by kernel_rfl) trivial ?_
    have k_16 : Cx w w_4 [] := (k_9.drop 0)
    exact ⟨rfl, k_16⟩

-- quern/quernref01.Rest
noncomputable def m_r01_Rest_j0 (r_ : Int) : Option Int :=
  some r_
noncomputable def m_r01_Rest (n : Int) (m : Int) : Option Int :=
  Option.bind (need (m ≠ 0)) fun u => if (Int.tmod n m) < 0 then (m_r01_Rest_j0 (w64 ((Int.tmod n m) + m))) else (m_r01_Rest_j0 (Int.tmod n m))
theorem c_r01_Rest {w : World} (n : Int) (m : Int) (r : Int) (hm : m_r01_Rest n m = some r) :
    Calls Try.prog 45 (vals [I n, I m]) w (fun e w' => e = .returned (SV.val (I r)) ∧ Cx w w' []) := by
  unfold m_r01_Rest at hm
  refine calls [I n, I m] Try.func45 rfl (of_decide_eq_true (by kernel_rfl)) ?_
  have k := Cx.refl w
  refine W_seq ?_
  refine W_quiet [] [] [(0, I n), (1, I m)] [] (by kernel_rfl) trivial ?_
  refine At_go ?_
  refine W_seq ?_
  obtain ⟨u, h_u, hm⟩ := Option.bind_eq_some_iff.1 hm
  refine W_quiet [] [] [(1, I m), (5, I (Int.tmod n m))] [fun w => m ≠ 0] (by kernel_rfl) (⟨need_some h_u, trivial⟩) ?_
  refine At_go ?_
  refine W_cut (fun L wr => ∃ (r_ : Int), m_r01_Rest_j0 r_ = some r ∧ L = [(5, I r_)] ∧ Cx w wr []) ?_ ?_
  ·
    refine W_seq ?_
    refine W_quiet [] [] [(1, I m), (5, I (Int.tmod n m)), (10, .b (decide ((Int.tmod n m) < 0)))] [] (by kernel_rfl) trivial ?_
    refine At_go ?_
    refine W_condp ((Int.tmod n m) < 0) (by kernel_rfl) (fun hc => ?_) (fun hc => ?_)
    · rw [if_pos hc] at hm
      refine W_quiet [] [] [(5, I (w64 ((Int.tmod n m) + m)))] [] (by kernel_rfl) trivial ?_
      refine At_forget [(5, I (w64 ((Int.tmod n m) + m)))] (by kernel_rfl) ?_
      exact At_cut ⟨w64 ((Int.tmod n m) + m), hm, rfl, k⟩
    rw [if_neg hc] at hm
    refine W_skip ?_
    refine At_forget [(5, I (Int.tmod n m))] (by kernel_rfl) ?_
    exact At_cut ⟨Int.tmod n m, hm, rfl, k⟩
  rintro L_ w_ ⟨r_, hm, rfl, k_⟩
  simp only [m_r01_Rest_j0] at hm
  refine W_seq ?_
  refine W_quiet [] [] [(4, I r_)] [] (by kernel_rfl) trivial ?_
  refine At_go ?_
  refine W_ret ?_
  obtain rfl := Option.some.inj hm
  refine At_ret [] [I r_] [] (by kernel_rfl) trivial ?_
  exact ⟨rfl, k_⟩

-- quern/quernref01.Turn32
noncomputable def m_r01_Turn32 (w_ : UInt32) (n : Int) : Option UInt32 :=
  Option.bind (m_r01_Rest n 32) fun r_ => if r_ = 0 then (some w_) else (Option.bind (need (0 ≤ r_)) fun u => Option.bind (need (0 ≤ w64 (32 - r_))) fun u1 => some ((shr32 w_ (Int.toNat r_)) ||| (shl32 w_ (Int.toNat (w64 (32 - r_))))))
theorem c_r01_Turn32 {w : World} (w_ : UInt32) (n : Int) (r : UInt32) (hm : m_r01_Turn32 w_ n = some r) :
    Calls Try.prog 27 (vals [.u32 w_, I n]) w (fun e w' => e = .returned (SV.val (.u32 r)) ∧ Cx w w' []) := by
  unfold m_r01_Turn32 at hm
  refine calls [.u32 w_, I n] Try.func27 rfl (of_decide_eq_true (by kernel_rfl)) ?_
  have k := Cx.refl w
  refine W_seq ?_
  refine W_quiet [] [] [(0, .u32 w_), (1, I n)] [] (by kernel_rfl) trivial ?_
  refine At_go ?_
  refine W_seq ?_
  refine W_reg ?_
  refine WL_seg 1 [] [] [(0, .u32 w_), (6, I n)] [] (by kernel_rfl) trivial ?_
  refine WL_op ?_
  obtain ⟨r_, h_r_, hm⟩ := Option.bind_eq_some_iff.1 hm
  refine Op_call [] 7 [I n, I 32] yt_go45 (by kernel_rfl) (c_r01_Rest n 32 _ h_r_) ?_
  rintro e_ w_1 ⟨rfl, k_⟩
  have k_1 := k.call k_
  refine ⟨I r_, rfl, ?_⟩
  refine WL_seg 1 [] [] [(0, .u32 w_), (5, I r_)] [] (by kernel_rfl) trivial ?_
  refine WL_nil ?_
  refine At_go ?_
  refine W_seq ?_
  refine W_seq ?_
  refine W_quiet [] [] [(0, .u32 w_), (5, I r_), (9, .b (decide (r_ = 0)))] [] (by kernel_rfl) trivial ?_
  refine At_go ?_
  refine W_condp (r_ = 0) (by kernel_rfl) (fun hc => ?_) (fun hc => ?_)
  · rw [if_pos hc] at hm
    refine W_seq ?_
    refine W_quiet [] [] [(4, .u32 w_)] [] (by kernel_rfl) trivial ?_
    refine At_go ?_
    refine W_ret (At_tr ?_)
    obtain rfl := Option.some.inj hm
    refine At_ret [] [.u32 w_] [] (by kernel_rfl) trivial ?_
    exact ⟨rfl, k_1⟩
  rw [if_neg hc] at hm
  refine W_skip ?_
  refine At_go ?_
  refine W_seq ?_
  obtain ⟨u, h_u, hm⟩ := Option.bind_eq_some_iff.1 hm
  obtain ⟨u1, h_u1, hm⟩ := Option.bind_eq_some_iff.1 hm
  refine W_draw yt_mixed [] [(4, .u32 ((shr32 w_ (Int.toNat r_)) ||| (shl32 w_ (Int.toNat (w64 (32 - r_))))))] [fun w => 0 ≤ r_, fun w => 0 ≤ w64 (32 - r_)] (by kernel_rfl) (by kernel_rfl) (fun m => ⟨need_some h_u, need_some h_u1, trivial⟩) (fun m => ?_)
  have k_2 := k_1.drew m
  refine At_go ?_
  refine W_ret ?_
  obtain rfl := Option.some.inj hm
  refine At_ret [] [.u32 ((shr32 w_ (Int.toNat r_)) ||| (shl32 w_ (Int.toNat (w64 (32 - r_)))))] [] (by kernel_rfl) trivial ?_
  exact ⟨rfl, k_2⟩

-- quern/quernref01.Turn64
noncomputable def m_r01_Turn64 (w_ : UInt64) (n : Int) : Option UInt64 :=
  Option.bind (m_r01_Rest n 64) fun r_ => if r_ = 0 then (some w_) else (Option.bind (need (0 ≤ r_)) fun u => Option.bind (need (0 ≤ w64 (64 - r_))) fun u1 => some ((shr64 w_ (Int.toNat r_)) ||| (shl64 w_ (Int.toNat (w64 (64 - r_))))))
theorem c_r01_Turn64 {w : World} (w_ : UInt64) (n : Int) (r : UInt64) (hm : m_r01_Turn64 w_ n = some r) :
    Calls Try.prog 28 (vals [.u64 w_, I n]) w (fun e w' => e = .returned (SV.val (.u64 r)) ∧ Cx w w' []) := by
  unfold m_r01_Turn64 at hm
  refine calls [.u64 w_, I n] Try.func28 rfl (of_decide_eq_true (by kernel_rfl)) ?_
  have k := Cx.refl w
  refine W_seq ?_
  refine W_quiet [] [] [(0, .u64 w_), (1, I n)] [] (by kernel_rfl) trivial ?_
  refine At_go ?_
  refine W_seq ?_
  refine W_reg ?_
  refine WL_seg 1 [] [] [(0, .u64 w_), (6, I n)] [] (by kernel_rfl) trivial ?_
  refine WL_op ?_
  obtain ⟨r_, h_r_, hm⟩ := Option.bind_eq_some_iff.1 hm
  refine Op_call [] 7 [I n, I 64] yt_go45 (by kernel_rfl) (c_r01_Rest n 64 _ h_r_) ?_
  rintro e_ w_1 ⟨rfl, k_⟩
  have k_1 := k.call k_
  refine ⟨I r_, rfl, ?_⟩
  refine WL_seg 1 [] [] [(0, .u64 w_), (5, I r_)] [] (by kernel_rfl) trivial ?_
  refine WL_nil ?_
  refine At_go ?_
  refine W_seq ?_
  refine W_seq ?_
  refine W_quiet [] [] [(0, .u64 w_), (5, I r_), (9, .b (decide (r_ = 0)))] [] (by kernel_rfl) trivial ?_
  refine At_go ?_
  refine W_condp (r_ = 0) (by kernel_rfl) (fun hc => ?_) (fun hc => ?_)
  · rw [if_pos hc] at hm
    refine W_seq ?_
    refine W_quiet [] [] [(4, .u64 w_)] [] (by kernel_rfl) trivial ?_
    refine At_go ?_
    refine W_ret (At_tr ?_)
    obtain rfl := Option.some.inj hm
    refine At_ret [] [.u64 w_] [] (by kernel_rfl) trivial ?_
    exact ⟨rfl, k_1⟩
  rw [if_neg hc] at hm
  refine W_skip ?_
  refine At_go ?_
  refine W_seq ?_
  obtain ⟨u, h_u, hm⟩ := Option.bind_eq_some_iff.1 hm
  obtain ⟨u1, h_u1, hm⟩ := Option.bind_eq_some_iff.1 hm
  refine W_draw yt_mixed [] [(4, .u64 ((shr64 w_ (Int.toNat r_)) ||| (shl64 w_ (Int.toNat (w64 (64 - r_))))))] [fun w => 0 ≤ r_, fun w => 0 ≤ w64 (64 - r_)] (by kernel_rfl) (by kernel_rfl) (fun m => ⟨need_some h_u, need_some h_u1, trivial⟩) (fun m => ?_)
  have k_2 := k_1.drew m
  refine At_go ?_
  refine W_ret ?_
  obtain rfl := Option.some.inj hm
  refine At_ret [] [.u64 ((shr64 w_ (Int.toNat r_)) ||| (shl64 w_ (Int.toNat (w64 (64 - r_)))))] [] (by kernel_rfl) trivial ?_
  exact ⟨rfl, k_2⟩

-- quern/quernlaw01.WordTurns
noncomputable def m_l01_WordTurns (w_ : UInt32) (x : UInt64) (n : Int) : Option Bool :=
  Option.bind (m_word_Turn32 w_ n) fun r_ => Option.bind (m_r01_Turn32 w_ n) fun r_1 => if r_ = r_1 then (Option.bind (m_word_Turn64 x n) fun r_2 => Option.bind (m_r01_Turn64 x n) fun r_3 => if r_2 = r_3 then (Option.bind m_l01_awake fun r_4 => some r_4) else (some false)) else (some false)
theorem c_l01_WordTurns {w : World} (w_ : UInt32) (x : UInt64) (n : Int) (r : Bool) (hm : m_l01_WordTurns w_ x n = some r) :
    Calls Try.prog 8 (vals [.u32 w_, .u64 x, I n]) w (fun e w' => e = .returned (SV.val (.b r)) ∧ Cx w w' []) := by
  unfold m_l01_WordTurns at hm
  refine calls [.u32 w_, .u64 x, I n] Try.func8 rfl (of_decide_eq_true (by kernel_rfl)) ?_
  have k := Cx.refl w
  refine W_seq ?_
  refine W_quiet [] [] [(0, .u32 w_), (1, .u64 x), (2, I n)] [] (by kernel_rfl) trivial ?_
  refine At_go ?_
  refine W_seq ?_
  refine W_reg ?_
  refine WL_seg 2 [] [] [(0, .u32 w_), (1, .u64 x), (2, I n), (7, .u32 w_), (8, I n)] [] (by kernel_rfl) trivial ?_
  refine WL_op ?_
  obtain ⟨r_, h_r_, hm⟩ := Option.bind_eq_some_iff.1 hm
  refine Op_call [] 9 [.u32 w_, I n] yt_go17 (by kernel_rfl) (c_word_Turn32 w_ n _ h_r_) ?_
  rintro e_ w_1 ⟨rfl, k_⟩
  have k_1 := k.call k_
  refine ⟨.u32 r_, rfl, ?_⟩
  refine WL_seg 2 [] [] [(1, .u64 x), (2, I n), (9, .u32 r_), (10, .u32 w_), (11, I n)] [] (by kernel_rfl) trivial ?_
  refine WL_op ?_
  obtain ⟨r_1, h_r_1, hm⟩ := Option.bind_eq_some_iff.1 hm
  refine Op_call [] 12 [.u32 w_, I n] yt_go27 (by kernel_rfl) (c_r01_Turn32 w_ n _ h_r_1) ?_
  rintro e_ w_2 ⟨rfl, k_2⟩
  have k_3 := k_1.call k_2
  refine ⟨.u32 r_1, rfl, ?_⟩
  refine WL_seg 2 [] [] [(1, .u64 x), (2, I n), (14, .b (decide (r_ = r_1)))] [] (by kernel_rfl) trivial ?_
  refine WL_split 14 (decide (r_ = r_1)) [(1, .u64 x), (2, I n), (14, .b true)] [(1, .u64 x), (2, I n), (14, .b false)] (by kernel_rfl) (by kernel_rfl) (by kernel_rfl) (fun hg => ?_) (fun hg => ?_)
  · rw [if_pos (of_decide_eq_true hg)] at hm
    refine WL_seg 2 [14] [] [(1, .u64 x), (2, I n), (14, .b true), (15, .u64 x), (16, I n)] [] (by kernel_rfl) trivial ?_
    refine WL_op ?_
    obtain ⟨r_2, h_r_2, hm⟩ := Option.bind_eq_some_iff.1 hm
    refine Op_call [14] 17 [.u64 x, I n] yt_go18 (by kernel_rfl) (c_word_Turn64 x n _ h_r_2) ?_
    rintro e_ w_3 ⟨rfl, k_4⟩
    have k_5 := k_3.call k_4
    refine ⟨.u64 r_2, rfl, ?_⟩
    refine WL_seg 2 [14] [] [(14, .b true), (17, .u64 r_2), (18, .u64 x), (19, I n)] [] (by kernel_rfl) trivial ?_
    refine WL_op ?_
    obtain ⟨r_3, h_r_3, hm⟩ := Option.bind_eq_some_iff.1 hm
    refine Op_call [14] 20 [.u64 x, I n] yt_go28 (by kernel_rfl) (c_r01_Turn64 x n _ h_r_3) ?_
    rintro e_ w_4 ⟨rfl, k_6⟩
    have k_7 := k_5.call k_6
    refine ⟨.u64 r_3, rfl, ?_⟩
    refine WL_seg 3 [14] [] [(23, .b (decide (r_2 = r_3)))] [] (by kernel_rfl) trivial ?_
    refine WL_split 23 (decide (r_2 = r_3)) [(23, .b true)] [(23, .b false)] (by kernel_rfl) (by kernel_rfl) (by kernel_rfl) (fun hg1 => ?_) (fun hg1 => ?_)
    · rw [if_pos (of_decide_eq_true hg1)] at hm
      refine WL_op ?_
      obtain ⟨r_4, h_r_4, hm⟩ := Option.bind_eq_some_iff.1 hm
      refine Op_call [23] 24 [] yt_go26 (by kernel_rfl) (c_l01_awake  _ h_r_4) ?_
      rintro e_ w_5 ⟨rfl, k_8⟩
      have k_9 := k_7.call k_8
      refine ⟨.b r_4, rfl, ?_⟩
      refine WL_seg 2 [23] [] [(6, .b r_4)] [] (by kernel_rfl) trivial ?_
      refine WL_nil ?_
      refine At_go ?_
      refine W_ret ?_
      obtain rfl := Option.some.inj hm
      refine At_ret [] [.b r_4] [] (by kernel_rfl) trivial ?_
      exact ⟨rfl, k_9⟩
    · rw [if_neg (of_decide_eq_false hg1)] at hm
      refine WL_seg 3 [23] [] [(6, .b false)] [] (by kernel_rfl) trivial ?_
      refine WL_nil ?_
      refine At_go ?_
      refine W_ret ?_
      obtain rfl := Option.some.inj hm
      refine At_ret [] [.b false] [] (by kernel_rfl) trivial ?_
      exact ⟨rfl, k_7⟩
  · rw [if_neg (of_decide_eq_false hg)] at hm
    refine WL_seg 9 [14] [] [(23, .b false)] [] (by kernel_rfl) trivial ?_
    refine WL_seg 3 [23] [] [(6, .b false)] [] (by kernel_rfl) trivial ?_
    refine WL_nil ?_
    refine At_go ?_
    refine W_ret ?_
    obtain rfl := Option.some.inj hm
    refine At_ret [] [.b false] [] (by kernel_rfl) trivial ?_
    exact ⟨rfl, k_3⟩

-- quern/word.digit
noncomputable def m_word_digit (c : UInt8) : Option (UInt8 × Bool) :=
  if ((decide ((48 : UInt8) ≤ c)) && (decide (c ≤ 57))) = true then (some (c - 48, true)) else (if ((decide ((97 : UInt8) ≤ c)) && (decide (c ≤ 102))) = true then (some ((c - 97) + 10, true)) else (if ((decide ((65 : UInt8) ≤ c)) && (decide (c ≤ 70))) = true then (some ((c - 65) + 10, true)) else (some (0, false))))
theorem c_word_digit {w : World} (c : UInt8) (r : UInt8 × Bool) (hm : m_word_digit c = some r) :
    Calls Try.prog 46 (vals [.u8 c]) w (fun e w' => e = .returned (SV.val (.tup [.u8 r.1, .b r.2])) ∧ Cx w w' []) := by
  unfold m_word_digit at hm
  refine calls [.u8 c] Try.func46 rfl (of_decide_eq_true (by kernel_rfl)) ?_
  have k := Cx.refl w
  refine W_seq ?_
  refine W_quiet [] [] [(0, .u8 c)] [] (by kernel_rfl) trivial ?_
  refine At_go ?_
  refine W_seq ?_
  refine W_block ?_
  refine W_seq ?_
  refine W_quiet [] [] [(0, .u8 c), (4, .b ((decide ((48 : UInt8) ≤ c)) && (decide (c ≤ 57))))] [] (by kernel_rfl) trivial ?_
  refine At_go ?_
  refine W_cond ((decide ((48 : UInt8) ≤ c)) && (decide (c ≤ 57))) (by kernel_rfl) (fun hc => ?_) (fun hc => ?_)
  · rw [if_pos hc] at hm
    refine W_seq ?_
    refine W_quiet [] [] [(2, .u8 (c - 48)), (3, .b true)] [] (by kernel_rfl) trivial ?_
    refine At_go ?_
    refine W_ret (At_ir (At_tr ?_))
    obtain rfl := Option.some.inj hm
    refine At_ret [] [.u8 (c - 48), .b true] [] (by kernel_rfl) trivial ?_
    exact ⟨rfl, k⟩
  rw [if_neg (by rw [hc]; decide)] at hm
  refine W_seq ?_
  refine W_quiet [] [] [(0, .u8 c), (13, .b ((decide ((97 : UInt8) ≤ c)) && (decide (c ≤ 102))))] [] (by kernel_rfl) trivial ?_
  refine At_go ?_
  refine W_cond ((decide ((97 : UInt8) ≤ c)) && (decide (c ≤ 102))) (by kernel_rfl) (fun hc1 => ?_) (fun hc1 => ?_)
  · rw [if_pos hc1] at hm
    refine W_seq ?_
    refine W_quiet [] [] [(2, .u8 ((c - 97) + 10)), (3, .b true)] [] (by kernel_rfl) trivial ?_
    refine At_go ?_
    refine W_ret (At_ir (At_tr ?_))
    obtain rfl := Option.some.inj hm
    refine At_ret [] [.u8 ((c - 97) + 10), .b true] [] (by kernel_rfl) trivial ?_
    exact ⟨rfl, k⟩
  rw [if_neg (by rw [hc1]; decide)] at hm
  refine W_seq ?_
  refine W_quiet [] [] [(0, .u8 c), (23, .b ((decide ((65 : UInt8) ≤ c)) && (decide (c ≤ 70))))] [] (by kernel_rfl) trivial ?_
  refine At_go ?_
  refine W_cond ((decide ((65 : UInt8) ≤ c)) && (decide (c ≤ 70))) (by kernel_rfl) (fun hc2 => ?_) (fun hc2 => ?_)
  · rw [if_pos hc2] at hm
    refine W_seq ?_
    refine W_quiet [] [] [(2, .u8 ((c - 65) + 10)), (3, .b true)] [] (by kernel_rfl) trivial ?_
    refine At_go ?_
    refine W_ret (At_ir (At_tr ?_))
    obtain rfl := Option.some.inj hm
    refine At_ret [] [.u8 ((c - 65) + 10), .b true] [] (by kernel_rfl) trivial ?_
    exact ⟨rfl, k⟩
  rw [if_neg (by rw [hc2]; decide)] at hm
  refine W_skip ?_
  refine At_in ?_
  refine At_go ?_
  refine W_seq ?_
  refine W_quiet [] [] [(2, .u8 0), (3, .b false)] [] (by kernel_rfl) trivial ?_
  refine At_go ?_
  refine W_ret ?_
  obtain rfl := Option.some.inj hm
  refine At_ret [] [.u8 0, .b false] [] (by kernel_rfl) trivial ?_
  exact ⟨rfl, k⟩

-- quern/word.UnHex
noncomputable def m_word_UnHex_j1 (x3 : Int) (b4 : List UInt8) : Option (((List UInt8) × Int) ⊕ (List UInt8 × Int × Int)) :=
  some (.inl (b4, w64 (x3 + 1)))
noncomputable def m_word_UnHex_l0 (s_ : List UInt8) : ((List UInt8) × Int) → Option (((List UInt8) × Int) ⊕ (List UInt8 × Int × Int))
  | (b3, x3) => if x3 < (s_.length : Int) then (Option.bind (geti s_ x3) fun c6 => Option.bind (m_word_digit c6) fun r_1 => if (!r_1.2) = true then (Option.map Sum.inr (some ([], x3, 4))) else (if (Int.tmod x3 2) = 0 then (Option.bind (app b3 ([shl8 r_1.1 ((4 : UInt64).toNat)] : List UInt8) 1) fun b5 => m_word_UnHex_j1 x3 b5) else (Option.bind (geti b3 (w64 (Int.tdiv x3 2))) fun x4 => Option.bind (geti b3 (w64 (Int.tdiv x3 2))) fun x5 => m_word_UnHex_j1 x3 (b3.set (Int.toNat (w64 (Int.tdiv x3 2))) (x4 ||| r_1.1))))) else (Option.map Sum.inr (if (Int.tmod (s_.length : Int) 2) = 1 then (some ([], (s_.length : Int), 4)) else (some (b3, 0, 0))))
noncomputable def m_word_UnHex (s_ : List UInt8) : Option (List UInt8 × Int × Int) :=
  whileO (m_word_UnHex_l0 s_) ([], 0)
theorem c_word_UnHex {w : World} (s_ : List UInt8) (r : List UInt8 × Int × Int) (hm : m_word_UnHex s_ = some r) :
    Calls Try.prog 30 (vals [.s s_]) w (fun e w' => ∃ A90 nA90 c90, r.1.length = nA90 ∧ e = .returned (SV.val (.tup [sl A90 nA90 c90, I r.2.1, I r.2.2])) ∧ Cx w w' [OwS 5 bV A90 nA90 c90 r.1]) := by
  unfold m_word_UnHex at hm
  refine calls [.s s_] Try.func30 rfl (of_decide_eq_true (by kernel_rfl)) ?_
  have k := Cx.refl w
  refine W_seq ?_
  refine W_quiet [] [] [(0, .s s_)] [] (by kernel_rfl) trivial ?_
  refine At_go ?_
  refine W_seq ?_
  refine W_quiet [] [] [(0, .s s_), (5, sl none 0 0)] [] (by kernel_rfl) trivial ?_
  refine At_go ?_
  refine W_seq ?_
  refine W_seq ?_
  refine W_quiet [] [] [(0, .s s_), (5, sl none 0 0), (10, I (s_.length : Int)), (11, I 0)] [] (by kernel_rfl) trivial ?_
  refine At_go ?_
  refine W_block ?_
  refine W_forget [(0, .s s_), (5, sl none 0 0), (10, I (s_.length : Int)), (11, I 0)] (by kernel_rfl) ?_
  have k_14 := k.nil 5 bV
  refine W_loop (m_word_UnHex_l0 s_) (fun s L wr => ∃ (b3 : List UInt8) (x3 : Int) (A4 : Option Addr) (n2 : Nat) (c4 : Nat), (b3, x3) = s ∧ L = [(0, .s s_), (5, sl A4 n2 c4), (10, I (s_.length : Int)), (11, I x3)] ∧ b3.length = n2 ∧ Cx w wr [OwS 5 bV A4 n2 c4 b3]) ([], 0) r hm ⟨[], 0, none, 0, 0, rfl, rfl, k_14.len 0 rfl, k_14⟩ ?_
  intro s0_ L_ w_5 y0 hrel hstep hr0
  obtain ⟨b3, x3, A4, _, c4, rfl, rfl, rfl, k_13⟩ := hrel
  have hm := hstep; simp only [m_word_UnHex_l0] at hm
  clear hstep
  refine W_seq ?_
  refine W_quiet [] [] [(0, .s s_), (5, sl A4 b3.length c4), (10, I (s_.length : Int)), (11, I x3), (12, .b (decide (x3 < (s_.length : Int))))] [] (by kernel_rfl) trivial ?_
  refine At_go ?_
  refine W_seq ?_
  refine W_condp (x3 < (s_.length : Int)) (by kernel_rfl) (fun hc4 => ?_) (fun hc4 => ?_)
  · rw [if_pos hc4] at hm
    refine W_skip ?_
    refine At_go ?_
    refine W_cut (fun L wr => ∃ (b4 : List UInt8) (A5 : Option Addr) (n3 : Nat) (c5 : Nat), m_word_UnHex_j1 x3 b4 = some y0 ∧ L = [(0, .s s_), (5, sl A5 n3 c5), (10, I (s_.length : Int)), (11, I x3)] ∧ b4.length = n3 ∧ Cx w wr [OwS 5 bV A5 n3 c5 b4]) ?_ ?_
    ·
      refine W_block ?_
      refine W_seq ?_
      refine W_quiet [] [] [(0, .s s_), (5, sl A4 b3.length c4), (6, I x3), (10, I (s_.length : Int)), (11, I x3)] [] (by kernel_rfl) trivial ?_
      refine At_go ?_
      refine W_seq ?_
      refine W_reg ?_
      obtain ⟨c6, h_c6, hm⟩ := Option.bind_eq_some_iff.1 hm
      refine WL_seg 3 [] [.u8 c6] [(0, .s s_), (5, sl A4 b3.length c4), (6, I x3), (10, I (s_.length : Int)), (11, I x3), (17, .u8 c6)] [fun w => 0 ≤ x3 ∧ s_[Int.toNat x3]? = some c6] (by kernel_rfl) (⟨geti_some h_c6, trivial⟩) ?_
      refine WL_op ?_
      obtain ⟨r_1, h_r_1, hm⟩ := Option.bind_eq_some_iff.1 hm
      refine Op_call [] 18 [.u8 c6] yt_go46 (by kernel_rfl) (c_word_digit c6 _ h_r_1) ?_
      rintro e_ w_6 ⟨rfl, k_15⟩
      have k_16 := k_13.call k_15
      refine ⟨.tup [.u8 r_1.1, .b r_1.2], rfl, ?_⟩
      refine WL_seg 5 [] [] [(0, .s s_), (5, sl A4 b3.length c4), (6, I x3), (7, .u8 r_1.1), (8, .b r_1.2), (10, I (s_.length : Int)), (11, I x3)] [] (by kernel_rfl) trivial ?_
      refine WL_nil ?_
      refine At_go ?_
      refine W_seq ?_
      refine W_seq ?_
      refine W_quiet [] [] [(0, .s s_), (5, sl A4 b3.length c4), (6, I x3), (7, .u8 r_1.1), (10, I (s_.length : Int)), (11, I x3), (22, .b (!r_1.2))] [] (by kernel_rfl) trivial ?_
      refine At_go ?_
      refine W_cond (!r_1.2) (by kernel_rfl) (fun hc5 => ?_) (fun hc5 => ?_)
      · rw [if_pos hc5] at hm
        refine W_seq ?_
        refine W_quiet [] [] [(2, sl none 0 0), (3, I x3), (4, I 4)] [] (by kernel_rfl) trivial ?_
        refine At_go ?_
        refine W_ret (At_tr (At_ir (At_tr (At_tr (At_ir (At_tr ?_))))))
        have hm := exit_of hm hr0
        have k_17 := k_16.nil 5 bV
        obtain rfl := Option.some.inj hm
        refine At_ret [] [sl none 0 0, I x3, I 4] [] (by kernel_rfl) trivial ?_
        have k_18 : Cx w w_6 [OwS 5 bV none 0 0 []] := (k_17.drop 0)
        exact ⟨none, _, 0, k_18.len 0 rfl, rfl, k_18⟩
      rw [if_neg (by rw [hc5]; decide)] at hm
      refine W_skip ?_
      refine At_go ?_
      refine W_seq ?_
      refine W_quiet [] [] [(0, .s s_), (5, sl A4 b3.length c4), (6, I x3), (7, .u8 r_1.1), (10, I (s_.length : Int)), (11, I x3), (26, .b (decide ((Int.tmod x3 2) = 0)))] [fun w => (2 : Int) ≠ (0 : Int)] (by kernel_rfl) (⟨by omega, trivial⟩) ?_
      refine At_go ?_
      refine W_condp ((Int.tmod x3 2) = 0) (by kernel_rfl) (fun hc6 => ?_) (fun hc6 => ?_)
      · rw [if_pos hc6] at hm
        refine W_reg ?_
        refine WL_seg 3 [] [] [(0, .s s_), (5, sl A4 b3.length c4), (10, I (s_.length : Int)), (11, I x3), (27, sl A4 b3.length c4), (29, .u8 (shl8 r_1.1 ((4 : UInt64).toNat)))] [] (by kernel_rfl) trivial ?_
        refine WL_op ?_
        refine Op_mk yt_tf22 bV [] 30 ([shl8 r_1.1 ((4 : UInt64).toNat)] : List UInt8) [(0, .u8 (shl8 r_1.1 ((4 : UInt64).toNat)))] [.u8 (shl8 r_1.1 ((4 : UInt64).toNat))] (by kernel_rfl) (by kernel_rfl) (by kernel_rfl) k_16 ?_
        intro A6 w_7 k_19
        refine WL_op ?_
        obtain ⟨b5, h_b5, hm⟩ := Option.bind_eq_some_iff.1 hm
        obtain ⟨hz1, hl1⟩ := app_some h_b5
        refine Op_append (c2 := 1) yt_tf22 one_b [] 31 0 (by kernel_rfl) k_19 rfl (k_19.len 1 rfl) (k_19.rd 1 rfl) (by have := k_19.len 0 rfl; have := k_19.len 1 rfl; omega) ?_
        intro A7 c7 w_8 k_20
        rw [← hl1] at k_20
        have k_21 : Cx w w_8 [OwS 5 bV A7 (b3.length + 1) c7 b5] := (k_20.drop 1)
        refine WL_seg 1 [] [] [(0, .s s_), (5, sl A7 (b3.length + 1) c7), (10, I (s_.length : Int)), (11, I x3)] [] (by kernel_rfl) trivial ?_
        refine WL_nil ?_
        refine At_in ?_
        refine At_forget [(0, .s s_), (5, sl A7 (b3.length + 1) c7), (10, I (s_.length : Int)), (11, I x3)] (by kernel_rfl) ?_
        exact At_cut ⟨b5, A7, b3.length + 1, c7, hm, rfl, k_21.len 0 rfl, k_21⟩
      rw [if_neg hc6] at hm
      refine W_reg ?_
      obtain ⟨x4, h_x4, hm⟩ := Option.bind_eq_some_iff.1 hm
      obtain ⟨x5, h_x5, hm⟩ := Option.bind_eq_some_iff.1 hm
      refine WL_seg 8 [] [.u8 x4] [(0, .s s_), (5, sl A4 b3.length c4), (10, I (s_.length : Int)), (11, I x3), (38, .u8 (x4 ||| r_1.1)), (39, .v (.pointer (ixA A4 (w64 (Int.tdiv x3 2)) 1)))] [fun w => (2 : Int) ≠ (0 : Int), fun w => 0 ≤ (w64 (Int.tdiv x3 2)) ∧ (w64 (Int.tdiv x3 2)) < ((b3.length : Nat) : Int) ∧ A4.isSome = true, fun w => ∃ a, ixA A4 (w64 (Int.tdiv x3 2)) 1 = some a ∧ w.cell? a = some (SV.val (.u8 x4)), fun w => 0 ≤ (w64 (Int.tdiv x3 2)) ∧ (w64 (Int.tdiv x3 2)) < ((b3.length : Nat) : Int) ∧ A4.isSome = true] (by kernel_rfl) (⟨by omega, Rd.ix (k_16.rd 0 rfl) h_x4 (k_16.len 0 rfl), Rd.ld (φ := bV) (k_16.rd 0 rfl) h_x4, Rd.ix (k_16.rd 0 rfl) h_x5 (k_16.len 0 rfl), trivial⟩) ?_
      refine WL_op ?_
      refine Op_store (φ := bV) one_b [] 0 (w64 (Int.tdiv x3 2)) (x4 ||| r_1.1) (.u8 (x4 ||| r_1.1)) (by kernel_rfl) rfl k_16 rfl (geti_lt h_x5).1 (by have := (geti_lt h_x5).2; have := k_16.len 0 rfl; omega) ?_
      intro w_9 k_22
      refine WL_nil ?_
      refine At_in ?_
      refine At_forget [(0, .s s_), (5, sl A4 b3.length c4), (10, I (s_.length : Int)), (11, I x3)] (by kernel_rfl) ?_
      exact At_cut ⟨b3.set (Int.toNat (w64 (Int.tdiv x3 2))) (x4 ||| r_1.1), A4, b3.length, c4, hm, rfl, k_22.len 0 rfl, k_22⟩
    rintro L_ w_10 ⟨b4, A5, _, c5, hm, rfl, rfl, k_23⟩
    simp only [m_word_UnHex_j1] at hm
    refine W_quiet [] [] [(0, .s s_), (5, sl A5 b4.length c5), (10, I (s_.length : Int)), (11, I (w64 (x3 + 1)))] [] (by kernel_rfl) trivial ?_
    refine At_forget [(0, .s s_), (5, sl A5 b4.length c5), (10, I (s_.length : Int)), (11, I (w64 (x3 + 1)))] (by kernel_rfl) ?_
    exact At_round (b4, w64 (x3 + 1)) (Option.some.inj hm).symm ⟨b4, w64 (x3 + 1), A5, b4.length, c5, rfl, rfl, k_23.len 0 rfl, k_23⟩
  rw [if_neg hc4] at hm
  refine W_exit (At_te (At_te (At_ie ?_)))
  have hm := exit_of hm hr0
  refine At_go ?_
  refine W_seq ?_
  refine W_seq ?_
  refine W_quiet [] [] [(0, .s s_), (5, sl A4 b3.length c4), (44, .b (decide ((Int.tmod (s_.length : Int) 2) = 1)))] [fun w => (2 : Int) ≠ (0 : Int)] (by kernel_rfl) (⟨by omega, trivial⟩) ?_
  refine At_go ?_
  refine W_condp ((Int.tmod (s_.length : Int) 2) = 1) (by kernel_rfl) (fun hc7 => ?_) (fun hc7 => ?_)
  · rw [if_pos hc7] at hm
    refine W_seq ?_
    refine W_quiet [] [] [(2, sl none 0 0), (3, I (s_.length : Int)), (4, I 4)] [] (by kernel_rfl) trivial ?_
    refine At_go ?_
    refine W_ret (At_tr ?_)
    have k_24 := k_13.nil 5 bV
    obtain rfl := Option.some.inj hm
    refine At_ret [] [sl none 0 0, I (s_.length : Int), I 4] [] (by kernel_rfl) trivial ?_
    have k_25 : Cx w w_5 [OwS 5 bV none 0 0 []] := (k_24.drop 0)
    exact ⟨none, _, 0, k_25.len 0 rfl, rfl, k_25⟩
  rw [if_neg hc7] at hm
  refine W_skip ?_
  refine At_go ?_
  refine W_seq ?_
  refine W_quiet [] [] [(2, sl A4 b3.length c4), (3, I 0), (4, I 0)] [] (by kernel_rfl) trivial ?_
  refine At_go ?_
  refine W_ret ?_
  obtain rfl := Option.some.inj hm
  refine At_ret [] [sl A4 b3.length c4, I 0, I 0] [] (by kernel_rfl) trivial ?_
  exact ⟨A4, _, c4, k_13.len 0 rfl, rfl, k_13⟩

-- quern/quernref01.Digit
noncomputable def m_r01_Digit (c : UInt8) : Option Int :=
  if ((decide ((48 : UInt8) ≤ c)) && (decide (c ≤ 57))) = true then (some ((c - 48).toNat : Int)) else (if ((decide ((97 : UInt8) ≤ c)) && (decide (c ≤ 102))) = true then (some (w64 (((c - 97).toNat : Int) + 10))) else (if ((decide ((65 : UInt8) ≤ c)) && (decide (c ≤ 70))) = true then (some (w64 (((c - 65).toNat : Int) + 10))) else (some (-1))))
theorem c_r01_Digit {w : World} (c : UInt8) (r : Int) (hm : m_r01_Digit c = some r) :
    Calls Try.prog 47 (vals [.u8 c]) w (fun e w' => e = .returned (SV.val (I r)) ∧ Cx w w' []) := by
  unfold m_r01_Digit at hm
  refine calls [.u8 c] Try.func47 rfl (of_decide_eq_true (by kernel_rfl)) ?_
  have k := Cx.refl w
  refine W_seq ?_
  refine W_quiet [] [] [(0, .u8 c)] [] (by kernel_rfl) trivial ?_
  refine At_go ?_
  refine W_seq ?_
  refine W_block ?_
  refine W_seq ?_
  refine W_quiet [] [] [(0, .u8 c), (3, .b ((decide ((48 : UInt8) ≤ c)) && (decide (c ≤ 57))))] [] (by kernel_rfl) trivial ?_
  refine At_go ?_
  refine W_cond ((decide ((48 : UInt8) ≤ c)) && (decide (c ≤ 57))) (by kernel_rfl) (fun hc => ?_) (fun hc => ?_)
  · rw [if_pos hc] at hm
    refine W_seq ?_
    refine W_quiet [] [] [(2, I ((c - 48).toNat : Int))] [] (by kernel_rfl) trivial ?_
    refine At_go ?_
    refine W_ret (At_ir (At_tr ?_))
    obtain rfl := Option.some.inj hm
    refine At_ret [] [I ((c - 48).toNat : Int)] [] (by kernel_rfl) trivial ?_
    exact ⟨rfl, k⟩
  rw [if_neg (by rw [hc]; decide)] at hm
  refine W_seq ?_
  refine W_quiet [] [] [(0, .u8 c), (13, .b ((decide ((97 : UInt8) ≤ c)) && (decide (c ≤ 102))))] [] (by kernel_rfl) trivial ?_
  refine At_go ?_
  refine W_cond ((decide ((97 : UInt8) ≤ c)) && (decide (c ≤ 102))) (by kernel_rfl) (fun hc1 => ?_) (fun hc1 => ?_)
  · rw [if_pos hc1] at hm
    refine W_seq ?_
    refine W_quiet [] [] [(2, I (w64 (((c - 97).toNat : Int) + 10)))] [] (by kernel_rfl) trivial ?_
    refine At_go ?_
    refine W_ret (At_ir (At_tr ?_))
    obtain rfl := Option.some.inj hm
    refine At_ret [] [I (w64 (((c - 97).toNat : Int) + 10))] [] (by kernel_rfl) trivial ?_
    exact ⟨rfl, k⟩
  rw [if_neg (by rw [hc1]; decide)] at hm
  refine W_seq ?_
  refine W_quiet [] [] [(0, .u8 c), (24, .b ((decide ((65 : UInt8) ≤ c)) && (decide (c ≤ 70))))] [] (by kernel_rfl) trivial ?_
  refine At_go ?_
  refine W_cond ((decide ((65 : UInt8) ≤ c)) && (decide (c ≤ 70))) (by kernel_rfl) (fun hc2 => ?_) (fun hc2 => ?_)
  · rw [if_pos hc2] at hm
    refine W_seq ?_
    refine W_quiet [] [] [(2, I (w64 (((c - 65).toNat : Int) + 10)))] [] (by kernel_rfl) trivial ?_
    refine At_go ?_
    refine W_ret (At_ir (At_tr ?_))
    obtain rfl := Option.some.inj hm
    refine At_ret [] [I (w64 (((c - 65).toNat : Int) + 10))] [] (by kernel_rfl) trivial ?_
    exact ⟨rfl, k⟩
  rw [if_neg (by rw [hc2]; decide)] at hm
  refine W_skip ?_
  refine At_in ?_
  refine At_go ?_
  refine W_seq ?_
  refine W_quiet [] [] [(2, I (-1))] [] (by kernel_rfl) trivial ?_
  refine At_go ?_
  refine W_ret ?_
  obtain rfl := Option.some.inj hm
  refine At_ret [] [I (-1)] [] (by kernel_rfl) trivial ?_
  exact ⟨rfl, k⟩

-- quern/quernref01.UnHex
noncomputable def m_r01_UnHex_l2 (s_ : List UInt8) : ((List UInt8) × Int) → Option (((List UInt8) × Int) ⊕ (List UInt8 × Int × Int))
  | (b6, i5) => if (w64 (i5 + 1)) < (s_.length : Int) then (Option.bind (geti s_ i5) fun c15 => Option.bind (geti s_ (w64 (i5 + 1))) fun c16 => Option.bind (m_r01_Digit c15) fun r_8 => Option.bind (m_r01_Digit c16) fun r_9 => Option.bind (app b6 ([UInt8.ofInt (w64 ((w64 (16 * r_8)) + r_9))] : List UInt8) 1) fun b7 => some (.inl (b7, w64 (i5 + 2)))) else (Option.map Sum.inr (some (b6, 0, 0)))
noncomputable def m_r01_UnHex_l1 (s_ : List UInt8) : Int → Option (Int ⊕ (List UInt8 × Int × Int))
  | i3 => if i3 < (s_.length : Int) then (Option.bind (geti s_ i3) fun c9 => Option.bind (m_r01_Digit c9) fun r_5 => if r_5 < 0 then (Option.map Sum.inr (some ([], i3, 4))) else (some (.inl (w64 (i3 + 1))))) else (Option.map Sum.inr (if (Int.tmod (s_.length : Int) 2) = 1 then (some ([], (s_.length : Int), 4)) else (whileO (m_r01_UnHex_l2 s_) ([], 0))))
noncomputable def m_r01_UnHex (s_ : List UInt8) : Option (List UInt8 × Int × Int) :=
  whileO (m_r01_UnHex_l1 s_) 0
theorem c_r01_UnHex {w : World} (s_ : List UInt8) (r : List UInt8 × Int × Int) (hm : m_r01_UnHex s_ = some r) :
    Calls Try.prog 31 (vals [.s s_]) w (fun e w' => ∃ A90 nA90 c90, r.1.length = nA90 ∧ e = .returned (SV.val (.tup [sl A90 nA90 c90, I r.2.1, I r.2.2])) ∧ Cx w w' [OwS 5 bV A90 nA90 c90 r.1]) := by
  unfold m_r01_UnHex at hm
  refine calls [.s s_] Try.func31 rfl (of_decide_eq_true (by kernel_rfl)) ?_
  have k := Cx.refl w
  refine W_seq ?_
  refine W_quiet [] [] [(0, .s s_)] [] (by kernel_rfl) trivial ?_
  refine At_go ?_
  refine W_seq ?_
  refine W_seq ?_
  refine W_quiet [] [] [(0, .s s_), (5, I 0)] [] (by kernel_rfl) trivial ?_
  refine At_go ?_
  refine W_block ?_
  refine W_forget [(0, .s s_), (5, I 0)] (by kernel_rfl) ?_
  refine W_loop (m_r01_UnHex_l1 s_) (fun s L wr => ∃ (i3 : Int), i3 = s ∧ L = [(0, .s s_), (5, I i3)] ∧ Cx w wr []) 0 r hm ⟨0, rfl, rfl, k⟩ ?_
  intro s0_ L_ w_10 y0 hrel hstep hr0
  obtain ⟨i3, rfl, rfl, k_30⟩ := hrel
  have hm := hstep; simp only [m_r01_UnHex_l1] at hm
  clear hstep
  refine W_seq ?_
  refine W_seq ?_
  refine W_quiet [] [] [(0, .s s_), (5, I i3), (11, .b (decide (i3 < (s_.length : Int))))] [] (by kernel_rfl) trivial ?_
  refine At_go ?_
  refine W_condp (i3 < (s_.length : Int)) (by kernel_rfl) (fun hc5 => ?_) (fun hc5 => ?_)
  · rw [if_pos hc5] at hm
    refine W_skip ?_
    refine At_go ?_
    refine W_seq ?_
    refine W_block ?_
    refine W_seq ?_
    refine W_reg ?_
    obtain ⟨c9, h_c9, hm⟩ := Option.bind_eq_some_iff.1 hm
    refine WL_seg 3 [] [.u8 c9] [(0, .s s_), (5, I i3), (16, .u8 c9)] [fun w => 0 ≤ i3 ∧ s_[Int.toNat i3]? = some c9] (by kernel_rfl) (⟨geti_some h_c9, trivial⟩) ?_
    refine WL_op ?_
    obtain ⟨r_5, h_r_5, hm⟩ := Option.bind_eq_some_iff.1 hm
    refine Op_call [] 17 [.u8 c9] yt_go47 (by kernel_rfl) (c_r01_Digit c9 _ h_r_5) ?_
    rintro e_ w_11 ⟨rfl, k_31⟩
    have k_32 := k_30.call k_31
    refine ⟨I r_5, rfl, ?_⟩
    refine WL_seg 1 [] [] [(0, .s s_), (5, I i3), (18, .b (decide (r_5 < 0)))] [] (by kernel_rfl) trivial ?_
    refine WL_nil ?_
    refine At_go ?_
    refine W_condp (r_5 < 0) (by kernel_rfl) (fun hc6 => ?_) (fun hc6 => ?_)
    · rw [if_pos hc6] at hm
      refine W_seq ?_
      refine W_quiet [] [] [(2, sl none 0 0), (3, I i3), (4, I 4)] [] (by kernel_rfl) trivial ?_
      refine At_go ?_
      refine W_ret (At_ir (At_tr (At_tr (At_ir (At_tr ?_)))))
      have hm := exit_of hm hr0
      have k_33 := k_32.nil 5 bV
      obtain rfl := Option.some.inj hm
      refine At_ret [] [sl none 0 0, I i3, I 4] [] (by kernel_rfl) trivial ?_
      exact ⟨none, _, 0, k_33.len 0 rfl, rfl, k_33⟩
    rw [if_neg hc6] at hm
    refine W_skip ?_
    refine At_in ?_
    refine At_go ?_
    refine W_quiet [] [] [(0, .s s_), (5, I (w64 (i3 + 1)))] [] (by kernel_rfl) trivial ?_
    refine At_forget [(0, .s s_), (5, I (w64 (i3 + 1)))] (by kernel_rfl) ?_
    exact At_round (w64 (i3 + 1)) (Option.some.inj hm).symm ⟨w64 (i3 + 1), rfl, rfl, k_32⟩
  rw [if_neg hc5] at hm
  refine W_exit (At_te (At_te (At_ie ?_)))
  have hm := exit_of hm hr0
  refine At_go ?_
  refine W_seq ?_
  refine W_seq ?_
  refine W_quiet [] [] [(0, .s s_), (23, .b (decide ((Int.tmod (s_.length : Int) 2) = 1)))] [fun w => (2 : Int) ≠ (0 : Int)] (by kernel_rfl) (⟨by omega, trivial⟩) ?_
  refine At_go ?_
  refine W_condp ((Int.tmod (s_.length : Int) 2) = 1) (by kernel_rfl) (fun hc7 => ?_) (fun hc7 => ?_)
  · rw [if_pos hc7] at hm
    refine W_seq ?_
    refine W_quiet [] [] [(2, sl none 0 0), (3, I (s_.length : Int)), (4, I 4)] [] (by kernel_rfl) trivial ?_
    refine At_go ?_
    refine W_ret (At_tr ?_)
    have k_34 := k_30.nil 5 bV
    obtain rfl := Option.some.inj hm
    refine At_ret [] [sl none 0 0, I (s_.length : Int), I 4] [] (by kernel_rfl) trivial ?_
    exact ⟨none, _, 0, k_34.len 0 rfl, rfl, k_34⟩
  rw [if_neg hc7] at hm
  refine W_skip ?_
  refine At_go ?_
  refine W_seq ?_
  refine W_quiet [] [] [(0, .s s_), (6, sl none 0 0)] [] (by kernel_rfl) trivial ?_
  refine At_go ?_
  refine W_seq ?_
  refine W_seq ?_
  refine W_quiet [] [] [(0, .s s_), (6, sl none 0 0), (7, I 0)] [] (by kernel_rfl) trivial ?_
  refine At_go ?_
  refine W_block ?_
  refine W_forget [(0, .s s_), (6, sl none 0 0), (7, I 0)] (by kernel_rfl) ?_
  have k_48 := k_30.nil 5 bV
  refine W_loop (m_r01_UnHex_l2 s_) (fun s L wr => ∃ (b6 : List UInt8) (i5 : Int) (A9 : Option Addr) (n3 : Nat) (c14 : Nat), (b6, i5) = s ∧ L = [(0, .s s_), (6, sl A9 n3 c14), (7, I i5)] ∧ b6.length = n3 ∧ Cx w wr [OwS 5 bV A9 n3 c14 b6]) ([], 0) r hm ⟨[], 0, none, 0, 0, rfl, rfl, k_48.len 0 rfl, k_48⟩ ?_
  intro s0_ L_ w_16 y0 hrel hstep hr0
  obtain ⟨b6, i5, A9, _, c14, rfl, rfl, rfl, k_47⟩ := hrel
  have hm := hstep; simp only [m_r01_UnHex_l2] at hm
  clear hstep
  refine W_seq ?_
  refine W_seq ?_
  refine W_quiet [] [] [(0, .s s_), (6, sl A9 b6.length c14), (7, I i5), (30, .b (decide ((w64 (i5 + 1)) < (s_.length : Int))))] [] (by kernel_rfl) trivial ?_
  refine At_go ?_
  refine W_condp ((w64 (i5 + 1)) < (s_.length : Int)) (by kernel_rfl) (fun hc9 => ?_) (fun hc9 => ?_)
  · rw [if_pos hc9] at hm
    refine W_skip ?_
    refine At_go ?_
    refine W_seq ?_
    refine W_block ?_
    have k_49 := k_47.drew 1
    have k_50 : Cx w (w_16.drewN 1) [] := (k_49.drop 0)
    refine W_mix yt_mixed [(0, true), (1, true), (2, true), (3, true), (6, true), (7, true), (8, true), (9, true), (4, false), (5, true), (10, false), (11, true), (12, true), (13, false), (14, false), (15, true)] (fun x => Cx w x []) (by kernel_rfl) k_50 (fun listed => ?_)
    obtain ⟨c15, h_c15, hm⟩ := Option.bind_eq_some_iff.1 hm
    obtain ⟨c16, h_c16, hm⟩ := Option.bind_eq_some_iff.1 hm
    refine MX_q 8 [] [.u8 c15, .u8 c16] [(0, .s s_), (6, sl A9 b6.length c14), (7, I i5), (33, sl A9 b6.length c14), (36, .u8 c15), (42, .u8 c16)] [fun w => 0 ≤ i5 ∧ s_[Int.toNat i5]? = some c15, fun w => 0 ≤ (w64 (i5 + 1)) ∧ s_[Int.toNat (w64 (i5 + 1))]? = some c16] (by kernel_rfl) (fun x hx => ⟨geti_some h_c15, geti_some h_c16, trivial⟩) (fun listed => ?_)
    refine MX_op (fun x => Cx w x []) (fun _ h => h) rfl ?_
    obtain ⟨r_8, h_r_8, hm⟩ := Option.bind_eq_some_iff.1 hm
    refine Op_call [] 37 [.u8 c15] yt_go47 (by kernel_rfl) (c_r01_Digit c15 _ h_r_8) ?_
    rintro e_ w_17 ⟨rfl, k_51⟩
    have k_52 := k_49.call k_51
    refine ⟨I r_8, rfl, ?_⟩
    have k_53 : Cx w w_17 [] := (k_52.drop 0)
    refine ⟨k_53, fun listed => ?_⟩
    refine MX_q 1 [] [] [(0, .s s_), (6, sl A9 b6.length c14), (7, I i5), (33, sl A9 b6.length c14), (38, I (w64 (16 * r_8))), (42, .u8 c16)] [] (by kernel_rfl) (fun x hx => trivial) (fun listed => ?_)
    refine MX_op (fun x => Cx w x []) (fun _ h => h) rfl ?_
    obtain ⟨r_9, h_r_9, hm⟩ := Option.bind_eq_some_iff.1 hm
    refine Op_call [] 43 [.u8 c16] yt_go47 (by kernel_rfl) (c_r01_Digit c16 _ h_r_9) ?_
    rintro e_ w_18 ⟨rfl, k_54⟩
    have k_55 := k_52.call k_54
    refine ⟨I r_9, rfl, ?_⟩
    have k_56 : Cx w w_18 [] := (k_55.drop 0)
    refine ⟨k_56, fun listed => ?_⟩
    refine MX_q 2 [] [] [(0, .s s_), (6, sl A9 b6.length c14), (7, I i5), (33, sl A9 b6.length c14), (45, .u8 (UInt8.ofInt (w64 ((w64 (16 * r_8)) + r_9))))] [] (by kernel_rfl) (fun x hx => trivial) (fun listed => ?_)
    refine MX_op (fun x => Cx w x []) (fun _ h => h) rfl ?_
    refine Op_mk yt_tf22 bV [] 46 ([UInt8.ofInt (w64 ((w64 (16 * r_8)) + r_9))] : List UInt8) [(0, .u8 (UInt8.ofInt (w64 ((w64 (16 * r_8)) + r_9))))] [.u8 (UInt8.ofInt (w64 ((w64 (16 * r_8)) + r_9)))] (by kernel_rfl) (by kernel_rfl) (by kernel_rfl) k_55 ?_
    intro A10 w_19 k_57
    have k_58 : Cx w w_19 [] := ((k_57.drop 1).drop 0)
    refine ⟨k_58, fun listed => ?_⟩
    refine MX_op (fun x => Cx w x []) (fun _ h => h) rfl ?_
    obtain ⟨b7, h_b7, hm⟩ := Option.bind_eq_some_iff.1 hm
    obtain ⟨hz3, hl3⟩ := app_some h_b7
    refine Op_append (c2 := 1) yt_tf22 one_b [] 47 0 (by kernel_rfl) k_57 rfl (k_57.len 1 rfl) (k_57.rd 1 rfl) (by have := k_57.len 0 rfl; have := k_57.len 1 rfl; omega) ?_
    intro A11 c17 w_20 k_59
    rw [← hl3] at k_59
    have k_60 : Cx w w_20 [OwS 5 bV A11 (b6.length + 1) c17 b7] := (k_59.drop 1)
    have k_61 : Cx w w_20 [] := (k_60.drop 0)
    refine ⟨k_61, fun listed => ?_⟩
    refine MX_q 1 [] [] [(0, .s s_), (6, sl A11 (b6.length + 1) c17), (7, I i5)] [] (by kernel_rfl) (fun x hx => trivial) (fun listed => ?_)
    refine MX_nil ?_
    refine At_in ?_
    refine At_go ?_
    refine W_quiet [] [] [(0, .s s_), (6, sl A11 (b6.length + 1) c17), (7, I (w64 (i5 + 2)))] [] (by kernel_rfl) trivial ?_
    refine At_forget [(0, .s s_), (6, sl A11 (b6.length + 1) c17), (7, I (w64 (i5 + 2)))] (by kernel_rfl) ?_
    exact At_round (b7, w64 (i5 + 2)) (Option.some.inj hm).symm ⟨b7, w64 (i5 + 2), A11, b6.length + 1, c17, rfl, rfl, k_60.len 0 rfl, k_60⟩
  rw [if_neg hc9] at hm
  refine W_exit (At_te (At_te (At_ie ?_)))
  have hm := exit_of hm hr0
  refine At_go ?_
  refine W_seq ?_
  refine W_quiet [] [] [(2, sl A9 b6.length c14), (3, I 0), (4, I 0)] [] (by kernel_rfl) trivial ?_
  refine At_go ?_
  refine W_ret ?_
  obtain rfl := Option.some.inj hm
  refine At_ret [] [sl A9 b6.length c14, I 0, I 0] [] (by kernel_rfl) trivial ?_
  exact ⟨A9, _, c14, k_47.len 0 rfl, rfl, k_47⟩

-- quern/quernref01.Hex
noncomputable def m_r01_Hex_l0 (b : List UInt8) : ((List UInt8) × Int) → Option (((List UInt8) × Int) ⊕ (List UInt8))
  | (s_2, i1) => if i1 < ((b.length : Nat) : Int) then (Option.bind (geti b i1) fun x2 => Option.bind (geti [48, 49, 50, 51, 52, 53, 54, 55, 56, 57, 97, 98, 99, 100, 101, 102] ((x2 / 16).toNat : Int)) fun c5 => Option.bind (geti b i1) fun x3 => Option.bind (geti [48, 49, 50, 51, 52, 53, 54, 55, 56, 57, 97, 98, 99, 100, 101, 102] ((x3 % 16).toNat : Int)) fun c6 => Option.bind (app s_2 ([c5, c6] : List UInt8) 1) fun s_3 => some (.inl (s_3, w64 (i1 + 1)))) else (Option.map Sum.inr (some s_2))
noncomputable def m_r01_Hex (b : List UInt8) : Option (List UInt8) :=
  whileO (m_r01_Hex_l0 b) ([], 0)
theorem c_r01_Hex {w : World} (b : List UInt8) (A_b : Option Addr) (n_b c_b : Nat) (h_b : Rd w A_b (b.map bV)) (hn_b : b.length = n_b) (hc_b : n_b ≤ c_b) (r : List UInt8) (hm : m_r01_Hex b = some r) :
    Calls Try.prog 32 (vals [sl A_b n_b c_b]) w (fun e w' => e = .returned (SV.val (.s r)) ∧ Cx w w' []) := by
  subst hn_b
  unfold m_r01_Hex at hm
  refine calls [sl A_b b.length c_b] Try.func32 rfl (of_decide_eq_true (by kernel_rfl)) ?_
  have k := Cx.refl w
  refine W_seq ?_
  refine W_quiet [] [] [(0, sl A_b b.length c_b)] [] (by kernel_rfl) trivial ?_
  refine At_go ?_
  refine W_seq ?_
  refine W_quiet [] [] [(0, sl A_b b.length c_b), (3, sl none 0 0)] [] (by kernel_rfl) trivial ?_
  refine At_go ?_
  refine W_seq ?_
  refine W_seq ?_
  refine W_quiet [] [] [(0, sl A_b b.length c_b), (3, sl none 0 0), (4, I 0)] [] (by kernel_rfl) trivial ?_
  refine At_go ?_
  refine W_block ?_
  refine W_forget [(0, sl A_b b.length c_b), (3, sl none 0 0), (4, I 0)] (by kernel_rfl) ?_
  have k_8 := k.nil 5 bV
  refine W_loop (m_r01_Hex_l0 b) (fun s L wr => ∃ (s_2 : List UInt8) (i1 : Int) (A3 : Option Addr) (n1 : Nat) (c4 : Nat), (s_2, i1) = s ∧ L = [(0, sl A_b b.length c_b), (3, sl A3 n1 c4), (4, I i1)] ∧ s_2.length = n1 ∧ Cx w wr [OwS 5 bV A3 n1 c4 s_2]) ([], 0) r hm ⟨[], 0, none, 0, 0, rfl, rfl, k_8.len 0 rfl, k_8⟩ ?_
  intro s0_ L_ w_2 y0 hrel hstep hr0
  obtain ⟨s_2, i1, A3, _, c4, rfl, rfl, rfl, k_7⟩ := hrel
  have hm := hstep; simp only [m_r01_Hex_l0] at hm
  clear hstep
  refine W_seq ?_
  refine W_seq ?_
  refine W_quiet [] [] [(0, sl A_b b.length c_b), (3, sl A3 s_2.length c4), (4, I i1), (8, .b (decide (i1 < ((b.length : Nat) : Int))))] [] (by kernel_rfl) trivial ?_
  refine At_go ?_
  refine W_condp (i1 < ((b.length : Nat) : Int)) (by kernel_rfl) (fun hc1 => ?_) (fun hc1 => ?_)
  · rw [if_pos hc1] at hm
    refine W_skip ?_
    refine At_go ?_
    refine W_seq ?_
    refine W_block ?_
    have k_9 := k_7.drew 1
    have k_10 : Cx w (w_2.drewN 1) [] := (k_9.drop 0)
    refine W_mix yt_mixed [(0, true), (1, true), (2, true), (3, true), (4, true), (5, true), (6, true), (7, true), (8, true), (9, true), (10, true), (11, true), (12, true), (13, false), (14, false), (15, true)] (fun x => Cx w x []) (by kernel_rfl) k_10 (fun listed => ?_)
    obtain ⟨x2, h_x2, hm⟩ := Option.bind_eq_some_iff.1 hm
    obtain ⟨c5, h_c5, hm⟩ := Option.bind_eq_some_iff.1 hm
    obtain ⟨x3, h_x3, hm⟩ := Option.bind_eq_some_iff.1 hm
    obtain ⟨c6, h_c6, hm⟩ := Option.bind_eq_some_iff.1 hm
    refine MX_q 13 [] [.u8 x2, .u8 c5, .u8 x3, .u8 c6] [(0, sl A_b b.length c_b), (3, sl A3 s_2.length c4), (4, I i1), (11, sl A3 s_2.length c4), (17, .u8 c5), (23, .u8 c6)] [fun w => 0 ≤ i1 ∧ i1 < ((b.length : Nat) : Int) ∧ A_b.isSome = true, fun w => ∃ a, ixA A_b i1 1 = some a ∧ w.cell? a = some (SV.val (.u8 x2)), fun w => (16 : UInt8) ≠ 0, fun w => 0 ≤ ((x2 / 16).toNat : Int) ∧ [48, 49, 50, 51, 52, 53, 54, 55, 56, 57, 97, 98, 99, 100, 101, 102][Int.toNat ((x2 / 16).toNat : Int)]? = some c5, fun w => 0 ≤ i1 ∧ i1 < ((b.length : Nat) : Int) ∧ A_b.isSome = true, fun w => ∃ a, ixA A_b i1 1 = some a ∧ w.cell? a = some (SV.val (.u8 x3)), fun w => (16 : UInt8) ≠ 0, fun w => 0 ≤ ((x3 % 16).toNat : Int) ∧ [48, 49, 50, 51, 52, 53, 54, 55, 56, 57, 97, 98, 99, 100, 101, 102][Int.toNat ((x3 % 16).toNat : Int)]? = some c6] (by kernel_rfl) (fun x hx => ⟨Rd.ix (h_b.cx hx) h_x2 rfl, Rd.ld (φ := bV) (h_b.cx hx) h_x2, (by show (16 : UInt8) ≠ 0; decide), geti_some h_c5, Rd.ix (h_b.cx hx) h_x3 rfl, Rd.ld (φ := bV) (h_b.cx hx) h_x3, (by show (16 : UInt8) ≠ 0; decide), geti_some h_c6, trivial⟩) (fun listed => ?_)
    refine MX_op (fun x => Cx w x []) (fun _ h => h) rfl ?_
    refine Op_mk yt_tf22 bV [] 24 ([c5, c6] : List UInt8) [(0, .u8 c5), (1, .u8 c6)] [.u8 c5, .u8 c6] (by kernel_rfl) (by kernel_rfl) (by kernel_rfl) k_9 ?_
    intro A4 w_3 k_11
    have k_12 : Cx w w_3 [] := ((k_11.drop 1).drop 0)
    refine ⟨k_12, fun listed => ?_⟩
    refine MX_op (fun x => Cx w x []) (fun _ h => h) rfl ?_
    obtain ⟨s_3, h_s_3, hm⟩ := Option.bind_eq_some_iff.1 hm
    obtain ⟨hz1, hl1⟩ := app_some h_s_3
    refine Op_append (c2 := 2) yt_tf22 one_b [] 25 0 (by kernel_rfl) k_11 rfl (k_11.len 1 rfl) (k_11.rd 1 rfl) (by have := k_11.len 0 rfl; have := k_11.len 1 rfl; omega) ?_
    intro A5 c7 w_4 k_13
    rw [← hl1] at k_13
    have k_14 : Cx w w_4 [OwS 5 bV A5 (s_2.length + 2) c7 s_3] := (k_13.drop 1)
    have k_15 : Cx w w_4 [] := (k_14.drop 0)
    refine ⟨k_15, fun listed => ?_⟩
    refine MX_q 1 [] [] [(0, sl A_b b.length c_b), (3, sl A5 (s_2.length + 2) c7), (4, I i1)] [] (by kernel_rfl) (fun x hx => trivial) (fun listed => ?_)
    refine MX_nil ?_
    refine At_in ?_
    refine At_go ?_
    refine W_quiet [] [] [(0, sl A_b b.length c_b), (3, sl A5 (s_2.length + 2) c7), (4, I (w64 (i1 + 1)))] [] (by kernel_rfl) trivial ?_
    refine At_forget [(0, sl A_b b.length c_b), (3, sl A5 (s_2.length + 2) c7), (4, I (w64 (i1 + 1)))] (by kernel_rfl) ?_
    exact At_round (s_3, w64 (i1 + 1)) (Option.some.inj hm).symm ⟨s_3, w64 (i1 + 1), A5, s_2.length + 2, c7, rfl, rfl, k_14.len 0 rfl, k_14⟩
  rw [if_neg hc1] at hm
  refine W_exit (At_te (At_te (At_ie ?_)))
  have hm := exit_of hm hr0
  refine At_go ?_
  refine W_seq ?_
  refine W_quiet [] [.s s_2] [(2, .s s_2)] [fun w => Rd w A3 (s_2.map bV) ∧ s_2.length = s_2.length] (by kernel_rfl) (⟨⟨(k_7.rd 0 rfl), (k_7.len 0 rfl)⟩, trivial⟩) ?_
  refine At_go ?_
  refine W_ret ?_
  obtain rfl := Option.some.inj hm
  refine At_ret [] [.s s_2] [] (by kernel_rfl) trivial ?_
  have k_16 : Cx w w_2 [] := (k_7.drop 0)
  exact ⟨rfl, k_16⟩

-- quern/quernlaw01.WordHex
noncomputable def m_l01_WordHex (b : List UInt8) (s_ : List UInt8) : Option Bool :=
  Option.bind (m_word_Hex b) fun r_ => Option.bind (m_word_UnHex s_) fun r_1 => Option.bind (m_r01_UnHex s_) fun r_2 => Option.bind (m_r01_Hex b) fun r_3 => if r_ = r_3 then (Option.bind (m_l01_same r_1.1 r_2.1) fun r_4 => some ((r_4 && (decide (r_1.2.1 = r_2.2.1))) && (decide (r_1.2.2 = r_2.2.2)))) else (some false)
theorem c_l01_WordHex {w : World} (b : List UInt8) (A_b : Option Addr) (n_b c_b : Nat) (h_b : Rd w A_b (b.map bV)) (hn_b : b.length = n_b) (hc_b : n_b ≤ c_b) (s_ : List UInt8) (r : Bool) (hm : m_l01_WordHex b s_ = some r) :
    Calls Try.prog 9 (vals [sl A_b n_b c_b, .s s_]) w (fun e w' => e = .returned (SV.val (.b r)) ∧ Cx w w' []) := by
  subst hn_b
  unfold m_l01_WordHex at hm
  refine calls [sl A_b b.length c_b, .s s_] Try.func9 rfl (of_decide_eq_true (by kernel_rfl)) ?_
  have k := Cx.refl w
  refine W_seq ?_
  refine W_quiet [] [] [(0, sl A_b b.length c_b), (1, .s s_)] [] (by kernel_rfl) trivial ?_
  refine At_go ?_
  refine W_seq ?_
  refine W_reg ?_
  refine WL_seg 1 [] [] [(0, sl A_b b.length c_b), (1, .s s_), (12, sl A_b b.length c_b)] [] (by kernel_rfl) trivial ?_
  refine WL_op ?_
  obtain ⟨r_, h_r_, hm⟩ := Option.bind_eq_some_iff.1 hm
  refine Op_call [] 13 [sl A_b b.length c_b] yt_go29 (by kernel_rfl) (c_word_Hex b A_b b.length c_b (h_b.cx k) rfl hc_b _ h_r_) ?_
  rintro e_ w_ ⟨rfl, k_⟩
  have k_1 := k.call k_
  refine ⟨.s r_, rfl, ?_⟩
  refine WL_seg 1 [] [] [(0, sl A_b b.length c_b), (1, .s s_), (5, .s r_)] [] (by kernel_rfl) trivial ?_
  refine WL_nil ?_
  refine At_go ?_
  refine W_seq ?_
  refine W_reg ?_
  refine WL_seg 1 [] [] [(0, sl A_b b.length c_b), (1, .s s_), (5, .s r_), (15, .s s_)] [] (by kernel_rfl) trivial ?_
  refine WL_op ?_
  obtain ⟨r_1, h_r_1, hm⟩ := Option.bind_eq_some_iff.1 hm
  refine Op_call [] 16 [.s s_] yt_go30 (by kernel_rfl) (c_word_UnHex s_ _ h_r_1) ?_
  rintro e_ w_1 ⟨A, _, c, rfl, rfl, k_2⟩
  have k_3 := k_1.call k_2
  refine ⟨.tup [sl A r_1.1.length c, I r_1.2.1, I r_1.2.2], rfl, ?_⟩
  refine WL_seg 7 [] [] [(0, sl A_b b.length c_b), (1, .s s_), (5, .s r_), (6, sl A r_1.1.length c), (7, I r_1.2.1), (8, I r_1.2.2)] [] (by kernel_rfl) trivial ?_
  refine WL_nil ?_
  refine At_go ?_
  refine W_seq ?_
  refine W_reg ?_
  refine WL_seg 1 [] [] [(0, sl A_b b.length c_b), (5, .s r_), (6, sl A r_1.1.length c), (7, I r_1.2.1), (8, I r_1.2.2), (21, .s s_)] [] (by kernel_rfl) trivial ?_
  refine WL_op ?_
  obtain ⟨r_2, h_r_2, hm⟩ := Option.bind_eq_some_iff.1 hm
  refine Op_call [] 22 [.s s_] yt_go31 (by kernel_rfl) (c_r01_UnHex s_ _ h_r_2) ?_
  rintro e_ w_2 ⟨A1, _, c1, rfl, rfl, k_4⟩
  have k_5 := k_3.call k_4
  refine ⟨.tup [sl A1 r_2.1.length c1, I r_2.2.1, I r_2.2.2], rfl, ?_⟩
  refine WL_seg 7 [] [] [(0, sl A_b b.length c_b), (5, .s r_), (6, sl A r_1.1.length c), (7, I r_1.2.1), (8, I r_1.2.2), (9, sl A1 r_2.1.length c1), (10, I r_2.2.1), (11, I r_2.2.2)] [] (by kernel_rfl) trivial ?_
  refine WL_nil ?_
  refine At_go ?_
  refine W_seq ?_
  refine W_reg ?_
  refine WL_seg 2 [] [] [(6, sl A r_1.1.length c), (7, I r_1.2.1), (8, I r_1.2.2), (9, sl A1 r_2.1.length c1), (10, I r_2.2.1), (11, I r_2.2.2), (26, .s r_), (27, sl A_b b.length c_b)] [] (by kernel_rfl) trivial ?_
  refine WL_op ?_
  obtain ⟨r_3, h_r_3, hm⟩ := Option.bind_eq_some_iff.1 hm
  refine Op_call [] 28 [sl A_b b.length c_b] yt_go32 (by kernel_rfl) (c_r01_Hex b A_b b.length c_b (h_b.cx k_5) rfl hc_b _ h_r_3) ?_
  rintro e_ w_3 ⟨rfl, k_6⟩
  have k_7 := k_5.call k_6
  refine ⟨.s r_3, rfl, ?_⟩
  refine WL_seg 2 [] [] [(6, sl A r_1.1.length c), (7, I r_1.2.1), (8, I r_1.2.2), (9, sl A1 r_2.1.length c1), (10, I r_2.2.1), (11, I r_2.2.2), (30, .b (decide (r_ = r_3)))] [] (by kernel_rfl) trivial ?_
  refine WL_split 30 (decide (r_ = r_3)) [(6, sl A r_1.1.length c), (7, I r_1.2.1), (8, I r_1.2.2), (9, sl A1 r_2.1.length c1), (10, I r_2.2.1), (11, I r_2.2.2), (30, .b true)] [(6, sl A r_1.1.length c), (7, I r_1.2.1), (8, I r_1.2.2), (9, sl A1 r_2.1.length c1), (10, I r_2.2.1), (11, I r_2.2.2), (30, .b false)] (by kernel_rfl) (by kernel_rfl) (by kernel_rfl) (fun hg => ?_) (fun hg => ?_)
  · rw [if_pos (of_decide_eq_true hg)] at hm
    refine WL_seg 2 [30] [] [(7, I r_1.2.1), (8, I r_1.2.2), (10, I r_2.2.1), (11, I r_2.2.2), (30, .b true), (31, sl A r_1.1.length c), (32, sl A1 r_2.1.length c1)] [] (by kernel_rfl) trivial ?_
    refine WL_op ?_
    obtain ⟨r_4, h_r_4, hm⟩ := Option.bind_eq_some_iff.1 hm
    refine Op_call [30] 33 [sl A r_1.1.length c, sl A1 r_2.1.length c1] yt_go16 (by kernel_rfl) (c_l01_same r_1.1 A r_1.1.length c (k_7.rd 0 rfl) (k_7.len 0 rfl) (k_7.lec 0 rfl) r_2.1 A1 r_2.1.length c1 (k_7.rd 1 rfl) (k_7.len 1 rfl) (k_7.lec 1 rfl) _ h_r_4) ?_
    rintro e_ w_4 ⟨rfl, k_8⟩
    have k_9 := k_7.call k_8
    refine ⟨.b r_4, rfl, ?_⟩
    refine WL_seg 12 [30] [] [(4, .b ((r_4 && (decide (r_1.2.1 = r_2.2.1))) && (decide (r_1.2.2 = r_2.2.2))))] [] (by kernel_rfl) trivial ?_
    refine WL_nil ?_
    refine At_go ?_
    refine W_ret ?_
    obtain rfl := Option.some.inj hm
    refine At_ret [] [.b ((r_4 && (decide (r_1.2.1 = r_2.2.1))) && (decide (r_1.2.2 = r_2.2.2)))] [] (by kernel_rfl) trivial ?_
    have k_10 : Cx w w_4 [] := ((k_9.drop 1).drop 0)
    exact ⟨rfl, k_10⟩
  · rw [if_neg (of_decide_eq_false hg)] at hm
    refine WL_seg 15 [30, 35, 40] [] [(4, .b false)] [] (by kernel_rfl) trivial ?_
    refine WL_nil ?_
    refine At_go ?_
    refine W_ret ?_
    obtain rfl := Option.some.inj hm
    refine At_ret [] [.b false] [] (by kernel_rfl) trivial ?_
    have k_11 : Cx w w_3 [] := ((k_7.drop 1).drop 0)
    exact ⟨rfl, k_11⟩

-- quern/quernref01.Add
noncomputable def m_r01_Add (lo : UInt64) (hi : UInt64) (n : UInt64) : Option (UInt64 × UInt64 × Bool) :=
  if lo ≤ (lo + n) then (some (lo + n, hi, false)) else (some (lo + n, hi + 1, decide ((hi + 1) = 0)))
theorem c_r01_Add {w : World} (lo : UInt64) (hi : UInt64) (n : UInt64) (r : UInt64 × UInt64 × Bool) (hm : m_r01_Add lo hi n = some r) :
    Calls Try.prog 33 (vals [.u64 lo, .u64 hi, .u64 n]) w (fun e w' => e = .returned (SV.val (.tup [.u64 r.1, .u64 r.2.1, .b r.2.2])) ∧ Cx w w' []) := by
  unfold m_r01_Add at hm
  refine calls [.u64 lo, .u64 hi, .u64 n] Try.func33 rfl (of_decide_eq_true (by kernel_rfl)) ?_
  have k := Cx.refl w
  refine W_seq ?_
  refine W_quiet [] [] [(0, .u64 lo), (1, .u64 hi), (2, .u64 n)] [] (by kernel_rfl) trivial ?_
  refine At_go ?_
  refine W_seq ?_
  refine W_quiet [] [] [(0, .u64 lo), (1, .u64 hi), (9, .u64 (lo + n))] [] (by kernel_rfl) trivial ?_
  refine At_go ?_
  refine W_seq ?_
  refine W_seq ?_
  refine W_quiet [] [] [(1, .u64 hi), (9, .u64 (lo + n)), (15, .b (decide (lo ≤ (lo + n))))] [] (by kernel_rfl) trivial ?_
  refine At_go ?_
  refine W_condp (lo ≤ (lo + n)) (by kernel_rfl) (fun hc => ?_) (fun hc => ?_)
  · rw [if_pos hc] at hm
    refine W_seq ?_
    refine W_quiet [] [] [(6, .u64 (lo + n)), (7, .u64 hi), (8, .b false)] [] (by kernel_rfl) trivial ?_
    refine At_go ?_
    refine W_ret (At_tr ?_)
    obtain rfl := Option.some.inj hm
    refine At_ret [] [.u64 (lo + n), .u64 hi, .b false] [] (by kernel_rfl) trivial ?_
    exact ⟨rfl, k⟩
  rw [if_neg hc] at hm
  refine W_skip ?_
  refine At_go ?_
  refine W_seq ?_
  refine W_quiet [] [] [(6, .u64 (lo + n)), (7, .u64 (hi + 1)), (8, .b (decide ((hi + 1) = 0)))] [] (by kernel_rfl) trivial ?_
  refine At_go ?_
  refine W_ret ?_
  obtain rfl := Option.some.inj hm
  refine At_ret [] [.u64 (lo + n), .u64 (hi + 1), .b (decide ((hi + 1) = 0))] [] (by kernel_rfl) trivial ?_
  exact ⟨rfl, k⟩

-- quern/quernlaw01.WordCounts
noncomputable def m_l01_WordCounts (c_Lo : UInt64) (c_Hi : UInt64) (n : UInt64) : Option Bool :=
  Option.bind (m_word_Add c_Lo c_Hi n) fun r_ => Option.bind (m_r01_Add c_Lo c_Hi n) fun r_1 => if (((decide (r_.1.1 = r_1.1)) && (decide (r_.1.2 = r_1.2.1))) && (decide (r_.2 = r_1.2.2))) = true then (Option.bind m_l01_awake fun r_2 => some r_2) else (some false)
theorem c_l01_WordCounts {w : World} (c_Lo : UInt64) (c_Hi : UInt64) (n : UInt64) (r : Bool) (hm : m_l01_WordCounts c_Lo c_Hi n = some r) :
    Calls Try.prog 10 (vals [.agg [.u64 c_Lo, .u64 c_Hi], .u64 n]) w (fun e w' => e = .returned (SV.val (.b r)) ∧ Cx w w' []) := by
  unfold m_l01_WordCounts at hm
  refine calls [.agg [.u64 c_Lo, .u64 c_Hi], .u64 n] Try.func10 rfl (of_decide_eq_true (by kernel_rfl)) ?_
  have k := Cx.refl w
  refine W_seq ?_
  refine W_reg ?_
  refine WL_op ?_
  refine Op_box [] 2 (.agg [.u64 c_Lo, .u64 c_Hi]) [.u64 c_Lo, .u64 c_Hi] (SV.vals [.u64 c_Lo, .u64 c_Hi]) (by kernel_rfl) rfl k ?_
  intro g w_ k_
  refine WL_seg 1 [] [] [(1, .u64 n), (2, pt g 0)] [] (by kernel_rfl) trivial ?_
  refine WL_nil ?_
  refine At_go ?_
  refine W_seq ?_
  refine W_reg ?_
  refine WL_seg 2 [] [.agg [.u64 c_Lo, .u64 c_Hi]] [(1, .u64 n), (2, pt g 0), (11, .agg [.u64 c_Lo, .u64 c_Hi]), (12, .u64 n)] [fun w => ∃ a, some (⟨g, 0, none⟩ : Addr) = some a ∧ Rd w (some a) (SV.vals [.u64 c_Lo, .u64 c_Hi])] (by kernel_rfl) (⟨⟨_, rfl, k_.bxr 0 rfl 0 2⟩, trivial⟩) ?_
  refine WL_op ?_
  obtain ⟨r_, h_r_, hm⟩ := Option.bind_eq_some_iff.1 hm
  refine Op_call [] 13 [.agg [.u64 c_Lo, .u64 c_Hi], .u64 n] yt_go19 (by kernel_rfl) (c_word_Add c_Lo c_Hi n _ h_r_) ?_
  rintro e_ w_1 ⟨rfl, k_1⟩
  have k_2 := k_.call k_1
  refine ⟨.tup [.agg [.u64 r_.1.1, .u64 r_.1.2], .b r_.2], rfl, ?_⟩
  refine WL_seg 3 [] [] [(1, .u64 n), (2, pt g 0), (14, .agg [.u64 r_.1.1, .u64 r_.1.2]), (15, .b r_.2)] [] (by kernel_rfl) trivial ?_
  refine WL_op ?_
  refine Op_alloc [] 5 [.u64 0, .u64 0] (SV.vals [.u64 0, .u64 0]) (by kernel_rfl) rfl k_2 ?_
  intro g1 w_2 k_3
  refine WL_op ?_
  refine Op_bsetA [] 1 0 [.u64 r_.1.1, .u64 r_.1.2] (by kernel_rfl) k_3 rfl ?_
  intro w_3 k_4x
  have k_4 : Cx w w_3 [Bx 33 g (SV.vals [.u64 c_Lo, .u64 c_Hi]), Bx 33 g1 (SV.vals [.u64 r_.1.1, .u64 r_.1.2])] := k_4x
  refine WL_seg 1 [] [] [(1, .u64 n), (2, pt g 0), (5, pt g1 0), (6, .b r_.2)] [] (by kernel_rfl) trivial ?_
  refine WL_nil ?_
  refine At_go ?_
  refine W_seq ?_
  refine W_reg ?_
  refine WL_seg 5 [] [.u64 c_Lo, .u64 c_Hi] [(5, pt g1 0), (6, .b r_.2), (18, .u64 c_Lo), (20, .u64 c_Hi), (21, .u64 n)] [fun w => ∃ a, some (⟨g, 0, none⟩ : Addr) = some a ∧ w.cell? a = some (SV.val (.u64 c_Lo)), fun w => ∃ a, some (⟨g, 1, none⟩ : Addr) = some a ∧ w.cell? a = some (SV.val (.u64 c_Hi))] (by kernel_rfl) (⟨⟨_, rfl, k_4.bxc 0 rfl 0 rfl⟩, ⟨_, rfl, k_4.bxc 0 rfl 1 rfl⟩, trivial⟩) ?_
  refine WL_op ?_
  obtain ⟨r_1, h_r_1, hm⟩ := Option.bind_eq_some_iff.1 hm
  refine Op_call [] 22 [.u64 c_Lo, .u64 c_Hi, .u64 n] yt_go33 (by kernel_rfl) (c_r01_Add c_Lo c_Hi n _ h_r_1) ?_
  rintro e_ w_4 ⟨rfl, k_5⟩
  have k_6 := k_4.call k_5
  refine ⟨.tup [.u64 r_1.1, .u64 r_1.2.1, .b r_1.2.2], rfl, ?_⟩
  refine WL_seg 7 [] [] [(5, pt g1 0), (6, .b r_.2), (7, .u64 r_1.1), (8, .u64 r_1.2.1), (9, .b r_1.2.2)] [] (by kernel_rfl) trivial ?_
  refine WL_nil ?_
  refine At_go ?_
  refine W_seq ?_
  refine W_reg ?_
  refine WL_seg 16 [] [.u64 r_.1.1, .u64 r_.1.2] [(41, .b (((decide (r_.1.1 = r_1.1)) && (decide (r_.1.2 = r_1.2.1))) && (decide (r_.2 = r_1.2.2))))] [fun w => ∃ a, some (⟨g1, 0, none⟩ : Addr) = some a ∧ w.cell? a = some (SV.val (.u64 r_.1.1)), fun w => (decide (r_.1.1 = r_1.1)) = true → ∃ a, some (⟨g1, 1, none⟩ : Addr) = some a ∧ w.cell? a = some (SV.val (.u64 r_.1.2))] (by kernel_rfl) (⟨⟨_, rfl, k_6.bxc 1 rfl 0 rfl⟩, fun hg0 => ⟨_, rfl, k_6.bxc 1 rfl 1 rfl⟩, trivial⟩) ?_
  refine WL_split 41 (((decide (r_.1.1 = r_1.1)) && (decide (r_.1.2 = r_1.2.1))) && (decide (r_.2 = r_1.2.2))) [(41, .b true)] [(41, .b false)] (by kernel_rfl) (by kernel_rfl) (by kernel_rfl) (fun hg => ?_) (fun hg => ?_)
  · rw [if_pos hg] at hm
    refine WL_op ?_
    obtain ⟨r_2, h_r_2, hm⟩ := Option.bind_eq_some_iff.1 hm
    refine Op_call [41] 42 [] yt_go26 (by kernel_rfl) (c_l01_awake  _ h_r_2) ?_
    rintro e_ w_5 ⟨rfl, k_7⟩
    have k_8 := k_6.call k_7
    refine ⟨.b r_2, rfl, ?_⟩
    refine WL_seg 2 [41] [] [(4, .b r_2)] [] (by kernel_rfl) trivial ?_
    refine WL_nil ?_
    refine At_go ?_
    refine W_ret ?_
    obtain rfl := Option.some.inj hm
    refine At_ret [] [.b r_2] [] (by kernel_rfl) trivial ?_
    have k_9 : Cx w w_5 [] := ((k_8.drop 1).drop 0)
    exact ⟨rfl, k_9⟩
  · rw [if_neg (by rw [hg]; decide)] at hm
    refine WL_seg 3 [41] [] [(4, .b false)] [] (by kernel_rfl) trivial ?_
    refine WL_nil ?_
    refine At_go ?_
    refine W_ret ?_
    obtain rfl := Option.some.inj hm
    refine At_ret [] [.b false] [] (by kernel_rfl) trivial ?_
    have k_10 : Cx w w_4 [] := ((k_6.drop 1).drop 0)
    exact ⟨rfl, k_10⟩

-- quern/word.Base64
noncomputable def m_word_Base64_j3 (i1 : Int) (s_7 : List UInt8) : Option (((List UInt8) × Int) ⊕ (List UInt8)) :=
  some (.inl (s_7, w64 (i1 + 3)))
noncomputable def m_word_Base64_l2 (b : List UInt8) (i1 : Int) (v3 : UInt32) : ((List UInt8) × Int) → Option (((List UInt8) × Int) ⊕ (((List UInt8) × Int) ⊕ (List UInt8)))
  | (s_10, x9) => if x9 < (w64 ((if w64 (((b.length : Nat) : Int) - i1) < 3 then w64 (((b.length : Nat) : Int) - i1) else 3) + 1)) then (Option.bind (need (0 ≤ w64 (18 - (w64 (6 * x9))))) fun u1 => Option.bind (geti [65, 66, 67, 68, 69, 70, 71, 72, 73, 74, 75, 76, 77, 78, 79, 80, 81, 82, 83, 84, 85, 86, 87, 88, 89, 90, 97, 98, 99, 100, 101, 102, 103, 104, 105, 106, 107, 108, 109, 110, 111, 112, 113, 114, 115, 116, 117, 118, 119, 120, 121, 122, 48, 49, 50, 51, 52, 53, 54, 55, 56, 57, 43, 47] (((shr32 v3 (Int.toNat (w64 (18 - (w64 (6 * x9)))))) &&& 63).toNat : Int)) fun c14 => Option.bind (app s_10 ([c14] : List UInt8) 1) fun s_11 => some (.inl (s_11, w64 (x9 + 1)))) else (Option.map Sum.inr (m_word_Base64_j3 i1 s_10))
noncomputable def m_word_Base64_j5 (b : List UInt8) (s_6 : List UInt8) (i1 : Int) (v3 : UInt32) : Option (((List UInt8) × Int) ⊕ (List UInt8)) :=
  whileO (m_word_Base64_l2 b i1 v3) (s_6, 0)
noncomputable def m_word_Base64_j4 (b : List UInt8) (s_6 : List UInt8) (i1 : Int) (v2 : UInt32) : Option (((List UInt8) × Int) ⊕ (List UInt8)) :=
  if 2 < (if w64 (((b.length : Nat) : Int) - i1) < 3 then w64 (((b.length : Nat) : Int) - i1) else 3) then (Option.bind (geti b (w64 (i1 + 2))) fun x7 => m_word_Base64_j5 b s_6 i1 (v2 ||| (UInt32.ofNat x7.toNat))) else (m_word_Base64_j5 b s_6 i1 v2)
noncomputable def m_word_Base64_l1 (b : List UInt8) : ((List UInt8) × Int) → Option (((List UInt8) × Int) ⊕ (List UInt8))
  | (s_6, i1) => if i1 < ((b.length : Nat) : Int) then (Option.bind (geti b i1) fun x5 => if 1 < (if w64 (((b.length : Nat) : Int) - i1) < 3 then w64 (((b.length : Nat) : Int) - i1) else 3) then (Option.bind (geti b (w64 (i1 + 1))) fun x6 => m_word_Base64_j4 b s_6 i1 ((shl32 (UInt32.ofNat x5.toNat) ((16 : UInt64).toNat)) ||| (shl32 (UInt32.ofNat x6.toNat) ((8 : UInt64).toNat)))) else (m_word_Base64_j4 b s_6 i1 (shl32 (UInt32.ofNat x5.toNat) ((16 : UInt64).toNat)))) else (Option.map Sum.inr (some s_6))
noncomputable def m_word_Base64 (b : List UInt8) : Option (List UInt8) :=
  whileO (m_word_Base64_l1 b) ([], 0)
theorem c_word_Base64 {w : World} (b : List UInt8) (A_b : Option Addr) (n_b c_b : Nat) (h_b : Rd w A_b (b.map bV)) (hn_b : b.length = n_b) (hc_b : n_b ≤ c_b) (r : List UInt8) (hm : m_word_Base64 b = some r) :
    Calls Try.prog 36 (vals [sl A_b n_b c_b]) w (fun e w' => e = .returned (SV.val (.s r)) ∧ Cx w w' []) := by
  subst hn_b
  unfold m_word_Base64 at hm
  refine calls [sl A_b b.length c_b] Try.func36 rfl (of_decide_eq_true (by kernel_rfl)) ?_
  have k := Cx.refl w
  refine W_seq ?_
  refine W_quiet [] [] [(0, sl A_b b.length c_b)] [] (by kernel_rfl) trivial ?_
  refine At_go ?_
  refine W_seq ?_
  refine W_quiet [] [] [(0, sl A_b b.length c_b), (3, sl none 0 0)] [] (by kernel_rfl) trivial ?_
  refine At_go ?_
  refine W_seq ?_
  refine W_seq ?_
  refine W_quiet [] [] [(0, sl A_b b.length c_b), (3, sl none 0 0), (4, I 0)] [] (by kernel_rfl) trivial ?_
  refine At_go ?_
  refine W_block ?_
  refine W_forget [(0, sl A_b b.length c_b), (3, sl none 0 0), (4, I 0)] (by kernel_rfl) ?_
  have k_14 := k.nil 5 bV
  refine W_loop (m_word_Base64_l1 b) (fun s L wr => ∃ (s_6 : List UInt8) (i1 : Int) (A8 : Option Addr) (n4 : Nat) (c8 : Nat), (s_6, i1) = s ∧ L = [(0, sl A_b b.length c_b), (3, sl A8 n4 c8), (4, I i1)] ∧ s_6.length = n4 ∧ Cx w wr [OwS 5 bV A8 n4 c8 s_6]) ([], 0) r hm ⟨[], 0, none, 0, 0, rfl, rfl, k_14.len 0 rfl, k_14⟩ ?_
  intro s0_ L_ w_8 y0 hrel hstep hr0
  obtain ⟨s_6, i1, A8, _, c8, rfl, rfl, rfl, k_13⟩ := hrel
  have hm := hstep; simp only [m_word_Base64_l1] at hm
  clear hstep
  refine W_seq ?_
  refine W_seq ?_
  refine W_quiet [] [] [(0, sl A_b b.length c_b), (3, sl A8 s_6.length c8), (4, I i1), (11, .b (decide (i1 < ((b.length : Nat) : Int))))] [] (by kernel_rfl) trivial ?_
  refine At_go ?_
  refine W_condp (i1 < ((b.length : Nat) : Int)) (by kernel_rfl) (fun hc5 => ?_) (fun hc5 => ?_)
  · rw [if_pos hc5] at hm
    refine W_skip ?_
    refine At_go ?_
    refine W_cut (fun L wr => ∃ (s_7 : List UInt8) (A9 : Option Addr) (n5 : Nat) (c9 : Nat), m_word_Base64_j3 i1 s_7 = some y0 ∧ L = [(0, sl A_b b.length c_b), (3, sl A9 n5 c9), (4, I i1)] ∧ s_7.length = n5 ∧ Cx w wr [OwS 5 bV A9 n5 c9 s_7]) ?_ ?_
    ·
      refine W_block ?_
      refine W_seq ?_
      refine W_quiet [] [] [(0, sl A_b b.length c_b), (3, sl A8 s_6.length c8), (4, I i1), (5, I (if w64 (((b.length : Nat) : Int) - i1) < 3 then w64 (((b.length : Nat) : Int) - i1) else 3))] [] (by kernel_rfl) trivial ?_
      refine At_go ?_
      refine W_seq ?_
      obtain ⟨x5, h_x5, hm⟩ := Option.bind_eq_some_iff.1 hm
      refine W_quiet [] [.u8 x5] [(0, sl A_b b.length c_b), (3, sl A8 s_6.length c8), (4, I i1), (5, I (if w64 (((b.length : Nat) : Int) - i1) < 3 then w64 (((b.length : Nat) : Int) - i1) else 3)), (6, .u32 (shl32 (UInt32.ofNat x5.toNat) ((16 : UInt64).toNat)))] [fun w => 0 ≤ i1 ∧ i1 < ((b.length : Nat) : Int) ∧ A_b.isSome = true, fun w => ∃ a, ixA A_b i1 1 = some a ∧ w.cell? a = some (SV.val (.u8 x5))] (by kernel_rfl) (⟨Rd.ix (h_b.cx k_13) h_x5 rfl, Rd.ld (φ := bV) (h_b.cx k_13) h_x5, trivial⟩) ?_
      refine At_go ?_
      refine W_cut (fun L wr => ∃ (v2 : UInt32), m_word_Base64_j4 b s_6 i1 v2 = some y0 ∧ L = [(0, sl A_b b.length c_b), (3, sl A8 s_6.length c8), (4, I i1), (5, I (if w64 (((b.length : Nat) : Int) - i1) < 3 then w64 (((b.length : Nat) : Int) - i1) else 3)), (6, .u32 v2)] ∧ Cx w wr [OwS 5 bV A8 s_6.length c8 s_6]) ?_ ?_
      ·
        refine W_seq ?_
        refine W_quiet [] [] [(0, sl A_b b.length c_b), (3, sl A8 s_6.length c8), (4, I i1), (5, I (if w64 (((b.length : Nat) : Int) - i1) < 3 then w64 (((b.length : Nat) : Int) - i1) else 3)), (6, .u32 (shl32 (UInt32.ofNat x5.toNat) ((16 : UInt64).toNat))), (26, .b (decide (1 < (if w64 (((b.length : Nat) : Int) - i1) < 3 then w64 (((b.length : Nat) : Int) - i1) else 3))))] [] (by kernel_rfl) trivial ?_
        refine At_go ?_
        refine W_condp (1 < (if w64 (((b.length : Nat) : Int) - i1) < 3 then w64 (((b.length : Nat) : Int) - i1) else 3)) (by kernel_rfl) (fun hc6 => ?_) (fun hc6 => ?_)
        · rw [if_pos hc6] at hm
          obtain ⟨x6, h_x6, hm⟩ := Option.bind_eq_some_iff.1 hm
          refine W_quiet [] [.u8 x6] [(0, sl A_b b.length c_b), (3, sl A8 s_6.length c8), (4, I i1), (5, I (if w64 (((b.length : Nat) : Int) - i1) < 3 then w64 (((b.length : Nat) : Int) - i1) else 3)), (6, .u32 ((shl32 (UInt32.ofNat x5.toNat) ((16 : UInt64).toNat)) ||| (shl32 (UInt32.ofNat x6.toNat) ((8 : UInt64).toNat))))] [fun w => 0 ≤ (w64 (i1 + 1)) ∧ (w64 (i1 + 1)) < ((b.length : Nat) : Int) ∧ A_b.isSome = true, fun w => ∃ a, ixA A_b (w64 (i1 + 1)) 1 = some a ∧ w.cell? a = some (SV.val (.u8 x6))] (by kernel_rfl) (⟨Rd.ix (h_b.cx k_13) h_x6 rfl, Rd.ld (φ := bV) (h_b.cx k_13) h_x6, trivial⟩) ?_
          refine At_forget [(0, sl A_b b.length c_b), (3, sl A8 s_6.length c8), (4, I i1), (5, I (if w64 (((b.length : Nat) : Int) - i1) < 3 then w64 (((b.length : Nat) : Int) - i1) else 3)), (6, .u32 ((shl32 (UInt32.ofNat x5.toNat) ((16 : UInt64).toNat)) ||| (shl32 (UInt32.ofNat x6.toNat) ((8 : UInt64).toNat))))] (by kernel_rfl) ?_
          exact At_cut ⟨(shl32 (UInt32.ofNat x5.toNat) ((16 : UInt64).toNat)) ||| (shl32 (UInt32.ofNat x6.toNat) ((8 : UInt64).toNat)), hm, rfl, k_13⟩
        rw [if_neg hc6] at hm
        refine W_skip ?_
        refine At_forget [(0, sl A_b b.length c_b), (3, sl A8 s_6.length c8), (4, I i1), (5, I (if w64 (((b.length : Nat) : Int) - i1) < 3 then w64 (((b.length : Nat) : Int) - i1) else 3)), (6, .u32 (shl32 (UInt32.ofNat x5.toNat) ((16 : UInt64).toNat)))] (by kernel_rfl) ?_
        exact At_cut ⟨shl32 (UInt32.ofNat x5.toNat) ((16 : UInt64).toNat), hm, rfl, k_13⟩
      rintro L_ w_9 ⟨v2, hm, rfl, k_15⟩
      simp only [m_word_Base64_j4] at hm
      refine W_cut (fun L wr => ∃ (v3 : UInt32), m_word_Base64_j5 b s_6 i1 v3 = some y0 ∧ L = [(0, sl A_b b.length c_b), (3, sl A8 s_6.length c8), (4, I i1), (5, I (if w64 (((b.length : Nat) : Int) - i1) < 3 then w64 (((b.length : Nat) : Int) - i1) else 3)), (6, .u32 v3)] ∧ Cx w wr [OwS 5 bV A8 s_6.length c8 s_6]) ?_ ?_
      ·
        refine W_seq ?_
        refine W_quiet [] [] [(0, sl A_b b.length c_b), (3, sl A8 s_6.length c8), (4, I i1), (5, I (if w64 (((b.length : Nat) : Int) - i1) < 3 then w64 (((b.length : Nat) : Int) - i1) else 3)), (6, .u32 v2), (37, .b (decide (2 < (if w64 (((b.length : Nat) : Int) - i1) < 3 then w64 (((b.length : Nat) : Int) - i1) else 3))))] [] (by kernel_rfl) trivial ?_
        refine At_go ?_
        refine W_condp (2 < (if w64 (((b.length : Nat) : Int) - i1) < 3 then w64 (((b.length : Nat) : Int) - i1) else 3)) (by kernel_rfl) (fun hc7 => ?_) (fun hc7 => ?_)
        · rw [if_pos hc7] at hm
          obtain ⟨x7, h_x7, hm⟩ := Option.bind_eq_some_iff.1 hm
          refine W_quiet [] [.u8 x7] [(0, sl A_b b.length c_b), (3, sl A8 s_6.length c8), (4, I i1), (5, I (if w64 (((b.length : Nat) : Int) - i1) < 3 then w64 (((b.length : Nat) : Int) - i1) else 3)), (6, .u32 (v2 ||| (UInt32.ofNat x7.toNat)))] [fun w => 0 ≤ (w64 (i1 + 2)) ∧ (w64 (i1 + 2)) < ((b.length : Nat) : Int) ∧ A_b.isSome = true, fun w => ∃ a, ixA A_b (w64 (i1 + 2)) 1 = some a ∧ w.cell? a = some (SV.val (.u8 x7))] (by kernel_rfl) (⟨Rd.ix (h_b.cx k_15) h_x7 rfl, Rd.ld (φ := bV) (h_b.cx k_15) h_x7, trivial⟩) ?_
          refine At_forget [(0, sl A_b b.length c_b), (3, sl A8 s_6.length c8), (4, I i1), (5, I (if w64 (((b.length : Nat) : Int) - i1) < 3 then w64 (((b.length : Nat) : Int) - i1) else 3)), (6, .u32 (v2 ||| (UInt32.ofNat x7.toNat)))] (by kernel_rfl) ?_
          exact At_cut ⟨v2 ||| (UInt32.ofNat x7.toNat), hm, rfl, k_15⟩
        rw [if_neg hc7] at hm
        refine W_skip ?_
        refine At_forget [(0, sl A_b b.length c_b), (3, sl A8 s_6.length c8), (4, I i1), (5, I (if w64 (((b.length : Nat) : Int) - i1) < 3 then w64 (((b.length : Nat) : Int) - i1) else 3)), (6, .u32 v2)] (by kernel_rfl) ?_
        exact At_cut ⟨v2, hm, rfl, k_15⟩
      rintro L_ w_10 ⟨v3, hm, rfl, k_16⟩
      simp only [m_word_Base64_j5] at hm
      refine W_seq ?_
      refine W_quiet [] [] [(0, sl A_b b.length c_b), (3, sl A8 s_6.length c8), (4, I i1), (6, .u32 v3), (47, I (w64 ((if w64 (((b.length : Nat) : Int) - i1) < 3 then w64 (((b.length : Nat) : Int) - i1) else 3) + 1))), (48, I 0)] [] (by kernel_rfl) trivial ?_
      refine At_go ?_
      refine W_block ?_
      refine W_forget [(0, sl A_b b.length c_b), (3, sl A8 s_6.length c8), (4, I i1), (6, .u32 v3), (47, I (w64 ((if w64 (((b.length : Nat) : Int) - i1) < 3 then w64 (((b.length : Nat) : Int) - i1) else 3) + 1))), (48, I 0)] (by kernel_rfl) ?_
      refine W_loop (m_word_Base64_l2 b i1 v3) (fun s L wr => ∃ (s_10 : List UInt8) (x9 : Int) (A13 : Option Addr) (n7 : Nat) (c13 : Nat), (s_10, x9) = s ∧ L = [(0, sl A_b b.length c_b), (3, sl A13 n7 c13), (4, I i1), (6, .u32 v3), (47, I (w64 ((if w64 (((b.length : Nat) : Int) - i1) < 3 then w64 (((b.length : Nat) : Int) - i1) else 3) + 1))), (48, I x9)] ∧ s_10.length = n7 ∧ Cx w wr [OwS 5 bV A13 n7 c13 s_10]) (s_6, 0) y0 hm ⟨s_6, 0, A8, s_6.length, c8, rfl, rfl, k_16.len 0 rfl, k_16⟩ ?_
      intro s1_ L_ w_13 y1 hrel hstep hr1
      obtain ⟨s_10, x9, A13, _, c13, rfl, rfl, rfl, k_20⟩ := hrel
      have hm := hstep; simp only [m_word_Base64_l2] at hm
      clear hstep
      refine W_seq ?_
      refine W_quiet [] [] [(0, sl A_b b.length c_b), (3, sl A13 s_10.length c13), (4, I i1), (6, .u32 v3), (47, I (w64 ((if w64 (((b.length : Nat) : Int) - i1) < 3 then w64 (((b.length : Nat) : Int) - i1) else 3) + 1))), (48, I x9), (49, .b (decide (x9 < (w64 ((if w64 (((b.length : Nat) : Int) - i1) < 3 then w64 (((b.length : Nat) : Int) - i1) else 3) + 1)))))] [] (by kernel_rfl) trivial ?_
      refine At_go ?_
      refine W_seq ?_
      refine W_condp (x9 < (w64 ((if w64 (((b.length : Nat) : Int) - i1) < 3 then w64 (((b.length : Nat) : Int) - i1) else 3) + 1))) (by kernel_rfl) (fun hc9 => ?_) (fun hc9 => ?_)
      · rw [if_pos hc9] at hm
        refine W_skip ?_
        refine At_go ?_
        refine W_seq ?_
        refine W_block ?_
        refine W_seq ?_
        refine W_quiet [] [] [(0, sl A_b b.length c_b), (3, sl A13 s_10.length c13), (4, I i1), (6, .u32 v3), (7, I x9), (47, I (w64 ((if w64 (((b.length : Nat) : Int) - i1) < 3 then w64 (((b.length : Nat) : Int) - i1) else 3) + 1))), (48, I x9)] [] (by kernel_rfl) trivial ?_
        refine At_go ?_
        refine W_reg ?_
        obtain ⟨u1, h_u1, hm⟩ := Option.bind_eq_some_iff.1 hm
        obtain ⟨c14, h_c14, hm⟩ := Option.bind_eq_some_iff.1 hm
        refine WL_seg 8 [] [.u8 c14] [(0, sl A_b b.length c_b), (3, sl A13 s_10.length c13), (4, I i1), (6, .u32 v3), (47, I (w64 ((if w64 (((b.length : Nat) : Int) - i1) < 3 then w64 (((b.length : Nat) : Int) - i1) else 3) + 1))), (48, I x9), (51, sl A13 s_10.length c13), (58, .u8 c14)] [fun w => 0 ≤ w64 (18 - (w64 (6 * x9))), fun w => 0 ≤ (((shr32 v3 (Int.toNat (w64 (18 - (w64 (6 * x9)))))) &&& 63).toNat : Int) ∧ [65, 66, 67, 68, 69, 70, 71, 72, 73, 74, 75, 76, 77, 78, 79, 80, 81, 82, 83, 84, 85, 86, 87, 88, 89, 90, 97, 98, 99, 100, 101, 102, 103, 104, 105, 106, 107, 108, 109, 110, 111, 112, 113, 114, 115, 116, 117, 118, 119, 120, 121, 122, 48, 49, 50, 51, 52, 53, 54, 55, 56, 57, 43, 47][Int.toNat (((shr32 v3 (Int.toNat (w64 (18 - (w64 (6 * x9)))))) &&& 63).toNat : Int)]? = some c14] (by kernel_rfl) (⟨need_some h_u1, geti_some h_c14, trivial⟩) ?_
        refine WL_op ?_
        refine Op_mk yt_tf22 bV [] 59 ([c14] : List UInt8) [(0, .u8 c14)] [.u8 c14] (by kernel_rfl) (by kernel_rfl) (by kernel_rfl) k_20 ?_
        intro A14 w_14 k_21
        refine WL_op ?_
        obtain ⟨s_11, h_s_11, hm⟩ := Option.bind_eq_some_iff.1 hm
        obtain ⟨hz3, hl3⟩ := app_some h_s_11
        refine Op_append (c2 := 1) yt_tf22 one_b [] 60 0 (by kernel_rfl) k_21 rfl (k_21.len 1 rfl) (k_21.rd 1 rfl) (by have := k_21.len 0 rfl; have := k_21.len 1 rfl; omega) ?_
        intro A15 c15 w_15 k_22
        rw [← hl3] at k_22
        have k_23 : Cx w w_15 [OwS 5 bV A15 (s_10.length + 1) c15 s_11] := (k_22.drop 1)
        refine WL_seg 1 [] [] [(0, sl A_b b.length c_b), (3, sl A15 (s_10.length + 1) c15), (4, I i1), (6, .u32 v3), (47, I (w64 ((if w64 (((b.length : Nat) : Int) - i1) < 3 then w64 (((b.length : Nat) : Int) - i1) else 3) + 1))), (48, I x9)] [] (by kernel_rfl) trivial ?_
        refine WL_nil ?_
        refine At_in ?_
        refine At_go ?_
        refine W_quiet [] [] [(0, sl A_b b.length c_b), (3, sl A15 (s_10.length + 1) c15), (4, I i1), (6, .u32 v3), (47, I (w64 ((if w64 (((b.length : Nat) : Int) - i1) < 3 then w64 (((b.length : Nat) : Int) - i1) else 3) + 1))), (48, I (w64 (x9 + 1)))] [] (by kernel_rfl) trivial ?_
        refine At_forget [(0, sl A_b b.length c_b), (3, sl A15 (s_10.length + 1) c15), (4, I i1), (6, .u32 v3), (47, I (w64 ((if w64 (((b.length : Nat) : Int) - i1) < 3 then w64 (((b.length : Nat) : Int) - i1) else 3) + 1))), (48, I (w64 (x9 + 1)))] (by kernel_rfl) ?_
        exact At_round (s_11, w64 (x9 + 1)) (Option.some.inj hm).symm ⟨s_11, w64 (x9 + 1), A15, s_10.length + 1, c15, rfl, rfl, k_23.len 0 rfl, k_23⟩
      rw [if_neg hc9] at hm
      refine W_exit (At_te (At_te (At_ie ?_)))
      have hm := exit_of hm hr1
      refine At_in ?_
      refine At_forget [(0, sl A_b b.length c_b), (3, sl A13 s_10.length c13), (4, I i1)] (by kernel_rfl) ?_
      exact At_cut ⟨s_10, A13, s_10.length, c13, hm, rfl, k_20.len 0 rfl, k_20⟩
    rintro L_ w_16 ⟨s_7, A9, _, c9, hm, rfl, rfl, k_24⟩
    simp only [m_word_Base64_j3] at hm
    refine W_quiet [] [] [(0, sl A_b b.length c_b), (3, sl A9 s_7.length c9), (4, I (w64 (i1 + 3)))] [] (by kernel_rfl) trivial ?_
    refine At_forget [(0, sl A_b b.length c_b), (3, sl A9 s_7.length c9), (4, I (w64 (i1 + 3)))] (by kernel_rfl) ?_
    exact At_round (s_7, w64 (i1 + 3)) (Option.some.inj hm).symm ⟨s_7, w64 (i1 + 3), A9, s_7.length, c9, rfl, rfl, k_24.len 0 rfl, k_24⟩
  rw [if_neg hc5] at hm
  refine W_exit (At_te (At_te (At_ie ?_)))
  have hm := exit_of hm hr0
  refine At_go ?_
  refine W_seq ?_
  refine W_quiet [] [.s s_6] [(2, .s s_6)] [fun w => Rd w A8 (s_6.map bV) ∧ s_6.length = s_6.length] (by kernel_rfl) (⟨⟨(k_13.rd 0 rfl), (k_13.len 0 rfl)⟩, trivial⟩) ?_
  refine At_go ?_
  refine W_ret ?_
  obtain rfl := Option.some.inj hm
  refine At_ret [] [.s s_6] [] (by kernel_rfl) trivial ?_
  have k_25 : Cx w w_8 [] := (k_13.drop 0)
  exact ⟨rfl, k_25⟩

-- quern/word.letter
noncomputable def m_word_letter (c : UInt8) : Option (UInt32 × Bool) :=
  if ((decide ((65 : UInt8) ≤ c)) && (decide (c ≤ 90))) = true then (some (UInt32.ofNat (c - 65).toNat, true)) else (if ((decide ((97 : UInt8) ≤ c)) && (decide (c ≤ 122))) = true then (some ((UInt32.ofNat (c - 97).toNat) + 26, true)) else (if ((decide ((48 : UInt8) ≤ c)) && (decide (c ≤ 57))) = true then (some ((UInt32.ofNat (c - 48).toNat) + 52, true)) else (if c = 43 then (some (62, true)) else (if c = 47 then (some (63, true)) else (some (0, false))))))
theorem c_word_letter {w : World} (c : UInt8) (r : UInt32 × Bool) (hm : m_word_letter c = some r) :
    Calls Try.prog 48 (vals [.u8 c]) w (fun e w' => e = .returned (SV.val (.tup [.u32 r.1, .b r.2])) ∧ Cx w w' []) := by
  unfold m_word_letter at hm
  refine calls [.u8 c] Try.func48 rfl (of_decide_eq_true (by kernel_rfl)) ?_
  have k := Cx.refl w
  refine W_seq ?_
  refine W_quiet [] [] [(0, .u8 c)] [] (by kernel_rfl) trivial ?_
  refine At_go ?_
  refine W_seq ?_
  refine W_block ?_
  refine W_seq ?_
  refine W_quiet [] [] [(0, .u8 c), (4, .b ((decide ((65 : UInt8) ≤ c)) && (decide (c ≤ 90))))] [] (by kernel_rfl) trivial ?_
  refine At_go ?_
  refine W_cond ((decide ((65 : UInt8) ≤ c)) && (decide (c ≤ 90))) (by kernel_rfl) (fun hc => ?_) (fun hc => ?_)
  · rw [if_pos hc] at hm
    refine W_seq ?_
    refine W_quiet [] [] [(2, .u32 (UInt32.ofNat (c - 65).toNat)), (3, .b true)] [] (by kernel_rfl) trivial ?_
    refine At_go ?_
    refine W_ret (At_ir (At_tr ?_))
    obtain rfl := Option.some.inj hm
    refine At_ret [] [.u32 (UInt32.ofNat (c - 65).toNat), .b true] [] (by kernel_rfl) trivial ?_
    exact ⟨rfl, k⟩
  rw [if_neg (by rw [hc]; decide)] at hm
  refine W_seq ?_
  refine W_quiet [] [] [(0, .u8 c), (14, .b ((decide ((97 : UInt8) ≤ c)) && (decide (c ≤ 122))))] [] (by kernel_rfl) trivial ?_
  refine At_go ?_
  refine W_cond ((decide ((97 : UInt8) ≤ c)) && (decide (c ≤ 122))) (by kernel_rfl) (fun hc1 => ?_) (fun hc1 => ?_)
  · rw [if_pos hc1] at hm
    refine W_seq ?_
    refine W_quiet [] [] [(2, .u32 ((UInt32.ofNat (c - 97).toNat) + 26)), (3, .b true)] [] (by kernel_rfl) trivial ?_
    refine At_go ?_
    refine W_ret (At_ir (At_tr ?_))
    obtain rfl := Option.some.inj hm
    refine At_ret [] [.u32 ((UInt32.ofNat (c - 97).toNat) + 26), .b true] [] (by kernel_rfl) trivial ?_
    exact ⟨rfl, k⟩
  rw [if_neg (by rw [hc1]; decide)] at hm
  refine W_seq ?_
  refine W_quiet [] [] [(0, .u8 c), (25, .b ((decide ((48 : UInt8) ≤ c)) && (decide (c ≤ 57))))] [] (by kernel_rfl) trivial ?_
  refine At_go ?_
  refine W_cond ((decide ((48 : UInt8) ≤ c)) && (decide (c ≤ 57))) (by kernel_rfl) (fun hc2 => ?_) (fun hc2 => ?_)
  · rw [if_pos hc2] at hm
    refine W_seq ?_
    refine W_quiet [] [] [(2, .u32 ((UInt32.ofNat (c - 48).toNat) + 52)), (3, .b true)] [] (by kernel_rfl) trivial ?_
    refine At_go ?_
    refine W_ret (At_ir (At_tr ?_))
    obtain rfl := Option.some.inj hm
    refine At_ret [] [.u32 ((UInt32.ofNat (c - 48).toNat) + 52), .b true] [] (by kernel_rfl) trivial ?_
    exact ⟨rfl, k⟩
  rw [if_neg (by rw [hc2]; decide)] at hm
  refine W_seq ?_
  refine W_quiet [] [] [(0, .u8 c), (36, .b (decide (c = 43)))] [] (by kernel_rfl) trivial ?_
  refine At_go ?_
  refine W_condp (c = 43) (by kernel_rfl) (fun hc3 => ?_) (fun hc3 => ?_)
  · rw [if_pos hc3] at hm
    refine W_seq ?_
    refine W_quiet [] [] [(2, .u32 62), (3, .b true)] [] (by kernel_rfl) trivial ?_
    refine At_go ?_
    refine W_ret (At_ir (At_tr ?_))
    obtain rfl := Option.some.inj hm
    refine At_ret [] [.u32 62, .b true] [] (by kernel_rfl) trivial ?_
    exact ⟨rfl, k⟩
  rw [if_neg hc3] at hm
  refine W_seq ?_
  refine W_quiet [] [] [(39, .b (decide (c = 47)))] [] (by kernel_rfl) trivial ?_
  refine At_go ?_
  refine W_condp (c = 47) (by kernel_rfl) (fun hc4 => ?_) (fun hc4 => ?_)
  · rw [if_pos hc4] at hm
    refine W_seq ?_
    refine W_quiet [] [] [(2, .u32 63), (3, .b true)] [] (by kernel_rfl) trivial ?_
    refine At_go ?_
    refine W_ret (At_ir (At_tr ?_))
    obtain rfl := Option.some.inj hm
    refine At_ret [] [.u32 63, .b true] [] (by kernel_rfl) trivial ?_
    exact ⟨rfl, k⟩
  rw [if_neg hc4] at hm
  refine W_skip ?_
  refine At_in ?_
  refine At_go ?_
  refine W_seq ?_
  refine W_quiet [] [] [(2, .u32 0), (3, .b false)] [] (by kernel_rfl) trivial ?_
  refine At_go ?_
  refine W_ret ?_
  obtain rfl := Option.some.inj hm
  refine At_ret [] [.u32 0, .b false] [] (by kernel_rfl) trivial ?_
  exact ⟨rfl, k⟩

-- quern/word.UnBase64
noncomputable def m_word_UnBase64_j1 (x1 : Int) (b4 : List UInt8) (have_3 : Int) (v3 : UInt32) : Option (((List UInt8) × Int × UInt32 × Int) ⊕ (List UInt8 × Int × Int)) :=
  some (.inl (b4, have_3, v3, w64 (x1 + 1)))
noncomputable def m_word_UnBase64_l0 (s_ : List UInt8) : ((List UInt8) × Int × UInt32 × Int) → Option (((List UInt8) × Int × UInt32 × Int) ⊕ (List UInt8 × Int × Int))
  | (b3, have_2, v2, x1) => if x1 < (s_.length : Int) then (Option.bind (geti s_ x1) fun c6 => Option.bind (m_word_letter c6) fun r_1 => if (!r_1.2) = true then (Option.map Sum.inr (some ([], x1, 4))) else (if 8 ≤ (w64 (have_2 + 6)) then (Option.bind (need (0 ≤ w64 ((w64 (have_2 + 6)) - 8))) fun u => Option.bind (app b3 ([UInt8.ofNat (shr32 ((shl32 v2 ((6 : UInt64).toNat)) ||| r_1.1) (Int.toNat (w64 ((w64 (have_2 + 6)) - 8)))).toNat] : List UInt8) 1) fun b5 => Option.bind (need (0 ≤ w64 ((w64 (have_2 + 6)) - 8))) fun u1 => m_word_UnBase64_j1 x1 b5 (w64 ((w64 (have_2 + 6)) - 8)) (((shl32 v2 ((6 : UInt64).toNat)) ||| r_1.1) &&& ((shl32 1 (Int.toNat (w64 ((w64 (have_2 + 6)) - 8)))) - 1))) else (m_word_UnBase64_j1 x1 b3 (w64 (have_2 + 6)) ((shl32 v2 ((6 : UInt64).toNat)) ||| r_1.1)))) else (Option.map Sum.inr (if (Int.tmod (s_.length : Int) 4) = 1 then (some ([], (s_.length : Int), 4)) else (if v2 ≠ 0 then (some ([], w64 ((s_.length : Int) - 1), 4)) else (some (b3, 0, 0)))))
noncomputable def m_word_UnBase64 (s_ : List UInt8) : Option (List UInt8 × Int × Int) :=
  whileO (m_word_UnBase64_l0 s_) ([], 0, 0, 0)
theorem c_word_UnBase64 {w : World} (s_ : List UInt8) (r : List UInt8 × Int × Int) (hm : m_word_UnBase64 s_ = some r) :
    Calls Try.prog 37 (vals [.s s_]) w (fun e w' => ∃ A90 nA90 c90, r.1.length = nA90 ∧ e = .returned (SV.val (.tup [sl A90 nA90 c90, I r.2.1, I r.2.2])) ∧ Cx w w' [OwS 5 bV A90 nA90 c90 r.1]) := by
  unfold m_word_UnBase64 at hm
  refine calls [.s s_] Try.func37 rfl (of_decide_eq_true (by kernel_rfl)) ?_
  have k := Cx.refl w
  refine W_seq ?_
  refine W_quiet [] [] [(0, .s s_)] [] (by kernel_rfl) trivial ?_
  refine At_go ?_
  refine W_seq ?_
  refine W_quiet [] [] [(0, .s s_), (5, sl none 0 0)] [] (by kernel_rfl) trivial ?_
  refine At_go ?_
  refine W_seq ?_
  refine W_quiet [] [] [(0, .s s_), (5, sl none 0 0), (6, I 0), (7, .u32 0)] [] (by kernel_rfl) trivial ?_
  refine At_go ?_
  refine W_seq ?_
  refine W_seq ?_
  refine W_quiet [] [] [(0, .s s_), (5, sl none 0 0), (6, I 0), (7, .u32 0), (12, I (s_.length : Int)), (13, I 0)] [] (by kernel_rfl) trivial ?_
  refine At_go ?_
  refine W_block ?_
  refine W_forget [(0, .s s_), (5, sl none 0 0), (6, I 0), (7, .u32 0), (12, I (s_.length : Int)), (13, I 0)] (by kernel_rfl) ?_
  have k_12 := k.nil 5 bV
  refine W_loop (m_word_UnBase64_l0 s_) (fun s L wr => ∃ (b3 : List UInt8) (have_2 : Int) (v2 : UInt32) (x1 : Int) (A4 : Option Addr) (n2 : Nat) (c4 : Nat), (b3, have_2, v2, x1) = s ∧ L = [(0, .s s_), (5, sl A4 n2 c4), (6, I have_2), (7, .u32 v2), (12, I (s_.length : Int)), (13, I x1)] ∧ b3.length = n2 ∧ Cx w wr [OwS 5 bV A4 n2 c4 b3]) ([], 0, 0, 0) r hm ⟨[], 0, 0, 0, none, 0, 0, rfl, rfl, k_12.len 0 rfl, k_12⟩ ?_
  intro s0_ L_ w_4 y0 hrel hstep hr0
  obtain ⟨b3, have_2, v2, x1, A4, _, c4, rfl, rfl, rfl, k_11⟩ := hrel
  have hm := hstep; simp only [m_word_UnBase64_l0] at hm
  clear hstep
  refine W_seq ?_
  refine W_quiet [] [] [(0, .s s_), (5, sl A4 b3.length c4), (6, I have_2), (7, .u32 v2), (12, I (s_.length : Int)), (13, I x1), (14, .b (decide (x1 < (s_.length : Int))))] [] (by kernel_rfl) trivial ?_
  refine At_go ?_
  refine W_seq ?_
  refine W_condp (x1 < (s_.length : Int)) (by kernel_rfl) (fun hc5 => ?_) (fun hc5 => ?_)
  · rw [if_pos hc5] at hm
    refine W_skip ?_
    refine At_go ?_
    refine W_cut (fun L wr => ∃ (b4 : List UInt8) (have_3 : Int) (v3 : UInt32) (A5 : Option Addr) (n3 : Nat) (c5 : Nat), m_word_UnBase64_j1 x1 b4 have_3 v3 = some y0 ∧ L = [(0, .s s_), (5, sl A5 n3 c5), (6, I have_3), (7, .u32 v3), (12, I (s_.length : Int)), (13, I x1)] ∧ b4.length = n3 ∧ Cx w wr [OwS 5 bV A5 n3 c5 b4]) ?_ ?_
    ·
      refine W_block ?_
      refine W_seq ?_
      refine W_quiet [] [] [(0, .s s_), (5, sl A4 b3.length c4), (6, I have_2), (7, .u32 v2), (8, I x1), (12, I (s_.length : Int)), (13, I x1)] [] (by kernel_rfl) trivial ?_
      refine At_go ?_
      refine W_seq ?_
      refine W_reg ?_
      obtain ⟨c6, h_c6, hm⟩ := Option.bind_eq_some_iff.1 hm
      refine WL_seg 3 [] [.u8 c6] [(0, .s s_), (5, sl A4 b3.length c4), (6, I have_2), (7, .u32 v2), (8, I x1), (12, I (s_.length : Int)), (13, I x1), (19, .u8 c6)] [fun w => 0 ≤ x1 ∧ s_[Int.toNat x1]? = some c6] (by kernel_rfl) (⟨geti_some h_c6, trivial⟩) ?_
      refine WL_op ?_
      obtain ⟨r_1, h_r_1, hm⟩ := Option.bind_eq_some_iff.1 hm
      refine Op_call [] 20 [.u8 c6] yt_go48 (by kernel_rfl) (c_word_letter c6 _ h_r_1) ?_
      rintro e_ w_5 ⟨rfl, k_13⟩
      have k_14 := k_11.call k_13
      refine ⟨.tup [.u32 r_1.1, .b r_1.2], rfl, ?_⟩
      refine WL_seg 5 [] [] [(0, .s s_), (5, sl A4 b3.length c4), (6, I have_2), (7, .u32 v2), (8, I x1), (9, .u32 r_1.1), (10, .b r_1.2), (12, I (s_.length : Int)), (13, I x1)] [] (by kernel_rfl) trivial ?_
      refine WL_nil ?_
      refine At_go ?_
      refine W_seq ?_
      refine W_seq ?_
      refine W_quiet [] [] [(0, .s s_), (5, sl A4 b3.length c4), (6, I have_2), (7, .u32 v2), (8, I x1), (9, .u32 r_1.1), (12, I (s_.length : Int)), (13, I x1), (24, .b (!r_1.2))] [] (by kernel_rfl) trivial ?_
      refine At_go ?_
      refine W_cond (!r_1.2) (by kernel_rfl) (fun hc6 => ?_) (fun hc6 => ?_)
      · rw [if_pos hc6] at hm
        refine W_seq ?_
        refine W_quiet [] [] [(2, sl none 0 0), (3, I x1), (4, I 4)] [] (by kernel_rfl) trivial ?_
        refine At_go ?_
        refine W_ret (At_tr (At_ir (At_tr (At_tr (At_ir (At_tr ?_))))))
        have hm := exit_of hm hr0
        have k_15 := k_14.nil 5 bV
        obtain rfl := Option.some.inj hm
        refine At_ret [] [sl none 0 0, I x1, I 4] [] (by kernel_rfl) trivial ?_
        have k_16 : Cx w w_5 [OwS 5 bV none 0 0 []] := (k_15.drop 0)
        exact ⟨none, _, 0, k_16.len 0 rfl, rfl, k_16⟩
      rw [if_neg (by rw [hc6]; decide)] at hm
      refine W_skip ?_
      refine At_go ?_
      refine W_seq ?_
      refine W_quiet [] [] [(0, .s s_), (5, sl A4 b3.length c4), (6, I have_2), (7, .u32 ((shl32 v2 ((6 : UInt64).toNat)) ||| r_1.1)), (12, I (s_.length : Int)), (13, I x1)] [] (by kernel_rfl) trivial ?_
      refine At_go ?_
      refine W_seq ?_
      refine W_quiet [] [] [(0, .s s_), (5, sl A4 b3.length c4), (6, I (w64 (have_2 + 6))), (7, .u32 ((shl32 v2 ((6 : UInt64).toNat)) ||| r_1.1)), (12, I (s_.length : Int)), (13, I x1)] [] (by kernel_rfl) trivial ?_
      refine At_go ?_
      refine W_seq ?_
      refine W_quiet [] [] [(0, .s s_), (5, sl A4 b3.length c4), (6, I (w64 (have_2 + 6))), (7, .u32 ((shl32 v2 ((6 : UInt64).toNat)) ||| r_1.1)), (12, I (s_.length : Int)), (13, I x1), (33, .b (decide (8 ≤ (w64 (have_2 + 6)))))] [] (by kernel_rfl) trivial ?_
      refine At_go ?_
      refine W_condp (8 ≤ (w64 (have_2 + 6))) (by kernel_rfl) (fun hc7 => ?_) (fun hc7 => ?_)
      · rw [if_pos hc7] at hm
        refine W_seq ?_
        refine W_quiet [] [] [(0, .s s_), (5, sl A4 b3.length c4), (6, I (w64 ((w64 (have_2 + 6)) - 8))), (7, .u32 ((shl32 v2 ((6 : UInt64).toNat)) ||| r_1.1)), (12, I (s_.length : Int)), (13, I x1)] [] (by kernel_rfl) trivial ?_
        refine At_go ?_
        refine W_seq ?_
        refine W_reg ?_
        obtain ⟨u, h_u, hm⟩ := Option.bind_eq_some_iff.1 hm
        refine WL_seg 5 [] [] [(0, .s s_), (5, sl A4 b3.length c4), (6, I (w64 ((w64 (have_2 + 6)) - 8))), (7, .u32 ((shl32 v2 ((6 : UInt64).toNat)) ||| r_1.1)), (12, I (s_.length : Int)), (13, I x1), (36, sl A4 b3.length c4), (40, .u8 (UInt8.ofNat (shr32 ((shl32 v2 ((6 : UInt64).toNat)) ||| r_1.1) (Int.toNat (w64 ((w64 (have_2 + 6)) - 8)))).toNat))] [fun w => 0 ≤ w64 ((w64 (have_2 + 6)) - 8)] (by kernel_rfl) (⟨need_some h_u, trivial⟩) ?_
        refine WL_op ?_
        refine Op_mk yt_tf22 bV [] 41 ([UInt8.ofNat (shr32 ((shl32 v2 ((6 : UInt64).toNat)) ||| r_1.1) (Int.toNat (w64 ((w64 (have_2 + 6)) - 8)))).toNat] : List UInt8) [(0, .u8 (UInt8.ofNat (shr32 ((shl32 v2 ((6 : UInt64).toNat)) ||| r_1.1) (Int.toNat (w64 ((w64 (have_2 + 6)) - 8)))).toNat))] [.u8 (UInt8.ofNat (shr32 ((shl32 v2 ((6 : UInt64).toNat)) ||| r_1.1) (Int.toNat (w64 ((w64 (have_2 + 6)) - 8)))).toNat)] (by kernel_rfl) (by kernel_rfl) (by kernel_rfl) k_14 ?_
        intro A6 w_6 k_17
        refine WL_op ?_
        obtain ⟨b5, h_b5, hm⟩ := Option.bind_eq_some_iff.1 hm
        obtain ⟨hz1, hl1⟩ := app_some h_b5
        refine Op_append (c2 := 1) yt_tf22 one_b [] 42 0 (by kernel_rfl) k_17 rfl (k_17.len 1 rfl) (k_17.rd 1 rfl) (by have := k_17.len 0 rfl; have := k_17.len 1 rfl; omega) ?_
        intro A7 c7 w_7 k_18
        rw [← hl1] at k_18
        have k_19 : Cx w w_7 [OwS 5 bV A7 (b3.length + 1) c7 b5] := (k_18.drop 1)
        refine WL_seg 1 [] [] [(0, .s s_), (5, sl A7 (b3.length + 1) c7), (6, I (w64 ((w64 (have_2 + 6)) - 8))), (7, .u32 ((shl32 v2 ((6 : UInt64).toNat)) ||| r_1.1)), (12, I (s_.length : Int)), (13, I x1)] [] (by kernel_rfl) trivial ?_
        refine WL_nil ?_
        refine At_go ?_
        obtain ⟨u1, h_u1, hm⟩ := Option.bind_eq_some_iff.1 hm
        refine W_quiet [] [] [(0, .s s_), (5, sl A7 (b3.length + 1) c7), (6, I (w64 ((w64 (have_2 + 6)) - 8))), (7, .u32 (((shl32 v2 ((6 : UInt64).toNat)) ||| r_1.1) &&& ((shl32 1 (Int.toNat (w64 ((w64 (have_2 + 6)) - 8)))) - 1))), (12, I (s_.length : Int)), (13, I x1)] [fun w => 0 ≤ w64 ((w64 (have_2 + 6)) - 8)] (by kernel_rfl) (⟨need_some h_u1, trivial⟩) ?_
        refine At_in ?_
        refine At_forget [(0, .s s_), (5, sl A7 (b3.length + 1) c7), (6, I (w64 ((w64 (have_2 + 6)) - 8))), (7, .u32 (((shl32 v2 ((6 : UInt64).toNat)) ||| r_1.1) &&& ((shl32 1 (Int.toNat (w64 ((w64 (have_2 + 6)) - 8)))) - 1))), (12, I (s_.length : Int)), (13, I x1)] (by kernel_rfl) ?_
        exact At_cut ⟨b5, w64 ((w64 (have_2 + 6)) - 8), ((shl32 v2 ((6 : UInt64).toNat)) ||| r_1.1) &&& ((shl32 1 (Int.toNat (w64 ((w64 (have_2 + 6)) - 8)))) - 1), A7, b3.length + 1, c7, hm, rfl, k_19.len 0 rfl, k_19⟩
      rw [if_neg hc7] at hm
      refine W_skip ?_
      refine At_in ?_
      refine At_forget [(0, .s s_), (5, sl A4 b3.length c4), (6, I (w64 (have_2 + 6))), (7, .u32 ((shl32 v2 ((6 : UInt64).toNat)) ||| r_1.1)), (12, I (s_.length : Int)), (13, I x1)] (by kernel_rfl) ?_
      exact At_cut ⟨b3, w64 (have_2 + 6), (shl32 v2 ((6 : UInt64).toNat)) ||| r_1.1, A4, b3.length, c4, hm, rfl, k_14.len 0 rfl, k_14⟩
    rintro L_ w_8 ⟨b4, have_3, v3, A5, _, c5, hm, rfl, rfl, k_20⟩
    simp only [m_word_UnBase64_j1] at hm
    refine W_quiet [] [] [(0, .s s_), (5, sl A5 b4.length c5), (6, I have_3), (7, .u32 v3), (12, I (s_.length : Int)), (13, I (w64 (x1 + 1)))] [] (by kernel_rfl) trivial ?_
    refine At_forget [(0, .s s_), (5, sl A5 b4.length c5), (6, I have_3), (7, .u32 v3), (12, I (s_.length : Int)), (13, I (w64 (x1 + 1)))] (by kernel_rfl) ?_
    exact At_round (b4, have_3, v3, w64 (x1 + 1)) (Option.some.inj hm).symm ⟨b4, have_3, v3, w64 (x1 + 1), A5, b4.length, c5, rfl, rfl, k_20.len 0 rfl, k_20⟩
  rw [if_neg hc5] at hm
  refine W_exit (At_te (At_te (At_ie ?_)))
  have hm := exit_of hm hr0
  refine At_go ?_
  refine W_seq ?_
  refine W_seq ?_
  refine W_quiet [] [] [(0, .s s_), (5, sl A4 b3.length c4), (7, .u32 v2), (52, .b (decide ((Int.tmod (s_.length : Int) 4) = 1)))] [fun w => (4 : Int) ≠ (0 : Int)] (by kernel_rfl) (⟨by omega, trivial⟩) ?_
  refine At_go ?_
  refine W_condp ((Int.tmod (s_.length : Int) 4) = 1) (by kernel_rfl) (fun hc8 => ?_) (fun hc8 => ?_)
  · rw [if_pos hc8] at hm
    refine W_seq ?_
    refine W_quiet [] [] [(2, sl none 0 0), (3, I (s_.length : Int)), (4, I 4)] [] (by kernel_rfl) trivial ?_
    refine At_go ?_
    refine W_ret (At_tr ?_)
    have k_21 := k_11.nil 5 bV
    obtain rfl := Option.some.inj hm
    refine At_ret [] [sl none 0 0, I (s_.length : Int), I 4] [] (by kernel_rfl) trivial ?_
    have k_22 : Cx w w_4 [OwS 5 bV none 0 0 []] := (k_21.drop 0)
    exact ⟨none, _, 0, k_22.len 0 rfl, rfl, k_22⟩
  rw [if_neg hc8] at hm
  refine W_skip ?_
  refine At_go ?_
  refine W_seq ?_
  refine W_seq ?_
  refine W_quiet [] [] [(0, .s s_), (5, sl A4 b3.length c4), (56, .b (decide (v2 ≠ 0)))] [] (by kernel_rfl) trivial ?_
  refine At_go ?_
  refine W_condp (v2 ≠ 0) (by kernel_rfl) (fun hc9 => ?_) (fun hc9 => ?_)
  · rw [if_pos hc9] at hm
    refine W_seq ?_
    refine W_quiet [] [] [(2, sl none 0 0), (3, I (w64 ((s_.length : Int) - 1))), (4, I 4)] [] (by kernel_rfl) trivial ?_
    refine At_go ?_
    refine W_ret (At_tr ?_)
    have k_23 := k_11.nil 5 bV
    obtain rfl := Option.some.inj hm
    refine At_ret [] [sl none 0 0, I (w64 ((s_.length : Int) - 1)), I 4] [] (by kernel_rfl) trivial ?_
    have k_24 : Cx w w_4 [OwS 5 bV none 0 0 []] := (k_23.drop 0)
    exact ⟨none, _, 0, k_24.len 0 rfl, rfl, k_24⟩
  rw [if_neg hc9] at hm
  refine W_skip ?_
  refine At_go ?_
  refine W_seq ?_
  refine W_quiet [] [] [(2, sl A4 b3.length c4), (3, I 0), (4, I 0)] [] (by kernel_rfl) trivial ?_
  refine At_go ?_
  refine W_ret ?_
  obtain rfl := Option.some.inj hm
  refine At_ret [] [sl A4 b3.length c4, I 0, I 0] [] (by kernel_rfl) trivial ?_
  exact ⟨A4, _, c4, k_11.len 0 rfl, rfl, k_11⟩

-- quern/quernref01.Letter
noncomputable def m_r01_Letter_l0 (c : UInt8) : Int → Option (Int ⊕ Int)
  | i1 => if i1 < 64 then (Option.bind (geti [65, 66, 67, 68, 69, 70, 71, 72, 73, 74, 75, 76, 77, 78, 79, 80, 81, 82, 83, 84, 85, 86, 87, 88, 89, 90, 97, 98, 99, 100, 101, 102, 103, 104, 105, 106, 107, 108, 109, 110, 111, 112, 113, 114, 115, 116, 117, 118, 119, 120, 121, 122, 48, 49, 50, 51, 52, 53, 54, 55, 56, 57, 43, 47] i1) fun c2 => if c2 = c then (Option.map Sum.inr (some i1)) else (some (.inl (w64 (i1 + 1))))) else (Option.map Sum.inr (some (-1)))
noncomputable def m_r01_Letter (c : UInt8) : Option Int :=
  whileO (m_r01_Letter_l0 c) 0
theorem c_r01_Letter {w : World} (c : UInt8) (r : Int) (hm : m_r01_Letter c = some r) :
    Calls Try.prog 49 (vals [.u8 c]) w (fun e w' => e = .returned (SV.val (I r)) ∧ Cx w w' []) := by
  unfold m_r01_Letter at hm
  refine calls [.u8 c] Try.func49 rfl (of_decide_eq_true (by kernel_rfl)) ?_
  have k := Cx.refl w
  refine W_seq ?_
  refine W_quiet [] [] [(0, .u8 c)] [] (by kernel_rfl) trivial ?_
  refine At_go ?_
  refine W_seq ?_
  refine W_seq ?_
  refine W_quiet [] [] [(0, .u8 c), (3, I 0)] [] (by kernel_rfl) trivial ?_
  refine At_go ?_
  refine W_block ?_
  refine W_forget [(0, .u8 c), (3, I 0)] (by kernel_rfl) ?_
  refine W_loop (m_r01_Letter_l0 c) (fun s L wr => ∃ (i1 : Int), i1 = s ∧ L = [(0, .u8 c), (3, I i1)] ∧ Cx w wr []) 0 r hm ⟨0, rfl, rfl, k⟩ ?_
  intro s0_ L_ w_ y0 hrel hstep hr0
  obtain ⟨i1, rfl, rfl, k_⟩ := hrel
  have hm := hstep; simp only [m_r01_Letter_l0] at hm
  clear hstep
  refine W_seq ?_
  refine W_seq ?_
  refine W_quiet [] [] [(0, .u8 c), (3, I i1), (5, .b (decide (i1 < 64)))] [] (by kernel_rfl) trivial ?_
  refine At_go ?_
  refine W_condp (i1 < 64) (by kernel_rfl) (fun hc2 => ?_) (fun hc2 => ?_)
  · rw [if_pos hc2] at hm
    refine W_skip ?_
    refine At_go ?_
    refine W_seq ?_
    refine W_block ?_
    refine W_seq ?_
    obtain ⟨c2, h_c2, hm⟩ := Option.bind_eq_some_iff.1 hm
    refine W_quiet [] [.u8 c2] [(0, .u8 c), (3, I i1), (11, .b (decide (c2 = c)))] [fun w => 0 ≤ i1 ∧ [65, 66, 67, 68, 69, 70, 71, 72, 73, 74, 75, 76, 77, 78, 79, 80, 81, 82, 83, 84, 85, 86, 87, 88, 89, 90, 97, 98, 99, 100, 101, 102, 103, 104, 105, 106, 107, 108, 109, 110, 111, 112, 113, 114, 115, 116, 117, 118, 119, 120, 121, 122, 48, 49, 50, 51, 52, 53, 54, 55, 56, 57, 43, 47][Int.toNat i1]? = some c2] (by kernel_rfl) (⟨geti_some h_c2, trivial⟩) ?_
    refine At_go ?_
    refine W_condp (c2 = c) (by kernel_rfl) (fun hc3 => ?_) (fun hc3 => ?_)
    · rw [if_pos hc3] at hm
      refine W_seq ?_
      refine W_quiet [] [] [(2, I i1)] [] (by kernel_rfl) trivial ?_
      refine At_go ?_
      refine W_ret (At_ir (At_tr (At_tr (At_ir (At_tr ?_)))))
      have hm := exit_of hm hr0
      obtain rfl := Option.some.inj hm
      refine At_ret [] [I i1] [] (by kernel_rfl) trivial ?_
      exact ⟨rfl, k_⟩
    rw [if_neg hc3] at hm
    refine W_skip ?_
    refine At_in ?_
    refine At_go ?_
    refine W_quiet [] [] [(0, .u8 c), (3, I (w64 (i1 + 1)))] [] (by kernel_rfl) trivial ?_
    refine At_forget [(0, .u8 c), (3, I (w64 (i1 + 1)))] (by kernel_rfl) ?_
    exact At_round (w64 (i1 + 1)) (Option.some.inj hm).symm ⟨w64 (i1 + 1), rfl, rfl, k_⟩
  rw [if_neg hc2] at hm
  refine W_exit (At_te (At_te (At_ie ?_)))
  have hm := exit_of hm hr0
  refine At_go ?_
  refine W_seq ?_
  refine W_quiet [] [] [(2, I (-1))] [] (by kernel_rfl) trivial ?_
  refine At_go ?_
  refine W_ret ?_
  obtain rfl := Option.some.inj hm
  refine At_ret [] [I (-1)] [] (by kernel_rfl) trivial ?_
  exact ⟨rfl, k_⟩

-- quern/quernref01.UnBase64
noncomputable def m_r01_UnBase64_j7 (k_76 : Int) (b26 : List UInt8) (have_19 : Int) (worth19 : Int) : Option (((List UInt8) × Int × Int × Int) ⊕ (((List UInt8) × Int × Int × Int) ⊕ (List UInt8 × Int × Int))) :=
  some (.inl (b26, have_19, worth19, w64 (k_76 - 1)))
noncomputable def m_r01_UnBase64_l6 (s_ : List UInt8) (i5 : Int) : ((List UInt8) × Int × Int × Int) → Option (((List UInt8) × Int × Int × Int) ⊕ (((List UInt8) × Int × Int × Int) ⊕ (List UInt8 × Int × Int)))
  | (b25, have_18, worth18, k_76) => if 0 ≤ k_76 then (Option.bind (geti s_ i5) fun c36 => Option.bind (m_r01_Letter c36) fun r_9 => Option.bind (need (0 ≤ k_76)) fun u3 => if (w64 (have_18 + 1)) = 8 then (Option.bind (app b25 ([UInt8.ofInt (w64 ((w64 (2 * worth18)) + (Int.tmod (shrI .i64 r_9 (Int.toNat k_76)) 2)))] : List UInt8) 1) fun b27 => m_r01_UnBase64_j7 k_76 b27 0 0) else (m_r01_UnBase64_j7 k_76 b25 (w64 (have_18 + 1)) (w64 ((w64 (2 * worth18)) + (Int.tmod (shrI .i64 r_9 (Int.toNat k_76)) 2))))) else (Option.map Sum.inr (some (.inl (b25, have_18, worth18, w64 (i5 + 1)))))
noncomputable def m_r01_UnBase64_l5 (s_ : List UInt8) : ((List UInt8) × Int × Int × Int) → Option (((List UInt8) × Int × Int × Int) ⊕ (List UInt8 × Int × Int))
  | (b21, have_15, worth15, i5) => if i5 < (s_.length : Int) then (whileO (m_r01_UnBase64_l6 s_ i5) (b21, have_15, worth15, 5)) else (Option.map Sum.inr (if worth15 ≠ 0 then (some ([], w64 ((s_.length : Int) - 1), 4)) else (some (b21, 0, 0))))
noncomputable def m_r01_UnBase64_l3 (s_ : List UInt8) : Int → Option (Int ⊕ (List UInt8 × Int × Int))
  | i3 => if i3 < (s_.length : Int) then (Option.bind (geti s_ i3) fun c19 => Option.bind (m_r01_Letter c19) fun r_5 => if r_5 < 0 then (Option.map Sum.inr (some ([], i3, 4))) else (some (.inl (w64 (i3 + 1))))) else (Option.map Sum.inr (if (Int.tmod (s_.length : Int) 4) = 1 then (some ([], (s_.length : Int), 4)) else (whileO (m_r01_UnBase64_l5 s_) ([], 0, 0, 0))))
noncomputable def m_r01_UnBase64 (s_ : List UInt8) : Option (List UInt8 × Int × Int) :=
  whileO (m_r01_UnBase64_l3 s_) 0
theorem c_r01_UnBase64 {w : World} (s_ : List UInt8) (r : List UInt8 × Int × Int) (hm : m_r01_UnBase64 s_ = some r) :
    Calls Try.prog 38 (vals [.s s_]) w (fun e w' => ∃ A90 nA90 c90, r.1.length = nA90 ∧ e = .returned (SV.val (.tup [sl A90 nA90 c90, I r.2.1, I r.2.2])) ∧ Cx w w' [OwS 5 bV A90 nA90 c90 r.1]) := by
  unfold m_r01_UnBase64 at hm
  refine calls [.s s_] Try.func38 rfl (of_decide_eq_true (by kernel_rfl)) ?_
  have k := Cx.refl w
  refine W_seq ?_
  refine W_quiet [] [] [(0, .s s_)] [] (by kernel_rfl) trivial ?_
  refine At_go ?_
  refine W_seq ?_
  refine W_seq ?_
  refine W_quiet [] [] [(0, .s s_), (5, I 0)] [] (by kernel_rfl) trivial ?_
  refine At_go ?_
  refine W_block ?_
  refine W_forget [(0, .s s_), (5, I 0)] (by kernel_rfl) ?_
  refine W_loop (m_r01_UnBase64_l3 s_) (fun s L wr => ∃ (i3 : Int), i3 = s ∧ L = [(0, .s s_), (5, I i3)] ∧ Cx w wr []) 0 r hm ⟨0, rfl, rfl, k⟩ ?_
  intro s0_ L_ w_20 y0 hrel hstep hr0
  obtain ⟨i3, rfl, rfl, k_42⟩ := hrel
  have hm := hstep; simp only [m_r01_UnBase64_l3] at hm
  clear hstep
  refine W_seq ?_
  refine W_seq ?_
  refine W_quiet [] [] [(0, .s s_), (5, I i3), (14, .b (decide (i3 < (s_.length : Int))))] [] (by kernel_rfl) trivial ?_
  refine At_go ?_
  refine W_condp (i3 < (s_.length : Int)) (by kernel_rfl) (fun hc15 => ?_) (fun hc15 => ?_)
  · rw [if_pos hc15] at hm
    refine W_skip ?_
    refine At_go ?_
    refine W_seq ?_
    refine W_block ?_
    refine W_seq ?_
    refine W_reg ?_
    obtain ⟨c19, h_c19, hm⟩ := Option.bind_eq_some_iff.1 hm
    refine WL_seg 3 [] [.u8 c19] [(0, .s s_), (5, I i3), (19, .u8 c19)] [fun w => 0 ≤ i3 ∧ s_[Int.toNat i3]? = some c19] (by kernel_rfl) (⟨geti_some h_c19, trivial⟩) ?_
    refine WL_op ?_
    obtain ⟨r_5, h_r_5, hm⟩ := Option.bind_eq_some_iff.1 hm
    refine Op_call [] 20 [.u8 c19] yt_go49 (by kernel_rfl) (c_r01_Letter c19 _ h_r_5) ?_
    rintro e_ w_21 ⟨rfl, k_43⟩
    have k_44 := k_42.call k_43
    refine ⟨I r_5, rfl, ?_⟩
    refine WL_seg 1 [] [] [(0, .s s_), (5, I i3), (21, .b (decide (r_5 < 0)))] [] (by kernel_rfl) trivial ?_
    refine WL_nil ?_
    refine At_go ?_
    refine W_condp (r_5 < 0) (by kernel_rfl) (fun hc16 => ?_) (fun hc16 => ?_)
    · rw [if_pos hc16] at hm
      refine W_seq ?_
      refine W_quiet [] [] [(2, sl none 0 0), (3, I i3), (4, I 4)] [] (by kernel_rfl) trivial ?_
      refine At_go ?_
      refine W_ret (At_ir (At_tr (At_tr (At_ir (At_tr ?_)))))
      have hm := exit_of hm hr0
      have k_45 := k_44.nil 5 bV
      obtain rfl := Option.some.inj hm
      refine At_ret [] [sl none 0 0, I i3, I 4] [] (by kernel_rfl) trivial ?_
      exact ⟨none, _, 0, k_45.len 0 rfl, rfl, k_45⟩
    rw [if_neg hc16] at hm
    refine W_skip ?_
    refine At_in ?_
    refine At_go ?_
    refine W_quiet [] [] [(0, .s s_), (5, I (w64 (i3 + 1)))] [] (by kernel_rfl) trivial ?_
    refine At_forget [(0, .s s_), (5, I (w64 (i3 + 1)))] (by kernel_rfl) ?_
    exact At_round (w64 (i3 + 1)) (Option.some.inj hm).symm ⟨w64 (i3 + 1), rfl, rfl, k_44⟩
  rw [if_neg hc15] at hm
  refine W_exit (At_te (At_te (At_ie ?_)))
  have hm := exit_of hm hr0
  refine At_go ?_
  refine W_seq ?_
  refine W_seq ?_
  refine W_quiet [] [] [(0, .s s_), (26, .b (decide ((Int.tmod (s_.length : Int) 4) = 1)))] [fun w => (4 : Int) ≠ (0 : Int)] (by kernel_rfl) (⟨by omega, trivial⟩) ?_
  refine At_go ?_
  refine W_condp ((Int.tmod (s_.length : Int) 4) = 1) (by kernel_rfl) (fun hc17 => ?_) (fun hc17 => ?_)
  · rw [if_pos hc17] at hm
    refine W_seq ?_
    refine W_quiet [] [] [(2, sl none 0 0), (3, I (s_.length : Int)), (4, I 4)] [] (by kernel_rfl) trivial ?_
    refine At_go ?_
    refine W_ret (At_tr ?_)
    have k_46 := k_42.nil 5 bV
    obtain rfl := Option.some.inj hm
    refine At_ret [] [sl none 0 0, I (s_.length : Int), I 4] [] (by kernel_rfl) trivial ?_
    exact ⟨none, _, 0, k_46.len 0 rfl, rfl, k_46⟩
  rw [if_neg hc17] at hm
  refine W_skip ?_
  refine At_go ?_
  refine W_seq ?_
  refine W_quiet [] [] [(0, .s s_), (6, sl none 0 0)] [] (by kernel_rfl) trivial ?_
  refine At_go ?_
  refine W_seq ?_
  refine W_quiet [] [] [(0, .s s_), (6, sl none 0 0), (7, I 0)] [] (by kernel_rfl) trivial ?_
  refine At_go ?_
  refine W_seq ?_
  refine W_quiet [] [] [(0, .s s_), (6, sl none 0 0), (7, I 0), (8, I 0)] [] (by kernel_rfl) trivial ?_
  refine At_go ?_
  refine W_seq ?_
  refine W_seq ?_
  refine W_quiet [] [] [(0, .s s_), (6, sl none 0 0), (7, I 0), (8, I 0), (9, I 0)] [] (by kernel_rfl) trivial ?_
  refine At_go ?_
  refine W_block ?_
  refine W_forget [(0, .s s_), (6, sl none 0 0), (7, I 0), (8, I 0), (9, I 0)] (by kernel_rfl) ?_
  have k_68 := k_42.nil 5 bV
  refine W_loop (m_r01_UnBase64_l5 s_) (fun s L wr => ∃ (b21 : List UInt8) (have_15 : Int) (worth15 : Int) (i5 : Int) (A27 : Option Addr) (n15 : Nat) (c29 : Nat), (b21, have_15, worth15, i5) = s ∧ L = [(0, .s s_), (6, sl A27 n15 c29), (7, I have_15), (8, I worth15), (9, I i5)] ∧ b21.length = n15 ∧ Cx w wr [OwS 5 bV A27 n15 c29 b21]) ([], 0, 0, 0) r hm ⟨[], 0, 0, 0, none, 0, 0, rfl, rfl, k_68.len 0 rfl, k_68⟩ ?_
  intro s0_ L_ w_31 y0 hrel hstep hr0
  obtain ⟨b21, have_15, worth15, i5, A27, _, c29, rfl, rfl, rfl, k_67⟩ := hrel
  have hm := hstep; simp only [m_r01_UnBase64_l5] at hm
  clear hstep
  refine W_seq ?_
  refine W_seq ?_
  refine W_quiet [] [] [(0, .s s_), (6, sl A27 b21.length c29), (7, I have_15), (8, I worth15), (9, I i5), (32, .b (decide (i5 < (s_.length : Int))))] [] (by kernel_rfl) trivial ?_
  refine At_go ?_
  refine W_condp (i5 < (s_.length : Int)) (by kernel_rfl) (fun hc24 => ?_) (fun hc24 => ?_)
  · rw [if_pos hc24] at hm
    refine W_skip ?_
    refine At_go ?_
    refine W_seq ?_
    refine W_block ?_
    refine W_seq ?_
    refine W_quiet [] [] [(0, .s s_), (6, sl A27 b21.length c29), (7, I have_15), (8, I worth15), (9, I i5), (10, I 5)] [] (by kernel_rfl) trivial ?_
    refine At_go ?_
    refine W_block ?_
    refine W_forget [(0, .s s_), (6, sl A27 b21.length c29), (7, I have_15), (8, I worth15), (9, I i5), (10, I 5)] (by kernel_rfl) ?_
    refine W_loop (m_r01_UnBase64_l6 s_ i5) (fun s L wr => ∃ (b25 : List UInt8) (have_18 : Int) (worth18 : Int) (k_76 : Int) (A32 : Option Addr) (n18 : Nat) (c34 : Nat), (b25, have_18, worth18, k_76) = s ∧ L = [(0, .s s_), (6, sl A32 n18 c34), (7, I have_18), (8, I worth18), (9, I i5), (10, I k_76)] ∧ b25.length = n18 ∧ Cx w wr [OwS 5 bV A32 n18 c34 b25]) (b21, have_15, worth15, 5) y0 hm ⟨b21, have_15, worth15, 5, A27, b21.length, c29, rfl, rfl, k_67.len 0 rfl, k_67⟩ ?_
    intro s1_ L_ w_36 y1 hrel hstep hr1
    obtain ⟨b25, have_18, worth18, k_76, A32, _, c34, rfl, rfl, rfl, k_77⟩ := hrel
    have hm := hstep; simp only [m_r01_UnBase64_l6] at hm
    clear hstep
    refine W_seq ?_
    refine W_seq ?_
    refine W_quiet [] [] [(0, .s s_), (6, sl A32 b25.length c34), (7, I have_18), (8, I worth18), (9, I i5), (10, I k_76), (36, .b (decide (0 ≤ k_76)))] [] (by kernel_rfl) trivial ?_
    refine At_go ?_
    refine W_condp (0 ≤ k_76) (by kernel_rfl) (fun hc27 => ?_) (fun hc27 => ?_)
    · rw [if_pos hc27] at hm
      refine W_skip ?_
      refine At_go ?_
      refine W_cut (fun L wr => ∃ (b26 : List UInt8) (have_19 : Int) (worth19 : Int) (A33 : Option Addr) (n19 : Nat) (c35 : Nat), m_r01_UnBase64_j7 k_76 b26 have_19 worth19 = some y1 ∧ L = [(0, .s s_), (6, sl A33 n19 c35), (7, I have_19), (8, I worth19), (9, I i5), (10, I k_76)] ∧ b26.length = n19 ∧ Cx w wr [OwS 5 bV A33 n19 c35 b26]) ?_ ?_
      ·
        refine W_block ?_
        refine W_seq ?_
        refine W_reg ?_
        obtain ⟨c36, h_c36, hm⟩ := Option.bind_eq_some_iff.1 hm
        refine WL_seg 5 [] [.u8 c36] [(0, .s s_), (6, sl A32 b25.length c34), (7, I have_18), (8, I worth18), (9, I i5), (10, I k_76), (40, I (w64 (2 * worth18))), (43, .u8 c36)] [fun w => 0 ≤ i5 ∧ s_[Int.toNat i5]? = some c36] (by kernel_rfl) (⟨geti_some h_c36, trivial⟩) ?_
        refine WL_op ?_
        obtain ⟨r_9, h_r_9, hm⟩ := Option.bind_eq_some_iff.1 hm
        refine Op_call [] 44 [.u8 c36] yt_go49 (by kernel_rfl) (c_r01_Letter c36 _ h_r_9) ?_
        rintro e_ w_37 ⟨rfl, k_78⟩
        have k_79 := k_77.call k_78
        refine ⟨I r_9, rfl, ?_⟩
        obtain ⟨u3, h_u3, hm⟩ := Option.bind_eq_some_iff.1 hm
        refine WL_seg 5 [] [] [(0, .s s_), (6, sl A32 b25.length c34), (7, I have_18), (8, I (w64 ((w64 (2 * worth18)) + (Int.tmod (shrI .i64 r_9 (Int.toNat k_76)) 2)))), (9, I i5), (10, I k_76)] [fun w => 0 ≤ k_76, fun w => (2 : Int) ≠ (0 : Int)] (by kernel_rfl) (⟨need_some h_u3, by omega, trivial⟩) ?_
        refine WL_nil ?_
        refine At_go ?_
        refine W_seq ?_
        refine W_quiet [] [] [(0, .s s_), (6, sl A32 b25.length c34), (7, I (w64 (have_18 + 1))), (8, I (w64 ((w64 (2 * worth18)) + (Int.tmod (shrI .i64 r_9 (Int.toNat k_76)) 2)))), (9, I i5), (10, I k_76)] [] (by kernel_rfl) trivial ?_
        refine At_go ?_
        refine W_seq ?_
        refine W_quiet [] [] [(0, .s s_), (6, sl A32 b25.length c34), (7, I (w64 (have_18 + 1))), (8, I (w64 ((w64 (2 * worth18)) + (Int.tmod (shrI .i64 r_9 (Int.toNat k_76)) 2)))), (9, I i5), (10, I k_76), (52, .b (decide ((w64 (have_18 + 1)) = 8)))] [] (by kernel_rfl) trivial ?_
        refine At_go ?_
        refine W_condp ((w64 (have_18 + 1)) = 8) (by kernel_rfl) (fun hc28 => ?_) (fun hc28 => ?_)
        · rw [if_pos hc28] at hm
          refine W_seq ?_
          refine W_reg ?_
          refine WL_seg 3 [] [] [(0, .s s_), (6, sl A32 b25.length c34), (9, I i5), (10, I k_76), (53, sl A32 b25.length c34), (55, .u8 (UInt8.ofInt (w64 ((w64 (2 * worth18)) + (Int.tmod (shrI .i64 r_9 (Int.toNat k_76)) 2)))))] [] (by kernel_rfl) trivial ?_
          refine WL_op ?_
          refine Op_mk yt_tf22 bV [] 56 ([UInt8.ofInt (w64 ((w64 (2 * worth18)) + (Int.tmod (shrI .i64 r_9 (Int.toNat k_76)) 2)))] : List UInt8) [(0, .u8 (UInt8.ofInt (w64 ((w64 (2 * worth18)) + (Int.tmod (shrI .i64 r_9 (Int.toNat k_76)) 2)))))] [.u8 (UInt8.ofInt (w64 ((w64 (2 * worth18)) + (Int.tmod (shrI .i64 r_9 (Int.toNat k_76)) 2))))] (by kernel_rfl) (by kernel_rfl) (by kernel_rfl) k_79 ?_
          intro A34 w_38 k_80
          refine WL_op ?_
          obtain ⟨b27, h_b27, hm⟩ := Option.bind_eq_some_iff.1 hm
          obtain ⟨hz7, hl7⟩ := app_some h_b27
          refine Op_append (c2 := 1) yt_tf22 one_b [] 57 0 (by kernel_rfl) k_80 rfl (k_80.len 1 rfl) (k_80.rd 1 rfl) (by have := k_80.len 0 rfl; have := k_80.len 1 rfl; omega) ?_
          intro A35 c37 w_39 k_81
          rw [← hl7] at k_81
          have k_82 : Cx w w_39 [OwS 5 bV A35 (b25.length + 1) c37 b27] := (k_81.drop 1)
          refine WL_seg 1 [] [] [(0, .s s_), (6, sl A35 (b25.length + 1) c37), (9, I i5), (10, I k_76)] [] (by kernel_rfl) trivial ?_
          refine WL_nil ?_
          refine At_go ?_
          refine W_seq ?_
          refine W_quiet [] [] [(0, .s s_), (6, sl A35 (b25.length + 1) c37), (7, I 0), (9, I i5), (10, I k_76)] [] (by kernel_rfl) trivial ?_
          refine At_go ?_
          refine W_quiet [] [] [(0, .s s_), (6, sl A35 (b25.length + 1) c37), (7, I 0), (8, I 0), (9, I i5), (10, I k_76)] [] (by kernel_rfl) trivial ?_
          refine At_in ?_
          refine At_forget [(0, .s s_), (6, sl A35 (b25.length + 1) c37), (7, I 0), (8, I 0), (9, I i5), (10, I k_76)] (by kernel_rfl) ?_
          exact At_cut ⟨b27, 0, 0, A35, b25.length + 1, c37, hm, rfl, k_82.len 0 rfl, k_82⟩
        rw [if_neg hc28] at hm
        refine W_skip ?_
        refine At_in ?_
        refine At_forget [(0, .s s_), (6, sl A32 b25.length c34), (7, I (w64 (have_18 + 1))), (8, I (w64 ((w64 (2 * worth18)) + (Int.tmod (shrI .i64 r_9 (Int.toNat k_76)) 2)))), (9, I i5), (10, I k_76)] (by kernel_rfl) ?_
        exact At_cut ⟨b25, w64 (have_18 + 1), w64 ((w64 (2 * worth18)) + (Int.tmod (shrI .i64 r_9 (Int.toNat k_76)) 2)), A32, b25.length, c34, hm, rfl, k_79.len 0 rfl, k_79⟩
      rintro L_ w_40 ⟨b26, have_19, worth19, A33, _, c35, hm, rfl, rfl, k_83⟩
      simp only [m_r01_UnBase64_j7] at hm
      refine W_quiet [] [] [(0, .s s_), (6, sl A33 b26.length c35), (7, I have_19), (8, I worth19), (9, I i5), (10, I (w64 (k_76 - 1)))] [] (by kernel_rfl) trivial ?_
      refine At_forget [(0, .s s_), (6, sl A33 b26.length c35), (7, I have_19), (8, I worth19), (9, I i5), (10, I (w64 (k_76 - 1)))] (by kernel_rfl) ?_
      exact At_round (b26, have_19, worth19, w64 (k_76 - 1)) (Option.some.inj hm).symm ⟨b26, have_19, worth19, w64 (k_76 - 1), A33, b26.length, c35, rfl, rfl, k_83.len 0 rfl, k_83⟩
    rw [if_neg hc27] at hm
    refine W_exit (At_te (At_te (At_ie ?_)))
    have hm := exit_of hm hr1
    refine At_in ?_
    refine At_go ?_
    refine W_quiet [] [] [(0, .s s_), (6, sl A32 b25.length c34), (7, I have_18), (8, I worth18), (9, I (w64 (i5 + 1)))] [] (by kernel_rfl) trivial ?_
    refine At_forget [(0, .s s_), (6, sl A32 b25.length c34), (7, I have_18), (8, I worth18), (9, I (w64 (i5 + 1)))] (by kernel_rfl) ?_
    exact At_round (b25, have_18, worth18, w64 (i5 + 1)) (Option.some.inj hm).symm ⟨b25, have_18, worth18, w64 (i5 + 1), A32, b25.length, c34, rfl, rfl, k_77.len 0 rfl, k_77⟩
  rw [if_neg hc24] at hm
  refine W_exit (At_te (At_te (At_ie ?_)))
  have hm := exit_of hm hr0
  refine At_go ?_
  refine W_seq ?_
  refine W_seq ?_
  refine W_quiet [] [] [(0, .s s_), (6, sl A27 b21.length c29), (59, .b (decide (worth15 ≠ 0)))] [] (by kernel_rfl) trivial ?_
  refine At_go ?_
  refine W_condp (worth15 ≠ 0) (by kernel_rfl) (fun hc29 => ?_) (fun hc29 => ?_)
  · rw [if_pos hc29] at hm
    refine W_seq ?_
    refine W_quiet [] [] [(2, sl none 0 0), (3, I (w64 ((s_.length : Int) - 1))), (4, I 4)] [] (by kernel_rfl) trivial ?_
    refine At_go ?_
    refine W_ret (At_tr ?_)
    have k_84 := k_67.nil 5 bV
    obtain rfl := Option.some.inj hm
    refine At_ret [] [sl none 0 0, I (w64 ((s_.length : Int) - 1)), I 4] [] (by kernel_rfl) trivial ?_
    have k_85 : Cx w w_31 [OwS 5 bV none 0 0 []] := (k_84.drop 0)
    exact ⟨none, _, 0, k_85.len 0 rfl, rfl, k_85⟩
  rw [if_neg hc29] at hm
  refine W_skip ?_
  refine At_go ?_
  refine W_seq ?_
  refine W_quiet [] [] [(2, sl A27 b21.length c29), (3, I 0), (4, I 0)] [] (by kernel_rfl) trivial ?_
  refine At_go ?_
  refine W_ret ?_
  obtain rfl := Option.some.inj hm
  refine At_ret [] [sl A27 b21.length c29, I 0, I 0] [] (by kernel_rfl) trivial ?_
  exact ⟨A27, _, c29, k_67.len 0 rfl, rfl, k_67⟩

-- quern/quernref01.Base64
noncomputable def m_r01_Base64_j4 (k_33 : Int) (s_15 : List UInt8) (have_11 : Int) (worth9 : Int) : Option (((List UInt8) × Int × Int × Int) ⊕ (((List UInt8) × Int × Int × Int) ⊕ (List UInt8))) :=
  some (.inl (s_15, have_11, worth9, w64 (k_33 - 1)))
noncomputable def m_r01_Base64_l3 (b : List UInt8) (i1 : Int) : ((List UInt8) × Int × Int × Int) → Option (((List UInt8) × Int × Int × Int) ⊕ (((List UInt8) × Int × Int × Int) ⊕ (List UInt8)))
  | (s_14, have_10, worth8, k_33) => if 0 ≤ k_33 then (Option.bind (geti b i1) fun x3 => Option.bind (need (0 ≤ k_33)) fun u1 => if (w64 (have_10 + 1)) = 6 then (Option.bind (geti [65, 66, 67, 68, 69, 70, 71, 72, 73, 74, 75, 76, 77, 78, 79, 80, 81, 82, 83, 84, 85, 86, 87, 88, 89, 90, 97, 98, 99, 100, 101, 102, 103, 104, 105, 106, 107, 108, 109, 110, 111, 112, 113, 114, 115, 116, 117, 118, 119, 120, 121, 122, 48, 49, 50, 51, 52, 53, 54, 55, 56, 57, 43, 47] (w64 ((w64 (2 * worth8)) + (Int.tmod ((shr8 x3 (Int.toNat k_33)).toNat : Int) 2)))) fun c21 => Option.bind (app s_14 ([c21] : List UInt8) 1) fun s_16 => m_r01_Base64_j4 k_33 s_16 0 0) else (m_r01_Base64_j4 k_33 s_14 (w64 (have_10 + 1)) (w64 ((w64 (2 * worth8)) + (Int.tmod ((shr8 x3 (Int.toNat k_33)).toNat : Int) 2))))) else (Option.map Sum.inr (some (.inl (s_14, have_10, worth8, w64 (i1 + 1)))))
noncomputable def m_r01_Base64_j5 (s_17 : List UInt8) : Option (List UInt8) :=
  some s_17
noncomputable def m_r01_Base64_l4  : ((List UInt8) × Int × Int) → Option (((List UInt8) × Int × Int) ⊕ (List UInt8))
  | (s_21, have_14, worth12) => if have_14 < 6 then (some (.inl (s_21, w64 (have_14 + 1), w64 (2 * worth12)))) else (Option.map Sum.inr (Option.bind (geti [65, 66, 67, 68, 69, 70, 71, 72, 73, 74, 75, 76, 77, 78, 79, 80, 81, 82, 83, 84, 85, 86, 87, 88, 89, 90, 97, 98, 99, 100, 101, 102, 103, 104, 105, 106, 107, 108, 109, 110, 111, 112, 113, 114, 115, 116, 117, 118, 119, 120, 121, 122, 48, 49, 50, 51, 52, 53, 54, 55, 56, 57, 43, 47] worth12) fun c30 => Option.bind (app s_21 ([c30] : List UInt8) 1) fun s_22 => m_r01_Base64_j5 s_22))
noncomputable def m_r01_Base64_l2 (b : List UInt8) : ((List UInt8) × Int × Int × Int) → Option (((List UInt8) × Int × Int × Int) ⊕ (List UInt8))
  | (s_10, have_7, worth5, i1) => if i1 < ((b.length : Nat) : Int) then (whileO (m_r01_Base64_l3 b i1) (s_10, have_7, worth5, 7)) else (Option.map Sum.inr (if 0 < have_7 then (whileO (m_r01_Base64_l4) (s_10, have_7, worth5)) else (m_r01_Base64_j5 s_10)))
noncomputable def m_r01_Base64 (b : List UInt8) : Option (List UInt8) :=
  whileO (m_r01_Base64_l2 b) ([], 0, 0, 0)
theorem c_r01_Base64 {w : World} (b : List UInt8) (A_b : Option Addr) (n_b c_b : Nat) (h_b : Rd w A_b (b.map bV)) (hn_b : b.length = n_b) (hc_b : n_b ≤ c_b) (r : List UInt8) (hm : m_r01_Base64 b = some r) :
    Calls Try.prog 39 (vals [sl A_b n_b c_b]) w (fun e w' => e = .returned (SV.val (.s r)) ∧ Cx w w' []) := by
  subst hn_b
  unfold m_r01_Base64 at hm
  refine calls [sl A_b b.length c_b] Try.func39 rfl (of_decide_eq_true (by kernel_rfl)) ?_
  have k := Cx.refl w
  refine W_seq ?_
  refine W_quiet [] [] [(0, sl A_b b.length c_b)] [] (by kernel_rfl) trivial ?_
  refine At_go ?_
  refine W_seq ?_
  refine W_quiet [] [] [(0, sl A_b b.length c_b), (3, sl none 0 0)] [] (by kernel_rfl) trivial ?_
  refine At_go ?_
  refine W_seq ?_
  refine W_quiet [] [] [(0, sl A_b b.length c_b), (3, sl none 0 0), (4, I 0)] [] (by kernel_rfl) trivial ?_
  refine At_go ?_
  refine W_seq ?_
  refine W_quiet [] [] [(0, sl A_b b.length c_b), (3, sl none 0 0), (4, I 0), (5, I 0)] [] (by kernel_rfl) trivial ?_
  refine At_go ?_
  refine W_seq ?_
  refine W_seq ?_
  refine W_quiet [] [] [(0, sl A_b b.length c_b), (3, sl none 0 0), (4, I 0), (5, I 0), (6, I 0)] [] (by kernel_rfl) trivial ?_
  refine At_go ?_
  refine W_block ?_
  refine W_forget [(0, sl A_b b.length c_b), (3, sl none 0 0), (4, I 0), (5, I 0), (6, I 0)] (by kernel_rfl) ?_
  have k_27 := k.nil 5 bV
  refine W_loop (m_r01_Base64_l2 b) (fun s L wr => ∃ (s_10 : List UInt8) (have_7 : Int) (worth5 : Int) (i1 : Int) (A14 : Option Addr) (n6 : Nat) (c14 : Nat), (s_10, have_7, worth5, i1) = s ∧ L = [(0, sl A_b b.length c_b), (3, sl A14 n6 c14), (4, I have_7), (5, I worth5), (6, I i1)] ∧ s_10.length = n6 ∧ Cx w wr [OwS 5 bV A14 n6 c14 s_10]) ([], 0, 0, 0) r hm ⟨[], 0, 0, 0, none, 0, 0, rfl, rfl, k_27.len 0 rfl, k_27⟩ ?_
  intro s0_ L_ w_13 y0 hrel hstep hr0
  obtain ⟨s_10, have_7, worth5, i1, A14, _, c14, rfl, rfl, rfl, k_26⟩ := hrel
  have hm := hstep; simp only [m_r01_Base64_l2] at hm
  clear hstep
  refine W_seq ?_
  refine W_seq ?_
  refine W_quiet [] [] [(0, sl A_b b.length c_b), (3, sl A14 s_10.length c14), (4, I have_7), (5, I worth5), (6, I i1), (11, .b (decide (i1 < ((b.length : Nat) : Int))))] [] (by kernel_rfl) trivial ?_
  refine At_go ?_
  refine W_condp (i1 < ((b.length : Nat) : Int)) (by kernel_rfl) (fun hc8 => ?_) (fun hc8 => ?_)
  · rw [if_pos hc8] at hm
    refine W_skip ?_
    refine At_go ?_
    refine W_seq ?_
    refine W_block ?_
    refine W_seq ?_
    refine W_quiet [] [] [(0, sl A_b b.length c_b), (3, sl A14 s_10.length c14), (4, I have_7), (5, I worth5), (6, I i1), (7, I 7)] [] (by kernel_rfl) trivial ?_
    refine At_go ?_
    refine W_block ?_
    refine W_forget [(0, sl A_b b.length c_b), (3, sl A14 s_10.length c14), (4, I have_7), (5, I worth5), (6, I i1), (7, I 7)] (by kernel_rfl) ?_
    refine W_loop (m_r01_Base64_l3 b i1) (fun s L wr => ∃ (s_14 : List UInt8) (have_10 : Int) (worth8 : Int) (k_33 : Int) (A19 : Option Addr) (n9 : Nat) (c19 : Nat), (s_14, have_10, worth8, k_33) = s ∧ L = [(0, sl A_b b.length c_b), (3, sl A19 n9 c19), (4, I have_10), (5, I worth8), (6, I i1), (7, I k_33)] ∧ s_14.length = n9 ∧ Cx w wr [OwS 5 bV A19 n9 c19 s_14]) (s_10, have_7, worth5, 7) y0 hm ⟨s_10, have_7, worth5, 7, A14, s_10.length, c14, rfl, rfl, k_26.len 0 rfl, k_26⟩ ?_
    intro s1_ L_ w_17 y1 hrel hstep hr1
    obtain ⟨s_14, have_10, worth8, k_33, A19, _, c19, rfl, rfl, rfl, k_34⟩ := hrel
    have hm := hstep; simp only [m_r01_Base64_l3] at hm
    clear hstep
    refine W_seq ?_
    refine W_seq ?_
    refine W_quiet [] [] [(0, sl A_b b.length c_b), (3, sl A19 s_14.length c19), (4, I have_10), (5, I worth8), (6, I i1), (7, I k_33), (15, .b (decide (0 ≤ k_33)))] [] (by kernel_rfl) trivial ?_
    refine At_go ?_
    refine W_condp (0 ≤ k_33) (by kernel_rfl) (fun hc11 => ?_) (fun hc11 => ?_)
    · rw [if_pos hc11] at hm
      refine W_skip ?_
      refine At_go ?_
      refine W_cut (fun L wr => ∃ (s_15 : List UInt8) (have_11 : Int) (worth9 : Int) (A20 : Option Addr) (n10 : Nat) (c20 : Nat), m_r01_Base64_j4 k_33 s_15 have_11 worth9 = some y1 ∧ L = [(0, sl A_b b.length c_b), (3, sl A20 n10 c20), (4, I have_11), (5, I worth9), (6, I i1), (7, I k_33)] ∧ s_15.length = n10 ∧ Cx w wr [OwS 5 bV A20 n10 c20 s_15]) ?_ ?_
      ·
        refine W_block ?_
        refine W_seq ?_
        obtain ⟨x3, h_x3, hm⟩ := Option.bind_eq_some_iff.1 hm
        obtain ⟨u1, h_u1, hm⟩ := Option.bind_eq_some_iff.1 hm
        refine W_quiet [] [.u8 x3] [(0, sl A_b b.length c_b), (3, sl A19 s_14.length c19), (4, I have_10), (5, I (w64 ((w64 (2 * worth8)) + (Int.tmod ((shr8 x3 (Int.toNat k_33)).toNat : Int) 2)))), (6, I i1), (7, I k_33)] [fun w => 0 ≤ i1 ∧ i1 < ((b.length : Nat) : Int) ∧ A_b.isSome = true, fun w => ∃ a, ixA A_b i1 1 = some a ∧ w.cell? a = some (SV.val (.u8 x3)), fun w => 0 ≤ k_33, fun w => (2 : Int) ≠ (0 : Int)] (by kernel_rfl) (⟨Rd.ix (h_b.cx k_34) h_x3 rfl, Rd.ld (φ := bV) (h_b.cx k_34) h_x3, need_some h_u1, by omega, trivial⟩) ?_
        refine At_go ?_
        refine W_seq ?_
        refine W_quiet [] [] [(0, sl A_b b.length c_b), (3, sl A19 s_14.length c19), (4, I (w64 (have_10 + 1))), (5, I (w64 ((w64 (2 * worth8)) + (Int.tmod ((shr8 x3 (Int.toNat k_33)).toNat : Int) 2)))), (6, I i1), (7, I k_33)] [] (by kernel_rfl) trivial ?_
        refine At_go ?_
        refine W_seq ?_
        refine W_quiet [] [] [(0, sl A_b b.length c_b), (3, sl A19 s_14.length c19), (4, I (w64 (have_10 + 1))), (5, I (w64 ((w64 (2 * worth8)) + (Int.tmod ((shr8 x3 (Int.toNat k_33)).toNat : Int) 2)))), (6, I i1), (7, I k_33), (32, .b (decide ((w64 (have_10 + 1)) = 6)))] [] (by kernel_rfl) trivial ?_
        refine At_go ?_
        refine W_condp ((w64 (have_10 + 1)) = 6) (by kernel_rfl) (fun hc12 => ?_) (fun hc12 => ?_)
        · rw [if_pos hc12] at hm
          refine W_seq ?_
          refine W_reg ?_
          obtain ⟨c21, h_c21, hm⟩ := Option.bind_eq_some_iff.1 hm
          refine WL_seg 3 [] [.u8 c21] [(0, sl A_b b.length c_b), (3, sl A19 s_14.length c19), (6, I i1), (7, I k_33), (33, sl A19 s_14.length c19), (35, .u8 c21)] [fun w => 0 ≤ (w64 ((w64 (2 * worth8)) + (Int.tmod ((shr8 x3 (Int.toNat k_33)).toNat : Int) 2))) ∧ [65, 66, 67, 68, 69, 70, 71, 72, 73, 74, 75, 76, 77, 78, 79, 80, 81, 82, 83, 84, 85, 86, 87, 88, 89, 90, 97, 98, 99, 100, 101, 102, 103, 104, 105, 106, 107, 108, 109, 110, 111, 112, 113, 114, 115, 116, 117, 118, 119, 120, 121, 122, 48, 49, 50, 51, 52, 53, 54, 55, 56, 57, 43, 47][Int.toNat (w64 ((w64 (2 * worth8)) + (Int.tmod ((shr8 x3 (Int.toNat k_33)).toNat : Int) 2)))]? = some c21] (by kernel_rfl) (⟨geti_some h_c21, trivial⟩) ?_
          refine WL_op ?_
          refine Op_mk yt_tf22 bV [] 36 ([c21] : List UInt8) [(0, .u8 c21)] [.u8 c21] (by kernel_rfl) (by kernel_rfl) (by kernel_rfl) k_34 ?_
          intro A21 w_18 k_35
          refine WL_op ?_
          obtain ⟨s_16, h_s_16, hm⟩ := Option.bind_eq_some_iff.1 hm
          obtain ⟨hz5, hl5⟩ := app_some h_s_16
          refine Op_append (c2 := 1) yt_tf22 one_b [] 37 0 (by kernel_rfl) k_35 rfl (k_35.len 1 rfl) (k_35.rd 1 rfl) (by have := k_35.len 0 rfl; have := k_35.len 1 rfl; omega) ?_
          intro A22 c22 w_19 k_36
          rw [← hl5] at k_36
          have k_37 : Cx w w_19 [OwS 5 bV A22 (s_14.length + 1) c22 s_16] := (k_36.drop 1)
          refine WL_seg 1 [] [] [(0, sl A_b b.length c_b), (3, sl A22 (s_14.length + 1) c22), (6, I i1), (7, I k_33)] [] (by kernel_rfl) trivial ?_
          refine WL_nil ?_
          refine At_go ?_
          refine W_seq ?_
          refine W_quiet [] [] [(0, sl A_b b.length c_b), (3, sl A22 (s_14.length + 1) c22), (4, I 0), (6, I i1), (7, I k_33)] [] (by kernel_rfl) trivial ?_
          refine At_go ?_
          refine W_quiet [] [] [(0, sl A_b b.length c_b), (3, sl A22 (s_14.length + 1) c22), (4, I 0), (5, I 0), (6, I i1), (7, I k_33)] [] (by kernel_rfl) trivial ?_
          refine At_in ?_
          refine At_forget [(0, sl A_b b.length c_b), (3, sl A22 (s_14.length + 1) c22), (4, I 0), (5, I 0), (6, I i1), (7, I k_33)] (by kernel_rfl) ?_
          exact At_cut ⟨s_16, 0, 0, A22, s_14.length + 1, c22, hm, rfl, k_37.len 0 rfl, k_37⟩
        rw [if_neg hc12] at hm
        refine W_skip ?_
        refine At_in ?_
        refine At_forget [(0, sl A_b b.length c_b), (3, sl A19 s_14.length c19), (4, I (w64 (have_10 + 1))), (5, I (w64 ((w64 (2 * worth8)) + (Int.tmod ((shr8 x3 (Int.toNat k_33)).toNat : Int) 2)))), (6, I i1), (7, I k_33)] (by kernel_rfl) ?_
        exact At_cut ⟨s_14, w64 (have_10 + 1), w64 ((w64 (2 * worth8)) + (Int.tmod ((shr8 x3 (Int.toNat k_33)).toNat : Int) 2)), A19, s_14.length, c19, hm, rfl, k_34.len 0 rfl, k_34⟩
      rintro L_ w_20 ⟨s_15, have_11, worth9, A20, _, c20, hm, rfl, rfl, k_38⟩
      simp only [m_r01_Base64_j4] at hm
      refine W_quiet [] [] [(0, sl A_b b.length c_b), (3, sl A20 s_15.length c20), (4, I have_11), (5, I worth9), (6, I i1), (7, I (w64 (k_33 - 1)))] [] (by kernel_rfl) trivial ?_
      refine At_forget [(0, sl A_b b.length c_b), (3, sl A20 s_15.length c20), (4, I have_11), (5, I worth9), (6, I i1), (7, I (w64 (k_33 - 1)))] (by kernel_rfl) ?_
      exact At_round (s_15, have_11, worth9, w64 (k_33 - 1)) (Option.some.inj hm).symm ⟨s_15, have_11, worth9, w64 (k_33 - 1), A20, s_15.length, c20, rfl, rfl, k_38.len 0 rfl, k_38⟩
    rw [if_neg hc11] at hm
    refine W_exit (At_te (At_te (At_ie ?_)))
    have hm := exit_of hm hr1
    refine At_in ?_
    refine At_go ?_
    refine W_quiet [] [] [(0, sl A_b b.length c_b), (3, sl A19 s_14.length c19), (4, I have_10), (5, I worth8), (6, I (w64 (i1 + 1)))] [] (by kernel_rfl) trivial ?_
    refine At_forget [(0, sl A_b b.length c_b), (3, sl A19 s_14.length c19), (4, I have_10), (5, I worth8), (6, I (w64 (i1 + 1)))] (by kernel_rfl) ?_
    exact At_round (s_14, have_10, worth8, w64 (i1 + 1)) (Option.some.inj hm).symm ⟨s_14, have_10, worth8, w64 (i1 + 1), A19, s_14.length, c19, rfl, rfl, k_34.len 0 rfl, k_34⟩
  rw [if_neg hc8] at hm
  refine W_exit (At_te (At_te (At_ie ?_)))
  have hm := exit_of hm hr0
  refine At_go ?_
  refine W_cut (fun L wr => ∃ (s_17 : List UInt8) (A23 : Option Addr) (n11 : Nat) (c23 : Nat), m_r01_Base64_j5 s_17 = some r ∧ L = [(3, sl A23 n11 c23)] ∧ s_17.length = n11 ∧ Cx w wr [OwS 5 bV A23 n11 c23 s_17]) ?_ ?_
  ·
    refine W_seq ?_
    refine W_quiet [] [] [(3, sl A14 s_10.length c14), (4, I have_7), (5, I worth5), (39, .b (decide (0 < have_7)))] [] (by kernel_rfl) trivial ?_
    refine At_go ?_
    refine W_condp (0 < have_7) (by kernel_rfl) (fun hc13 => ?_) (fun hc13 => ?_)
    · rw [if_pos hc13] at hm
      refine W_seq ?_
      refine W_block ?_
      refine W_forget [(3, sl A14 s_10.length c14), (4, I have_7), (5, I worth5)] (by kernel_rfl) ?_
      refine W_loop (m_r01_Base64_l4) (fun s L wr => ∃ (s_21 : List UInt8) (have_14 : Int) (worth12 : Int) (A29 : Option Addr) (n13 : Nat) (c29 : Nat), (s_21, have_14, worth12) = s ∧ L = [(3, sl A29 n13 c29), (4, I have_14), (5, I worth12)] ∧ s_21.length = n13 ∧ Cx w wr [OwS 5 bV A29 n13 c29 s_21]) (s_10, have_7, worth5) r hm ⟨s_10, have_7, worth5, A14, s_10.length, c14, rfl, rfl, k_26.len 0 rfl, k_26⟩ ?_
      intro s0_ L_ w_25 y0 hrel hstep hr0
      obtain ⟨s_21, have_14, worth12, A29, _, c29, rfl, rfl, rfl, k_45⟩ := hrel
      have hm := hstep; simp only [m_r01_Base64_l4] at hm
      clear hstep
      refine W_seq ?_
      refine W_seq ?_
      refine W_quiet [] [] [(3, sl A29 s_21.length c29), (4, I have_14), (5, I worth12), (41, .b (decide (have_14 < 6)))] [] (by kernel_rfl) trivial ?_
      refine At_go ?_
      refine W_condp (have_14 < 6) (by kernel_rfl) (fun hc16 => ?_) (fun hc16 => ?_)
      · rw [if_pos hc16] at hm
        refine W_skip ?_
        refine At_go ?_
        refine W_block ?_
        refine W_seq ?_
        refine W_quiet [] [] [(3, sl A29 s_21.length c29), (4, I have_14), (5, I (w64 (2 * worth12)))] [] (by kernel_rfl) trivial ?_
        refine At_go ?_
        refine W_quiet [] [] [(3, sl A29 s_21.length c29), (4, I (w64 (have_14 + 1))), (5, I (w64 (2 * worth12)))] [] (by kernel_rfl) trivial ?_
        refine At_in ?_
        refine At_forget [(3, sl A29 s_21.length c29), (4, I (w64 (have_14 + 1))), (5, I (w64 (2 * worth12)))] (by kernel_rfl) ?_
        exact At_round (s_21, w64 (have_14 + 1), w64 (2 * worth12)) (Option.some.inj hm).symm ⟨s_21, w64 (have_14 + 1), w64 (2 * worth12), A29, s_21.length, c29, rfl, rfl, k_45.len 0 rfl, k_45⟩
      rw [if_neg hc16] at hm
      refine W_exit (At_te (At_te (At_ie ?_)))
      have hm := exit_of hm hr0
      refine At_go ?_
      refine W_reg ?_
      obtain ⟨c30, h_c30, hm⟩ := Option.bind_eq_some_iff.1 hm
      refine WL_seg 3 [] [.u8 c30] [(3, sl A29 s_21.length c29), (46, sl A29 s_21.length c29), (48, .u8 c30)] [fun w => 0 ≤ worth12 ∧ [65, 66, 67, 68, 69, 70, 71, 72, 73, 74, 75, 76, 77, 78, 79, 80, 81, 82, 83, 84, 85, 86, 87, 88, 89, 90, 97, 98, 99, 100, 101, 102, 103, 104, 105, 106, 107, 108, 109, 110, 111, 112, 113, 114, 115, 116, 117, 118, 119, 120, 121, 122, 48, 49, 50, 51, 52, 53, 54, 55, 56, 57, 43, 47][Int.toNat worth12]? = some c30] (by kernel_rfl) (⟨geti_some h_c30, trivial⟩) ?_
      refine WL_op ?_
      refine Op_mk yt_tf22 bV [] 49 ([c30] : List UInt8) [(0, .u8 c30)] [.u8 c30] (by kernel_rfl) (by kernel_rfl) (by kernel_rfl) k_45 ?_
      intro A30 w_26 k_46
      refine WL_op ?_
      obtain ⟨s_22, h_s_22, hm⟩ := Option.bind_eq_some_iff.1 hm
      obtain ⟨hz8, hl8⟩ := app_some h_s_22
      refine Op_append (c2 := 1) yt_tf22 one_b [] 50 0 (by kernel_rfl) k_46 rfl (k_46.len 1 rfl) (k_46.rd 1 rfl) (by have := k_46.len 0 rfl; have := k_46.len 1 rfl; omega) ?_
      intro A31 c31 w_27 k_47
      rw [← hl8] at k_47
      have k_48 : Cx w w_27 [OwS 5 bV A31 (s_21.length + 1) c31 s_22] := (k_47.drop 1)
      refine WL_seg 1 [] [] [(3, sl A31 (s_21.length + 1) c31)] [] (by kernel_rfl) trivial ?_
      refine WL_nil ?_
      refine At_forget [(3, sl A31 (s_21.length + 1) c31)] (by kernel_rfl) ?_
      exact At_cut ⟨s_22, A31, s_21.length + 1, c31, hm, rfl, k_48.len 0 rfl, k_48⟩
    rw [if_neg hc13] at hm
    refine W_skip ?_
    refine At_forget [(3, sl A14 s_10.length c14)] (by kernel_rfl) ?_
    exact At_cut ⟨s_10, A14, s_10.length, c14, hm, rfl, k_26.len 0 rfl, k_26⟩
  rintro L_ w_28 ⟨s_17, A23, _, c23, hm, rfl, rfl, k_49⟩
  simp only [m_r01_Base64_j5] at hm
  refine W_seq ?_
  refine W_quiet [] [.s s_17] [(2, .s s_17)] [fun w => Rd w A23 (s_17.map bV) ∧ s_17.length = s_17.length] (by kernel_rfl) (⟨⟨(k_49.rd 0 rfl), (k_49.len 0 rfl)⟩, trivial⟩) ?_
  refine At_go ?_
  refine W_ret ?_
  obtain rfl := Option.some.inj hm
  refine At_ret [] [.s s_17] [] (by kernel_rfl) trivial ?_
  have k_50 : Cx w w_28 [] := (k_49.drop 0)
  exact ⟨rfl, k_50⟩

-- quern/quernlaw01.WordBase
noncomputable def m_l01_WordBase (b : List UInt8) (s_ : List UInt8) : Option Bool :=
  Option.bind (m_word_Base64 b) fun r_ => Option.bind (m_word_UnBase64 s_) fun r_1 => Option.bind (m_r01_UnBase64 s_) fun r_2 => Option.bind (m_r01_Base64 b) fun r_3 => if r_ = r_3 then (Option.bind (m_l01_same r_1.1 r_2.1) fun r_4 => some (((r_4 && (decide (r_1.2.1 = r_2.2.1))) && (decide (r_1.2.2 = r_2.2.2))) && ((decide (((b.length : Nat) : Int) ≠ 1)) || (decide ((r_.length : Int) = 2))))) else (some false)
theorem c_l01_WordBase {w : World} (b : List UInt8) (A_b : Option Addr) (n_b c_b : Nat) (h_b : Rd w A_b (b.map bV)) (hn_b : b.length = n_b) (hc_b : n_b ≤ c_b) (s_ : List UInt8) (r : Bool) (hm : m_l01_WordBase b s_ = some r) :
    Calls Try.prog 12 (vals [sl A_b n_b c_b, .s s_]) w (fun e w' => e = .returned (SV.val (.b r)) ∧ Cx w w' []) := by
  subst hn_b
  unfold m_l01_WordBase at hm
  refine calls [sl A_b b.length c_b, .s s_] Try.func12 rfl (of_decide_eq_true (by kernel_rfl)) ?_
  have k := Cx.refl w
  refine W_seq ?_
  refine W_quiet [] [] [(0, sl A_b b.length c_b), (1, .s s_)] [] (by kernel_rfl) trivial ?_
  refine At_go ?_
  refine W_seq ?_
  refine W_reg ?_
  refine WL_seg 1 [] [] [(0, sl A_b b.length c_b), (1, .s s_), (12, sl A_b b.length c_b)] [] (by kernel_rfl) trivial ?_
  refine WL_op ?_
  obtain ⟨r_, h_r_, hm⟩ := Option.bind_eq_some_iff.1 hm
  refine Op_call [] 13 [sl A_b b.length c_b] yt_go36 (by kernel_rfl) (c_word_Base64 b A_b b.length c_b (h_b.cx k) rfl hc_b _ h_r_) ?_
  rintro e_ w_ ⟨rfl, k_⟩
  have k_1 := k.call k_
  refine ⟨.s r_, rfl, ?_⟩
  refine WL_seg 1 [] [] [(0, sl A_b b.length c_b), (1, .s s_), (5, .s r_)] [] (by kernel_rfl) trivial ?_
  refine WL_nil ?_
  refine At_go ?_
  refine W_seq ?_
  refine W_reg ?_
  refine WL_seg 1 [] [] [(0, sl A_b b.length c_b), (1, .s s_), (5, .s r_), (15, .s s_)] [] (by kernel_rfl) trivial ?_
  refine WL_op ?_
  obtain ⟨r_1, h_r_1, hm⟩ := Option.bind_eq_some_iff.1 hm
  refine Op_call [] 16 [.s s_] yt_go37 (by kernel_rfl) (c_word_UnBase64 s_ _ h_r_1) ?_
  rintro e_ w_1 ⟨A, _, c, rfl, rfl, k_2⟩
  have k_3 := k_1.call k_2
  refine ⟨.tup [sl A r_1.1.length c, I r_1.2.1, I r_1.2.2], rfl, ?_⟩
  refine WL_seg 7 [] [] [(0, sl A_b b.length c_b), (1, .s s_), (5, .s r_), (6, sl A r_1.1.length c), (7, I r_1.2.1), (8, I r_1.2.2)] [] (by kernel_rfl) trivial ?_
  refine WL_nil ?_
  refine At_go ?_
  refine W_seq ?_
  refine W_reg ?_
  refine WL_seg 1 [] [] [(0, sl A_b b.length c_b), (5, .s r_), (6, sl A r_1.1.length c), (7, I r_1.2.1), (8, I r_1.2.2), (21, .s s_)] [] (by kernel_rfl) trivial ?_
  refine WL_op ?_
  obtain ⟨r_2, h_r_2, hm⟩ := Option.bind_eq_some_iff.1 hm
  refine Op_call [] 22 [.s s_] yt_go38 (by kernel_rfl) (c_r01_UnBase64 s_ _ h_r_2) ?_
  rintro e_ w_2 ⟨A1, _, c1, rfl, rfl, k_4⟩
  have k_5 := k_3.call k_4
  refine ⟨.tup [sl A1 r_2.1.length c1, I r_2.2.1, I r_2.2.2], rfl, ?_⟩
  refine WL_seg 7 [] [] [(0, sl A_b b.length c_b), (5, .s r_), (6, sl A r_1.1.length c), (7, I r_1.2.1), (8, I r_1.2.2), (9, sl A1 r_2.1.length c1), (10, I r_2.2.1), (11, I r_2.2.2)] [] (by kernel_rfl) trivial ?_
  refine WL_nil ?_
  refine At_go ?_
  refine W_seq ?_
  refine W_reg ?_
  refine WL_seg 2 [] [] [(0, sl A_b b.length c_b), (5, .s r_), (6, sl A r_1.1.length c), (7, I r_1.2.1), (8, I r_1.2.2), (9, sl A1 r_2.1.length c1), (10, I r_2.2.1), (11, I r_2.2.2), (26, .s r_), (27, sl A_b b.length c_b)] [] (by kernel_rfl) trivial ?_
  refine WL_op ?_
  obtain ⟨r_3, h_r_3, hm⟩ := Option.bind_eq_some_iff.1 hm
  refine Op_call [] 28 [sl A_b b.length c_b] yt_go39 (by kernel_rfl) (c_r01_Base64 b A_b b.length c_b (h_b.cx k_5) rfl hc_b _ h_r_3) ?_
  rintro e_ w_3 ⟨rfl, k_6⟩
  have k_7 := k_5.call k_6
  refine ⟨.s r_3, rfl, ?_⟩
  refine WL_seg 2 [] [] [(0, sl A_b b.length c_b), (5, .s r_), (6, sl A r_1.1.length c), (7, I r_1.2.1), (8, I r_1.2.2), (9, sl A1 r_2.1.length c1), (10, I r_2.2.1), (11, I r_2.2.2), (30, .b (decide (r_ = r_3)))] [] (by kernel_rfl) trivial ?_
  refine WL_split 30 (decide (r_ = r_3)) [(0, sl A_b b.length c_b), (5, .s r_), (6, sl A r_1.1.length c), (7, I r_1.2.1), (8, I r_1.2.2), (9, sl A1 r_2.1.length c1), (10, I r_2.2.1), (11, I r_2.2.2), (30, .b true)] [(0, sl A_b b.length c_b), (5, .s r_), (6, sl A r_1.1.length c), (7, I r_1.2.1), (8, I r_1.2.2), (9, sl A1 r_2.1.length c1), (10, I r_2.2.1), (11, I r_2.2.2), (30, .b false)] (by kernel_rfl) (by kernel_rfl) (by kernel_rfl) (fun hg => ?_) (fun hg => ?_)
  · rw [if_pos (of_decide_eq_true hg)] at hm
    refine WL_seg 2 [30] [] [(0, sl A_b b.length c_b), (5, .s r_), (7, I r_1.2.1), (8, I r_1.2.2), (10, I r_2.2.1), (11, I r_2.2.2), (30, .b true), (31, sl A r_1.1.length c), (32, sl A1 r_2.1.length c1)] [] (by kernel_rfl) trivial ?_
    refine WL_op ?_
    obtain ⟨r_4, h_r_4, hm⟩ := Option.bind_eq_some_iff.1 hm
    refine Op_call [30] 33 [sl A r_1.1.length c, sl A1 r_2.1.length c1] yt_go16 (by kernel_rfl) (c_l01_same r_1.1 A r_1.1.length c (k_7.rd 0 rfl) (k_7.len 0 rfl) (k_7.lec 0 rfl) r_2.1 A1 r_2.1.length c1 (k_7.rd 1 rfl) (k_7.len 1 rfl) (k_7.lec 1 rfl) _ h_r_4) ?_
    rintro e_ w_4 ⟨rfl, k_8⟩
    have k_9 := k_7.call k_8
    refine ⟨.b r_4, rfl, ?_⟩
    refine WL_seg 22 [30] [] [(4, .b (((r_4 && (decide (r_1.2.1 = r_2.2.1))) && (decide (r_1.2.2 = r_2.2.2))) && ((decide (((b.length : Nat) : Int) ≠ 1)) || (decide ((r_.length : Int) = 2)))))] [] (by kernel_rfl) trivial ?_
    refine WL_nil ?_
    refine At_go ?_
    refine W_ret ?_
    obtain rfl := Option.some.inj hm
    refine At_ret [] [.b (((r_4 && (decide (r_1.2.1 = r_2.2.1))) && (decide (r_1.2.2 = r_2.2.2))) && ((decide (((b.length : Nat) : Int) ≠ 1)) || (decide ((r_.length : Int) = 2))))] [] (by kernel_rfl) trivial ?_
    have k_10 : Cx w w_4 [] := ((k_9.drop 1).drop 0)
    exact ⟨rfl, k_10⟩
  · rw [if_neg (of_decide_eq_false hg)] at hm
    refine WL_seg 25 [30, 35, 40, 45, 49] [] [(4, .b false)] [] (by kernel_rfl) trivial ?_
    refine WL_nil ?_
    refine At_go ?_
    refine W_ret ?_
    obtain rfl := Option.some.inj hm
    refine At_ret [] [.b false] [] (by kernel_rfl) trivial ?_
    have k_11 : Cx w w_3 [] := ((k_7.drop 1).drop 0)
    exact ⟨rfl, k_11⟩

-- quern/quernlaw01.WordThere
noncomputable def m_l01_WordThere_l0 (s_ : List UInt8) : ((List UInt8) × Int) → Option (((List UInt8) × Int) ⊕ Bool)
  | (w_13, i2) => if i2 < (s_.length : Int) then (Option.bind (geti s_ i2) fun c10 => Option.bind (gif (decide ((65 : UInt8) ≤ c10)) (geti s_ i2)) fun c11 => if ((decide ((65 : UInt8) ≤ c10)) && (decide (c11 ≤ 70))) = true then (Option.map Sum.inr (some true)) else (some (.inl (w_13, w64 (i2 + 1))))) else (Option.map Sum.inr (Option.bind (m_word_Hex w_13) fun r_12 => some (decide (r_12 = s_))))
noncomputable def m_l01_WordThere_l1 (s_ : List UInt8) : ((List UInt8) × Int) → Option (((List UInt8) × Int) ⊕ Bool)
  | (w_20, i5) => if i5 < (s_.length : Int) then (Option.bind (geti s_ i5) fun c19 => Option.bind (gif (decide ((65 : UInt8) ≤ c19)) (geti s_ i5)) fun c20 => if ((decide ((65 : UInt8) ≤ c19)) && (decide (c20 ≤ 70))) = true then (Option.map Sum.inr (some true)) else (some (.inl (w_20, w64 (i5 + 1))))) else (Option.map Sum.inr (Option.bind (m_word_Hex w_20) fun r_16 => some (decide (r_16 = s_))))
noncomputable def m_l01_WordThere (b : List UInt8) (s_ : List UInt8) : Option Bool :=
  Option.bind (m_word_Hex b) fun r_ => Option.bind (m_word_UnHex r_) fun r_1 => Option.bind (m_word_Base64 b) fun r_2 => Option.bind (m_word_UnBase64 r_2) fun r_3 => if ((decide (r_1.2.2 ≠ 0)) || (decide (r_3.2.2 ≠ 0))) = true then (some false) else (Option.bind (m_l01_same r_1.1 b) fun r_4 => if (!r_4) = true then (some false) else (Option.bind (m_l01_same r_3.1 b) fun r_5 => if (!r_5) = true then (some false) else (Option.bind (m_word_Hex b) fun r_6 => if (r_6.length : Int) ≠ (w64 (2 * ((b.length : Nat) : Int))) then (some false) else (Option.bind (m_word_UnBase64 s_) fun r_7 => if r_7.2.2 = 0 then (Option.bind (m_word_Base64 r_7.1) fun r_8 => if r_8 ≠ s_ then (some false) else (Option.bind (m_word_UnHex s_) fun r_9 => if r_9.2.2 ≠ 0 then (some true) else (whileO (m_l01_WordThere_l0 s_) (r_9.1, 0)))) else (Option.bind (m_word_UnHex s_) fun r_13 => if r_13.2.2 ≠ 0 then (some true) else (whileO (m_l01_WordThere_l1 s_) (r_13.1, 0)))))))
theorem c_l01_WordThere {w : World} (b : List UInt8) (A_b : Option Addr) (n_b c_b : Nat) (h_b : Rd w A_b (b.map bV)) (hn_b : b.length = n_b) (hc_b : n_b ≤ c_b) (s_ : List UInt8) (r : Bool) (hm : m_l01_WordThere b s_ = some r) :
    Calls Try.prog 13 (vals [sl A_b n_b c_b, .s s_]) w (fun e w' => e = .returned (SV.val (.b r)) ∧ Cx w w' []) := by
  subst hn_b
  unfold m_l01_WordThere at hm
  refine calls [sl A_b b.length c_b, .s s_] Try.func13 rfl (of_decide_eq_true (by kernel_rfl)) ?_
  have k := Cx.refl w
  refine W_seq ?_
  refine W_quiet [] [] [(0, sl A_b b.length c_b), (1, .s s_)] [] (by kernel_rfl) trivial ?_
  refine At_go ?_
  refine W_seq ?_
  refine W_reg ?_
  refine WL_seg 1 [] [] [(0, sl A_b b.length c_b), (1, .s s_), (19, sl A_b b.length c_b)] [] (by kernel_rfl) trivial ?_
  refine WL_op ?_
  obtain ⟨r_, h_r_, hm⟩ := Option.bind_eq_some_iff.1 hm
  refine Op_call [] 20 [sl A_b b.length c_b] yt_go29 (by kernel_rfl) (c_word_Hex b A_b b.length c_b (h_b.cx k) rfl hc_b _ h_r_) ?_
  rintro e_ w_ ⟨rfl, k_⟩
  have k_1 := k.call k_
  refine ⟨.s r_, rfl, ?_⟩
  refine WL_op ?_
  obtain ⟨r_1, h_r_1, hm⟩ := Option.bind_eq_some_iff.1 hm
  refine Op_call [] 21 [.s r_] yt_go30 (by kernel_rfl) (c_word_UnHex r_ _ h_r_1) ?_
  rintro e_ w_1 ⟨A, _, c, rfl, rfl, k_2⟩
  have k_3 := k_1.call k_2
  refine ⟨.tup [sl A r_1.1.length c, I r_1.2.1, I r_1.2.2], rfl, ?_⟩
  refine WL_seg 7 [] [] [(0, sl A_b b.length c_b), (1, .s s_), (5, sl A r_1.1.length c), (7, I r_1.2.2)] [] (by kernel_rfl) trivial ?_
  refine WL_nil ?_
  refine At_go ?_
  refine W_seq ?_
  refine W_reg ?_
  refine WL_seg 1 [] [] [(0, sl A_b b.length c_b), (1, .s s_), (5, sl A r_1.1.length c), (7, I r_1.2.2), (26, sl A_b b.length c_b)] [] (by kernel_rfl) trivial ?_
  refine WL_op ?_
  obtain ⟨r_2, h_r_2, hm⟩ := Option.bind_eq_some_iff.1 hm
  refine Op_call [] 27 [sl A_b b.length c_b] yt_go36 (by kernel_rfl) (c_word_Base64 b A_b b.length c_b (h_b.cx k_3) rfl hc_b _ h_r_2) ?_
  rintro e_ w_2 ⟨rfl, k_4⟩
  have k_5 := k_3.call k_4
  refine ⟨.s r_2, rfl, ?_⟩
  refine WL_op ?_
  obtain ⟨r_3, h_r_3, hm⟩ := Option.bind_eq_some_iff.1 hm
  refine Op_call [] 28 [.s r_2] yt_go37 (by kernel_rfl) (c_word_UnBase64 r_2 _ h_r_3) ?_
  rintro e_ w_3 ⟨A1, _, c1, rfl, rfl, k_6⟩
  have k_7 := k_5.call k_6
  refine ⟨.tup [sl A1 r_3.1.length c1, I r_3.2.1, I r_3.2.2], rfl, ?_⟩
  refine WL_seg 7 [] [] [(0, sl A_b b.length c_b), (1, .s s_), (5, sl A r_1.1.length c), (7, I r_1.2.2), (8, sl A1 r_3.1.length c1), (10, I r_3.2.2)] [] (by kernel_rfl) trivial ?_
  refine WL_nil ?_
  refine At_go ?_
  refine W_seq ?_
  refine W_seq ?_
  refine W_reg ?_
  refine WL_seg 7 [] [] [(0, sl A_b b.length c_b), (1, .s s_), (5, sl A r_1.1.length c), (8, sl A1 r_3.1.length c1), (38, .b ((decide (r_1.2.2 ≠ 0)) || (decide (r_3.2.2 ≠ 0))))] [] (by kernel_rfl) trivial ?_
  refine WL_split 38 ((decide (r_1.2.2 ≠ 0)) || (decide (r_3.2.2 ≠ 0))) [(0, sl A_b b.length c_b), (1, .s s_), (5, sl A r_1.1.length c), (8, sl A1 r_3.1.length c1), (38, .b true)] [(0, sl A_b b.length c_b), (1, .s s_), (5, sl A r_1.1.length c), (8, sl A1 r_3.1.length c1), (38, .b false)] (by kernel_rfl) (by kernel_rfl) (by kernel_rfl) (fun hg => ?_) (fun hg => ?_)
  · rw [if_pos hg] at hm
    refine WL_seg 6 [38] [] [(0, sl A_b b.length c_b), (1, .s s_), (8, sl A1 r_3.1.length c1), (44, .b true)] [] (by kernel_rfl) trivial ?_
    refine WL_seg 6 [44] [] [(0, sl A_b b.length c_b), (1, .s s_), (50, .b true)] [] (by kernel_rfl) trivial ?_
    refine WL_seg 8 [50] [] [(1, .s s_), (58, .b true)] [] (by kernel_rfl) trivial ?_
    refine WL_nil ?_
    refine At_go ?_
    refine W_cond true (by kernel_rfl) (fun _ => ?_) (fun h => by cases h)
    refine W_seq ?_
    refine W_quiet [] [] [(4, .b false)] [] (by kernel_rfl) trivial ?_
    refine At_go ?_
    refine W_ret (At_tr ?_)
    obtain rfl := Option.some.inj hm
    refine At_ret [] [.b false] [] (by kernel_rfl) trivial ?_
    have k_8 : Cx w w_3 [] := ((k_7.drop 1).drop 0)
    exact ⟨rfl, k_8⟩
  · rw [if_neg (by rw [hg]; decide)] at hm
    refine WL_seg 2 [38] [] [(0, sl A_b b.length c_b), (1, .s s_), (8, sl A1 r_3.1.length c1), (38, .b false), (39, sl A r_1.1.length c), (40, sl A_b b.length c_b)] [] (by kernel_rfl) trivial ?_
    refine WL_op ?_
    obtain ⟨r_4, h_r_4, hm⟩ := Option.bind_eq_some_iff.1 hm
    refine Op_call [38] 41 [sl A r_1.1.length c, sl A_b b.length c_b] yt_go16 (by kernel_rfl) (c_l01_same r_1.1 A r_1.1.length c (k_7.rd 0 rfl) (k_7.len 0 rfl) (k_7.lec 0 rfl) b A_b b.length c_b (h_b.cx k_7) rfl hc_b _ h_r_4) ?_
    rintro e_ w_4 ⟨rfl, k_9⟩
    have k_10 := k_7.call k_9
    refine ⟨.b r_4, rfl, ?_⟩
    refine WL_seg 3 [38] [] [(0, sl A_b b.length c_b), (1, .s s_), (8, sl A1 r_3.1.length c1), (44, .b (!r_4))] [] (by kernel_rfl) trivial ?_
    refine WL_split 44 (!r_4) [(0, sl A_b b.length c_b), (1, .s s_), (8, sl A1 r_3.1.length c1), (44, .b true)] [(0, sl A_b b.length c_b), (1, .s s_), (8, sl A1 r_3.1.length c1), (44, .b false)] (by kernel_rfl) (by kernel_rfl) (by kernel_rfl) (fun hg1 => ?_) (fun hg1 => ?_)
    · rw [if_pos hg1] at hm
      refine WL_seg 6 [44] [] [(0, sl A_b b.length c_b), (1, .s s_), (50, .b true)] [] (by kernel_rfl) trivial ?_
      refine WL_seg 8 [50] [] [(1, .s s_), (58, .b true)] [] (by kernel_rfl) trivial ?_
      refine WL_nil ?_
      refine At_go ?_
      refine W_cond true (by kernel_rfl) (fun _ => ?_) (fun h => by cases h)
      refine W_seq ?_
      refine W_quiet [] [] [(4, .b false)] [] (by kernel_rfl) trivial ?_
      refine At_go ?_
      refine W_ret (At_tr ?_)
      obtain rfl := Option.some.inj hm
      refine At_ret [] [.b false] [] (by kernel_rfl) trivial ?_
      have k_11 : Cx w w_4 [] := ((k_10.drop 1).drop 0)
      exact ⟨rfl, k_11⟩
    · rw [if_neg (by rw [hg1]; decide)] at hm
      refine WL_seg 2 [44] [] [(0, sl A_b b.length c_b), (1, .s s_), (44, .b false), (45, sl A1 r_3.1.length c1), (46, sl A_b b.length c_b)] [] (by kernel_rfl) trivial ?_
      refine WL_op ?_
      obtain ⟨r_5, h_r_5, hm⟩ := Option.bind_eq_some_iff.1 hm
      refine Op_call [44] 47 [sl A1 r_3.1.length c1, sl A_b b.length c_b] yt_go16 (by kernel_rfl) (c_l01_same r_3.1 A1 r_3.1.length c1 (k_10.rd 1 rfl) (k_10.len 1 rfl) (k_10.lec 1 rfl) b A_b b.length c_b (h_b.cx k_10) rfl hc_b _ h_r_5) ?_
      rintro e_ w_5 ⟨rfl, k_12⟩
      have k_13 := k_10.call k_12
      refine ⟨.b r_5, rfl, ?_⟩
      refine WL_seg 3 [44] [] [(0, sl A_b b.length c_b), (1, .s s_), (50, .b (!r_5))] [] (by kernel_rfl) trivial ?_
      refine WL_split 50 (!r_5) [(0, sl A_b b.length c_b), (1, .s s_), (50, .b true)] [(0, sl A_b b.length c_b), (1, .s s_), (50, .b false)] (by kernel_rfl) (by kernel_rfl) (by kernel_rfl) (fun hg2 => ?_) (fun hg2 => ?_)
      · rw [if_pos hg2] at hm
        refine WL_seg 8 [50] [] [(1, .s s_), (58, .b true)] [] (by kernel_rfl) trivial ?_
        refine WL_nil ?_
        refine At_go ?_
        refine W_cond true (by kernel_rfl) (fun _ => ?_) (fun h => by cases h)
        refine W_seq ?_
        refine W_quiet [] [] [(4, .b false)] [] (by kernel_rfl) trivial ?_
        refine At_go ?_
        refine W_ret (At_tr ?_)
        obtain rfl := Option.some.inj hm
        refine At_ret [] [.b false] [] (by kernel_rfl) trivial ?_
        have k_14 : Cx w w_5 [] := ((k_13.drop 1).drop 0)
        exact ⟨rfl, k_14⟩
      · rw [if_neg (by rw [hg2]; decide)] at hm
        refine WL_seg 1 [50] [] [(0, sl A_b b.length c_b), (1, .s s_), (50, .b false), (51, sl A_b b.length c_b)] [] (by kernel_rfl) trivial ?_
        refine WL_op ?_
        obtain ⟨r_6, h_r_6, hm⟩ := Option.bind_eq_some_iff.1 hm
        refine Op_call [50] 52 [sl A_b b.length c_b] yt_go29 (by kernel_rfl) (c_word_Hex b A_b b.length c_b (h_b.cx k_13) rfl hc_b _ h_r_6) ?_
        rintro e_ w_6 ⟨rfl, k_15⟩
        have k_16 := k_13.call k_15
        refine ⟨.s r_6, rfl, ?_⟩
        refine WL_seg 6 [50] [] [(1, .s s_), (58, .b (decide ((r_6.length : Int) ≠ (w64 (2 * ((b.length : Nat) : Int))))))] [] (by kernel_rfl) trivial ?_
        refine WL_nil ?_
        refine At_go ?_
        refine W_condp ((r_6.length : Int) ≠ (w64 (2 * ((b.length : Nat) : Int)))) (by kernel_rfl) (fun hc => ?_) (fun hc => ?_)
        · rw [if_pos hc] at hm
          refine W_seq ?_
          refine W_quiet [] [] [(4, .b false)] [] (by kernel_rfl) trivial ?_
          refine At_go ?_
          refine W_ret (At_tr ?_)
          obtain rfl := Option.some.inj hm
          refine At_ret [] [.b false] [] (by kernel_rfl) trivial ?_
          have k_17 : Cx w w_6 [] := ((k_16.drop 1).drop 0)
          exact ⟨rfl, k_17⟩
        rw [if_neg hc] at hm
        refine W_skip ?_
        refine At_go ?_
        refine W_seq ?_
        refine W_reg ?_
        refine WL_seg 1 [] [] [(1, .s s_), (60, .s s_)] [] (by kernel_rfl) trivial ?_
        refine WL_op ?_
        obtain ⟨r_7, h_r_7, hm⟩ := Option.bind_eq_some_iff.1 hm
        refine Op_call [] 61 [.s s_] yt_go37 (by kernel_rfl) (c_word_UnBase64 s_ _ h_r_7) ?_
        rintro e_ w_7 ⟨A2, _, c2, rfl, rfl, k_18⟩
        have k_19 := k_16.call k_18
        refine ⟨.tup [sl A2 r_7.1.length c2, I r_7.2.1, I r_7.2.2], rfl, ?_⟩
        refine WL_seg 7 [] [] [(1, .s s_), (11, sl A2 r_7.1.length c2), (13, I r_7.2.2)] [] (by kernel_rfl) trivial ?_
        refine WL_nil ?_
        refine At_go ?_
        refine W_seq ?_
        refine W_seq ?_
        refine W_reg ?_
        refine WL_seg 3 [] [] [(1, .s s_), (11, sl A2 r_7.1.length c2), (67, .b (decide (r_7.2.2 = 0)))] [] (by kernel_rfl) trivial ?_
        refine WL_split 67 (decide (r_7.2.2 = 0)) [(1, .s s_), (11, sl A2 r_7.1.length c2), (67, .b true)] [(1, .s s_), (11, sl A2 r_7.1.length c2), (67, .b false)] (by kernel_rfl) (by kernel_rfl) (by kernel_rfl) (fun hg3 => ?_) (fun hg3 => ?_)
        · rw [if_pos (of_decide_eq_true hg3)] at hm
          refine WL_seg 1 [67] [] [(1, .s s_), (67, .b true), (68, sl A2 r_7.1.length c2)] [] (by kernel_rfl) trivial ?_
          refine WL_op ?_
          obtain ⟨r_8, h_r_8, hm⟩ := Option.bind_eq_some_iff.1 hm
          refine Op_call [67] 69 [sl A2 r_7.1.length c2] yt_go36 (by kernel_rfl) (c_word_Base64 r_7.1 A2 r_7.1.length c2 (k_19.rd 2 rfl) (k_19.len 2 rfl) (k_19.lec 2 rfl) _ h_r_8) ?_
          rintro e_ w_8 ⟨rfl, k_20⟩
          have k_21 := k_19.call k_20
          refine ⟨.s r_8, rfl, ?_⟩
          refine WL_seg 3 [67] [] [(1, .s s_), (72, .b (decide (r_8 ≠ s_)))] [] (by kernel_rfl) trivial ?_
          refine WL_nil ?_
          refine At_go ?_
          refine W_condp (r_8 ≠ s_) (by kernel_rfl) (fun hc1 => ?_) (fun hc1 => ?_)
          · rw [if_pos hc1] at hm
            refine W_seq ?_
            refine W_quiet [] [] [(4, .b false)] [] (by kernel_rfl) trivial ?_
            refine At_go ?_
            refine W_ret (At_tr ?_)
            obtain rfl := Option.some.inj hm
            refine At_ret [] [.b false] [] (by kernel_rfl) trivial ?_
            have k_22 : Cx w w_8 [] := (((k_21.drop 2).drop 1).drop 0)
            exact ⟨rfl, k_22⟩
          rw [if_neg hc1] at hm
          refine W_skip ?_
          refine At_go ?_
          refine W_seq ?_
          refine W_reg ?_
          refine WL_seg 1 [] [] [(1, .s s_), (74, .s s_)] [] (by kernel_rfl) trivial ?_
          refine WL_op ?_
          obtain ⟨r_9, h_r_9, hm⟩ := Option.bind_eq_some_iff.1 hm
          refine Op_call [] 75 [.s s_] yt_go30 (by kernel_rfl) (c_word_UnHex s_ _ h_r_9) ?_
          rintro e_ w_9 ⟨A3, _, c3, rfl, rfl, k_23⟩
          have k_24 := k_21.call k_23
          refine ⟨.tup [sl A3 r_9.1.length c3, I r_9.2.1, I r_9.2.2], rfl, ?_⟩
          refine WL_seg 7 [] [] [(1, .s s_), (14, sl A3 r_9.1.length c3), (16, I r_9.2.2)] [] (by kernel_rfl) trivial ?_
          refine WL_nil ?_
          refine At_go ?_
          refine W_seq ?_
          refine W_seq ?_
          refine W_quiet [] [] [(1, .s s_), (14, sl A3 r_9.1.length c3), (80, .b (decide (r_9.2.2 ≠ 0)))] [] (by kernel_rfl) trivial ?_
          refine At_go ?_
          refine W_condp (r_9.2.2 ≠ 0) (by kernel_rfl) (fun hc2 => ?_) (fun hc2 => ?_)
          · rw [if_pos hc2] at hm
            refine W_seq ?_
            refine W_quiet [] [] [(4, .b true)] [] (by kernel_rfl) trivial ?_
            refine At_go ?_
            refine W_ret (At_tr ?_)
            obtain rfl := Option.some.inj hm
            refine At_ret [] [.b true] [] (by kernel_rfl) trivial ?_
            have k_25 : Cx w w_9 [] := ((((k_24.drop 3).drop 2).drop 1).drop 0)
            exact ⟨rfl, k_25⟩
          rw [if_neg hc2] at hm
          refine W_skip ?_
          refine At_go ?_
          refine W_seq ?_
          refine W_seq ?_
          refine W_quiet [] [] [(1, .s s_), (14, sl A3 r_9.1.length c3), (17, I 0)] [] (by kernel_rfl) trivial ?_
          refine At_go ?_
          refine W_block ?_
          refine W_forget [(1, .s s_), (14, sl A3 r_9.1.length c3), (17, I 0)] (by kernel_rfl) ?_
          have k_33 : Cx w w_9 [OwS 5 bV A3 r_9.1.length c3 r_9.1] := (((k_24.drop 2).drop 1).drop 0)
          refine W_loop (m_l01_WordThere_l0 s_) (fun s L wr => ∃ (w_13 : List UInt8) (i2 : Int) (A5 : Option Addr) (n1 : Nat) (c9 : Nat), (w_13, i2) = s ∧ L = [(1, .s s_), (14, sl A5 n1 c9), (17, I i2)] ∧ w_13.length = n1 ∧ Cx w wr [OwS 5 bV A5 n1 c9 w_13]) (r_9.1, 0) r hm ⟨r_9.1, 0, A3, r_9.1.length, c3, rfl, rfl, k_33.len 0 rfl, k_33⟩ ?_
          intro s0_ L_ w_14 y0 hrel hstep hr0
          obtain ⟨w_13, i2, A5, _, c9, rfl, rfl, rfl, k_32⟩ := hrel
          have hm := hstep; simp only [m_l01_WordThere_l0] at hm
          clear hstep
          refine W_seq ?_
          refine W_seq ?_
          refine W_quiet [] [] [(1, .s s_), (14, sl A5 w_13.length c9), (17, I i2), (84, .b (decide (i2 < (s_.length : Int))))] [] (by kernel_rfl) trivial ?_
          refine At_go ?_
          refine W_condp (i2 < (s_.length : Int)) (by kernel_rfl) (fun hc7 => ?_) (fun hc7 => ?_)
          · rw [if_pos hc7] at hm
            refine W_skip ?_
            refine At_go ?_
            refine W_seq ?_
            refine W_block ?_
            refine W_seq ?_
            obtain ⟨c10, h_c10, hm⟩ := Option.bind_eq_some_iff.1 hm
            obtain ⟨c11, h_c11, hm⟩ := Option.bind_eq_some_iff.1 hm
            refine W_quiet [] [.u8 c10, .u8 c11] [(1, .s s_), (14, sl A5 w_13.length c9), (17, I i2), (96, .b ((decide ((65 : UInt8) ≤ c10)) && (decide (c11 ≤ 70))))] [fun w => 0 ≤ i2 ∧ s_[Int.toNat i2]? = some c10, fun w => (decide ((65 : UInt8) ≤ c10)) = true → 0 ≤ i2 ∧ s_[Int.toNat i2]? = some c11] (by kernel_rfl) (⟨geti_some h_c10, fun hg0 => geti_some (gif_some h_c11 hg0), trivial⟩) ?_
            refine At_go ?_
            refine W_cond ((decide ((65 : UInt8) ≤ c10)) && (decide (c11 ≤ 70))) (by kernel_rfl) (fun hc8 => ?_) (fun hc8 => ?_)
            · rw [if_pos hc8] at hm
              refine W_seq ?_
              refine W_quiet [] [] [(4, .b true)] [] (by kernel_rfl) trivial ?_
              refine At_go ?_
              refine W_ret (At_ir (At_tr (At_tr (At_ir (At_tr ?_)))))
              have hm := exit_of hm hr0
              obtain rfl := Option.some.inj hm
              refine At_ret [] [.b true] [] (by kernel_rfl) trivial ?_
              have k_34 : Cx w w_14 [] := (k_32.drop 0)
              exact ⟨rfl, k_34⟩
            rw [if_neg (by rw [hc8]; decide)] at hm
            refine W_skip ?_
            refine At_in ?_
            refine At_go ?_
            refine W_quiet [] [] [(1, .s s_), (14, sl A5 w_13.length c9), (17, I (w64 (i2 + 1)))] [] (by kernel_rfl) trivial ?_
            refine At_forget [(1, .s s_), (14, sl A5 w_13.length c9), (17, I (w64 (i2 + 1)))] (by kernel_rfl) ?_
            exact At_round (w_13, w64 (i2 + 1)) (Option.some.inj hm).symm ⟨w_13, w64 (i2 + 1), A5, w_13.length, c9, rfl, rfl, k_32.len 0 rfl, k_32⟩
          rw [if_neg hc7] at hm
          refine W_exit (At_te (At_te (At_ie ?_)))
          have hm := exit_of hm hr0
          refine At_go ?_
          refine W_seq ?_
          refine W_reg ?_
          refine WL_seg 1 [] [] [(1, .s s_), (97, sl A5 w_13.length c9)] [] (by kernel_rfl) trivial ?_
          refine WL_op ?_
          obtain ⟨r_12, h_r_12, hm⟩ := Option.bind_eq_some_iff.1 hm
          refine Op_call [] 98 [sl A5 w_13.length c9] yt_go29 (by kernel_rfl) (c_word_Hex w_13 A5 w_13.length c9 (k_32.rd 0 rfl) (k_32.len 0 rfl) (k_32.lec 0 rfl) _ h_r_12) ?_
          rintro e_ w_15 ⟨rfl, k_35⟩
          have k_36 := k_32.call k_35
          refine ⟨.s r_12, rfl, ?_⟩
          refine WL_seg 3 [] [] [(4, .b (decide (r_12 = s_)))] [] (by kernel_rfl) trivial ?_
          refine WL_nil ?_
          refine At_go ?_
          refine W_ret ?_
          obtain rfl := Option.some.inj hm
          refine At_ret [] [.b (decide (r_12 = s_))] [] (by kernel_rfl) trivial ?_
          have k_37 : Cx w w_15 [] := (k_36.drop 0)
          exact ⟨rfl, k_37⟩
        · rw [if_neg (of_decide_eq_false hg3)] at hm
          refine WL_seg 5 [67] [] [(1, .s s_), (72, .b false)] [] (by kernel_rfl) trivial ?_
          refine WL_nil ?_
          refine At_go ?_
          refine W_cond false (by kernel_rfl) (fun h => by cases h) (fun _ => ?_)
          refine W_skip ?_
          refine At_go ?_
          refine W_seq ?_
          refine W_reg ?_
          refine WL_seg 1 [] [] [(1, .s s_), (74, .s s_)] [] (by kernel_rfl) trivial ?_
          refine WL_op ?_
          obtain ⟨r_13, h_r_13, hm⟩ := Option.bind_eq_some_iff.1 hm
          refine Op_call [] 75 [.s s_] yt_go30 (by kernel_rfl) (c_word_UnHex s_ _ h_r_13) ?_
          rintro e_ w_16 ⟨A6, _, c12, rfl, rfl, k_38⟩
          have k_39 := k_19.call k_38
          refine ⟨.tup [sl A6 r_13.1.length c12, I r_13.2.1, I r_13.2.2], rfl, ?_⟩
          refine WL_seg 7 [] [] [(1, .s s_), (14, sl A6 r_13.1.length c12), (16, I r_13.2.2)] [] (by kernel_rfl) trivial ?_
          refine WL_nil ?_
          refine At_go ?_
          refine W_seq ?_
          refine W_seq ?_
          refine W_quiet [] [] [(1, .s s_), (14, sl A6 r_13.1.length c12), (80, .b (decide (r_13.2.2 ≠ 0)))] [] (by kernel_rfl) trivial ?_
          refine At_go ?_
          refine W_condp (r_13.2.2 ≠ 0) (by kernel_rfl) (fun hc9 => ?_) (fun hc9 => ?_)
          · rw [if_pos hc9] at hm
            refine W_seq ?_
            refine W_quiet [] [] [(4, .b true)] [] (by kernel_rfl) trivial ?_
            refine At_go ?_
            refine W_ret (At_tr ?_)
            obtain rfl := Option.some.inj hm
            refine At_ret [] [.b true] [] (by kernel_rfl) trivial ?_
            have k_40 : Cx w w_16 [] := ((((k_39.drop 3).drop 2).drop 1).drop 0)
            exact ⟨rfl, k_40⟩
          rw [if_neg hc9] at hm
          refine W_skip ?_
          refine At_go ?_
          refine W_seq ?_
          refine W_seq ?_
          refine W_quiet [] [] [(1, .s s_), (14, sl A6 r_13.1.length c12), (17, I 0)] [] (by kernel_rfl) trivial ?_
          refine At_go ?_
          refine W_block ?_
          refine W_forget [(1, .s s_), (14, sl A6 r_13.1.length c12), (17, I 0)] (by kernel_rfl) ?_
          have k_48 : Cx w w_16 [OwS 5 bV A6 r_13.1.length c12 r_13.1] := (((k_39.drop 2).drop 1).drop 0)
          refine W_loop (m_l01_WordThere_l1 s_) (fun s L wr => ∃ (w_20 : List UInt8) (i5 : Int) (A8 : Option Addr) (n3 : Nat) (c18 : Nat), (w_20, i5) = s ∧ L = [(1, .s s_), (14, sl A8 n3 c18), (17, I i5)] ∧ w_20.length = n3 ∧ Cx w wr [OwS 5 bV A8 n3 c18 w_20]) (r_13.1, 0) r hm ⟨r_13.1, 0, A6, r_13.1.length, c12, rfl, rfl, k_48.len 0 rfl, k_48⟩ ?_
          intro s0_ L_ w_21 y0 hrel hstep hr0
          obtain ⟨w_20, i5, A8, _, c18, rfl, rfl, rfl, k_47⟩ := hrel
          have hm := hstep; simp only [m_l01_WordThere_l1] at hm
          clear hstep
          refine W_seq ?_
          refine W_seq ?_
          refine W_quiet [] [] [(1, .s s_), (14, sl A8 w_20.length c18), (17, I i5), (84, .b (decide (i5 < (s_.length : Int))))] [] (by kernel_rfl) trivial ?_
          refine At_go ?_
          refine W_condp (i5 < (s_.length : Int)) (by kernel_rfl) (fun hc14 => ?_) (fun hc14 => ?_)
          · rw [if_pos hc14] at hm
            refine W_skip ?_
            refine At_go ?_
            refine W_seq ?_
            refine W_block ?_
            refine W_seq ?_
            obtain ⟨c19, h_c19, hm⟩ := Option.bind_eq_some_iff.1 hm
            obtain ⟨c20, h_c20, hm⟩ := Option.bind_eq_some_iff.1 hm
            refine W_quiet [] [.u8 c19, .u8 c20] [(1, .s s_), (14, sl A8 w_20.length c18), (17, I i5), (96, .b ((decide ((65 : UInt8) ≤ c19)) && (decide (c20 ≤ 70))))] [fun w => 0 ≤ i5 ∧ s_[Int.toNat i5]? = some c19, fun w => (decide ((65 : UInt8) ≤ c19)) = true → 0 ≤ i5 ∧ s_[Int.toNat i5]? = some c20] (by kernel_rfl) (⟨geti_some h_c19, fun hg0 => geti_some (gif_some h_c20 hg0), trivial⟩) ?_
            refine At_go ?_
            refine W_cond ((decide ((65 : UInt8) ≤ c19)) && (decide (c20 ≤ 70))) (by kernel_rfl) (fun hc15 => ?_) (fun hc15 => ?_)
            · rw [if_pos hc15] at hm
              refine W_seq ?_
              refine W_quiet [] [] [(4, .b true)] [] (by kernel_rfl) trivial ?_
              refine At_go ?_
              refine W_ret (At_ir (At_tr (At_tr (At_ir (At_tr ?_)))))
              have hm := exit_of hm hr0
              obtain rfl := Option.some.inj hm
              refine At_ret [] [.b true] [] (by kernel_rfl) trivial ?_
              have k_49 : Cx w w_21 [] := (k_47.drop 0)
              exact ⟨rfl, k_49⟩
            rw [if_neg (by rw [hc15]; decide)] at hm
            refine W_skip ?_
            refine At_in ?_
            refine At_go ?_
            refine W_quiet [] [] [(1, .s s_), (14, sl A8 w_20.length c18), (17, I (w64 (i5 + 1)))] [] (by kernel_rfl) trivial ?_
            refine At_forget [(1, .s s_), (14, sl A8 w_20.length c18), (17, I (w64 (i5 + 1)))] (by kernel_rfl) ?_
            exact At_round (w_20, w64 (i5 + 1)) (Option.some.inj hm).symm ⟨w_20, w64 (i5 + 1), A8, w_20.length, c18, rfl, rfl, k_47.len 0 rfl, k_47⟩
          rw [if_neg hc14] at hm
          refine W_exit (At_te (At_te (At_ie ?_)))
          have hm := exit_of hm hr0
          refine At_go ?_
          refine W_seq ?_
          refine W_reg ?_
          refine WL_seg 1 [] [] [(1, .s s_), (97, sl A8 w_20.length c18)] [] (by kernel_rfl) trivial ?_
          refine WL_op ?_
          obtain ⟨r_16, h_r_16, hm⟩ := Option.bind_eq_some_iff.1 hm
          refine Op_call [] 98 [sl A8 w_20.length c18] yt_go29 (by kernel_rfl) (c_word_Hex w_20 A8 w_20.length c18 (k_47.rd 0 rfl) (k_47.len 0 rfl) (k_47.lec 0 rfl) _ h_r_16) ?_
          rintro e_ w_22 ⟨rfl, k_50⟩
          have k_51 := k_47.call k_50
          refine ⟨.s r_16, rfl, ?_⟩
          refine WL_seg 3 [] [] [(4, .b (decide (r_16 = s_)))] [] (by kernel_rfl) trivial ?_
          refine WL_nil ?_
          refine At_go ?_
          refine W_ret ?_
          obtain rfl := Option.some.inj hm
          refine At_ret [] [.b (decide (r_16 = s_))] [] (by kernel_rfl) trivial ?_
          have k_52 : Cx w w_22 [] := (k_51.drop 0)
          exact ⟨rfl, k_52⟩
end Go.Sx
