import Derived.Test.YtaaniciepkoccaaGreatDoorMM
import Derived.Test.YtaaniciepkoccaaGreatDoorSyR
import Derived.Test.YtaaniciepkoccaaGreatDoorProg
namespace Go.Sx
open Go.RowKit Go.Proofs
set_option linter.unusedVariables false
set_option linter.unusedSimpArgs false
set_option maxRecDepth 20000
theorem yd_go4 : IsGo Tryz.prog 4 := ⟨⟨Tryz.f4, _, Tryz.func4, rfl, by kernel_rfl⟩⟩
theorem yd_go5 : IsGo Tryz.prog 5 := ⟨⟨Tryz.f5, _, Tryz.func5, rfl, by kernel_rfl⟩⟩
theorem yd_go6 : IsGo Tryz.prog 6 := ⟨⟨Tryz.f6, _, Tryz.func6, rfl, by kernel_rfl⟩⟩
theorem yd_go7 : IsGo Tryz.prog 7 := ⟨⟨Tryz.f7, _, Tryz.func7, rfl, by kernel_rfl⟩⟩
theorem yd_go8 : IsGo Tryz.prog 8 := ⟨⟨Tryz.f8, _, Tryz.func8, rfl, by kernel_rfl⟩⟩
theorem yd_go9 : IsGo Tryz.prog 9 := ⟨⟨Tryz.f9, _, Tryz.func9, rfl, by kernel_rfl⟩⟩
theorem yd_go10 : IsGo Tryz.prog 10 := ⟨⟨Tryz.f10, _, Tryz.func10, rfl, by kernel_rfl⟩⟩
theorem yd_go11 : IsGo Tryz.prog 11 := ⟨⟨Tryz.f11, _, Tryz.func11, rfl, by kernel_rfl⟩⟩
theorem yd_go12 : IsGo Tryz.prog 12 := ⟨⟨Tryz.f12, _, Tryz.func12, rfl, by kernel_rfl⟩⟩
theorem yd_go13 : IsGo Tryz.prog 13 := ⟨⟨Tryz.f13, _, Tryz.func13, rfl, by kernel_rfl⟩⟩
theorem yd_go18 : IsGo Tryz.prog 18 := ⟨⟨Tryz.f18, _, Tryz.func18, rfl, by kernel_rfl⟩⟩
theorem yd_go22 : IsGo Tryz.prog 22 := ⟨⟨Tryz.f22, _, Tryz.func22, rfl, by kernel_rfl⟩⟩
theorem yd_go23 : IsGo Tryz.prog 23 := ⟨⟨Tryz.f23, _, Tryz.func23, rfl, by kernel_rfl⟩⟩
theorem yd_go24 : IsGo Tryz.prog 24 := ⟨⟨Tryz.f24, _, Tryz.func24, rfl, by kernel_rfl⟩⟩
theorem yd_go25 : IsGo Tryz.prog 25 := ⟨⟨Tryz.f25, _, Tryz.func25, rfl, by kernel_rfl⟩⟩
theorem yd_go26 : IsGo Tryz.prog 26 := ⟨⟨Tryz.f26, _, Tryz.func26, rfl, by kernel_rfl⟩⟩
theorem yd_go27 : IsGo Tryz.prog 27 := ⟨⟨Tryz.f27, _, Tryz.func27, rfl, by kernel_rfl⟩⟩
theorem yd_go28 : IsGo Tryz.prog 28 := ⟨⟨Tryz.f28, _, Tryz.func28, rfl, by kernel_rfl⟩⟩
theorem yd_go29 : IsGo Tryz.prog 29 := ⟨⟨Tryz.f29, _, Tryz.func29, rfl, by kernel_rfl⟩⟩
theorem yd_go38 : IsGo Tryz.prog 38 := ⟨⟨Tryz.f38, _, Tryz.func38, rfl, by kernel_rfl⟩⟩
theorem yd_go40 : IsGo Tryz.prog 40 := ⟨⟨Tryz.f40, _, Tryz.func40, rfl, by kernel_rfl⟩⟩
theorem yd_go41 : IsGo Tryz.prog 41 := ⟨⟨Tryz.f41, _, Tryz.func41, rfl, by kernel_rfl⟩⟩
theorem yd_go63 : IsGo Tryz.prog 63 := ⟨⟨Tryz.f63, _, Tryz.func63, rfl, by kernel_rfl⟩⟩
theorem yd_tf22 : TF Tryz.prog 22 5 [.int .u8 0] 1 := ⟨by kernel_rfl, by kernel_rfl, by decide, by decide⟩
theorem yd_tf31 : TF Tryz.prog 31 25 [.pointer none] 8 := ⟨by kernel_rfl, by kernel_rfl, by decide, by decide⟩
theorem yd_tf108 : TF Tryz.prog 108 111 [.int .i64 0, .int .i64 0, .int .i64 0] 24 := ⟨by kernel_rfl, by kernel_rfl, by decide, by decide⟩
theorem yd_mixed : Tryz.prog.follows .mixedOrders = true := by kernel_rfl

-- (*quern/pass.pen).lit
theorem c_pass_pen_lit {F O : Nat → Prop} {w : World} (p_s : List UInt8) (p_at : Int) (p_ok : Bool) (t : List UInt8) (g_p : Nat) (k : Cx F O w w [Bx 67 g_p [.s p_s, I p_at, .b p_ok]]) (r : (List UInt8 × Int × Bool)) (hm : m_pass_pen_lit p_s p_at p_ok t = some r) :
    Calls Tryz.prog 22 (vals [pt g_p 0, .s t]) w (fun e w' => e = .returned (SV.val (.tup [])) ∧ Cx F O w w' [Bx 67 g_p [.s r.1, I r.2.1, .b r.2.2]]) := by
 unfold m_pass_pen_lit at hm
 refine calls [pt g_p 0, .s t] Tryz.func22 rfl (of_decide_eq_true (by kernel_rfl)) ?_
 refine W_seq <| W_q [] (.n 4 (I 0) .a) qe (by kernel_rfl) ?_
 refine At_go <| W_block <| W_lp (m_pass_pen_lit_l0 p_s p_ok t) (fun s L wr => ∃ (p : Int) (i : Int), (p, i) = s ∧ L = [(0, pt g_p 0), (1, .s t), (4, I i)] ∧ Cx F O w wr [Bx 67 g_p [.s p_s, I p, .b p_ok]]) (p_at, (0 : Int)) r hm ⟨p_at, (0 : Int), rfl, rfl, k⟩ (by kernel_rfl) ?_
 intro s0_ L_ w_ y0 hrel hstep hr0
 obtain ⟨p, i, rfl, rfl, k_⟩ := hrel
 have hm := hstep; simp only [m_pass_pen_lit_l0] at hm
 clear hstep
 refine W_seq <| W_seq <| W_q [] (.n 14 (.b ((decide (i < (t.length : Int))) && p_ok)) .a) (qp ((decide (i < (t.length : Int))) = true → (some ⟨g_p, 0, none⟩ : Option Addr).isSome = true) (fun hg0 => rfl) <| qp ((decide (i < (t.length : Int))) = true → (some ⟨g_p, 0, none⟩ : Option Addr).isSome = true) (fun hg0 => rfl) <| qo (.b p_ok) <| qc (fun w => (decide (i < (t.length : Int))) = true → ∃ a, (some ⟨g_p, 2, none⟩ : Option Addr) = some a ∧ w.cell? a = some (SV.val (.b p_ok))) (fun hg0 => k_.bld 0 rfl 2 (.b p_ok) (by kernel_rfl)) <| qe) (by kernel_rfl) ?_
 refine At_go <| W_cond ((decide (i < (t.length : Int))) && p_ok) (by kernel_rfl) (fun hc => ?_) (fun hc => ?_)
 · rw [if_pos hc] at hm
   refine W_skip <| At_go <| W_seq <| W_block <| W_seq <| W_seq ?_
   obtain ⟨c, h_c, hm⟩ := ob hm
   obtain ⟨c1, h_c1, hm⟩ := ob hm
   refine W_d yd_mixed (by kernel_rfl) (.n 41 (.b ((decide ((p_s.length : Int) ≤ p)) || (decide (c ≠ c1)))) (.s .a)) (fun m => qs g_p 0 <| qs g_p 0 <| qB (k_.drew m) 0 rfl 1 (I p) (by kernel_rfl) <| qs g_p 0 <| qs g_p 0 <| qB (k_.drew m) 0 rfl 0 (.s p_s) (by kernel_rfl) <| qp ((decide ((p_s.length : Int) ≤ p)) = false → (some ⟨g_p, 0, none⟩ : Option Addr).isSome = true) (fun hg0 => rfl) <| qp ((decide ((p_s.length : Int) ≤ p)) = false → (some ⟨g_p, 0, none⟩ : Option Addr).isSome = true) (fun hg0 => rfl) <| qo (.s p_s) <| qc (fun w => (decide ((p_s.length : Int) ≤ p)) = false → ∃ a, (some ⟨g_p, 0, none⟩ : Option Addr) = some a ∧ w.cell? a = some (SV.val (.s p_s))) (fun hg0 => (k_.drew m).bld 0 rfl 0 (.s p_s) (by kernel_rfl)) <| qp ((decide ((p_s.length : Int) ≤ p)) = false → (some ⟨g_p, 0, none⟩ : Option Addr).isSome = true) (fun hg0 => rfl) <| qp ((decide ((p_s.length : Int) ≤ p)) = false → (some ⟨g_p, 0, none⟩ : Option Addr).isSome = true) (fun hg0 => rfl) <| qo (I p) <| qc (fun w => (decide ((p_s.length : Int) ≤ p)) = false → ∃ a, (some ⟨g_p, 1, none⟩ : Option Addr) = some a ∧ w.cell? a = some (SV.val (I p))) (fun hg0 => (k_.drew m).bld 0 rfl 1 (I p) (by kernel_rfl)) <| qo (.u8 c) <| qp ((decide ((p_s.length : Int) ≤ p)) = false → 0 ≤ p ∧ p_s[Int.toNat p]? = some c) (fun hg0 => geti_some (gif_not h_c hg0)) <| qo (.u8 c1) <| qp ((decide ((p_s.length : Int) ≤ p)) = false → 0 ≤ i ∧ t[Int.toNat i]? = some c1) (fun hg0 => geti_some (gif_not h_c1 hg0)) <| qe) (by kernel_rfl) (fun m_ => ?_)
   have k_1 := k_.drew m_
   refine At_go <| W_cond ((decide ((p_s.length : Int) ≤ p)) || (decide (c ≠ c1))) (by kernel_rfl) (fun hc1 => ?_) (fun hc1 => ?_)
   · rw [if_pos hc1] at hm
     refine W_seq <| W_reg <| WLs 3 [] (.n 44 (pt g_p 2) .z) (qs g_p 0 <| qs g_p 0 <| qe) (by kernel_rfl) ?_
     refine WL_op <| Op_b [] 0 (.b false) [.b false] (Pt.at g_p 2) k_1 rfl (.kk .h) (by kernel_rfl) (by kernel_rfl) ?_
     intro w_1 k_2
     refine WL_nil <| At_go <| W_ret (At_tr (At_ir (At_tr (At_tr (At_ir ?_)))))
     have hm := exit_of hm hr0
     obtain rfl := Option.some.inj hm
     refine At_rt [] qe (by kernel_rfl) ?_
     exact ⟨rfl, k_2⟩
   rw [if_neg (by rw [hc1]; decide)] at hm
   refine W_skip <| At_go <| W_reg <| WLs 7 [] (.n 49 (I (w64 (p + 1))) (.n 51 (pt g_p 1) (.s .a))) (qs g_p 0 <| qs g_p 0 <| qB k_1 0 rfl 1 (I p) (by kernel_rfl) <| qs g_p 0 <| qs g_p 0 <| qe) (by kernel_rfl) ?_
   refine WL_op <| Op_b [] 0 (I (w64 (p + 1))) [I (w64 (p + 1))] (Pt.at g_p 1) k_1 rfl (.k .h) (by kernel_rfl) (by kernel_rfl) ?_
   intro w_2 k_3
   refine WL_nil <| At_in <| At_go <| W_q [] (.n 4 (I (w64 (i + 1))) (.ss (.kk .z))) qe (by kernel_rfl) ?_
   exact At_rd (w64 (p + 1), w64 (i + 1)) (Option.some.inj hm).symm ⟨w64 (p + 1), w64 (i + 1), rfl, rfl, k_3⟩ (by kernel_rfl)
 rw [if_neg (by rw [hc]; decide)] at hm
 refine W_exit (At_te (At_te (At_ie ?_)))
 have hm := exit_of hm hr0
 obtain rfl := Option.some.inj hm
 refine At_en [] qe (by kernel_rfl) ?_
 exact ⟨rfl, k_⟩

-- internal/stringslite.HasPrefix
theorem c_internal_stringslite_HasPrefix {F O : Nat → Prop} {w : World} (s_ : List UInt8) (prefix_ : List UInt8) (k : Cx F O w w []) (r : Bool) (hm : m_internal_stringslite_HasPrefix s_ prefix_ = some r) :
    Calls Tryz.prog 38 (vals [.s s_, .s prefix_]) w (fun e w' => e = .returned (SV.val (.b r)) ∧ Cx F O w w' []) := by
 unfold m_internal_stringslite_HasPrefix at hm
 refine calls [.s s_, .s prefix_] Tryz.func38 rfl (of_decide_eq_true (by kernel_rfl)) ?_
 refine W_seq <| W_q [] .a qe (by kernel_rfl) ?_
 refine At_go <| W_seq ?_
 obtain ⟨s_1, h_s_1, hm⟩ := ob hm
 refine W_q [] (.n 4 (.b ((decide ((prefix_.length : Int) ≤ (s_.length : Int))) && (decide (s_1 = prefix_)))) .z) (qp ((decide ((prefix_.length : Int) ≤ (s_.length : Int))) = true → 0 ≤ (prefix_.length : Int) ∧ (prefix_.length : Int) ≤ ((s_.length : Nat) : Int)) (fun hg0 => by have hs := slc_some (gif_some h_s_1 hg0); omega) <| qo (.s s_1) <| qp ((decide ((prefix_.length : Int) ≤ (s_.length : Int))) = true → (s_.take (Int.toNat (prefix_.length : Int))).drop 0 = s_1) (fun hg0 => (slc_some (gif_some h_s_1 hg0)).2.2.2.symm) <| qe) (by kernel_rfl) ?_
 refine At_go <| W_ret ?_
 obtain rfl := Option.some.inj hm
 refine At_rt [.b ((decide ((prefix_.length : Int) ≤ (s_.length : Int))) && (decide (s_1 = prefix_)))] qe (by kernel_rfl) ?_
 exact ⟨rfl, k⟩

-- strings.HasPrefix
theorem c_strings_HasPrefix {F O : Nat → Prop} {w : World} (s_ : List UInt8) (prefix_ : List UInt8) (k : Cx F O w w []) (r : Bool) (hm : m_strings_HasPrefix s_ prefix_ = some r) :
    Calls Tryz.prog 23 (vals [.s s_, .s prefix_]) w (fun e w' => e = .returned (SV.val (.b r)) ∧ Cx F O w w' []) := by
 unfold m_strings_HasPrefix at hm
 refine calls [.s s_, .s prefix_] Tryz.func23 rfl (of_decide_eq_true (by kernel_rfl)) ?_
 refine W_seq <| W_q [] .a qe (by kernel_rfl) ?_
 refine At_go <| W_seq <| W_reg <| WLs 2 [] (.n 5 (.s s_) (.n 6 (.s prefix_) .z)) qe (by kernel_rfl) ?_
 refine WL_op ?_
 obtain ⟨r_, h_r_, hm⟩ := ob hm
 refine Op_call [] 7 _ yd_go38 (by kernel_rfl) (c_internal_stringslite_HasPrefix (F := N0) (O := N0) _ _ (Cx.refl _) _ h_r_) ?_
 rintro e_ w_ ⟨rfl, k_⟩
 have k_1 := k.call k_
 refine ⟨.b r_, rfl, ?_⟩
 refine WLs 1 [] (.n 4 (.b r_) .z) qe (by kernel_rfl) ?_
 refine WL_nil <| At_go <| W_ret ?_
 obtain rfl := Option.some.inj hm
 refine At_rt [.b r_] qe (by kernel_rfl) ?_
 exact ⟨rfl, k_1⟩

-- (*quern/pass.pen).number
theorem c_pass_pen_number {F O : Nat → Prop} {w : World} (p_s : List UInt8) (p_at : Int) (p_ok : Bool) (g_p : Nat) (k : Cx F O w w [Bx 67 g_p [.s p_s, I p_at, .b p_ok]]) (r : (UInt64 × List UInt8 × Int × Bool)) (hm : m_pass_pen_number p_s p_at p_ok = some r) :
    Calls Tryz.prog 25 (vals [pt g_p 0]) w (fun e w' => e = .returned (SV.val (.u64 r.1)) ∧ Cx F O w w' [Bx 67 g_p [.s r.2.1, I r.2.2.1, .b r.2.2.2]]) := by
 unfold m_pass_pen_number at hm
 refine calls [pt g_p 0] Tryz.func25 rfl (of_decide_eq_true (by kernel_rfl)) ?_
 refine W_seq <| W_q [] .a qe (by kernel_rfl) ?_
 refine At_go <| W_seq <| W_q [] (.n 3 (.u64 0) .a) qe (by kernel_rfl) ?_
 refine At_go <| W_seq <| W_seq <| W_q [] (.n 10 (.b (!p_ok)) .a) (qs g_p 0 <| qs g_p 0 <| qB k 0 rfl 2 (.b p_ok) (by kernel_rfl) <| qe) (by kernel_rfl) ?_
 refine At_go <| W_cond (!p_ok) (by kernel_rfl) (fun hc => ?_) (fun hc => ?_)
 · rw [if_pos hc] at hm
   refine W_seq <| W_q [] (.n 2 (.u64 0) .z) qe (by kernel_rfl) ?_
   refine At_go <| W_ret (At_tr ?_)
   obtain rfl := Option.some.inj hm
   refine At_rt [.u64 0] qe (by kernel_rfl) ?_
   exact ⟨rfl, k⟩
 rw [if_neg (by rw [hc]; decide)] at hm
 refine W_skip <| At_go <| W_seq <| W_q [] (.n 4 (I p_at) (.s .a)) (qs g_p 0 <| qs g_p 0 <| qB k 0 rfl 1 (I p_at) (by kernel_rfl) <| qe) (by kernel_rfl) ?_
 refine At_go <| W_seq <| W_block <| W_lp (m_pass_pen_number_l0 p_s p_at) (fun s L wr => ∃ (p : Int) (v : UInt64), (p, v) = s ∧ L = [(0, pt g_p 0), (3, .u64 v), (4, I p_at)] ∧ Cx F O w wr [Bx 67 g_p [.s p_s, I p, .b p_ok]]) (p_at, (0 : UInt64)) r hm ⟨p_at, (0 : UInt64), rfl, rfl, k⟩ (by kernel_rfl) ?_
 intro s0_ L_ w_ y0 hrel hstep hr0
 obtain ⟨p, v, rfl, rfl, k_⟩ := hrel
 have hm := hstep; simp only [m_pass_pen_number_l0] at hm
 clear hstep
 refine W_seq <| W_seq ?_
 obtain ⟨c, h_c, hm⟩ := ob hm
 obtain ⟨c1, h_c1, hm⟩ := ob hm
 refine W_d yd_mixed (by kernel_rfl) (.n 48 (.b (((decide (p < (p_s.length : Int))) && (decide ((48 : UInt8) ≤ c))) && (decide (c1 ≤ 57)))) .a) (fun m => qs g_p 0 <| qs g_p 0 <| qB (k_.drew m) 0 rfl 1 (I p) (by kernel_rfl) <| qs g_p 0 <| qs g_p 0 <| qB (k_.drew m) 0 rfl 0 (.s p_s) (by kernel_rfl) <| qp ((decide (p < (p_s.length : Int))) = true → (some ⟨g_p, 0, none⟩ : Option Addr).isSome = true) (fun hg0 => rfl) <| qp ((decide (p < (p_s.length : Int))) = true → (some ⟨g_p, 0, none⟩ : Option Addr).isSome = true) (fun hg0 => rfl) <| qo (.s p_s) <| qc (fun w => (decide (p < (p_s.length : Int))) = true → ∃ a, (some ⟨g_p, 0, none⟩ : Option Addr) = some a ∧ w.cell? a = some (SV.val (.s p_s))) (fun hg0 => (k_.drew m).bld 0 rfl 0 (.s p_s) (by kernel_rfl)) <| qp ((decide (p < (p_s.length : Int))) = true → (some ⟨g_p, 0, none⟩ : Option Addr).isSome = true) (fun hg0 => rfl) <| qp ((decide (p < (p_s.length : Int))) = true → (some ⟨g_p, 0, none⟩ : Option Addr).isSome = true) (fun hg0 => rfl) <| qo (I p) <| qc (fun w => (decide (p < (p_s.length : Int))) = true → ∃ a, (some ⟨g_p, 1, none⟩ : Option Addr) = some a ∧ w.cell? a = some (SV.val (I p))) (fun hg0 => (k_.drew m).bld 0 rfl 1 (I p) (by kernel_rfl)) <| qo (.u8 c) <| qp ((decide (p < (p_s.length : Int))) = true → 0 ≤ p ∧ p_s[Int.toNat p]? = some c) (fun hg0 => geti_some (gif_some h_c hg0)) <| qp (((decide (p < (p_s.length : Int))) && (decide ((48 : UInt8) ≤ c))) = true → (some ⟨g_p, 0, none⟩ : Option Addr).isSome = true) (fun hg0 => rfl) <| qp (((decide (p < (p_s.length : Int))) && (decide ((48 : UInt8) ≤ c))) = true → (some ⟨g_p, 0, none⟩ : Option Addr).isSome = true) (fun hg0 => rfl) <| qo (.s p_s) <| qc (fun w => ((decide (p < (p_s.length : Int))) && (decide ((48 : UInt8) ≤ c))) = true → ∃ a, (some ⟨g_p, 0, none⟩ : Option Addr) = some a ∧ w.cell? a = some (SV.val (.s p_s))) (fun hg0 => (k_.drew m).bld 0 rfl 0 (.s p_s) (by kernel_rfl)) <| qp (((decide (p < (p_s.length : Int))) && (decide ((48 : UInt8) ≤ c))) = true → (some ⟨g_p, 0, none⟩ : Option Addr).isSome = true) (fun hg0 => rfl) <| qp (((decide (p < (p_s.length : Int))) && (decide ((48 : UInt8) ≤ c))) = true → (some ⟨g_p, 0, none⟩ : Option Addr).isSome = true) (fun hg0 => rfl) <| qo (I p) <| qc (fun w => ((decide (p < (p_s.length : Int))) && (decide ((48 : UInt8) ≤ c))) = true → ∃ a, (some ⟨g_p, 1, none⟩ : Option Addr) = some a ∧ w.cell? a = some (SV.val (I p))) (fun hg0 => (k_.drew m).bld 0 rfl 1 (I p) (by kernel_rfl)) <| qo (.u8 c1) <| qp (((decide (p < (p_s.length : Int))) && (decide ((48 : UInt8) ≤ c))) = true → 0 ≤ p ∧ p_s[Int.toNat p]? = some c1) (fun hg0 => geti_some (gif_some h_c1 hg0)) <| qe) (by kernel_rfl) (fun m_ => ?_)
 have k_1 := k_.drew m_
 refine At_go <| W_cond (((decide (p < (p_s.length : Int))) && (decide ((48 : UInt8) ≤ c))) && (decide (c1 ≤ 57))) (by kernel_rfl) (fun hc1 => ?_) (fun hc1 => ?_)
 · rw [if_pos hc1] at hm
   refine W_skip <| At_go <| W_block <| W_seq ?_
   obtain ⟨c2, h_c2, hm⟩ := ob hm
   refine W_d yd_mixed (by kernel_rfl) (.n 5 (.u64 (UInt64.ofNat (c2 - 48).toNat)) (.s .a)) (fun m => qs g_p 0 <| qs g_p 0 <| qB (k_1.drew m) 0 rfl 0 (.s p_s) (by kernel_rfl) <| qs g_p 0 <| qs g_p 0 <| qB (k_1.drew m) 0 rfl 1 (I p) (by kernel_rfl) <| qX h_c2 <| qe) (by kernel_rfl) (fun m_1 => ?_)
   have k_2 := k_1.drew m_1
   refine At_go <| W_seq <| W_seq <| W_q [] (.n 76 (.b (((decide (p_at < p)) && (decide (v = 0))) || (decide ((((18446744073709551615 : UInt64) - (UInt64.ofNat (c2 - 48).toNat)) / 10) < v)))) .a) (qs g_p 0 <| qs g_p 0 <| qB k_2 0 rfl 1 (I p) (by kernel_rfl) <| qp (((decide (p_at < p)) && (decide (v = 0))) = false → (10 : UInt64) ≠ 0) (fun hg0 => (by show (10 : UInt64) ≠ 0; decide)) <| qe) (by kernel_rfl) ?_
   refine At_go <| W_cond (((decide (p_at < p)) && (decide (v = 0))) || (decide ((((18446744073709551615 : UInt64) - (UInt64.ofNat (c2 - 48).toNat)) / 10) < v))) (by kernel_rfl) (fun hc2 => ?_) (fun hc2 => ?_)
   · rw [if_pos hc2] at hm
     refine W_seq <| W_reg <| WLs 3 [] (.n 79 (pt g_p 2) .z) (qs g_p 0 <| qs g_p 0 <| qe) (by kernel_rfl) ?_
     refine WL_op <| Op_b [] 0 (.b false) [.b false] (Pt.at g_p 2) k_2 rfl (.kk .h) (by kernel_rfl) (by kernel_rfl) ?_
     intro w_1 k_3
     refine WL_nil <| At_go <| W_seq <| W_q [] (.n 2 (.u64 0) .z) qe (by kernel_rfl) ?_
     refine At_go <| W_ret (At_tr (At_ir (At_tr (At_ir (At_tr ?_)))))
     have hm := exit_of hm hr0
     obtain rfl := Option.some.inj hm
     refine At_rt [.u64 0] qe (by kernel_rfl) ?_
     exact ⟨rfl, k_3⟩
   rw [if_neg (by rw [hc2]; decide)] at hm
   refine W_skip <| At_go <| W_seq <| W_q [] (.n 3 (.u64 (((10 : UInt64) * v) + (UInt64.ofNat (c2 - 48).toNat))) (.ss (.k (.s .a)))) qe (by kernel_rfl) ?_
   refine At_go <| W_reg <| WLs 7 [] (.n 88 (I (w64 (p + 1))) (.n 90 (pt g_p 1) .a)) (qs g_p 0 <| qs g_p 0 <| qB k_2 0 rfl 1 (I p) (by kernel_rfl) <| qs g_p 0 <| qs g_p 0 <| qe) (by kernel_rfl) ?_
   refine WL_op <| Op_b [] 0 (I (w64 (p + 1))) [I (w64 (p + 1))] (Pt.at g_p 1) k_2 rfl (.k .h) (by kernel_rfl) (by kernel_rfl) ?_
   intro w_2 k_4
   refine WL_nil <| At_in ?_
   exact At_rd (w64 (p + 1), ((10 : UInt64) * v) + (UInt64.ofNat (c2 - 48).toNat)) (Option.some.inj hm).symm ⟨w64 (p + 1), ((10 : UInt64) * v) + (UInt64.ofNat (c2 - 48).toNat), rfl, rfl, k_4⟩ (by kernel_rfl)
 rw [if_neg (by rw [hc1]; decide)] at hm
 refine W_exit (At_te (At_te (At_ie ?_)))
 have hm := exit_of hm hr0
 refine At_go <| W_seq <| W_reg <| WLs 9 [] (.n 97 (.b (decide (p_at < p))) (.n 99 (pt g_p 2) (.ss (.k .z)))) (qs g_p 0 <| qs g_p 0 <| qB k_1 0 rfl 1 (I p) (by kernel_rfl) <| qs g_p 0 <| qs g_p 0 <| qe) (by kernel_rfl) ?_
 refine WL_op <| Op_b [] 0 (.b (decide (p_at < p))) [.b (decide (p_at < p))] (Pt.at g_p 2) k_1 rfl (.kk .h) (by kernel_rfl) (by kernel_rfl) ?_
 intro w_3 k_5
 refine WL_nil <| At_go <| W_seq <| W_q [] (.n 2 (.u64 v) .z) qe (by kernel_rfl) ?_
 refine At_go <| W_ret ?_
 obtain rfl := Option.some.inj hm
 refine At_rt [.u64 v] qe (by kernel_rfl) ?_
 exact ⟨rfl, k_5⟩

-- quern/pass.whole
theorem c_pass_whole {F O : Nat → Prop} {w : World} (v : UInt64) (k : Cx F O w w []) (r : Int) (hm : m_pass_whole v = some r) :
    Calls Tryz.prog 24 (vals [.u64 v]) w (fun e w' => e = .returned (SV.val (I r)) ∧ Cx F O w w' []) := by
 unfold m_pass_whole at hm
 refine calls [.u64 v] Tryz.func24 rfl (of_decide_eq_true (by kernel_rfl)) ?_
 refine W_seq <| W_q [] .a qe (by kernel_rfl) ?_
 refine At_go <| W_seq <| W_seq <| W_q [] (.n 4 (.b (decide ((9223372036854775807 : UInt64) < v))) .a) qe (by kernel_rfl) ?_
 refine At_go <| W_condp ((9223372036854775807 : UInt64) < v) (by kernel_rfl) (fun hc => ?_) (fun hc => ?_)
 · rw [if_pos hc] at hm
   refine W_seq <| W_q [] (.n 2 (I (-1)) .z) qe (by kernel_rfl) ?_
   refine At_go <| W_ret (At_tr ?_)
   obtain rfl := Option.some.inj hm
   refine At_rt [I (-1)] qe (by kernel_rfl) ?_
   exact ⟨rfl, k⟩
 rw [if_neg hc] at hm
 refine W_skip <| At_go <| W_seq <| W_q [] (.n 2 (I (w64 v.toNat)) .z) qe (by kernel_rfl) ?_
 refine At_go <| W_ret ?_
 obtain rfl := Option.some.inj hm
 refine At_rt [I (w64 v.toNat)] qe (by kernel_rfl) ?_
 exact ⟨rfl, k⟩

-- (*quern/pass.pen).letters
theorem c_pass_pen_letters {F O : Nat → Prop} {w : World} (p_s : List UInt8) (p_at : Int) (p_ok : Bool) (g_p : Nat) (k : Cx F O w w [Bx 67 g_p [.s p_s, I p_at, .b p_ok]]) (r : (List UInt8 × Int × List UInt8 × Int × Bool)) (hm : m_pass_pen_letters p_s p_at p_ok = some r) :
    Calls Tryz.prog 26 (vals [pt g_p 0]) w (fun e w' => e = .returned (SV.val (.tup [.s r.1, I r.2.1])) ∧ Cx F O w w' [Bx 67 g_p [.s r.2.2.1, I r.2.2.2.1, .b r.2.2.2.2]]) := by
 unfold m_pass_pen_letters at hm
 refine calls [pt g_p 0] Tryz.func26 rfl (of_decide_eq_true (by kernel_rfl)) ?_
 refine W_seq <| W_q [] .a qe (by kernel_rfl) ?_
 refine At_go <| W_seq <| W_q [] (.n 4 (I p_at) .a) (qs g_p 0 <| qs g_p 0 <| qB k 0 rfl 1 (I p_at) (by kernel_rfl) <| qe) (by kernel_rfl) ?_
 refine At_go <| W_seq <| W_block <| W_lp (m_pass_pen_letters_l0 p_s p_at p_ok) (fun s L wr => () = s ∧ L = [(0, pt g_p 0), (4, I p_at)] ∧ Cx F O w wr [Bx 67 g_p [.s p_s, I p_at, .b p_ok]]) () r hm ⟨rfl, rfl, k⟩ (by kernel_rfl) ?_
 intro s0_ L_ w_ y0 hrel hstep hr0
 obtain ⟨rfl, rfl, k_⟩ := hrel
 have hm := hstep; simp only [m_pass_pen_letters_l0] at hm
 clear hstep
 refine W_seq <| W_seq ?_
 have k_1 := k_.drew 1
 refine W_mN yd_mixed (.q 0 1 (.q 1 1 (.q 2 1 (.q 3 1 (.q 4 1 (.q 5 1 (.q 6 1 (.q 7 1 (.q 8 1 (.q 9 1 (.q 10 1 (.q 11 1 (.q 12 1 (.q 13 1 (.q 14 1 (.q 15 1 (.q 16 0 (.q 17 1 (.q 18 1 (.q 19 1 (.q 20 1 (.q 21 1 (.q 22 1 (.q 23 1 (.q 24 1 (.q 25 0 (.op 26 (.q 27 1 (.q 28 1 (.q 29 1 (.q 30 1 (.q 31 1 (.q 32 1 (.q 33 1 (.q 34 1 (.q 35 1 (.q 36 1 (.q 37 1 (.q 38 1 (.q 39 1 (.q 40 1 (.q 41 1 (.q 42 1 (.q 43 1 (.q 44 1 (.q 45 1 (.q 46 1 (.q 47 1 (.q 48 1 (.q 49 1 (.q 50 1 (.q 51 1 (.q 52 1 (.q 53 1 (.q 54 1 (.q 55 1 (.q 56 1 (.q 57 1 (.q 58 1 (.q 59 1 (.q 60 1 (.q 61 1 (.q 62 1 (.q 63 1 (.q 64 1 (.q 65 1 (.q 66 1 (.q 67 1 (.q 68 1 (.q 69 1 (.q 70 1 (.q 71 1 (.q 72 1 (.q 73 1 (.q 74 1 (.q 75 1 (.q 76 1 (.q 77 1 (.q 78 1 (.q 79 1 (.q 80 1 (.q 81 1 (.q 82 1 (.q 83 1 (.q 84 1 (.q 85 1 (.q 86 1 (.q 87 1 (.q 88 1 (.q 89 1 (.q 90 1 (.q 91 1 (.q 92 1 (.q 93 1 (.q 94 1 (.q 95 1 (.q 96 1 (.q 97 1 (.q 98 1 (.q 99 1 (.q 100 1 .nil))))))))))))))))))))))))))))))))))))))))))))))))))))))))))))))))))))))))))))))))))))))))))))))))))))) [26] k_1 (.c (.k .e) .l) (by kernel_rfl) (fun _ => ?_)
 refine MXq 16 1 [] (.n 24 (.b (p_ok && (decide (p_at < (p_s.length : Int))))) .a) (fun x hx => qs g_p 0 <| qs g_p 0 <| qB hx 0 rfl 2 (.b p_ok) (by kernel_rfl) <| qp (p_ok = true → (some ⟨g_p, 0, none⟩ : Option Addr).isSome = true) (fun hg0 => rfl) <| qp (p_ok = true → (some ⟨g_p, 0, none⟩ : Option Addr).isSome = true) (fun hg0 => rfl) <| qo (I p_at) <| qc (fun w => p_ok = true → ∃ a, (some ⟨g_p, 1, none⟩ : Option Addr) = some a ∧ w.cell? a = some (SV.val (I p_at))) (fun hg0 => hx.bld 0 rfl 1 (I p_at) (by kernel_rfl)) <| qp (p_ok = true → (some ⟨g_p, 0, none⟩ : Option Addr).isSome = true) (fun hg0 => rfl) <| qp (p_ok = true → (some ⟨g_p, 0, none⟩ : Option Addr).isSome = true) (fun hg0 => rfl) <| qo (.s p_s) <| qc (fun w => p_ok = true → ∃ a, (some ⟨g_p, 0, none⟩ : Option Addr) = some a ∧ w.cell? a = some (SV.val (.s p_s))) (fun hg0 => hx.bld 0 rfl 0 (.s p_s) (by kernel_rfl)) <| qe) (by kernel_rfl) (fun _ => ?_)
 refine MXq 1 0 [] (.n 25 (.b (p_ok && (decide (p_at < (p_s.length : Int))))) (.s .a)) (fun x hx => qe) (by kernel_rfl) (fun _ => ?_)
 refine MX_sp 25 (p_ok && (decide (p_at < (p_s.length : Int)))) (.s .a) (by kernel_rfl) (fun hg _ => ?_) (fun hg _ => ?_)
 · rw [if_pos hg] at hm
   cases hm
 · rw [if_neg (by rw [hg]; decide)] at hm
   refine MXq 8 1 [25] (.n 29 (.tup []) (.n 33 (.tup []) .a)) (fun x hx => qe) (by kernel_rfl) (fun _ => ?_)
   refine MXq 1 0 [25] (.n 34 (.tup []) (.ss .a)) (fun x hx => qe) (by kernel_rfl) (fun _ => ?_)
   refine MX_off 35 [25] (by kernel_rfl) rfl (by kernel_rfl) (fun _ => ?_)
   refine MXq 74 1 [25, 37, 48, 61, 72, 85, 96] (.n 109 (.b false) (.sss .a)) (fun x hx => qe) (by kernel_rfl) (fun _ => ?_)
   refine MX_nil <| At_go <| W_cond false (by kernel_rfl) (fun h => by cases h) (fun _ => ?_)
   refine W_exit (At_te (At_te (At_ie ?_)))
   have hm := exit_of hm hr0
   refine At_go <| W_seq ?_
   obtain ⟨s_, h_s_, hm⟩ := ob hm
   have hs := slc_some h_s_
   refine W_d yd_mixed (by kernel_rfl) (.n 2 (.s s_) (.n 3 (I p_at) .z)) (fun m => qs g_p 0 <| qs g_p 0 <| qB (k_1.drew m) 0 rfl 0 (.s p_s) (by kernel_rfl) <| qs g_p 0 <| qs g_p 0 <| qB (k_1.drew m) 0 rfl 1 (I p_at) (by kernel_rfl) <| qp (0 ≤ p_at ∧ p_at ≤ ((p_s.length : Nat) : Int)) (by omega) <| qp (0 ≤ p_at ∧ p_at ≤ ((Int.toNat p_at : Nat) : Int)) (by omega) <| qo (.s s_) <| qp ((p_s.take (Int.toNat p_at)).drop (Int.toNat p_at) = s_) hs.2.2.2.symm <| qe) (by kernel_rfl) (fun m_ => ?_)
   have k_2 := k_1.drew m_
   refine At_go <| W_ret ?_
   obtain rfl := Option.some.inj hm
   refine At_rt [.s s_, I p_at] qe (by kernel_rfl) ?_
   exact ⟨rfl, k_2⟩

-- quern/word.letter
theorem c_word_letter {F O : Nat → Prop} {w : World} (c : UInt8) (k : Cx F O w w []) (r : (UInt32 × Bool)) (hm : m_word_letter c = some r) :
    Calls Tryz.prog 40 (vals [.u8 c]) w (fun e w' => e = .returned (SV.val (.tup [.u32 r.1, .b r.2])) ∧ Cx F O w w' []) := by
 unfold m_word_letter at hm
 refine calls [.u8 c] Tryz.func40 rfl (of_decide_eq_true (by kernel_rfl)) ?_
 refine W_seq <| W_q [] .a qe (by kernel_rfl) ?_
 refine At_go <| W_seq <| W_block <| W_seq <| W_q [] (.n 4 (.b ((decide ((65 : UInt8) ≤ c)) && (decide (c ≤ 90)))) .a) qe (by kernel_rfl) ?_
 refine At_go <| W_cond ((decide ((65 : UInt8) ≤ c)) && (decide (c ≤ 90))) (by kernel_rfl) (fun hc => ?_) (fun hc => ?_)
 · rw [if_pos hc] at hm
   refine W_seq <| W_q [] (.n 2 (.u32 (UInt32.ofNat (c - 65).toNat)) (.n 3 (.b true) .z)) qe (by kernel_rfl) ?_
   refine At_go <| W_ret (At_ir (At_tr ?_))
   obtain rfl := Option.some.inj hm
   refine At_rt [.u32 (UInt32.ofNat (c - 65).toNat), .b true] qe (by kernel_rfl) ?_
   exact ⟨rfl, k⟩
 rw [if_neg (by rw [hc]; decide)] at hm
 refine W_seq <| W_q [] (.n 14 (.b ((decide ((97 : UInt8) ≤ c)) && (decide (c ≤ 122)))) (.s .a)) qe (by kernel_rfl) ?_
 refine At_go <| W_cond ((decide ((97 : UInt8) ≤ c)) && (decide (c ≤ 122))) (by kernel_rfl) (fun hc1 => ?_) (fun hc1 => ?_)
 · rw [if_pos hc1] at hm
   refine W_seq <| W_q [] (.n 2 (.u32 ((UInt32.ofNat (c - 97).toNat) + 26)) (.n 3 (.b true) .z)) qe (by kernel_rfl) ?_
   refine At_go <| W_ret (At_ir (At_tr ?_))
   obtain rfl := Option.some.inj hm
   refine At_rt [.u32 ((UInt32.ofNat (c - 97).toNat) + 26), .b true] qe (by kernel_rfl) ?_
   exact ⟨rfl, k⟩
 rw [if_neg (by rw [hc1]; decide)] at hm
 refine W_seq <| W_q [] (.n 25 (.b ((decide ((48 : UInt8) ≤ c)) && (decide (c ≤ 57)))) (.s .a)) qe (by kernel_rfl) ?_
 refine At_go <| W_cond ((decide ((48 : UInt8) ≤ c)) && (decide (c ≤ 57))) (by kernel_rfl) (fun hc2 => ?_) (fun hc2 => ?_)
 · rw [if_pos hc2] at hm
   refine W_seq <| W_q [] (.n 2 (.u32 ((UInt32.ofNat (c - 48).toNat) + 52)) (.n 3 (.b true) .z)) qe (by kernel_rfl) ?_
   refine At_go <| W_ret (At_ir (At_tr ?_))
   obtain rfl := Option.some.inj hm
   refine At_rt [.u32 ((UInt32.ofNat (c - 48).toNat) + 52), .b true] qe (by kernel_rfl) ?_
   exact ⟨rfl, k⟩
 rw [if_neg (by rw [hc2]; decide)] at hm
 refine W_seq <| W_q [] (.n 36 (.b (decide (c = 43))) (.s .a)) qe (by kernel_rfl) ?_
 refine At_go <| W_condp (c = 43) (by kernel_rfl) (fun hc3 => ?_) (fun hc3 => ?_)
 · rw [if_pos hc3] at hm
   refine W_seq <| W_q [] (.n 2 (.u32 62) (.n 3 (.b true) .z)) qe (by kernel_rfl) ?_
   refine At_go <| W_ret (At_ir (At_tr ?_))
   obtain rfl := Option.some.inj hm
   refine At_rt [.u32 62, .b true] qe (by kernel_rfl) ?_
   exact ⟨rfl, k⟩
 rw [if_neg hc3] at hm
 refine W_seq <| W_q [] (.n 39 (.b (decide (c = 47))) .z) qe (by kernel_rfl) ?_
 refine At_go <| W_condp (c = 47) (by kernel_rfl) (fun hc4 => ?_) (fun hc4 => ?_)
 · rw [if_pos hc4] at hm
   refine W_seq <| W_q [] (.n 2 (.u32 63) (.n 3 (.b true) .z)) qe (by kernel_rfl) ?_
   refine At_go <| W_ret (At_ir (At_tr ?_))
   obtain rfl := Option.some.inj hm
   refine At_rt [.u32 63, .b true] qe (by kernel_rfl) ?_
   exact ⟨rfl, k⟩
 rw [if_neg hc4] at hm
 refine W_skip <| At_in <| At_go <| W_seq <| W_q [] (.n 2 (.u32 0) (.n 3 (.b false) .z)) qe (by kernel_rfl) ?_
 refine At_go <| W_ret ?_
 obtain rfl := Option.some.inj hm
 refine At_rt [.u32 0, .b false] qe (by kernel_rfl) ?_
 exact ⟨rfl, k⟩

-- quern/word.UnBase64
theorem c_word_UnBase64 {F O : Nat → Prop} {w : World} (s_ : List UInt8) (k : Cx F O w w []) (r : (List UInt8 × Int × Int)) (hm : m_word_UnBase64 s_ = some r) :
    Calls Tryz.prog 27 (vals [.s s_]) w (fun e w' => ∃ A n c, r.1.length = n ∧ e = .returned (SV.val (.tup [sl A n c, I r.2.1, I r.2.2])) ∧ Cx F O w w' [Ow e8 A n c r.1]) := by
 unfold m_word_UnBase64 at hm
 refine calls [.s s_] Tryz.func27 rfl (of_decide_eq_true (by kernel_rfl)) ?_
 refine W_seq <| W_q [] .a qe (by kernel_rfl) ?_
 refine At_go <| W_seq <| W_q [] (.n 5 (sl none 0 0) .a) qe (by kernel_rfl) ?_
 refine At_go <| W_seq <| W_q [] (.n 6 (I 0) (.n 7 (.u32 0) .a)) qe (by kernel_rfl) ?_
 refine At_go <| W_seq <| W_seq <| W_q [] (.n 12 (I (s_.length : Int)) (.n 13 (I 0) .a)) qe (by kernel_rfl) ?_
 refine At_go <| W_block ?_
 have k_1 := k.nil e8
 refine W_lp (m_word_UnBase64_l0 s_) (fun s L wr => ∃ (b : List UInt8) (have_ : Int) (v : UInt32) (x_0 : Int) (A0 : Option Addr) (n0 : Nat) (c0 : Nat), (b, have_, v, x_0) = s ∧ L = [(0, .s s_), (5, sl A0 n0 c0), (6, I have_), (7, .u32 v), (12, I (s_.length : Int)), (13, I x_0)] ∧ b.length = n0 ∧ Cx F O w wr [Ow e8 A0 n0 c0 b]) (([] : List UInt8), (0 : Int), (0 : UInt32), (0 : Int)) r hm ⟨([] : List UInt8), (0 : Int), (0 : UInt32), (0 : Int), none, 0, 0, rfl, rfl, k_1.len 0 rfl, k_1⟩ (by kernel_rfl) ?_
 intro s0_ L_ w_ y0 hrel hstep hr0
 obtain ⟨b, have_, v, x_0, A0, _, c0, rfl, rfl, rfl, k_⟩ := hrel
 have hm := hstep; simp only [m_word_UnBase64_l0] at hm
 clear hstep
 refine W_seq <| W_q [] (.n 14 (.b (decide (x_0 < (s_.length : Int)))) .a) qe (by kernel_rfl) ?_
 refine At_go <| W_seq <| W_condp (x_0 < (s_.length : Int)) (by kernel_rfl) (fun hc => ?_) (fun hc => ?_)
 · rw [if_pos hc] at hm
   refine W_skip <| At_go <| W_cut (fun L wr => ∃ (b1 : List UInt8) (have_1 : Int) (v1 : UInt32) (A1 : Option Addr) (n1 : Nat) (c1 : Nat), m_word_UnBase64_j0 x_0 b1 have_1 v1 = some y0 ∧ L = [(0, .s s_), (5, sl A1 n1 c1), (6, I have_1), (7, .u32 v1), (12, I (s_.length : Int)), (13, I x_0)] ∧ b1.length = n1 ∧ Cx F O w wr [Ow e8 A1 n1 c1 b1]) ?_ ?_
   ·
    refine W_block <| W_seq <| W_q [] (.n 8 (I x_0) (.s .a)) qe (by kernel_rfl) ?_
    refine At_go <| W_seq <| W_reg ?_
    obtain ⟨c2, h_c2, hm⟩ := ob hm
    refine WLs 3 [] (.n 19 (.u8 c2) .a) (qX h_c2 <| qe) (by kernel_rfl) ?_
    refine WL_op ?_
    obtain ⟨r_, h_r_, hm⟩ := ob hm
    refine Op_call [] 20 _ yd_go40 (by kernel_rfl) (c_word_letter (F := N0) (O := N0) _ (Cx.refl _) _ h_r_) ?_
    rintro e_ w_1 ⟨rfl, k_2⟩
    have k_3 := k_.call k_2
    refine ⟨.tup [.u32 r_.1, .b r_.2], rfl, ?_⟩
    refine WLs 5 [] (.n 9 (.u32 r_.1) (.n 10 (.b r_.2) (.ss .a))) qe (by kernel_rfl) ?_
    refine WL_nil <| At_go <| W_seq <| W_seq <| W_q [] (.n 24 (.b (!r_.2)) (.k (.s .a))) qe (by kernel_rfl) ?_
    refine At_go <| W_cond (!r_.2) (by kernel_rfl) (fun hc1 => ?_) (fun hc1 => ?_)
    · rw [if_pos hc1] at hm
      refine W_seq <| W_q [] (.n 2 (sl none 0 0) (.n 3 (I x_0) (.n 4 (I 4) .z))) qe (by kernel_rfl) ?_
      refine At_go <| W_ret (At_tr (At_ir (At_tr (At_tr (At_ir (At_tr ?_))))))
      have hm := exit_of hm hr0
      have k_4 := k_3.nil e8
      obtain rfl := Option.some.inj hm
      refine At_rt [sl none 0 0, I x_0, I 4] qe (by kernel_rfl) ?_
      have k_5 := k_4.sel (.s (.k .e))
      exact ⟨none, 0, 0, k_5.len 0 rfl, rfl, k_5⟩
    rw [if_neg (by rw [hc1]; decide)] at hm
    refine W_skip <| At_go <| W_seq <| W_q [] (.n 7 (.u32 ((shl32 v ((6 : UInt64).toNat)) ||| r_.1)) (.sss (.kkk (.s .a)))) qe (by kernel_rfl) ?_
    refine At_go <| W_seq <| W_q [] (.n 6 (I (w64 (have_ + 6))) (.kkk (.s .a))) qe (by kernel_rfl) ?_
    refine At_go <| W_seq <| W_q [] (.n 33 (.b (decide (8 ≤ (w64 (have_ + 6))))) .a) qe (by kernel_rfl) ?_
    refine At_go <| W_condp (8 ≤ (w64 (have_ + 6))) (by kernel_rfl) (fun hc2 => ?_) (fun hc2 => ?_)
    · rw [if_pos hc2] at hm
      refine W_seq <| W_q [] (.n 6 (I (w64 ((w64 (have_ + 6)) - 8))) (.ss .a)) qe (by kernel_rfl) ?_
      refine At_go <| W_seq <| W_reg ?_
      obtain ⟨u, h_u, hm⟩ := ob hm
      refine WLs 5 [] (.n 36 (sl A0 b.length c0) (.n 40 (.u8 (UInt8.ofNat (shr32 ((shl32 v ((6 : UInt64).toNat)) ||| r_.1) (Int.toNat (w64 ((w64 (have_ + 6)) - 8)))).toNat)) .a)) (qp (0 ≤ w64 ((w64 (have_ + 6)) - 8)) (need_some h_u) <| qe) (by kernel_rfl) ?_
      refine WL_op <| Op_mk yd_tf22 e8 [] 41 ([UInt8.ofNat (shr32 ((shl32 v ((6 : UInt64).toNat)) ||| r_.1) (Int.toNat (w64 ((w64 (have_ + 6)) - 8)))).toNat] : List UInt8) [(0, .u8 (UInt8.ofNat (shr32 ((shl32 v ((6 : UInt64).toNat)) ||| r_.1) (Int.toNat (w64 ((w64 (have_ + 6)) - 8)))).toNat))] [.u8 (UInt8.ofNat (shr32 ((shl32 v ((6 : UInt64).toNat)) ||| r_.1) (Int.toNat (w64 ((w64 (have_ + 6)) - 8)))).toNat)] (by kernel_rfl) (by kernel_rfl) (by kernel_rfl) k_3 ?_
      intro A2 w_2 k_6
      refine WL_op ?_
      obtain ⟨b2, h_b2, hm⟩ := ob hm
      obtain ⟨hz, hl⟩ := app_some h_b2
      refine Op_append (E := e8) (v := sl A2 1 1) (ys := ([UInt8.ofNat (shr32 ((shl32 v ((6 : UInt64).toNat)) ||| r_.1) (Int.toNat (w64 ((w64 (have_ + 6)) - 8)))).toNat] : List UInt8)) yd_tf22 [] 42 0 (by kernel_rfl) k_6 rfl (Src.sl (k_6.rd 1 rfl) (k_6.len 1 rfl) (by rfl)) (k_6.len 1 rfl) (by have := k_6.len 0 rfl; have := (k_6.len 1 rfl); omega) ?_
      intro A3 c3 w_3 k_7
      rw [← hl] at k_7
      have k_8 := k_7.sel (.k .z)
      refine WLs 1 [] (.n 5 (sl A3 (b.length + 1) c3) (.ssss (.kkk (.s .a)))) qe (by kernel_rfl) ?_
      refine WL_nil <| At_go ?_
      obtain ⟨u1, h_u1, hm⟩ := ob hm
      refine W_q [] (.n 7 (.u32 (((shl32 v ((6 : UInt64).toNat)) ||| r_.1) &&& ((shl32 1 (Int.toNat (w64 ((w64 (have_ + 6)) - 8)))) - 1))) (.kk (.s .a))) (qp (0 ≤ w64 ((w64 (have_ + 6)) - 8)) (need_some h_u1) <| qe) (by kernel_rfl) ?_
      refine At_in ?_
      exact At_c ⟨b2, w64 ((w64 (have_ + 6)) - 8), ((shl32 v ((6 : UInt64).toNat)) ||| r_.1) &&& ((shl32 1 (Int.toNat (w64 ((w64 (have_ + 6)) - 8)))) - 1), A3, b.length + 1, c3, hm, rfl, k_8.len 0 rfl, k_8⟩ (by kernel_rfl)
    rw [if_neg hc2] at hm
    refine W_skip <| At_in ?_
    exact At_c ⟨b, w64 (have_ + 6), (shl32 v ((6 : UInt64).toNat)) ||| r_.1, A0, b.length, c0, hm, rfl, k_3.len 0 rfl, k_3⟩ (by kernel_rfl)
   rintro L_ w_4 ⟨b1, have_1, v1, A1, _, c1, hm, rfl, rfl, k_9⟩
   simp only [m_word_UnBase64_j0] at hm
   refine W_q [] (.n 13 (I (w64 (x_0 + 1))) (.kkkk (.k .z))) qe (by kernel_rfl) ?_
   exact At_rd (b1, have_1, v1, w64 (x_0 + 1)) (Option.some.inj hm).symm ⟨b1, have_1, v1, w64 (x_0 + 1), A1, b1.length, c1, rfl, rfl, k_9.len 0 rfl, k_9⟩ (by kernel_rfl)
 rw [if_neg hc] at hm
 refine W_exit (At_te (At_te (At_ie ?_)))
 have hm := exit_of hm hr0
 refine At_go <| W_seq <| W_seq <| W_q [] (.n 52 (.b (decide ((Int.tmod (s_.length : Int) 4) = 1))) (.s (.kk (.s (.k .z))))) (qp ((4 : Int) ≠ (0 : Int)) (by omega) <| qe) (by kernel_rfl) ?_
 refine At_go <| W_condp ((Int.tmod (s_.length : Int) 4) = 1) (by kernel_rfl) (fun hc3 => ?_) (fun hc3 => ?_)
 · rw [if_pos hc3] at hm
   refine W_seq <| W_q [] (.n 2 (sl none 0 0) (.n 3 (I (s_.length : Int)) (.n 4 (I 4) .z))) qe (by kernel_rfl) ?_
   refine At_go <| W_ret (At_tr ?_)
   have k_10 := k_.nil e8
   obtain rfl := Option.some.inj hm
   refine At_rt [sl none 0 0, I (s_.length : Int), I 4] qe (by kernel_rfl) ?_
   have k_11 := k_10.sel (.s (.k .e))
   exact ⟨none, 0, 0, k_11.len 0 rfl, rfl, k_11⟩
 rw [if_neg hc3] at hm
 refine W_skip <| At_go <| W_seq <| W_seq <| W_q [] (.n 56 (.b (decide (v ≠ 0))) (.s (.kk .z))) qe (by kernel_rfl) ?_
 refine At_go <| W_condp (v ≠ 0) (by kernel_rfl) (fun hc4 => ?_) (fun hc4 => ?_)
 · rw [if_pos hc4] at hm
   refine W_seq <| W_q [] (.n 2 (sl none 0 0) (.n 3 (I (w64 ((s_.length : Int) - 1))) (.n 4 (I 4) .z))) qe (by kernel_rfl) ?_
   refine At_go <| W_ret (At_tr ?_)
   have k_12 := k_.nil e8
   obtain rfl := Option.some.inj hm
   refine At_rt [sl none 0 0, I (w64 ((s_.length : Int) - 1)), I 4] qe (by kernel_rfl) ?_
   have k_13 := k_12.sel (.s (.k .e))
   exact ⟨none, 0, 0, k_13.len 0 rfl, rfl, k_13⟩
 rw [if_neg hc4] at hm
 refine W_skip <| At_go <| W_seq <| W_q [] (.n 2 (sl A0 b.length c0) (.n 3 (I 0) (.n 4 (I 0) .z))) qe (by kernel_rfl) ?_
 refine At_go <| W_ret ?_
 obtain rfl := Option.some.inj hm
 refine At_rt [sl A0 b.length c0, I 0, I 0] qe (by kernel_rfl) ?_
 exact ⟨A0, b.length, c0, k_.len 0 rfl, rfl, k_⟩

-- quern/argon.bounds
theorem c_argon_bounds {F O : Nat → Prop} {w : World} (a_Kind : Int) (a_Memory : Int) (a_Passes : Int) (a_Lanes : Int) (a_Tag : Int) (k : Cx F O w w []) (r : (List (Int × Int × Int))) (hm : m_argon_bounds a_Kind a_Memory a_Passes a_Lanes a_Tag = some r) :
    Calls Tryz.prog 63 (vals [.agg [I a_Kind, I a_Memory, I a_Passes, I a_Lanes, I a_Tag]]) w (fun e w' => ∃ A n c, r.length = n ∧ e = .returned (SV.val (sl A n c)) ∧ Cx F O w w' [Ow (eP eI (eP eI eI)) A n c r]) := by
 unfold m_argon_bounds at hm
 refine calls [.agg [I a_Kind, I a_Memory, I a_Passes, I a_Lanes, I a_Tag]] Tryz.func63 rfl (of_decide_eq_true (by kernel_rfl)) ?_
 refine W_seq <| W_reg <| WL_op <| Op_box [] 1 (.agg [I a_Kind, I a_Memory, I a_Passes, I a_Lanes, I a_Tag]) [I a_Kind, I a_Memory, I a_Passes, I a_Lanes, I a_Tag] (by kernel_rfl) k ?_
 intro g w_ k_
 refine WLs 1 [] (.k .z) qe (by kernel_rfl) ?_
 refine WL_nil <| At_go <| W_seq <| W_reg <| WLs 15 [] (.n 5 (.agg [I a_Kind, I 0, I 2]) (.n 8 (.agg [I a_Lanes, I 1, I 8]) (.n 11 (.agg [I a_Passes, I 1, I 16]) (.n 14 (.agg [I a_Tag, I 4, I 1024]) (.n 17 (.agg [I a_Memory, I 8, I 4096]) .z))))) (qs g 0 <| qB k_ 0 rfl 0 (I a_Kind) (by kernel_rfl) <| qs g 0 <| qB k_ 0 rfl 3 (I a_Lanes) (by kernel_rfl) <| qs g 0 <| qB k_ 0 rfl 2 (I a_Passes) (by kernel_rfl) <| qs g 0 <| qB k_ 0 rfl 4 (I a_Tag) (by kernel_rfl) <| qs g 0 <| qB k_ 0 rfl 1 (I a_Memory) (by kernel_rfl) <| qe) (by kernel_rfl) ?_
 refine WL_op <| Op_mk yd_tf108 (eP eI (eP eI eI)) [] 18 ([(a_Kind, (0 : Int), (2 : Int)), (a_Lanes, (1 : Int), (8 : Int)), (a_Passes, (1 : Int), (16 : Int)), (a_Tag, (4 : Int), (1024 : Int)), (a_Memory, (8 : Int), (4096 : Int))] : List (Int × Int × Int)) [(0, .agg [I a_Kind, I 0, I 2]), (1, .agg [I a_Lanes, I 1, I 8]), (2, .agg [I a_Passes, I 1, I 16]), (3, .agg [I a_Tag, I 4, I 1024]), (4, .agg [I a_Memory, I 8, I 4096])] [I a_Kind, I 0, I 2, I a_Lanes, I 1, I 8, I a_Passes, I 1, I 16, I a_Tag, I 4, I 1024, I a_Memory, I 8, I 4096] (by kernel_rfl) (by kernel_rfl) (by kernel_rfl) k_ ?_
 intro A0 w_1 k_1
 refine WLs 1 [] (.n 2 (sl A0 5 5) .z) qe (by kernel_rfl) ?_
 refine WL_nil <| At_go <| W_ret ?_
 obtain rfl := Option.some.inj hm
 refine At_rt [sl A0 5 5] qe (by kernel_rfl) ?_
 have k_2 := k_1.sel (.s (.k .e))
 exact ⟨A0, 5, 5, k_2.len 0 rfl, rfl, k_2⟩

-- quern/argon.may
theorem c_argon_may {F O : Nat → Prop} {w : World} (a_Kind : Int) (a_Memory : Int) (a_Passes : Int) (a_Lanes : Int) (a_Tag : Int) (k : Cx F O w w []) (r : Bool) (hm : m_argon_may a_Kind a_Memory a_Passes a_Lanes a_Tag = some r) :
    Calls Tryz.prog 41 (vals [.agg [I a_Kind, I a_Memory, I a_Passes, I a_Lanes, I a_Tag]]) w (fun e w' => e = .returned (SV.val (.b r)) ∧ Cx F O w w' []) := by
 unfold m_argon_may at hm
 refine calls [.agg [I a_Kind, I a_Memory, I a_Passes, I a_Lanes, I a_Tag]] Tryz.func41 rfl (of_decide_eq_true (by kernel_rfl)) ?_
 refine W_seq <| W_reg <| WL_op <| Op_box [] 1 (.agg [I a_Kind, I a_Memory, I a_Passes, I a_Lanes, I a_Tag]) [I a_Kind, I a_Memory, I a_Passes, I a_Lanes, I a_Tag] (by kernel_rfl) k ?_
 intro g w_ k_
 refine WLs 1 [] (.k .z) qe (by kernel_rfl) ?_
 refine WL_nil <| At_go <| W_seq <| W_seq <| W_reg <| WLs 1 [] (.n 5 (.agg [I a_Kind, I a_Memory, I a_Passes, I a_Lanes, I a_Tag]) .a) (qT k_ 0 rfl 0 5 [I a_Kind, I a_Memory, I a_Passes, I a_Lanes, I a_Tag] (by kernel_rfl) (by decide) <| qe) (by kernel_rfl) ?_
 refine WL_op ?_
 obtain ⟨r_, h_r_, hm⟩ := ob hm
 refine Op_call [] 6 _ yd_go63 (by kernel_rfl) (c_argon_bounds (F := N0) (O := N0) _ _ _ _ _ (Cx.refl _) _ h_r_) ?_
 rintro e_ w_1 ⟨A, _, c, rfl, rfl, k_1⟩
 have k_2 := k_.call k_1
 refine ⟨sl A r_.length c, rfl, ?_⟩
 refine WLs 2 [] (.n 7 (I ((r_.length : Nat) : Int)) (.n 8 (I 0) (.k (.s .a)))) qe (by kernel_rfl) ?_
 refine WL_nil <| At_go <| W_block <| W_lp (m_argon_may_l0 a_Memory a_Lanes r_) (fun s L wr => ∃ (x_0 : Int), x_0 = s ∧ L = [(1, pt g 0), (6, sl A r_.length c), (7, I ((r_.length : Nat) : Int)), (8, I x_0)] ∧ Cx F O w wr [Bx 27 g [I a_Kind, I a_Memory, I a_Passes, I a_Lanes, I a_Tag], Ow (eP eI (eP eI eI)) A r_.length c r_]) (0 : Int) r hm ⟨(0 : Int), rfl, rfl, k_2⟩ (by kernel_rfl) ?_
 intro s0_ L_ w_2 y0 hrel hstep hr0
 obtain ⟨x_0, rfl, rfl, k_3⟩ := hrel
 have hm := hstep; simp only [m_argon_may_l0] at hm
 clear hstep
 refine W_seq <| W_q [] (.n 9 (.b (decide (x_0 < ((r_.length : Nat) : Int)))) .a) qe (by kernel_rfl) ?_
 refine At_go <| W_seq <| W_condp (x_0 < ((r_.length : Nat) : Int)) (by kernel_rfl) (fun hc => ?_) (fun hc => ?_)
 · rw [if_pos hc] at hm
   refine W_skip <| At_go <| W_seq <| W_block <| W_seq <| W_reg ?_
   obtain ⟨x_1, h_x_1, hm⟩ := ob hm
   refine WLs 2 [] (.n 11 (.agg [I x_1.1, I x_1.2.1, I x_1.2.2]) (.s .a)) (qJ (k_3.rd 1 rfl) h_x_1 (k_3.len 1 rfl) <| qR [I x_1.1, I x_1.2.1, I x_1.2.2] (Rd.els (k := 0) (m := 3) (k_3.rd 1 rfl) h_x_1 (Pt.ix1 A x_0 3) rfl (by decide) (by decide)) <| qe) (by kernel_rfl) ?_
   refine WL_op <| Op_alloc [] 4 [I 0, I 0, I 0] (by kernel_rfl) k_3 ?_
   intro g1 w_3 k_4
   refine WL_op <| Op_b [] 2 (.agg [I x_1.1, I x_1.2.1, I x_1.2.2]) [I x_1.1, I x_1.2.1, I x_1.2.2] (Pt.at g1 0) k_4 rfl .all (by kernel_rfl) (by kernel_rfl) ?_
   intro w_4 k_5
   refine WL_nil <| At_go <| W_seq <| W_q [] (.n 23 (.b ((decide (x_1.1 < x_1.2.1)) || (decide (x_1.2.2 < x_1.1)))) (.ss .a)) (qs g1 0 <| qB k_5 2 rfl 0 (I x_1.1) (by kernel_rfl) <| qs g1 0 <| qB k_5 2 rfl 1 (I x_1.2.1) (by kernel_rfl) <| qp ((decide (x_1.1 < x_1.2.1)) = false → (some ⟨g1, 0, none⟩ : Option Addr).isSome = true) (fun hg0 => rfl) <| qo (I x_1.1) <| qc (fun w => (decide (x_1.1 < x_1.2.1)) = false → ∃ a, (some ⟨g1, 0, none⟩ : Option Addr) = some a ∧ w.cell? a = some (SV.val (I x_1.1))) (fun hg0 => k_5.bld 2 rfl 0 (I x_1.1) (by kernel_rfl)) <| qp ((decide (x_1.1 < x_1.2.1)) = false → (some ⟨g1, 0, none⟩ : Option Addr).isSome = true) (fun hg0 => rfl) <| qo (I x_1.2.2) <| qc (fun w => (decide (x_1.1 < x_1.2.1)) = false → ∃ a, (some ⟨g1, 2, none⟩ : Option Addr) = some a ∧ w.cell? a = some (SV.val (I x_1.2.2))) (fun hg0 => k_5.bld 2 rfl 2 (I x_1.2.2) (by kernel_rfl)) <| qe) (by kernel_rfl) ?_
   refine At_go <| W_cond ((decide (x_1.1 < x_1.2.1)) || (decide (x_1.2.2 < x_1.1))) (by kernel_rfl) (fun hc1 => ?_) (fun hc1 => ?_)
   · rw [if_pos hc1] at hm
     refine W_seq <| W_q [] (.n 2 (.b false) .z) qe (by kernel_rfl) ?_
     refine At_go <| W_ret (At_ir (At_tr (At_tr (At_ir (At_tr ?_)))))
     have hm := exit_of hm hr0
     obtain rfl := Option.some.inj hm
     refine At_rt [.b false] qe (by kernel_rfl) ?_
     have k_6 := k_5.sel .z
     exact ⟨rfl, k_6⟩
   rw [if_neg (by rw [hc1]; decide)] at hm
   refine W_skip <| At_in <| At_go <| W_q [] (.n 8 (I (w64 (x_0 + 1))) (.s (.kkk .z))) qe (by kernel_rfl) ?_
   have k_7 := k_5.sel (.kk .z)
   exact At_rd (w64 (x_0 + 1)) (Option.some.inj hm).symm ⟨w64 (x_0 + 1), rfl, rfl, k_7⟩ (by kernel_rfl)
 rw [if_neg hc] at hm
 refine W_exit (At_te (At_te (At_ie ?_)))
 have hm := exit_of hm hr0
 refine At_go <| W_seq <| W_q [] (.n 2 (.b (decide ((w64 (8 * a_Lanes)) ≤ a_Memory))) .z) (qs g 0 <| qB k_3 0 rfl 1 (I a_Memory) (by kernel_rfl) <| qs g 0 <| qB k_3 0 rfl 3 (I a_Lanes) (by kernel_rfl) <| qe) (by kernel_rfl) ?_
 refine At_go <| W_ret ?_
 obtain rfl := Option.some.inj hm
 refine At_rt [.b (decide ((w64 (8 * a_Lanes)) ≤ a_Memory))] qe (by kernel_rfl) ?_
 have k_8 := k_3.sel .z
 exact ⟨rfl, k_8⟩

-- quern/argon.Check
theorem c_argon_Check {F O : Nat → Prop} {w : World} (a_Kind : Int) (a_Memory : Int) (a_Passes : Int) (a_Lanes : Int) (a_Tag : Int) (salt : List UInt8) (A_salt : Option Addr) (n_salt : Nat) (c_salt : Nat) (h_salt : Ro F w A_salt (e8.all salt)) (hn_salt : salt.length = n_salt) (hc_salt : n_salt ≤ c_salt) (k : Cx F O w w []) (r : Int) (hm : m_argon_Check a_Kind a_Memory a_Passes a_Lanes a_Tag salt = some r) :
    Calls Tryz.prog 29 (vals [.agg [I a_Kind, I a_Memory, I a_Passes, I a_Lanes, I a_Tag], sl A_salt n_salt c_salt]) w (fun e w' => e = .returned (SV.val (I r)) ∧ Cx F O w w' []) := by
 unfold m_argon_Check at hm
 subst hn_salt
 refine calls [.agg [I a_Kind, I a_Memory, I a_Passes, I a_Lanes, I a_Tag], sl A_salt salt.length c_salt] Tryz.func29 rfl (of_decide_eq_true (by kernel_rfl)) ?_
 refine W_seq <| W_reg <| WL_op <| Op_box [] 2 (.agg [I a_Kind, I a_Memory, I a_Passes, I a_Lanes, I a_Tag]) [I a_Kind, I a_Memory, I a_Passes, I a_Lanes, I a_Tag] (by kernel_rfl) k ?_
 intro g w_ k_
 refine WLs 1 [] (.k (.s .a)) qe (by kernel_rfl) ?_
 refine WL_nil <| At_go <| W_seq <| W_block <| W_seq <| W_reg <| WLs 1 [] (.n 6 (.agg [I a_Kind, I a_Memory, I a_Passes, I a_Lanes, I a_Tag]) (.s .a)) (qT k_ 0 rfl 0 5 [I a_Kind, I a_Memory, I a_Passes, I a_Lanes, I a_Tag] (by kernel_rfl) (by decide) <| qe) (by kernel_rfl) ?_
 refine WL_op ?_
 obtain ⟨r_, h_r_, hm⟩ := ob hm
 refine Op_call [] 7 _ yd_go41 (by kernel_rfl) (c_argon_may (F := N0) (O := N0) _ _ _ _ _ (Cx.refl _) _ h_r_) ?_
 rintro e_ w_1 ⟨rfl, k_1⟩
 have k_2 := k_.call k_1
 refine ⟨.b r_, rfl, ?_⟩
 have k_3 := k_2.sel .z
 refine WLs 2 [] (.n 5 (.b (!r_)) (.ss .a)) qe (by kernel_rfl) ?_
 refine WL_nil <| At_go <| W_cond (!r_) (by kernel_rfl) (fun hc => ?_) (fun hc => ?_)
 · rw [if_pos hc] at hm
   refine W_seq <| W_q [] (.n 4 (I 200) .z) qe (by kernel_rfl) ?_
   refine At_go <| W_ret (At_ir (At_tr ?_))
   obtain rfl := Option.some.inj hm
   refine At_rt [I 200] qe (by kernel_rfl) ?_
   exact ⟨rfl, k_3⟩
 rw [if_neg (by rw [hc]; decide)] at hm
 refine W_seq <| W_q [] (.n 9 (.b ((decide (((salt.length : Nat) : Int) < 8)) || (decide (64 < ((salt.length : Nat) : Int))))) .z) qe (by kernel_rfl) ?_
 refine At_go <| W_cond ((decide (((salt.length : Nat) : Int) < 8)) || (decide (64 < ((salt.length : Nat) : Int)))) (by kernel_rfl) (fun hc1 => ?_) (fun hc1 => ?_)
 · rw [if_pos hc1] at hm
   refine W_seq <| W_q [] (.n 4 (I 201) .z) qe (by kernel_rfl) ?_
   refine At_go <| W_ret (At_ir (At_tr ?_))
   obtain rfl := Option.some.inj hm
   refine At_rt [I 201] qe (by kernel_rfl) ?_
   exact ⟨rfl, k_3⟩
 rw [if_neg (by rw [hc1]; decide)] at hm
 refine W_skip <| At_in <| At_go <| W_seq <| W_q [] (.n 4 (I 0) .z) qe (by kernel_rfl) ?_
 refine At_go <| W_ret ?_
 obtain rfl := Option.some.inj hm
 refine At_rt [I 0] qe (by kernel_rfl) ?_
 exact ⟨rfl, k_3⟩

-- quern/pass.check
theorem c_pass_check {F O : Nat → Prop} {w : World} (t_Argon_Kind : Int) (t_Argon_Memory : Int) (t_Argon_Passes : Int) (t_Argon_Lanes : Int) (t_Argon_Tag : Int) (t_Salt : List UInt8) (t_Sum : List UInt8) (A_t_Salt : Option Addr) (n_t_Salt : Nat) (c_t_Salt : Nat) (A_t_Sum : Option Addr) (n_t_Sum : Nat) (c_t_Sum : Nat) (h_t_Salt : Ro F w A_t_Salt (e8.all t_Salt)) (hn_t_Salt : t_Salt.length = n_t_Salt) (hc_t_Salt : n_t_Salt ≤ c_t_Salt) (h_t_Sum : Ro F w A_t_Sum (e8.all t_Sum)) (hn_t_Sum : t_Sum.length = n_t_Sum) (hc_t_Sum : n_t_Sum ≤ c_t_Sum) (k : Cx F O w w []) (r : Int) (hm : m_pass_check t_Argon_Kind t_Argon_Memory t_Argon_Passes t_Argon_Lanes t_Argon_Tag t_Salt t_Sum = some r) :
    Calls Tryz.prog 28 (vals [.agg [I t_Argon_Kind, I t_Argon_Memory, I t_Argon_Passes, I t_Argon_Lanes, I t_Argon_Tag, sl A_t_Salt n_t_Salt c_t_Salt, sl A_t_Sum n_t_Sum c_t_Sum]]) w (fun e w' => e = .returned (SV.val (I r)) ∧ Cx F O w w' []) := by
 unfold m_pass_check at hm
 subst hn_t_Salt
 subst hn_t_Sum
 refine calls [.agg [I t_Argon_Kind, I t_Argon_Memory, I t_Argon_Passes, I t_Argon_Lanes, I t_Argon_Tag, sl A_t_Salt t_Salt.length c_t_Salt, sl A_t_Sum t_Sum.length c_t_Sum]] Tryz.func28 rfl (of_decide_eq_true (by kernel_rfl)) ?_
 refine W_seq <| W_reg <| WL_op <| Op_box [] 1 (.agg [I t_Argon_Kind, I t_Argon_Memory, I t_Argon_Passes, I t_Argon_Lanes, I t_Argon_Tag, sl A_t_Salt t_Salt.length c_t_Salt, sl A_t_Sum t_Sum.length c_t_Sum]) [I t_Argon_Kind, I t_Argon_Memory, I t_Argon_Passes, I t_Argon_Lanes, I t_Argon_Tag, sl A_t_Salt t_Salt.length c_t_Salt, sl A_t_Sum t_Sum.length c_t_Sum] (by kernel_rfl) k ?_
 intro g w_ k_
 refine WLs 1 [] (.k .z) qe (by kernel_rfl) ?_
 refine WL_nil <| At_go <| W_seq <| W_seq <| W_reg <| WLs 4 [] (.n 5 (.agg [I t_Argon_Kind, I t_Argon_Memory, I t_Argon_Passes, I t_Argon_Lanes, I t_Argon_Tag]) (.n 7 (sl A_t_Salt t_Salt.length c_t_Salt) .a)) (qs g 0 <| qT k_ 0 rfl 0 5 [I t_Argon_Kind, I t_Argon_Memory, I t_Argon_Passes, I t_Argon_Lanes, I t_Argon_Tag] (by kernel_rfl) (by decide) <| qs g 0 <| qB k_ 0 rfl 5 (sl A_t_Salt t_Salt.length c_t_Salt) (by kernel_rfl) <| qe) (by kernel_rfl) ?_
 refine WL_op ?_
 obtain ⟨r_, h_r_, hm⟩ := ob hm
 refine Op_call [] 8 _ yd_go29 (by kernel_rfl) (c_argon_Check (F := N0) (O := N0) _ _ _ _ _ _ _ _ _ (Ro.n0 (h_t_Salt.cx k_)) rfl hc_t_Salt (Cx.refl _) _ h_r_) ?_
 rintro e_ w_1 ⟨rfl, k_1⟩
 have k_2 := k_.call k_1
 refine ⟨I r_, rfl, ?_⟩
 refine WLs 1 [] (.n 3 (I r_) (.sss .a)) qe (by kernel_rfl) ?_
 refine WL_nil <| At_go <| W_seq <| W_q [] (.n 10 (.b (decide (r_ ≠ 0))) .a) qe (by kernel_rfl) ?_
 refine At_go <| W_condp (r_ ≠ 0) (by kernel_rfl) (fun hc => ?_) (fun hc => ?_)
 · rw [if_pos hc] at hm
   refine W_seq <| W_q [] (.n 2 (I r_) .z) qe (by kernel_rfl) ?_
   refine At_go <| W_ret (At_tr ?_)
   obtain rfl := Option.some.inj hm
   refine At_rt [I r_] qe (by kernel_rfl) ?_
   have k_3 := k_2.sel .z
   exact ⟨rfl, k_3⟩
 rw [if_neg hc] at hm
 refine W_skip <| At_go <| W_seq <| W_seq <| W_q [] (.n 18 (.b (decide (((t_Sum.length : Nat) : Int) ≠ t_Argon_Tag))) .z) (qs g 0 <| qB k_2 0 rfl 6 (sl A_t_Sum t_Sum.length c_t_Sum) (by kernel_rfl) <| qs g 0 <| qs g 0 <| qB k_2 0 rfl 4 (I t_Argon_Tag) (by kernel_rfl) <| qe) (by kernel_rfl) ?_
 refine At_go <| W_condp (((t_Sum.length : Nat) : Int) ≠ t_Argon_Tag) (by kernel_rfl) (fun hc1 => ?_) (fun hc1 => ?_)
 · rw [if_pos hc1] at hm
   refine W_seq <| W_q [] (.n 2 (I 1) .z) qe (by kernel_rfl) ?_
   refine At_go <| W_ret (At_tr ?_)
   obtain rfl := Option.some.inj hm
   refine At_rt [I 1] qe (by kernel_rfl) ?_
   have k_4 := k_2.sel .z
   exact ⟨rfl, k_4⟩
 rw [if_neg hc1] at hm
 refine W_skip <| At_go <| W_seq <| W_q [] (.n 2 (I 0) .z) qe (by kernel_rfl) ?_
 refine At_go <| W_ret ?_
 obtain rfl := Option.some.inj hm
 refine At_rt [I 0] qe (by kernel_rfl) ?_
 have k_5 := k_2.sel .z
 exact ⟨rfl, k_5⟩

-- quern/pass.Parse
theorem c_pass_Parse {F O : Nat → Prop} {w : World} (s_ : List UInt8) (k : Cx F O w w []) (r : (Int × Int × Int × Int × Int × List UInt8 × List UInt8 × Int × Int)) (hm : m_pass_Parse s_ = some r) :
    Calls Tryz.prog 12 (vals [.s s_]) w (fun e w' => ∃ A n c A1 n1 c1, r.2.2.2.2.2.1.length = n ∧ r.2.2.2.2.2.2.1.length = n1 ∧ e = .returned (SV.val (.tup [.agg [I r.1, I r.2.1, I r.2.2.1, I r.2.2.2.1, I r.2.2.2.2.1, sl A n c, sl A1 n1 c1], I r.2.2.2.2.2.2.2.1, I r.2.2.2.2.2.2.2.2])) ∧ Cx F O w w' [Ow e8 A n c r.2.2.2.2.2.1, Ow e8 A1 n1 c1 r.2.2.2.2.2.2.1]) := by
 unfold m_pass_Parse at hm
 refine calls [.s s_] Tryz.func12 rfl (of_decide_eq_true (by kernel_rfl)) ?_
 refine W_seq <| W_reg <| WL_op <| Op_alloc [] 2 [I 0, I 0, I 0, I 0, I 0, sl none 0 0, sl none 0 0] (by kernel_rfl) k ?_
 intro g w_ k_
 refine WLs 2 [] .a qe (by kernel_rfl) ?_
 refine WL_nil <| At_go <| W_seq <| W_reg <| WLs 2 [] (.n 13 (.agg [.s s_, I 0, .b true]) .a) qe (by kernel_rfl) ?_
 refine WL_op <| Op_box [] 14 (.agg [.s s_, I 0, .b true]) [.s s_, I 0, .b true] (by kernel_rfl) k_ ?_
 intro g1 w_1 k_1
 refine WLs 1 [] (.n 5 (pt g1 0) (.ss .a)) qe (by kernel_rfl) ?_
 refine WL_nil <| At_go <| W_seq <| W_reg <| WL_op <| Op_alloc [] 6 [I 0, I 0, I 0, I 0, I 0, sl none 0 0, sl none 0 0] (by kernel_rfl) k_1 ?_
 intro g2 w_2 k_2
 refine WL_nil <| At_go <| W_seq <| W_reg <| WLs 1 [] (.n 15 (pt g1 0) .a) qe (by kernel_rfl) ?_
 refine WL_op ?_
 obtain ⟨r_, h_r_, hm⟩ := ob hm
 obtain ⟨F1, O1, kin, hO, hre, hF, hb⟩ := k_2.go (.r (.i (.r .e)))
 refine Op_call [] 16 _ yd_go22 (by kernel_rfl) (c_pass_pen_lit (F := F1) (O := O1) _ _ _ _ _ kin _ h_r_) ?_
 rintro e_ w_3 ⟨rfl, k_3⟩
 have k_4 := hb w_3 _ _ k_3 (.c .n)
 refine ⟨.tup [], rfl, ?_⟩
 refine WL_nil <| At_go <| W_cut (fun L wr => ∃ (p : List UInt8) (p1 : Int) (p2 : Bool) (t : Int), m_pass_Parse_j0 s_ p p1 p2 t = some r ∧ L = [(0, .s s_), (2, pt g 0), (5, pt g1 0), (6, pt g2 0)] ∧ Cx F O w wr [Bx 44 g [I 0, I 0, I 0, I 0, I 0, sl none 0 0, sl none 0 0], Bx 67 g1 [.s p, I p1, .b p2], Bx 44 g2 [I t, I 0, I 0, I 0, I 0, sl none 0 0, sl none 0 0]]) ?_ ?_
 ·
  refine W_block <| W_seq <| W_reg <| WLs 5 [] (.n 24 (.b r_.2.2) (.ss .a)) (qs g1 0 <| qs g1 0 <| qB k_4 0 rfl 2 (.b r_.2.2) (by kernel_rfl) <| qe) (by kernel_rfl) ?_
  refine WL_sp 24 r_.2.2 (.s .a) (by kernel_rfl) (fun hg => ?_) (fun hg => ?_)
  · rw [if_pos hg] at hm
    obtain ⟨s_1, h_s_1, hm⟩ := ob hm
    have hs := slc_some h_s_1
    refine WLs 6 [24] (.n 30 (.s s_1) .a) (qs g1 0 <| qs g1 0 <| qB k_4 0 rfl 1 (I r_.2.1) (by kernel_rfl) <| qp (0 ≤ r_.2.1 ∧ r_.2.1 ≤ ((s_.length : Nat) : Int)) (by omega) <| qo (.s s_1) <| qp ((s_.take s_.length).drop (Int.toNat r_.2.1) = s_1) hs.2.2.2.symm <| qe) (by kernel_rfl) ?_
    refine WL_op ?_
    have k_5 := k_4.sel (.kk (.k .e))
    obtain ⟨r_1, h_r_1, hm⟩ := ob hm
    refine Op_call [24] 31 _ yd_go23 (by kernel_rfl) (c_strings_HasPrefix (F := N0) (O := N0) _ _ (Cx.refl _) _ h_r_1) ?_
    rintro e_ w_4 ⟨rfl, k_6⟩
    have k_7 := k_5.call k_6
    refine ⟨.b r_1, rfl, ?_⟩
    refine WLs 2 [24] (.n 19 (.b r_1) (.sss .a)) qe (by kernel_rfl) ?_
    refine WL_nil <| At_go <| W_cond r_1 (by kernel_rfl) (fun hc => ?_) (fun hc => ?_)
    · rw [if_pos hc] at hm
      refine W_seq <| W_reg <| WLs 2 [] (.n 34 (pt g2 0) (.s .a)) (qs g2 0 <| qs g2 0 <| qe) (by kernel_rfl) ?_
      refine WL_op <| Op_b [] 2 (I 2) [I 2] (Pt.at g2 0) k_7 rfl .h (by kernel_rfl) (by kernel_rfl) ?_
      intro w_5 k_8
      refine WL_nil <| At_go <| W_reg <| WLs 7 [] (.n 39 (I (w64 (r_.2.1 + 2))) (.n 41 (pt g1 1) (.s .a))) (qs g1 0 <| qs g1 0 <| qB k_8 0 rfl 1 (I r_.2.1) (by kernel_rfl) <| qs g1 0 <| qs g1 0 <| qe) (by kernel_rfl) ?_
      refine WL_op <| Op_b [] 0 (I (w64 (r_.2.1 + 2))) [I (w64 (r_.2.1 + 2))] (Pt.at g1 1) k_8 rfl (.k .h) (by kernel_rfl) (by kernel_rfl) ?_
      intro w_6 k_9
      refine WL_nil <| At_in ?_
      have k_10 := ((k_9.pk (.t (.t .h))).pk (.t .h)).pk (.t (.t .h))
      exact At_c ⟨r_.1, w64 (r_.2.1 + 2), r_.2.2, (2 : Int), hm, rfl, k_10⟩ (by kernel_rfl)
    rw [if_neg (by rw [hc]; decide)] at hm
    refine W_seq <| W_reg <| WLs 5 [] (.n 47 (.b r_.2.2) (.s .a)) (qs g1 0 <| qs g1 0 <| qB k_7 0 rfl 2 (.b r_.2.2) (by kernel_rfl) <| qe) (by kernel_rfl) ?_
    refine WL_sp 47 r_.2.2 (.s .a) (by kernel_rfl) (fun hg1 => ?_) (fun hg1 => ?_)
    · rw [if_pos hg1] at hm
      obtain ⟨s_2, h_s_2, hm⟩ := ob hm
      have hs1 := slc_some h_s_2
      refine WLs 6 [47] (.n 53 (.s s_2) .a) (qs g1 0 <| qs g1 0 <| qB k_7 0 rfl 1 (I r_.2.1) (by kernel_rfl) <| qp (0 ≤ r_.2.1 ∧ r_.2.1 ≤ ((s_.length : Nat) : Int)) (by omega) <| qo (.s s_2) <| qp ((s_.take s_.length).drop (Int.toNat r_.2.1) = s_2) hs1.2.2.2.symm <| qe) (by kernel_rfl) ?_
      refine WL_op ?_
      obtain ⟨r_2, h_r_2, hm⟩ := ob hm
      refine Op_call [47] 54 _ yd_go23 (by kernel_rfl) (c_strings_HasPrefix (F := N0) (O := N0) _ _ (Cx.refl _) _ h_r_2) ?_
      rintro e_ w_7 ⟨rfl, k_11⟩
      have k_12 := k_7.call k_11
      refine ⟨.b r_2, rfl, ?_⟩
      refine WLs 2 [47] (.n 42 (.b r_2) (.sss .a)) qe (by kernel_rfl) ?_
      refine WL_nil <| At_go <| W_cond r_2 (by kernel_rfl) (fun hc1 => ?_) (fun hc1 => ?_)
      · rw [if_pos hc1] at hm
        refine W_seq <| W_reg <| WLs 2 [] (.n 57 (pt g2 0) (.s .a)) (qs g2 0 <| qs g2 0 <| qe) (by kernel_rfl) ?_
        refine WL_op <| Op_b [] 2 (I 1) [I 1] (Pt.at g2 0) k_12 rfl .h (by kernel_rfl) (by kernel_rfl) ?_
        intro w_8 k_13
        refine WL_nil <| At_go <| W_reg <| WLs 7 [] (.n 62 (I (w64 (r_.2.1 + 1))) (.n 64 (pt g1 1) (.s .a))) (qs g1 0 <| qs g1 0 <| qB k_13 0 rfl 1 (I r_.2.1) (by kernel_rfl) <| qs g1 0 <| qs g1 0 <| qe) (by kernel_rfl) ?_
        refine WL_op <| Op_b [] 0 (I (w64 (r_.2.1 + 1))) [I (w64 (r_.2.1 + 1))] (Pt.at g1 1) k_13 rfl (.k .h) (by kernel_rfl) (by kernel_rfl) ?_
        intro w_9 k_14
        refine WL_nil <| At_in ?_
        have k_15 := ((k_14.pk (.t (.t .h))).pk (.t .h)).pk (.t (.t .h))
        exact At_c ⟨r_.1, w64 (r_.2.1 + 1), r_.2.2, (1 : Int), hm, rfl, k_15⟩ (by kernel_rfl)
      rw [if_neg (by rw [hc1]; decide)] at hm
      refine W_reg <| WLs 1 [] (.n 17 (pt g1 0) (.s .a)) qe (by kernel_rfl) ?_
      refine WL_op ?_
      obtain ⟨r_3, h_r_3, hm⟩ := ob hm
      obtain ⟨F11, O11, kin1, hO1, hre1, hF1, hb1⟩ := k_12.go (.i (.r (.r .e)))
      refine Op_call [] 18 _ yd_go22 (by kernel_rfl) (c_pass_pen_lit (F := F11) (O := O11) _ _ _ _ _ kin1 _ h_r_3) ?_
      rintro e_ w_10 ⟨rfl, k_16⟩
      have k_17 := hb1 w_10 _ _ k_16 (.c .n)
      refine ⟨.tup [], rfl, ?_⟩
      refine WL_nil <| At_in ?_
      have k_18 := ((k_17.pk (.t (.t .h))).pk (.t .h)).pk (.t (.t .h))
      exact At_c ⟨r_3.1, r_3.2.1, r_3.2.2, (0 : Int), hm, rfl, k_18⟩ (by kernel_rfl)
    · rw [if_neg (by rw [hg1]; decide)] at hm
      refine WLs 9 [47] (.n 42 (.b false) (.s .a)) qe (by kernel_rfl) ?_
      refine WL_nil <| At_go <| W_cond false (by kernel_rfl) (fun h => by cases h) (fun _ => ?_)
      refine W_reg <| WLs 1 [] (.n 17 (pt g1 0) (.s .a)) qe (by kernel_rfl) ?_
      refine WL_op ?_
      obtain ⟨r_4, h_r_4, hm⟩ := ob hm
      obtain ⟨F12, O12, kin2, hO2, hre2, hF2, hb2⟩ := k_7.go (.i (.r (.r .e)))
      refine Op_call [] 18 _ yd_go22 (by kernel_rfl) (c_pass_pen_lit (F := F12) (O := O12) _ _ _ _ _ kin2 _ h_r_4) ?_
      rintro e_ w_11 ⟨rfl, k_19⟩
      have k_20 := hb2 w_11 _ _ k_19 (.c .n)
      refine ⟨.tup [], rfl, ?_⟩
      refine WL_nil <| At_in ?_
      have k_21 := ((k_20.pk (.t (.t .h))).pk (.t .h)).pk (.t (.t .h))
      exact At_c ⟨r_4.1, r_4.2.1, r_4.2.2, (0 : Int), hm, rfl, k_21⟩ (by kernel_rfl)
  · rw [if_neg (by rw [hg]; decide)] at hm
    refine WLs 9 [24] (.n 19 (.b false) (.s .a)) qe (by kernel_rfl) ?_
    refine WL_nil <| At_go <| W_cond false (by kernel_rfl) (fun h => by cases h) (fun _ => ?_)
    refine W_seq <| W_reg <| WLs 5 [] (.n 47 (.b r_.2.2) (.s .a)) (qs g1 0 <| qs g1 0 <| qB k_4 0 rfl 2 (.b r_.2.2) (by kernel_rfl) <| qe) (by kernel_rfl) ?_
    refine WL_sp 47 r_.2.2 (.s .a) (by kernel_rfl) (fun hg2 => ?_) (fun hg2 => ?_)
    · rw [if_pos hg2] at hm
      obtain ⟨s_3, h_s_3, hm⟩ := ob hm
      have hs2 := slc_some h_s_3
      refine WLs 6 [47] (.n 53 (.s s_3) .a) (qs g1 0 <| qs g1 0 <| qB k_4 0 rfl 1 (I r_.2.1) (by kernel_rfl) <| qp (0 ≤ r_.2.1 ∧ r_.2.1 ≤ ((s_.length : Nat) : Int)) (by omega) <| qo (.s s_3) <| qp ((s_.take s_.length).drop (Int.toNat r_.2.1) = s_3) hs2.2.2.2.symm <| qe) (by kernel_rfl) ?_
      refine WL_op ?_
      have k_22 := k_4.sel (.kk (.k .e))
      obtain ⟨r_5, h_r_5, hm⟩ := ob hm
      refine Op_call [47] 54 _ yd_go23 (by kernel_rfl) (c_strings_HasPrefix (F := N0) (O := N0) _ _ (Cx.refl _) _ h_r_5) ?_
      rintro e_ w_12 ⟨rfl, k_23⟩
      have k_24 := k_22.call k_23
      refine ⟨.b r_5, rfl, ?_⟩
      refine WLs 2 [47] (.n 42 (.b r_5) (.sss .a)) qe (by kernel_rfl) ?_
      refine WL_nil <| At_go <| W_cond r_5 (by kernel_rfl) (fun hc2 => ?_) (fun hc2 => ?_)
      · rw [if_pos hc2] at hm
        refine W_seq <| W_reg <| WLs 2 [] (.n 57 (pt g2 0) (.s .a)) (qs g2 0 <| qs g2 0 <| qe) (by kernel_rfl) ?_
        refine WL_op <| Op_b [] 2 (I 1) [I 1] (Pt.at g2 0) k_24 rfl .h (by kernel_rfl) (by kernel_rfl) ?_
        intro w_13 k_25
        refine WL_nil <| At_go <| W_reg <| WLs 7 [] (.n 62 (I (w64 (r_.2.1 + 1))) (.n 64 (pt g1 1) (.s .a))) (qs g1 0 <| qs g1 0 <| qB k_25 0 rfl 1 (I r_.2.1) (by kernel_rfl) <| qs g1 0 <| qs g1 0 <| qe) (by kernel_rfl) ?_
        refine WL_op <| Op_b [] 0 (I (w64 (r_.2.1 + 1))) [I (w64 (r_.2.1 + 1))] (Pt.at g1 1) k_25 rfl (.k .h) (by kernel_rfl) (by kernel_rfl) ?_
        intro w_14 k_26
        refine WL_nil <| At_in ?_
        have k_27 := ((k_26.pk (.t (.t .h))).pk (.t .h)).pk (.t (.t .h))
        exact At_c ⟨r_.1, w64 (r_.2.1 + 1), r_.2.2, (1 : Int), hm, rfl, k_27⟩ (by kernel_rfl)
      rw [if_neg (by rw [hc2]; decide)] at hm
      refine W_reg <| WLs 1 [] (.n 17 (pt g1 0) (.s .a)) qe (by kernel_rfl) ?_
      refine WL_op ?_
      obtain ⟨r_6, h_r_6, hm⟩ := ob hm
      obtain ⟨F13, O13, kin3, hO3, hre3, hF3, hb3⟩ := k_24.go (.i (.r (.r .e)))
      refine Op_call [] 18 _ yd_go22 (by kernel_rfl) (c_pass_pen_lit (F := F13) (O := O13) _ _ _ _ _ kin3 _ h_r_6) ?_
      rintro e_ w_15 ⟨rfl, k_28⟩
      have k_29 := hb3 w_15 _ _ k_28 (.c .n)
      refine ⟨.tup [], rfl, ?_⟩
      refine WL_nil <| At_in ?_
      have k_30 := ((k_29.pk (.t (.t .h))).pk (.t .h)).pk (.t (.t .h))
      exact At_c ⟨r_6.1, r_6.2.1, r_6.2.2, (0 : Int), hm, rfl, k_30⟩ (by kernel_rfl)
    · rw [if_neg (by rw [hg2]; decide)] at hm
      refine WLs 9 [47] (.n 42 (.b false) (.s .a)) qe (by kernel_rfl) ?_
      refine WL_nil <| At_go <| W_cond false (by kernel_rfl) (fun h => by cases h) (fun _ => ?_)
      refine W_reg <| WLs 1 [] (.n 17 (pt g1 0) (.s .a)) qe (by kernel_rfl) ?_
      refine WL_op ?_
      have k_31 := k_4.sel (.kk (.k .e))
      obtain ⟨r_7, h_r_7, hm⟩ := ob hm
      obtain ⟨F14, O14, kin4, hO4, hre4, hF4, hb4⟩ := k_31.go (.i (.r (.r .e)))
      refine Op_call [] 18 _ yd_go22 (by kernel_rfl) (c_pass_pen_lit (F := F14) (O := O14) _ _ _ _ _ kin4 _ h_r_7) ?_
      rintro e_ w_16 ⟨rfl, k_32⟩
      have k_33 := hb4 w_16 _ _ k_32 (.c .n)
      refine ⟨.tup [], rfl, ?_⟩
      refine WL_nil <| At_in ?_
      have k_34 := ((k_33.pk (.t (.t .h))).pk (.t .h)).pk (.t (.t .h))
      exact At_c ⟨r_7.1, r_7.2.1, r_7.2.2, (0 : Int), hm, rfl, k_34⟩ (by kernel_rfl)
 rintro L_ w_17 ⟨p, p1, p2, t, hm, rfl, k_35⟩
 simp only [m_pass_Parse_j0] at hm
 refine W_seq <| W_reg <| WLs 1 [] (.n 65 (pt g1 0) .a) qe (by kernel_rfl) ?_
 refine WL_op ?_
 obtain ⟨r_8, h_r_8, hm⟩ := ob hm
 obtain ⟨F15, O15, kin5, hO5, hre5, hF5, hb5⟩ := k_35.go (.r (.i (.r .e)))
 refine Op_call [] 66 _ yd_go22 (by kernel_rfl) (c_pass_pen_lit (F := F15) (O := O15) _ _ _ _ _ kin5 _ h_r_8) ?_
 rintro e_ w_18 ⟨rfl, k_36⟩
 have k_37 := hb5 w_18 _ _ k_36 (.c .n)
 refine ⟨.tup [], rfl, ?_⟩
 refine WL_nil <| At_go <| W_seq <| W_reg <| WLs 1 [] (.n 67 (pt g1 0) (.ss .a)) qe (by kernel_rfl) ?_
 refine WL_op ?_
 obtain ⟨r_9, h_r_9, hm⟩ := ob hm
 obtain ⟨F16, O16, kin6, hO6, hre6, hF6, hb6⟩ := k_37.go (.i (.r (.r .e)))
 refine Op_call [] 68 _ yd_go25 (by kernel_rfl) (c_pass_pen_number (F := F16) (O := O16) _ _ _ _ kin6 _ h_r_9) ?_
 rintro e_ w_19 ⟨rfl, k_38⟩
 have k_39 := hb6 w_19 _ _ k_38 (.c .n)
 refine ⟨.u64 r_9.1, rfl, ?_⟩
 refine WL_op ?_
 obtain ⟨r_10, h_r_10, hm⟩ := ob hm
 refine Op_call [] 69 _ yd_go24 (by kernel_rfl) (c_pass_whole (F := N0) (O := N0) _ (Cx.refl _) _ h_r_10) ?_
 rintro e_ w_20 ⟨rfl, k_40⟩
 have k_41 := k_39.call k_40
 refine ⟨I r_10, rfl, ?_⟩
 refine WLs 2 [] (.n 71 (pt g2 1) (.k (.ss .a))) (qs g2 0 <| qs g2 0 <| qe) (by kernel_rfl) ?_
 refine WL_op <| Op_b [] 2 (I r_10) [I r_10] (Pt.at g2 1) k_41 rfl (.k .h) (by kernel_rfl) (by kernel_rfl) ?_
 intro w_21 k_42
 refine WL_nil <| At_go <| W_seq <| W_reg <| WLs 1 [] (.n 72 (pt g1 0) (.ss .a)) qe (by kernel_rfl) ?_
 refine WL_op ?_
 have k_43 := k_42.sel (.kk (.k .e))
 obtain ⟨r_11, h_r_11, hm⟩ := ob hm
 obtain ⟨F17, O17, kin7, hO7, hre7, hF7, hb7⟩ := k_43.go (.i (.r (.r .e)))
 refine Op_call [] 73 _ yd_go22 (by kernel_rfl) (c_pass_pen_lit (F := F17) (O := O17) _ _ _ _ _ kin7 _ h_r_11) ?_
 rintro e_ w_22 ⟨rfl, k_44⟩
 have k_45 := hb7 w_22 _ _ k_44 (.c .n)
 refine ⟨.tup [], rfl, ?_⟩
 refine WL_nil <| At_go <| W_seq <| W_reg <| WLs 1 [] (.n 74 (pt g1 0) (.ss .a)) qe (by kernel_rfl) ?_
 refine WL_op ?_
 obtain ⟨r_12, h_r_12, hm⟩ := ob hm
 obtain ⟨F18, O18, kin8, hO8, hre8, hF8, hb8⟩ := k_45.go (.i (.r (.r .e)))
 refine Op_call [] 75 _ yd_go25 (by kernel_rfl) (c_pass_pen_number (F := F18) (O := O18) _ _ _ _ kin8 _ h_r_12) ?_
 rintro e_ w_23 ⟨rfl, k_46⟩
 have k_47 := hb8 w_23 _ _ k_46 (.c .n)
 refine ⟨.u64 r_12.1, rfl, ?_⟩
 refine WL_op ?_
 obtain ⟨r_13, h_r_13, hm⟩ := ob hm
 refine Op_call [] 76 _ yd_go24 (by kernel_rfl) (c_pass_whole (F := N0) (O := N0) _ (Cx.refl _) _ h_r_13) ?_
 rintro e_ w_24 ⟨rfl, k_48⟩
 have k_49 := k_47.call k_48
 refine ⟨I r_13, rfl, ?_⟩
 refine WLs 2 [] (.n 78 (pt g2 2) (.k (.ss .a))) (qs g2 0 <| qs g2 0 <| qe) (by kernel_rfl) ?_
 refine WL_op <| Op_b [] 2 (I r_13) [I r_13] (Pt.at g2 2) k_49 rfl (.kk .h) (by kernel_rfl) (by kernel_rfl) ?_
 intro w_25 k_50
 refine WL_nil <| At_go <| W_seq <| W_reg <| WLs 1 [] (.n 79 (pt g1 0) (.ss .a)) qe (by kernel_rfl) ?_
 refine WL_op ?_
 have k_51 := k_50.sel (.kk (.k .e))
 obtain ⟨r_14, h_r_14, hm⟩ := ob hm
 obtain ⟨F19, O19, kin9, hO9, hre9, hF9, hb9⟩ := k_51.go (.i (.r (.r .e)))
 refine Op_call [] 80 _ yd_go22 (by kernel_rfl) (c_pass_pen_lit (F := F19) (O := O19) _ _ _ _ _ kin9 _ h_r_14) ?_
 rintro e_ w_26 ⟨rfl, k_52⟩
 have k_53 := hb9 w_26 _ _ k_52 (.c .n)
 refine ⟨.tup [], rfl, ?_⟩
 refine WL_nil <| At_go <| W_seq <| W_reg <| WLs 1 [] (.n 81 (pt g1 0) (.ss .a)) qe (by kernel_rfl) ?_
 refine WL_op ?_
 obtain ⟨r_15, h_r_15, hm⟩ := ob hm
 obtain ⟨F110, O110, kin10, hO10, hre10, hF10, hb10⟩ := k_53.go (.i (.r (.r .e)))
 refine Op_call [] 82 _ yd_go25 (by kernel_rfl) (c_pass_pen_number (F := F110) (O := O110) _ _ _ _ kin10 _ h_r_15) ?_
 rintro e_ w_27 ⟨rfl, k_54⟩
 have k_55 := hb10 w_27 _ _ k_54 (.c .n)
 refine ⟨.u64 r_15.1, rfl, ?_⟩
 refine WL_op ?_
 obtain ⟨r_16, h_r_16, hm⟩ := ob hm
 refine Op_call [] 83 _ yd_go24 (by kernel_rfl) (c_pass_whole (F := N0) (O := N0) _ (Cx.refl _) _ h_r_16) ?_
 rintro e_ w_28 ⟨rfl, k_56⟩
 have k_57 := k_55.call k_56
 refine ⟨I r_16, rfl, ?_⟩
 refine WLs 2 [] (.n 85 (pt g2 3) (.k (.ss .a))) (qs g2 0 <| qs g2 0 <| qe) (by kernel_rfl) ?_
 refine WL_op <| Op_b [] 2 (I r_16) [I r_16] (Pt.at g2 3) k_57 rfl (.kk (.k .h)) (by kernel_rfl) (by kernel_rfl) ?_
 intro w_29 k_58
 refine WL_nil <| At_go <| W_seq <| W_reg <| WLs 1 [] (.n 86 (pt g1 0) (.ss .a)) qe (by kernel_rfl) ?_
 refine WL_op ?_
 have k_59 := k_58.sel (.kk (.k .e))
 obtain ⟨r_17, h_r_17, hm⟩ := ob hm
 obtain ⟨F111, O111, kin11, hO11, hre11, hF11, hb11⟩ := k_59.go (.i (.r (.r .e)))
 refine Op_call [] 87 _ yd_go22 (by kernel_rfl) (c_pass_pen_lit (F := F111) (O := O111) _ _ _ _ _ kin11 _ h_r_17) ?_
 rintro e_ w_30 ⟨rfl, k_60⟩
 have k_61 := hb11 w_30 _ _ k_60 (.c .n)
 refine ⟨.tup [], rfl, ?_⟩
 refine WL_nil <| At_go <| W_seq <| W_reg <| WLs 1 [] (.n 89 (pt g1 0) (.ss .a)) qe (by kernel_rfl) ?_
 refine WL_op ?_
 obtain ⟨r_18, h_r_18, hm⟩ := ob hm
 obtain ⟨F112, O112, kin12, hO12, hre12, hF12, hb12⟩ := k_61.go (.i (.r (.r .e)))
 refine Op_call [] 90 _ yd_go26 (by kernel_rfl) (c_pass_pen_letters (F := F112) (O := O112) _ _ _ _ kin12 _ h_r_18) ?_
 rintro e_ w_31 ⟨rfl, k_62⟩
 have k_63 := hb12 w_31 _ _ k_62 (.c .n)
 refine ⟨.tup [.s r_18.1, I r_18.2.1], rfl, ?_⟩
 refine WLs 5 [] (.n 7 (.s r_18.1) (.n 8 (I r_18.2.1) (.ss .a))) qe (by kernel_rfl) ?_
 refine WL_nil <| At_go <| W_seq <| W_reg <| WLs 1 [] (.n 93 (pt g1 0) .a) qe (by kernel_rfl) ?_
 refine WL_op ?_
 obtain ⟨r_19, h_r_19, hm⟩ := ob hm
 obtain ⟨F113, O113, kin13, hO13, hre13, hF13, hb13⟩ := k_63.go (.i (.r (.r .e)))
 refine Op_call [] 94 _ yd_go22 (by kernel_rfl) (c_pass_pen_lit (F := F113) (O := O113) _ _ _ _ _ kin13 _ h_r_19) ?_
 rintro e_ w_32 ⟨rfl, k_64⟩
 have k_65 := hb13 w_32 _ _ k_64 (.c .n)
 refine ⟨.tup [], rfl, ?_⟩
 refine WL_nil <| At_go <| W_seq <| W_reg <| WLs 1 [] (.n 96 (pt g1 0) (.ss .a)) qe (by kernel_rfl) ?_
 refine WL_op ?_
 obtain ⟨r_20, h_r_20, hm⟩ := ob hm
 obtain ⟨F114, O114, kin14, hO14, hre14, hF14, hb14⟩ := k_65.go (.i (.r (.r .e)))
 refine Op_call [] 97 _ yd_go26 (by kernel_rfl) (c_pass_pen_letters (F := F114) (O := O114) _ _ _ _ kin14 _ h_r_20) ?_
 rintro e_ w_33 ⟨rfl, k_66⟩
 have k_67 := hb14 w_33 _ _ k_66 (.c .n)
 refine ⟨.tup [.s r_20.1, I r_20.2.1], rfl, ?_⟩
 refine WLs 5 [] (.n 9 (.s r_20.1) (.n 10 (I r_20.2.1) (.ss .a))) qe (by kernel_rfl) ?_
 refine WL_nil <| At_go <| W_seq <| W_seq <| W_q [] (.n 113 (.b ((!r_20.2.2.2.2) || (decide (r_20.2.2.2.1 < (s_.length : Int))))) (.kkkk (.s .a))) (qs g1 0 <| qs g1 0 <| qB k_67 0 rfl 2 (.b r_20.2.2.2.2) (by kernel_rfl) <| qp ((!r_20.2.2.2.2) = false → (some ⟨g1, 0, none⟩ : Option Addr).isSome = true) (fun hg0 => rfl) <| qp ((!r_20.2.2.2.2) = false → (some ⟨g1, 0, none⟩ : Option Addr).isSome = true) (fun hg0 => rfl) <| qo (I r_20.2.2.2.1) <| qc (fun w => (!r_20.2.2.2.2) = false → ∃ a, (some ⟨g1, 1, none⟩ : Option Addr) = some a ∧ w.cell? a = some (SV.val (I r_20.2.2.2.1))) (fun hg0 => k_67.bld 0 rfl 1 (I r_20.2.2.2.1) (by kernel_rfl)) <| qe) (by kernel_rfl) ?_
 refine At_go <| W_cond ((!r_20.2.2.2.2) || (decide (r_20.2.2.2.1 < (s_.length : Int)))) (by kernel_rfl) (fun hc3 => ?_) (fun hc3 => ?_)
 · rw [if_pos hc3] at hm
   refine W_seq ?_
   have k_68 := k_67.drew 1
   refine W_m yd_mixed (.q 0 0 (.q 1 1 (.q 2 1 (.q 3 1 (.q 4 1 (.op 5 (.q 6 1 (.q 7 1 .nil)))))))) [5] k_68 (.c (.k (.s (.k .e))) .l) (by kernel_rfl) (fun _ => ?_)
   refine MXq 1 0 [] (.n 114 (.agg [I 0, I 0, I 0, I 0, I 0, sl none 0 0, sl none 0 0]) (.ssss (.s (.kk .z)))) (fun x hx => qe) (by kernel_rfl) (fun _ => ?_)
   refine MXq 4 1 [] (.n 118 (I r_20.2.2.2.1) (.kk .z)) (fun x hx => qs g1 0 <| qs g1 0 <| qB hx 0 rfl 1 (I r_20.2.2.2.1) (by kernel_rfl) <| qe) (by kernel_rfl) (fun _ => ?_)
   refine MX_op (by kernel_rfl) rfl ?_
   have k_69 := k_68.sel (.kk (.k .e))
   refine Op_b [] 1 (.agg [I 0, I 0, I 0, I 0, I 0, sl none 0 0, sl none 0 0]) [I 0, I 0, I 0, I 0, I 0, sl none 0 0, sl none 0 0] (Pt.at g 0) k_69 rfl .all (by kernel_rfl) (by kernel_rfl) ?_
   intro w_34 k_70
   refine ⟨(k_70.sel (.k (.s (.k .e)))), fun _ => ?_⟩
   refine MXq 2 1 [] (.n 3 (I r_20.2.2.2.1) (.n 4 (I 4) (.ss .a))) (fun x hx => qe) (by kernel_rfl) (fun _ => ?_)
   refine MX_nil <| At_go <| W_ret (At_tr ?_)
   have k_71 := k_70.nil e8
   have k_72 := k_71.nil e8
   obtain rfl := Option.some.inj hm
   refine At_rt [.agg [I 0, I 0, I 0, I 0, I 0, sl none 0 0, sl none 0 0], I r_20.2.2.2.1, I 4] (qo (.agg [I 0, I 0, I 0, I 0, I 0, sl none 0 0, sl none 0 0]) <| qc (fun w => Rd w (some ⟨g, 0, none⟩) (SV.cl [I 0, I 0, I 0, I 0, I 0, sl none 0 0, sl none 0 0])) (k_70.brd 1 rfl) <| qe) (by kernel_rfl) ?_
   have k_73 := k_72.sel (.ss (.s (.kk .e)))
   exact ⟨none, 0, 0, none, 0, 0, k_73.len 0 rfl, k_73.len 1 rfl, rfl, k_73⟩
 rw [if_neg (by rw [hc3]; decide)] at hm
 refine W_skip <| At_go <| W_seq <| W_q [] (.s (.kkkk (.k (.s .a)))) qe (by kernel_rfl) ?_
 refine At_go <| W_seq <| W_seq <| W_reg <| WLs 1 [] (.n 120 (.s r_18.1) (.kk (.s .a))) qe (by kernel_rfl) ?_
 refine WL_op ?_
 have k_74 := k_67.sel (.kk (.k .e))
 obtain ⟨r_21, h_r_21, hm⟩ := ob hm
 refine Op_call [] 121 _ yd_go27 (by kernel_rfl) (c_word_UnBase64 (F := N0) (O := N0) _ (Cx.refl _) _ h_r_21) ?_
 rintro e_ w_35 ⟨A0, _, c0, rfl, rfl, k_75⟩
 have k_76 := k_74.call k_75
 refine ⟨.tup [sl A0 r_21.1.length c0, I r_21.2.1, I r_21.2.2], rfl, ?_⟩
 have k_77 := k_76.sel (.s (.kk (.k .e)))
 refine WLs 5 [] (.n 122 (sl A0 r_21.1.length c0) (.n 124 (I r_21.2.2) (.n 125 (pt g2 5) (.ss .a)))) (qs g2 0 <| qe) (by kernel_rfl) ?_
 refine WL_op <| Op_b [] 1 (sl A0 r_21.1.length c0) [sl A0 r_21.1.length c0] (Pt.at g2 5) k_77 rfl (.kkkk (.k .h)) (by kernel_rfl) (by kernel_rfl) ?_
 intro w_36 k_78
 refine WLs 1 [] (.n 11 (I r_21.2.2) (.sss .a)) qe (by kernel_rfl) ?_
 refine WL_nil <| At_go <| W_seq <| W_q [] (.n 127 (.b (decide (r_21.2.2 ≠ 0))) (.s .a)) qe (by kernel_rfl) ?_
 refine At_go <| W_condp (r_21.2.2 ≠ 0) (by kernel_rfl) (fun hc4 => ?_) (fun hc4 => ?_)
 · rw [if_pos hc4] at hm
   refine W_seq <| W_reg <| WLs 2 [] (.n 128 (.agg [I 0, I 0, I 0, I 0, I 0, sl none 0 0, sl none 0 0]) (.n 129 (I r_18.2.1) (.ssss (.k .z)))) qe (by kernel_rfl) ?_
   refine WL_op <| Op_b [] 0 (.agg [I 0, I 0, I 0, I 0, I 0, sl none 0 0, sl none 0 0]) [I 0, I 0, I 0, I 0, I 0, sl none 0 0, sl none 0 0] (Pt.at g 0) k_78 rfl .all (by kernel_rfl) (by kernel_rfl) ?_
   intro w_37 k_79
   have k_80 := k_79.sel (.k .z)
   refine WLs 2 [] (.n 3 (I r_18.2.1) (.n 4 (I 4) (.ss .a))) qe (by kernel_rfl) ?_
   refine WL_nil <| At_go <| W_ret (At_tr ?_)
   have k_81 := k_80.nil e8
   have k_82 := k_81.nil e8
   obtain rfl := Option.some.inj hm
   refine At_rt [.agg [I 0, I 0, I 0, I 0, I 0, sl none 0 0, sl none 0 0], I r_18.2.1, I 4] (qo (.agg [I 0, I 0, I 0, I 0, I 0, sl none 0 0, sl none 0 0]) <| qc (fun w => Rd w (some ⟨g, 0, none⟩) (SV.cl [I 0, I 0, I 0, I 0, I 0, sl none 0 0, sl none 0 0])) (k_80.brd 0 rfl) <| qe) (by kernel_rfl) ?_
   have k_83 := k_82.sel (.s (.kk .e))
   exact ⟨none, 0, 0, none, 0, 0, k_83.len 0 rfl, k_83.len 1 rfl, rfl, k_83⟩
 rw [if_neg hc4] at hm
 refine W_skip <| At_go <| W_seq <| W_seq <| W_reg <| WLs 1 [] (.n 131 (.s r_20.1) (.ss (.k (.s .a)))) qe (by kernel_rfl) ?_
 refine WL_op ?_
 obtain ⟨r_22, h_r_22, hm⟩ := ob hm
 refine Op_call [] 132 _ yd_go27 (by kernel_rfl) (c_word_UnBase64 (F := N0) (O := N0) _ (Cx.refl _) _ h_r_22) ?_
 rintro e_ w_38 ⟨A2, _, c2, rfl, rfl, k_84⟩
 have k_85 := k_78.call k_84
 refine ⟨.tup [sl A2 r_22.1.length c2, I r_22.2.1, I r_22.2.2], rfl, ?_⟩
 refine WLs 5 [] (.n 133 (sl A2 r_22.1.length c2) (.n 135 (I r_22.2.2) (.n 136 (pt g2 6) (.ss .a)))) (qs g2 0 <| qe) (by kernel_rfl) ?_
 refine WL_op <| Op_b [] 1 (sl A2 r_22.1.length c2) [sl A2 r_22.1.length c2] (Pt.at g2 6) k_85 rfl (.kkkk (.kk .h)) (by kernel_rfl) (by kernel_rfl) ?_
 intro w_39 k_86
 refine WLs 1 [] (.n 11 (I r_22.2.2) (.sss .a)) qe (by kernel_rfl) ?_
 refine WL_nil <| At_go <| W_seq <| W_q [] (.n 138 (.b (decide (r_22.2.2 ≠ 0))) (.s .a)) qe (by kernel_rfl) ?_
 refine At_go <| W_condp (r_22.2.2 ≠ 0) (by kernel_rfl) (fun hc5 => ?_) (fun hc5 => ?_)
 · rw [if_pos hc5] at hm
   refine W_seq <| W_reg <| WLs 2 [] (.n 139 (.agg [I 0, I 0, I 0, I 0, I 0, sl none 0 0, sl none 0 0]) (.n 140 (I r_20.2.1) (.ss (.k .z)))) qe (by kernel_rfl) ?_
   refine WL_op ?_
   have k_87 := k_86.sel (.kkkk .e)
   refine Op_b [] 0 (.agg [I 0, I 0, I 0, I 0, I 0, sl none 0 0, sl none 0 0]) [I 0, I 0, I 0, I 0, I 0, sl none 0 0, sl none 0 0] (Pt.at g 0) k_87 rfl .all (by kernel_rfl) (by kernel_rfl) ?_
   intro w_40 k_88
   have k_89 := k_88.sel (.k .z)
   refine WLs 2 [] (.n 3 (I r_20.2.1) (.n 4 (I 4) (.ss .a))) qe (by kernel_rfl) ?_
   refine WL_nil <| At_go <| W_ret (At_tr ?_)
   have k_90 := k_89.nil e8
   have k_91 := k_90.nil e8
   obtain rfl := Option.some.inj hm
   refine At_rt [.agg [I 0, I 0, I 0, I 0, I 0, sl none 0 0, sl none 0 0], I r_20.2.1, I 4] (qo (.agg [I 0, I 0, I 0, I 0, I 0, sl none 0 0, sl none 0 0]) <| qc (fun w => Rd w (some ⟨g, 0, none⟩) (SV.cl [I 0, I 0, I 0, I 0, I 0, sl none 0 0, sl none 0 0])) (k_89.brd 0 rfl) <| qe) (by kernel_rfl) ?_
   have k_92 := k_91.sel (.s (.kk .e))
   exact ⟨none, 0, 0, none, 0, 0, k_92.len 0 rfl, k_92.len 1 rfl, rfl, k_92⟩
 rw [if_neg hc5] at hm
 refine W_skip <| At_go <| W_seq <| W_reg <| WLs 5 [] (.n 143 (I ((r_22.1.length : Nat) : Int)) (.n 145 (pt g2 4) (.ss .a))) (qs g2 0 <| qB k_86 1 rfl 6 (sl A2 r_22.1.length c2) (by kernel_rfl) <| qs g2 0 <| qs g2 0 <| qe) (by kernel_rfl) ?_
 refine WL_op ?_
 have k_93 := k_86.sel (.kkkk .e)
 refine Op_b [] 1 (I ((r_22.1.length : Nat) : Int)) [I ((r_22.1.length : Nat) : Int)] (Pt.at g2 4) k_93 rfl (.kkkk .h) (by kernel_rfl) (by kernel_rfl) ?_
 intro w_41 k_94
 refine WL_nil <| At_go <| W_seq <| W_seq <| W_reg <| WLs 1 [] (.n 146 (.agg [I t, I r_10, I r_13, I r_16, I ((r_22.1.length : Nat) : Int), sl A0 r_21.1.length c0, sl A2 r_22.1.length c2]) (.ss .a)) (qT k_94 1 rfl 0 7 [I t, I r_10, I r_13, I r_16, I ((r_22.1.length : Nat) : Int), sl A0 r_21.1.length c0, sl A2 r_22.1.length c2] (by kernel_rfl) (by decide) <| qe) (by kernel_rfl) ?_
 refine WL_op ?_
 obtain ⟨r_23, h_r_23, hm⟩ := ob hm
 refine Op_call [] 147 _ yd_go28 (by kernel_rfl) (c_pass_check (F := N0) (O := N0) _ _ _ _ _ _ _ _ _ _ _ _ _ (Ro.n0 (k_94.rd 2 rfl)) (k_94.len 2 rfl) (k_94.lec 2 rfl) (Ro.n0 (k_94.rd 3 rfl)) (k_94.len 3 rfl) (k_94.lec 3 rfl) (Cx.refl _) _ h_r_23) ?_
 rintro e_ w_42 ⟨rfl, k_95⟩
 have k_96 := k_94.call k_95
 refine ⟨I r_23, rfl, ?_⟩
 refine WLs 1 [] (.n 148 (.b (decide (r_23 ≠ 0))) (.ss .a)) qe (by kernel_rfl) ?_
 refine WL_nil <| At_go <| W_condp (r_23 ≠ 0) (by kernel_rfl) (fun hc6 => ?_) (fun hc6 => ?_)
 · rw [if_pos hc6] at hm
   refine W_seq <| W_reg <| WLs 1 [] (.n 149 (.agg [I 0, I 0, I 0, I 0, I 0, sl none 0 0, sl none 0 0]) (.s (.k .z))) qe (by kernel_rfl) ?_
   refine WL_op <| Op_b [] 0 (.agg [I 0, I 0, I 0, I 0, I 0, sl none 0 0, sl none 0 0]) [I 0, I 0, I 0, I 0, I 0, sl none 0 0, sl none 0 0] (Pt.at g 0) k_96 rfl .all (by kernel_rfl) (by kernel_rfl) ?_
   intro w_43 k_97
   have k_98 := k_97.sel (.k .z)
   refine WLs 2 [] (.n 3 (I 0) (.n 4 (I 1) (.s .a))) qe (by kernel_rfl) ?_
   refine WL_nil <| At_go <| W_ret (At_tr ?_)
   have k_99 := k_98.nil e8
   have k_100 := k_99.nil e8
   obtain rfl := Option.some.inj hm
   refine At_rt [.agg [I 0, I 0, I 0, I 0, I 0, sl none 0 0, sl none 0 0], I 0, I 1] (qo (.agg [I 0, I 0, I 0, I 0, I 0, sl none 0 0, sl none 0 0]) <| qc (fun w => Rd w (some ⟨g, 0, none⟩) (SV.cl [I 0, I 0, I 0, I 0, I 0, sl none 0 0, sl none 0 0])) (k_98.brd 0 rfl) <| qe) (by kernel_rfl) ?_
   have k_101 := k_100.sel (.s (.kk .e))
   exact ⟨none, 0, 0, none, 0, 0, k_101.len 0 rfl, k_101.len 1 rfl, rfl, k_101⟩
 rw [if_neg hc6] at hm
 refine W_skip <| At_go <| W_seq <| W_reg <| WLs 1 [] (.n 150 (.agg [I t, I r_10, I r_13, I r_16, I ((r_22.1.length : Nat) : Int), sl A0 r_21.1.length c0, sl A2 r_22.1.length c2]) (.s (.k .z))) (qT k_96 1 rfl 0 7 [I t, I r_10, I r_13, I r_16, I ((r_22.1.length : Nat) : Int), sl A0 r_21.1.length c0, sl A2 r_22.1.length c2] (by kernel_rfl) (by decide) <| qe) (by kernel_rfl) ?_
 refine WL_op <| Op_b [] 0 (.agg [I t, I r_10, I r_13, I r_16, I ((r_22.1.length : Nat) : Int), sl A0 r_21.1.length c0, sl A2 r_22.1.length c2]) [I t, I r_10, I r_13, I r_16, I ((r_22.1.length : Nat) : Int), sl A0 r_21.1.length c0, sl A2 r_22.1.length c2] (Pt.at g 0) k_96 rfl .all (by kernel_rfl) (by kernel_rfl) ?_
 intro w_44 k_102
 have k_103 := k_102.sel (.k (.s (.kk .e)))
 refine WLs 2 [] (.n 3 (I 0) (.n 4 (I 0) (.s .a))) qe (by kernel_rfl) ?_
 refine WL_nil <| At_go <| W_ret ?_
 obtain rfl := Option.some.inj hm
 refine At_rt [.agg [I t, I r_10, I r_13, I r_16, I ((r_22.1.length : Nat) : Int), sl A0 r_21.1.length c0, sl A2 r_22.1.length c2], I 0, I 0] (qo (.agg [I t, I r_10, I r_13, I r_16, I ((r_22.1.length : Nat) : Int), sl A0 r_21.1.length c0, sl A2 r_22.1.length c2]) <| qc (fun w => Rd w (some ⟨g, 0, none⟩) (SV.cl [I t, I r_10, I r_13, I r_16, I ((r_22.1.length : Nat) : Int), sl A0 r_21.1.length c0, sl A2 r_22.1.length c2])) (k_103.brd 0 rfl) <| qe) (by kernel_rfl) ?_
 have k_104 := k_103.sel (.s (.kk .e))
 exact ⟨A0, r_21.1.length, c0, A2, r_22.1.length, c2, k_104.len 0 rfl, k_104.len 1 rfl, rfl, k_104⟩

-- quern/quernlaw21.awake
theorem c_l21_awake {F O : Nat → Prop} {w : World} (k : Cx F O w w []) (r : Bool) (hm : m_l21_awake = some r) :
    Calls Tryz.prog 4 (vals []) w (fun e w' => e = .returned (SV.val (.b r)) ∧ Cx F O w w' []) := by
 unfold m_l21_awake at hm
 refine calls [] Tryz.func4 rfl (of_decide_eq_true (by kernel_rfl)) ?_
 refine W_seq <| W_q [] .a qe (by kernel_rfl) ?_
 refine At_go <| W_seq <| W_reg <| WL_op ?_
 obtain ⟨r_, h_r_, hm⟩ := ob hm
 refine Op_call [] 5 _ yd_go12 (by kernel_rfl) (c_pass_Parse (F := N0) (O := N0) _ (Cx.refl _) _ h_r_) ?_
 rintro e_ w_ ⟨A, _, c, A1, _, c1, rfl, rfl, rfl, k_⟩
 have k_1 := k.call k_
 refine ⟨.tup [.agg [I r_.1, I r_.2.1, I r_.2.2.1, I r_.2.2.2.1, I r_.2.2.2.2.1, sl A r_.2.2.2.2.2.1.length c, sl A1 r_.2.2.2.2.2.2.1.length c1], I r_.2.2.2.2.2.2.2.1, I r_.2.2.2.2.2.2.2.2], rfl, ?_⟩
 refine WLs 4 [] (.n 6 (.agg [I r_.1, I r_.2.1, I r_.2.2.1, I r_.2.2.2.1, I r_.2.2.2.2.1, sl A r_.2.2.2.2.2.1.length c, sl A1 r_.2.2.2.2.2.2.1.length c1]) (.n 7 (I r_.2.2.2.2.2.2.2.1) (.n 8 (I r_.2.2.2.2.2.2.2.2) .z))) qe (by kernel_rfl) ?_
 refine WL_op <| Op_alloc [] 1 [I 0, I 0, I 0, I 0, I 0, sl none 0 0, sl none 0 0] (by kernel_rfl) k_1 ?_
 intro g w_1 k_2
 refine WL_op <| Op_b [] 2 (.agg [I r_.1, I r_.2.1, I r_.2.2.1, I r_.2.2.2.1, I r_.2.2.2.2.1, sl A r_.2.2.2.2.2.1.length c, sl A1 r_.2.2.2.2.2.2.1.length c1]) [I r_.1, I r_.2.1, I r_.2.2.1, I r_.2.2.2.1, I r_.2.2.2.2.1, sl A r_.2.2.2.2.2.1.length c, sl A1 r_.2.2.2.2.2.2.1.length c1] (Pt.at g 0) k_2 rfl .all (by kernel_rfl) (by kernel_rfl) ?_
 intro w_2 k_3
 have k_4 := k_3.sel .z
 refine WLs 2 [] (.n 2 (I r_.2.2.2.2.2.2.2.1) (.n 3 (I r_.2.2.2.2.2.2.2.2) .z)) qe (by kernel_rfl) ?_
 refine WL_nil <| At_go <| W_seq <| W_q [] (.n 0 (.b ((decide (r_.2.2.2.2.2.2.2.1 = 13)) && (decide (r_.2.2.2.2.2.2.2.2 = 4)))) .z) qe (by kernel_rfl) ?_
 refine At_go <| W_ret ?_
 obtain rfl := Option.some.inj hm
 refine At_rt [.b ((decide (r_.2.2.2.2.2.2.2.1 = 13)) && (decide (r_.2.2.2.2.2.2.2.2 = 4)))] qe (by kernel_rfl) ?_
 exact ⟨rfl, k_4⟩

-- (*quern/pass.Book).none
theorem c_pass_Book_none {F O : Nat → Prop} {w : World} (k : Cx F O w w []) (r : Unit) (hm : m_pass_Book_none = some r) :
    Calls Tryz.prog 13 (vals [.v (.pointer none)]) w (fun e w' => e = .returned (SV.val (.b true)) ∧ Cx F O w w' []) := by
 unfold m_pass_Book_none at hm
 refine calls [.v (.pointer none)] Tryz.func13 rfl (of_decide_eq_true (by kernel_rfl)) ?_
 refine W_seq <| W_q [] .a qe (by kernel_rfl) ?_
 refine At_go <| W_seq <| W_q [5] (.n 2 (.b true) .z) qe (by kernel_rfl) ?_
 refine At_go <| W_ret ?_
 obtain rfl := Option.some.inj hm
 refine At_rt [.b true] qe (by kernel_rfl) ?_
 exact ⟨rfl, k⟩

-- (*quern/pass.Book).Old
theorem c_pass_Book_Old {F O : Nat → Prop} {w : World} (name : List UInt8) (k : Cx F O w w []) (r : Unit) (hm : m_pass_Book_Old name = some r) :
    Calls Tryz.prog 5 (vals [.v (.pointer none), .s name]) w (fun e w' => e = .returned (SV.val (.tup [.b false, I 7])) ∧ Cx F O w w' []) := by
 unfold m_pass_Book_Old at hm
 refine calls [.v (.pointer none), .s name] Tryz.func5 rfl (of_decide_eq_true (by kernel_rfl)) ?_
 refine W_seq <| W_q [] .a qe (by kernel_rfl) ?_
 refine At_go <| W_seq <| W_seq <| W_reg <| WLs 1 [] (.n 8 (.v (.pointer none)) .a) qe (by kernel_rfl) ?_
 refine WL_op ?_
 obtain ⟨r_, h_r_, hm⟩ := ob hm
 refine Op_call [] 9 _ yd_go13 (by kernel_rfl) (c_pass_Book_none (F := N0) (O := N0)  (Cx.refl _) _ h_r_) ?_
 rintro e_ w_ ⟨rfl, k_⟩
 have k_1 := k.call k_
 refine ⟨.b true, rfl, ?_⟩
 refine WL_nil <| At_go <| W_cond true (by kernel_rfl) (fun _ => ?_) (fun h => by cases h)
 refine W_seq <| W_q [] (.n 4 (.b false) (.n 5 (I 7) .z)) qe (by kernel_rfl) ?_
 refine At_go <| W_ret (At_tr ?_)
 obtain rfl := Option.some.inj hm
 refine At_rt [.b false, I 7] qe (by kernel_rfl) ?_
 exact ⟨rfl, k_1⟩

-- (*quern/pass.Book).Names
theorem c_pass_Book_Names {F O : Nat → Prop} {w : World} (k : Cx F O w w []) (r : (List (List UInt8))) (hm : m_pass_Book_Names = some r) :
    Calls Tryz.prog 6 (vals [.v (.pointer none)]) w (fun e w' => ∃ A n c, r.length = n ∧ e = .returned (SV.val (sl A n c)) ∧ Cx F O w w' [Ow eS A n c r]) := by
 unfold m_pass_Book_Names at hm
 refine calls [.v (.pointer none)] Tryz.func6 rfl (of_decide_eq_true (by kernel_rfl)) ?_
 refine W_seq <| W_q [] .a qe (by kernel_rfl) ?_
 refine At_go <| W_seq <| W_seq <| W_reg <| WLs 1 [] (.n 5 (.v (.pointer none)) .a) qe (by kernel_rfl) ?_
 refine WL_op ?_
 obtain ⟨r_, h_r_, hm⟩ := ob hm
 refine Op_call [] 6 _ yd_go13 (by kernel_rfl) (c_pass_Book_none (F := N0) (O := N0)  (Cx.refl _) _ h_r_) ?_
 rintro e_ w_ ⟨rfl, k_⟩
 have k_1 := k.call k_
 refine ⟨.b true, rfl, ?_⟩
 refine WL_nil <| At_go <| W_cond true (by kernel_rfl) (fun _ => ?_) (fun h => by cases h)
 refine W_seq <| W_q [] (.n 2 (sl none 0 0) .z) qe (by kernel_rfl) ?_
 refine At_go <| W_ret (At_tr ?_)
 have k_2 := k_1.nil eS
 obtain rfl := Option.some.inj hm
 refine At_rt [sl none 0 0] qe (by kernel_rfl) ?_
 exact ⟨none, 0, 0, k_2.len 0 rfl, rfl, k_2⟩

-- (*strings.Builder).String
theorem c_strings_Builder_String {F O : Nat → Prop} {w : World} (g_b : Nat) (k : Cx F O w w [Bx 54 g_b [.v (.pointer none), sl none 0 0]]) (r : (List UInt8)) (hm : m_strings_Builder_String = some r) :
    Calls Tryz.prog 18 (vals [pt g_b 0]) w (fun e w' => ∃ A n c, r.length = n ∧ e = .returned (SV.val (.s ([] : List UInt8))) ∧ Cx F O w w' [Bx 54 g_b [.v (.pointer none), sl A n c], Ow e8 A n c r]) := by
 unfold m_strings_Builder_String at hm
 refine calls [pt g_b 0] Tryz.func18 rfl (of_decide_eq_true (by kernel_rfl)) ?_
 refine W_seq <| W_q [] .a qe (by kernel_rfl) ?_
 refine At_go <| W_seq ?_
 have k_ := k.drew 1
 refine W_m yd_mixed (.q 0 2 (.q 1 2 (.q 2 2 (.q 3 1 (.q 5 2 (.q 6 2 (.q 7 2 (.q 8 2 (.q 9 1 (.op 4 (.op 10 (.q 11 2 .nil)))))))))))) [4, 10] k_ (.c (.k .e) (.c (.k .e) .l)) (by kernel_rfl) (fun _ => ?_)
 refine MXq 3 2 [] (.n 5 (pt g_b 1) .a) (fun x hx => qs g_b 0 <| qs g_b 0 <| qe) (by kernel_rfl) (fun _ => ?_)
 refine MXq 1 1 [] (.n 6 (sl none 0 0) (.s .a)) (fun x hx => qB hx 0 rfl 1 (sl none 0 0) (by kernel_rfl) <| qe) (by kernel_rfl) (fun _ => ?_)
 refine MXq 4 2 [] (.n 11 (sl none 0 0) (.k .z)) (fun x hx => qs g_b 0 <| qs g_b 0 <| qB hx 0 rfl 1 (sl none 0 0) (by kernel_rfl) <| qe) (by kernel_rfl) (fun _ => ?_)
 refine MXq 1 1 [] (.n 12 (I 0) (.s .a)) (fun x hx => qe) (by kernel_rfl) (fun _ => ?_)
 refine MX_op (by kernel_rfl) rfl <| Op_cbi [] 7 [.slice none 0 0] (.v (.pointer none)) (by kernel_rfl) (by kernel_rfl) ?_
 refine ⟨k_, fun _ => ?_⟩
 refine MX_op (by kernel_rfl) rfl <| Op_cbi [] 13 [.pointer none, .int .i64 0] (.s []) (by kernel_rfl) (by kernel_rfl) ?_
 refine ⟨k_, fun _ => ?_⟩
 refine MXq 1 2 [] (.n 2 (.s ([] : List UInt8)) .z) (fun x hx => qe) (by kernel_rfl) (fun _ => ?_)
 refine MX_nil <| At_go <| W_ret ?_
 have k_1 := k_.nil e8
 obtain rfl := Option.some.inj hm
 refine At_rt [.s ([] : List UInt8)] qe (by kernel_rfl) ?_
 exact ⟨none, 0, 0, k_1.len 1 rfl, rfl, k_1⟩

-- (*quern/pass.Book).Text
theorem c_pass_Book_Text {F O : Nat → Prop} {w : World} (k : Cx F O w w []) (r : Unit) (hm : m_pass_Book_Text = some r) :
    Calls Tryz.prog 7 (vals [.v (.pointer none)]) w (fun e w' => e = .returned (SV.val (.s ([] : List UInt8))) ∧ Cx F O w w' []) := by
 unfold m_pass_Book_Text at hm
 refine calls [.v (.pointer none)] Tryz.func7 rfl (of_decide_eq_true (by kernel_rfl)) ?_
 refine W_seq <| W_q [] .a qe (by kernel_rfl) ?_
 refine At_go <| W_seq <| W_reg <| WL_op <| Op_alloc [] 3 [.v (.pointer none), sl none 0 0] (by kernel_rfl) k ?_
 intro g w_ k_
 refine WL_nil <| At_go <| W_seq <| W_seq <| W_reg <| WLs 1 [] (.n 6 (.v (.pointer none)) .a) qe (by kernel_rfl) ?_
 refine WL_op ?_
 obtain ⟨r_, h_r_, hm⟩ := ob hm
 refine Op_call [] 7 _ yd_go6 (by kernel_rfl) (c_pass_Book_Names (F := N0) (O := N0)  (Cx.refl _) _ h_r_) ?_
 rintro e_ w_1 ⟨A, _, c, rfl, rfl, k_1⟩
 have k_2 := k_.call k_1
 refine ⟨sl A r_.length c, rfl, ?_⟩
 refine WLs 2 [] (.n 8 (I ((r_.length : Nat) : Int)) (.n 9 (I 0) (.k (.s .a)))) qe (by kernel_rfl) ?_
 refine WL_nil <| At_go <| W_block <| W_un ?_
 refine W_seq <| W_q [] (.n 10 (.b (decide (0 < ((r_.length : Nat) : Int)))) .a) qe (by kernel_rfl) ?_
 refine At_go <| W_seq <| W_condp (0 < ((r_.length : Nat) : Int)) (by kernel_rfl) (fun hc => ?_) (fun hc => ?_)
 · rw [if_pos hc] at hm
   cases hm
 rw [if_neg hc] at hm
 refine W_exit (At_te (At_te (At_ie ?_)))
 refine At_go <| W_seq <| W_reg <| WL_op ?_
 obtain ⟨r_1, h_r_1, hm⟩ := ob hm
 obtain ⟨F1, O1, kin, hO, hre, hF, hb⟩ := k_2.go (.i (.r .e))
 refine Op_call [] 24 _ yd_go18 (by kernel_rfl) (c_strings_Builder_String (F := F1) (O := O1) _ kin _ h_r_1) ?_
 rintro e_ w_2 ⟨A1, _, c1, rfl, rfl, k_3⟩
 have k_4 := hb w_2 _ _ k_3 (.c (.c .n))
 refine ⟨.s ([] : List UInt8), rfl, ?_⟩
 have k_5 := k_4.sel .z
 refine WLs 1 [] (.n 2 (.s ([] : List UInt8)) .z) qe (by kernel_rfl) ?_
 refine WL_nil <| At_go <| W_ret ?_
 obtain rfl := Option.some.inj hm
 refine At_rt [.s ([] : List UInt8)] qe (by kernel_rfl) ?_
 exact ⟨rfl, k_5⟩

-- (*quern/pass.Book).Add
theorem c_pass_Book_Add {F O : Nat → Prop} {w : World} (name : List UInt8) (w_ : List UInt8) (salt : List UInt8) (A_w_ : Option Addr) (n_w_ : Nat) (c_w_ : Nat) (A_salt : Option Addr) (n_salt : Nat) (c_salt : Nat) (h_w_ : Ro F w A_w_ (e8.all w_)) (hn_w_ : w_.length = n_w_) (hc_w_ : n_w_ ≤ c_w_) (h_salt : Ro F w A_salt (e8.all salt)) (hn_salt : salt.length = n_salt) (hc_salt : n_salt ≤ c_salt) (k : Cx F O w w []) (r : Unit) (hm : m_pass_Book_Add name w_ salt = some r) :
    Calls Tryz.prog 8 (vals [.v (.pointer none), .s name, sl A_w_ n_w_ c_w_, sl A_salt n_salt c_salt]) w (fun e w' => e = .returned (SV.val (I 7)) ∧ Cx F O w w' []) := by
 unfold m_pass_Book_Add at hm
 subst hn_w_
 subst hn_salt
 refine calls [.v (.pointer none), .s name, sl A_w_ w_.length c_w_, sl A_salt salt.length c_salt] Tryz.func8 rfl (of_decide_eq_true (by kernel_rfl)) ?_
 refine W_seq <| W_q [] .a qe (by kernel_rfl) ?_
 refine At_go <| W_seq <| W_seq <| W_reg <| WLs 1 [] (.n 13 (.v (.pointer none)) .a) qe (by kernel_rfl) ?_
 refine WL_op ?_
 obtain ⟨r_, h_r_, hm⟩ := ob hm
 refine Op_call [] 14 _ yd_go13 (by kernel_rfl) (c_pass_Book_none (F := N0) (O := N0)  (Cx.refl _) _ h_r_) ?_
 rintro e_ w_1 ⟨rfl, k_⟩
 have k_1 := k.call k_
 refine ⟨.b true, rfl, ?_⟩
 refine WL_nil <| At_go <| W_cond true (by kernel_rfl) (fun _ => ?_) (fun h => by cases h)
 refine W_seq <| W_q [] (.n 8 (I 7) .z) qe (by kernel_rfl) ?_
 refine At_go <| W_ret (At_tr ?_)
 obtain rfl := Option.some.inj hm
 refine At_rt [I 7] qe (by kernel_rfl) ?_
 exact ⟨rfl, k_1⟩

-- (*quern/pass.Book).Login
theorem c_pass_Book_Login {F O : Nat → Prop} {w : World} (name : List UInt8) (w_ : List UInt8) (now : UInt64) (A_w_ : Option Addr) (n_w_ : Nat) (c_w_ : Nat) (h_w_ : Ro F w A_w_ (e8.all w_)) (hn_w_ : w_.length = n_w_) (hc_w_ : n_w_ ≤ c_w_) (k : Cx F O w w []) (r : Unit) (hm : m_pass_Book_Login name w_ now = some r) :
    Calls Tryz.prog 9 (vals [.v (.pointer none), .s name, sl A_w_ n_w_ c_w_, .u64 now]) w (fun e w' => e = .returned (SV.val (I 7)) ∧ Cx F O w w' []) := by
 unfold m_pass_Book_Login at hm
 subst hn_w_
 refine calls [.v (.pointer none), .s name, sl A_w_ w_.length c_w_, .u64 now] Tryz.func9 rfl (of_decide_eq_true (by kernel_rfl)) ?_
 refine W_seq <| W_q [] .a qe (by kernel_rfl) ?_
 refine At_go <| W_seq <| W_seq <| W_reg <| WLs 1 [] (.n 14 (.v (.pointer none)) .a) qe (by kernel_rfl) ?_
 refine WL_op ?_
 obtain ⟨r_, h_r_, hm⟩ := ob hm
 refine Op_call [] 15 _ yd_go13 (by kernel_rfl) (c_pass_Book_none (F := N0) (O := N0)  (Cx.refl _) _ h_r_) ?_
 rintro e_ w_1 ⟨rfl, k_⟩
 have k_1 := k.call k_
 refine ⟨.b true, rfl, ?_⟩
 refine WL_nil <| At_go <| W_cond true (by kernel_rfl) (fun _ => ?_) (fun h => by cases h)
 refine W_seq <| W_q [] (.n 8 (I 7) .z) qe (by kernel_rfl) ?_
 refine At_go <| W_ret (At_tr ?_)
 obtain rfl := Option.some.inj hm
 refine At_rt [I 7] qe (by kernel_rfl) ?_
 exact ⟨rfl, k_1⟩

-- (*quern/pass.Book).Change
theorem c_pass_Book_Change {F O : Nat → Prop} {w : World} (name : List UInt8) (old : List UInt8) (w_ : List UInt8) (salt : List UInt8) (now : UInt64) (A_old : Option Addr) (n_old : Nat) (c_old : Nat) (A_w_ : Option Addr) (n_w_ : Nat) (c_w_ : Nat) (A_salt : Option Addr) (n_salt : Nat) (c_salt : Nat) (h_old : Ro F w A_old (e8.all old)) (hn_old : old.length = n_old) (hc_old : n_old ≤ c_old) (h_w_ : Ro F w A_w_ (e8.all w_)) (hn_w_ : w_.length = n_w_) (hc_w_ : n_w_ ≤ c_w_) (h_salt : Ro F w A_salt (e8.all salt)) (hn_salt : salt.length = n_salt) (hc_salt : n_salt ≤ c_salt) (k : Cx F O w w []) (r : Unit) (hm : m_pass_Book_Change name old w_ salt now = some r) :
    Calls Tryz.prog 10 (vals [.v (.pointer none), .s name, sl A_old n_old c_old, sl A_w_ n_w_ c_w_, sl A_salt n_salt c_salt, .u64 now]) w (fun e w' => e = .returned (SV.val (I 7)) ∧ Cx F O w w' []) := by
 unfold m_pass_Book_Change at hm
 subst hn_old
 subst hn_w_
 subst hn_salt
 refine calls [.v (.pointer none), .s name, sl A_old old.length c_old, sl A_w_ w_.length c_w_, sl A_salt salt.length c_salt, .u64 now] Tryz.func10 rfl (of_decide_eq_true (by kernel_rfl)) ?_
 refine W_seq <| W_q [] .a qe (by kernel_rfl) ?_
 refine At_go <| W_seq <| W_seq <| W_reg <| WLs 4 [] (.n 17 (.v (.pointer none)) (.n 18 (.s name) (.n 19 (sl A_old old.length c_old) (.n 20 (.u64 now) (.kk (.s (.kk .z))))))) qe (by kernel_rfl) ?_
 refine WL_op ?_
 obtain ⟨r_, h_r_, hm⟩ := ob hm
 refine Op_call [] 21 _ yd_go9 (by kernel_rfl) (c_pass_Book_Login (F := N0) (O := N0) _ _ _ _ _ _ (Ro.n0 (h_old.cx k)) rfl hc_old (Cx.refl _) _ h_r_) ?_
 rintro e_ w_1 ⟨rfl, k_⟩
 have k_1 := k.call k_
 refine ⟨I 7, rfl, ?_⟩
 refine WLs 1 [] (.n 13 (I 7) (.ssss (.s .a))) qe (by kernel_rfl) ?_
 refine WL_nil <| At_go <| W_seq <| W_q [] (.n 23 (.b true) .a) qe (by kernel_rfl) ?_
 refine At_go <| W_cond true (by kernel_rfl) (fun _ => ?_) (fun h => by cases h)
 refine W_seq <| W_q [] (.n 12 (I 7) .z) qe (by kernel_rfl) ?_
 refine At_go <| W_ret (At_tr ?_)
 obtain rfl := Option.some.inj hm
 refine At_rt [I 7] qe (by kernel_rfl) ?_
 exact ⟨rfl, k_1⟩

-- (*quern/pass.Book).Remove
theorem c_pass_Book_Remove {F O : Nat → Prop} {w : World} (name : List UInt8) (k : Cx F O w w []) (r : Unit) (hm : m_pass_Book_Remove name = some r) :
    Calls Tryz.prog 11 (vals [.v (.pointer none), .s name]) w (fun e w' => e = .returned (SV.val (I 7)) ∧ Cx F O w w' []) := by
 unfold m_pass_Book_Remove at hm
 refine calls [.v (.pointer none), .s name] Tryz.func11 rfl (of_decide_eq_true (by kernel_rfl)) ?_
 refine W_seq <| W_q [] .a qe (by kernel_rfl) ?_
 refine At_go <| W_seq <| W_seq <| W_reg <| WLs 1 [] (.n 7 (.v (.pointer none)) .a) qe (by kernel_rfl) ?_
 refine WL_op ?_
 obtain ⟨r_, h_r_, hm⟩ := ob hm
 refine Op_call [] 8 _ yd_go13 (by kernel_rfl) (c_pass_Book_none (F := N0) (O := N0)  (Cx.refl _) _ h_r_) ?_
 rintro e_ w_ ⟨rfl, k_⟩
 have k_1 := k.call k_
 refine ⟨.b true, rfl, ?_⟩
 refine WL_nil <| At_go <| W_cond true (by kernel_rfl) (fun _ => ?_) (fun h => by cases h)
 refine W_seq <| W_q [] (.n 4 (I 7) .z) qe (by kernel_rfl) ?_
 refine At_go <| W_ret (At_tr ?_)
 obtain rfl := Option.some.inj hm
 refine At_rt [I 7] qe (by kernel_rfl) ?_
 exact ⟨rfl, k_1⟩

-- (*quern/pass.Book).none
theorem c_pass_Book_none_s1 {F O : Nat → Prop} {w : World} (b_a_Kind : Int) (b_a_Memory : Int) (b_a_Passes : Int) (b_a_Lanes : Int) (b_a_Tag : Int) (b_most : Int) (b_hold : UInt64) (g_b : Nat) (k : Cx F O w w [Bx 30 g_b [I b_a_Kind, I b_a_Memory, I b_a_Passes, I b_a_Lanes, I b_a_Tag, I b_most, .u64 b_hold, .v (.map none)]]) (r : (Int × Int × Int × Int × Int × Int × UInt64)) (hm : m_pass_Book_none_s1 b_a_Kind b_a_Memory b_a_Passes b_a_Lanes b_a_Tag b_most b_hold = some r) :
    Calls Tryz.prog 13 (vals [pt g_b 0]) w (fun e w' => e = .returned (SV.val (.b true)) ∧ Cx F O w w' [Bx 30 g_b [I r.1, I r.2.1, I r.2.2.1, I r.2.2.2.1, I r.2.2.2.2.1, I r.2.2.2.2.2.1, .u64 r.2.2.2.2.2.2, .v (.map none)]]) := by
 unfold m_pass_Book_none_s1 at hm
 refine calls [pt g_b 0] Tryz.func13 rfl (of_decide_eq_true (by kernel_rfl)) ?_
 refine W_seq <| W_q [] .a qe (by kernel_rfl) ?_
 refine At_go <| W_seq <| W_q [5] (.n 2 (.b true) .z) (qs g_b 0 <| qs g_b 0 <| qB k 0 rfl 7 (.v (.map none)) (by kernel_rfl) <| qe) (by kernel_rfl) ?_
 refine At_go <| W_ret ?_
 obtain rfl := Option.some.inj hm
 refine At_rt [.b true] qe (by kernel_rfl) ?_
 exact ⟨rfl, k⟩

-- (*quern/pass.Book).Old
theorem c_pass_Book_Old_s1 {F O : Nat → Prop} {w : World} (b_a_Kind : Int) (b_a_Memory : Int) (b_a_Passes : Int) (b_a_Lanes : Int) (b_a_Tag : Int) (b_most : Int) (b_hold : UInt64) (name : List UInt8) (g_b : Nat) (k : Cx F O w w [Bx 30 g_b [I b_a_Kind, I b_a_Memory, I b_a_Passes, I b_a_Lanes, I b_a_Tag, I b_most, .u64 b_hold, .v (.map none)]]) (r : (Int × Int × Int × Int × Int × Int × UInt64)) (hm : m_pass_Book_Old_s1 b_a_Kind b_a_Memory b_a_Passes b_a_Lanes b_a_Tag b_most b_hold name = some r) :
    Calls Tryz.prog 5 (vals [pt g_b 0, .s name]) w (fun e w' => e = .returned (SV.val (.tup [.b false, I 7])) ∧ Cx F O w w' [Bx 30 g_b [I r.1, I r.2.1, I r.2.2.1, I r.2.2.2.1, I r.2.2.2.2.1, I r.2.2.2.2.2.1, .u64 r.2.2.2.2.2.2, .v (.map none)]]) := by
 unfold m_pass_Book_Old_s1 at hm
 refine calls [pt g_b 0, .s name] Tryz.func5 rfl (of_decide_eq_true (by kernel_rfl)) ?_
 refine W_seq <| W_q [] .a qe (by kernel_rfl) ?_
 refine At_go <| W_seq <| W_seq <| W_reg <| WLs 1 [] (.n 8 (pt g_b 0) .a) qe (by kernel_rfl) ?_
 refine WL_op ?_
 obtain ⟨r_, h_r_, hm⟩ := ob hm
 obtain ⟨F1, O1, kin, hO, hre, hF, hb⟩ := k.go (.i .e)
 refine Op_call [] 9 _ yd_go13 (by kernel_rfl) (c_pass_Book_none_s1 (F := F1) (O := O1) _ _ _ _ _ _ _ _ kin _ h_r_) ?_
 rintro e_ w_ ⟨rfl, k_⟩
 have k_1 := hb w_ _ _ k_ (.c .n)
 refine ⟨.b true, rfl, ?_⟩
 refine WL_nil <| At_go <| W_cond true (by kernel_rfl) (fun _ => ?_) (fun h => by cases h)
 refine W_seq <| W_q [] (.n 4 (.b false) (.n 5 (I 7) .z)) qe (by kernel_rfl) ?_
 refine At_go <| W_ret (At_tr ?_)
 obtain rfl := Option.some.inj hm
 refine At_rt [.b false, I 7] qe (by kernel_rfl) ?_
 exact ⟨rfl, k_1⟩

-- (*quern/pass.Book).Names
theorem c_pass_Book_Names_s1 {F O : Nat → Prop} {w : World} (b_a_Kind : Int) (b_a_Memory : Int) (b_a_Passes : Int) (b_a_Lanes : Int) (b_a_Tag : Int) (b_most : Int) (b_hold : UInt64) (g_b : Nat) (k : Cx F O w w [Bx 30 g_b [I b_a_Kind, I b_a_Memory, I b_a_Passes, I b_a_Lanes, I b_a_Tag, I b_most, .u64 b_hold, .v (.map none)]]) (r : (List (List UInt8) × Int × Int × Int × Int × Int × Int × UInt64)) (hm : m_pass_Book_Names_s1 b_a_Kind b_a_Memory b_a_Passes b_a_Lanes b_a_Tag b_most b_hold = some r) :
    Calls Tryz.prog 6 (vals [pt g_b 0]) w (fun e w' => ∃ A n c, r.1.length = n ∧ e = .returned (SV.val (sl A n c)) ∧ Cx F O w w' [Ow eS A n c r.1, Bx 30 g_b [I r.2.1, I r.2.2.1, I r.2.2.2.1, I r.2.2.2.2.1, I r.2.2.2.2.2.1, I r.2.2.2.2.2.2.1, .u64 r.2.2.2.2.2.2.2, .v (.map none)]]) := by
 unfold m_pass_Book_Names_s1 at hm
 refine calls [pt g_b 0] Tryz.func6 rfl (of_decide_eq_true (by kernel_rfl)) ?_
 refine W_seq <| W_q [] .a qe (by kernel_rfl) ?_
 refine At_go <| W_seq <| W_seq <| W_reg <| WLs 1 [] (.n 5 (pt g_b 0) .a) qe (by kernel_rfl) ?_
 refine WL_op ?_
 obtain ⟨r_, h_r_, hm⟩ := ob hm
 obtain ⟨F1, O1, kin, hO, hre, hF, hb⟩ := k.go (.i .e)
 refine Op_call [] 6 _ yd_go13 (by kernel_rfl) (c_pass_Book_none_s1 (F := F1) (O := O1) _ _ _ _ _ _ _ _ kin _ h_r_) ?_
 rintro e_ w_ ⟨rfl, k_⟩
 have k_1 := hb w_ _ _ k_ (.c .n)
 refine ⟨.b true, rfl, ?_⟩
 refine WL_nil <| At_go <| W_cond true (by kernel_rfl) (fun _ => ?_) (fun h => by cases h)
 refine W_seq <| W_q [] (.n 2 (sl none 0 0) .z) qe (by kernel_rfl) ?_
 refine At_go <| W_ret (At_tr ?_)
 have k_2 := k_1.nil eS
 obtain rfl := Option.some.inj hm
 refine At_rt [sl none 0 0] qe (by kernel_rfl) ?_
 have k_3 := (k_2.pk .h).pk (.t .h)
 exact ⟨none, 0, 0, k_3.len 0 rfl, rfl, k_3⟩

-- (*quern/pass.Book).Text
theorem c_pass_Book_Text_s1 {F O : Nat → Prop} {w : World} (b_a_Kind : Int) (b_a_Memory : Int) (b_a_Passes : Int) (b_a_Lanes : Int) (b_a_Tag : Int) (b_most : Int) (b_hold : UInt64) (g_b : Nat) (k : Cx F O w w [Bx 30 g_b [I b_a_Kind, I b_a_Memory, I b_a_Passes, I b_a_Lanes, I b_a_Tag, I b_most, .u64 b_hold, .v (.map none)]]) (r : (Int × Int × Int × Int × Int × Int × UInt64)) (hm : m_pass_Book_Text_s1 b_a_Kind b_a_Memory b_a_Passes b_a_Lanes b_a_Tag b_most b_hold = some r) :
    Calls Tryz.prog 7 (vals [pt g_b 0]) w (fun e w' => e = .returned (SV.val (.s ([] : List UInt8))) ∧ Cx F O w w' [Bx 30 g_b [I r.1, I r.2.1, I r.2.2.1, I r.2.2.2.1, I r.2.2.2.2.1, I r.2.2.2.2.2.1, .u64 r.2.2.2.2.2.2, .v (.map none)]]) := by
 unfold m_pass_Book_Text_s1 at hm
 refine calls [pt g_b 0] Tryz.func7 rfl (of_decide_eq_true (by kernel_rfl)) ?_
 refine W_seq <| W_q [] .a qe (by kernel_rfl) ?_
 refine At_go <| W_seq <| W_reg <| WL_op <| Op_alloc [] 3 [.v (.pointer none), sl none 0 0] (by kernel_rfl) k ?_
 intro g w_ k_
 refine WL_nil <| At_go <| W_seq <| W_seq <| W_reg <| WLs 1 [] (.n 6 (pt g_b 0) .a) qe (by kernel_rfl) ?_
 refine WL_op ?_
 obtain ⟨r_, h_r_, hm⟩ := ob hm
 obtain ⟨F1, O1, kin, hO, hre, hF, hb⟩ := k_.go (.i (.r .e))
 refine Op_call [] 7 _ yd_go6 (by kernel_rfl) (c_pass_Book_Names_s1 (F := F1) (O := O1) _ _ _ _ _ _ _ _ kin _ h_r_) ?_
 rintro e_ w_1 ⟨A, _, c, rfl, rfl, k_1⟩
 have k_2 := hb w_1 _ _ k_1 (.c (.c .n))
 refine ⟨sl A r_.1.length c, rfl, ?_⟩
 refine WLs 2 [] (.n 8 (I ((r_.1.length : Nat) : Int)) (.n 9 (I 0) (.k (.s .a)))) qe (by kernel_rfl) ?_
 refine WL_nil <| At_go <| W_block <| W_un ?_
 refine W_seq <| W_q [] (.n 10 (.b (decide (0 < ((r_.1.length : Nat) : Int)))) .a) qe (by kernel_rfl) ?_
 refine At_go <| W_seq <| W_condp (0 < ((r_.1.length : Nat) : Int)) (by kernel_rfl) (fun hc => ?_) (fun hc => ?_)
 · rw [if_pos hc] at hm
   cases hm
 rw [if_neg hc] at hm
 refine W_exit (At_te (At_te (At_ie ?_)))
 refine At_go <| W_seq <| W_reg <| WL_op ?_
 obtain ⟨r_1, h_r_1, hm⟩ := ob hm
 obtain ⟨F11, O11, kin1, hO1, hre1, hF1, hb1⟩ := k_2.go (.r (.r (.i .e)))
 refine Op_call [] 24 _ yd_go18 (by kernel_rfl) (c_strings_Builder_String (F := F11) (O := O11) _ kin1 _ h_r_1) ?_
 rintro e_ w_2 ⟨A1, _, c1, rfl, rfl, k_3⟩
 have k_4 := hb1 w_2 _ _ k_3 (.c (.c .n))
 refine ⟨.s ([] : List UInt8), rfl, ?_⟩
 have k_5 := k_4.sel (.ss (.s (.k .e)))
 refine WLs 1 [] (.n 2 (.s ([] : List UInt8)) .z) qe (by kernel_rfl) ?_
 refine WL_nil <| At_go <| W_ret ?_
 obtain rfl := Option.some.inj hm
 refine At_rt [.s ([] : List UInt8)] qe (by kernel_rfl) ?_
 exact ⟨rfl, k_5⟩

-- (*quern/pass.Book).Add
theorem c_pass_Book_Add_s1 {F O : Nat → Prop} {w : World} (b_a_Kind : Int) (b_a_Memory : Int) (b_a_Passes : Int) (b_a_Lanes : Int) (b_a_Tag : Int) (b_most : Int) (b_hold : UInt64) (name : List UInt8) (w_ : List UInt8) (salt : List UInt8) (g_b : Nat) (A_w_ : Option Addr) (n_w_ : Nat) (c_w_ : Nat) (A_salt : Option Addr) (n_salt : Nat) (c_salt : Nat) (h_w_ : Ro F w A_w_ (e8.all w_)) (hn_w_ : w_.length = n_w_) (hc_w_ : n_w_ ≤ c_w_) (h_salt : Ro F w A_salt (e8.all salt)) (hn_salt : salt.length = n_salt) (hc_salt : n_salt ≤ c_salt) (k : Cx F O w w [Bx 30 g_b [I b_a_Kind, I b_a_Memory, I b_a_Passes, I b_a_Lanes, I b_a_Tag, I b_most, .u64 b_hold, .v (.map none)]]) (r : (Int × Int × Int × Int × Int × Int × UInt64)) (hm : m_pass_Book_Add_s1 b_a_Kind b_a_Memory b_a_Passes b_a_Lanes b_a_Tag b_most b_hold name w_ salt = some r) :
    Calls Tryz.prog 8 (vals [pt g_b 0, .s name, sl A_w_ n_w_ c_w_, sl A_salt n_salt c_salt]) w (fun e w' => e = .returned (SV.val (I 7)) ∧ Cx F O w w' [Bx 30 g_b [I r.1, I r.2.1, I r.2.2.1, I r.2.2.2.1, I r.2.2.2.2.1, I r.2.2.2.2.2.1, .u64 r.2.2.2.2.2.2, .v (.map none)]]) := by
 unfold m_pass_Book_Add_s1 at hm
 subst hn_w_
 subst hn_salt
 refine calls [pt g_b 0, .s name, sl A_w_ w_.length c_w_, sl A_salt salt.length c_salt] Tryz.func8 rfl (of_decide_eq_true (by kernel_rfl)) ?_
 refine W_seq <| W_q [] .a qe (by kernel_rfl) ?_
 refine At_go <| W_seq <| W_seq <| W_reg <| WLs 1 [] (.n 13 (pt g_b 0) .a) qe (by kernel_rfl) ?_
 refine WL_op ?_
 obtain ⟨r_, h_r_, hm⟩ := ob hm
 obtain ⟨F1, O1, kin, hO, hre, hF, hb⟩ := k.go (.i .e)
 refine Op_call [] 14 _ yd_go13 (by kernel_rfl) (c_pass_Book_none_s1 (F := F1) (O := O1) _ _ _ _ _ _ _ _ kin _ h_r_) ?_
 rintro e_ w_1 ⟨rfl, k_⟩
 have k_1 := hb w_1 _ _ k_ (.c .n)
 refine ⟨.b true, rfl, ?_⟩
 refine WL_nil <| At_go <| W_cond true (by kernel_rfl) (fun _ => ?_) (fun h => by cases h)
 refine W_seq <| W_q [] (.n 8 (I 7) .z) qe (by kernel_rfl) ?_
 refine At_go <| W_ret (At_tr ?_)
 obtain rfl := Option.some.inj hm
 refine At_rt [I 7] qe (by kernel_rfl) ?_
 exact ⟨rfl, k_1⟩

-- (*quern/pass.Book).Login
theorem c_pass_Book_Login_s1 {F O : Nat → Prop} {w : World} (b_a_Kind : Int) (b_a_Memory : Int) (b_a_Passes : Int) (b_a_Lanes : Int) (b_a_Tag : Int) (b_most : Int) (b_hold : UInt64) (name : List UInt8) (w_ : List UInt8) (now : UInt64) (g_b : Nat) (A_w_ : Option Addr) (n_w_ : Nat) (c_w_ : Nat) (h_w_ : Ro F w A_w_ (e8.all w_)) (hn_w_ : w_.length = n_w_) (hc_w_ : n_w_ ≤ c_w_) (k : Cx F O w w [Bx 30 g_b [I b_a_Kind, I b_a_Memory, I b_a_Passes, I b_a_Lanes, I b_a_Tag, I b_most, .u64 b_hold, .v (.map none)]]) (r : (Int × Int × Int × Int × Int × Int × UInt64)) (hm : m_pass_Book_Login_s1 b_a_Kind b_a_Memory b_a_Passes b_a_Lanes b_a_Tag b_most b_hold name w_ now = some r) :
    Calls Tryz.prog 9 (vals [pt g_b 0, .s name, sl A_w_ n_w_ c_w_, .u64 now]) w (fun e w' => e = .returned (SV.val (I 7)) ∧ Cx F O w w' [Bx 30 g_b [I r.1, I r.2.1, I r.2.2.1, I r.2.2.2.1, I r.2.2.2.2.1, I r.2.2.2.2.2.1, .u64 r.2.2.2.2.2.2, .v (.map none)]]) := by
 unfold m_pass_Book_Login_s1 at hm
 subst hn_w_
 refine calls [pt g_b 0, .s name, sl A_w_ w_.length c_w_, .u64 now] Tryz.func9 rfl (of_decide_eq_true (by kernel_rfl)) ?_
 refine W_seq <| W_q [] .a qe (by kernel_rfl) ?_
 refine At_go <| W_seq <| W_seq <| W_reg <| WLs 1 [] (.n 14 (pt g_b 0) .a) qe (by kernel_rfl) ?_
 refine WL_op ?_
 obtain ⟨r_, h_r_, hm⟩ := ob hm
 obtain ⟨F1, O1, kin, hO, hre, hF, hb⟩ := k.go (.i .e)
 refine Op_call [] 15 _ yd_go13 (by kernel_rfl) (c_pass_Book_none_s1 (F := F1) (O := O1) _ _ _ _ _ _ _ _ kin _ h_r_) ?_
 rintro e_ w_1 ⟨rfl, k_⟩
 have k_1 := hb w_1 _ _ k_ (.c .n)
 refine ⟨.b true, rfl, ?_⟩
 refine WL_nil <| At_go <| W_cond true (by kernel_rfl) (fun _ => ?_) (fun h => by cases h)
 refine W_seq <| W_q [] (.n 8 (I 7) .z) qe (by kernel_rfl) ?_
 refine At_go <| W_ret (At_tr ?_)
 obtain rfl := Option.some.inj hm
 refine At_rt [I 7] qe (by kernel_rfl) ?_
 exact ⟨rfl, k_1⟩

-- (*quern/pass.Book).Change
theorem c_pass_Book_Change_s1 {F O : Nat → Prop} {w : World} (b_a_Kind : Int) (b_a_Memory : Int) (b_a_Passes : Int) (b_a_Lanes : Int) (b_a_Tag : Int) (b_most : Int) (b_hold : UInt64) (name : List UInt8) (old : List UInt8) (w_ : List UInt8) (salt : List UInt8) (now : UInt64) (g_b : Nat) (A_old : Option Addr) (n_old : Nat) (c_old : Nat) (A_w_ : Option Addr) (n_w_ : Nat) (c_w_ : Nat) (A_salt : Option Addr) (n_salt : Nat) (c_salt : Nat) (h_old : Ro F w A_old (e8.all old)) (hn_old : old.length = n_old) (hc_old : n_old ≤ c_old) (h_w_ : Ro F w A_w_ (e8.all w_)) (hn_w_ : w_.length = n_w_) (hc_w_ : n_w_ ≤ c_w_) (h_salt : Ro F w A_salt (e8.all salt)) (hn_salt : salt.length = n_salt) (hc_salt : n_salt ≤ c_salt) (k : Cx F O w w [Bx 30 g_b [I b_a_Kind, I b_a_Memory, I b_a_Passes, I b_a_Lanes, I b_a_Tag, I b_most, .u64 b_hold, .v (.map none)]]) (r : (Int × Int × Int × Int × Int × Int × UInt64)) (hm : m_pass_Book_Change_s1 b_a_Kind b_a_Memory b_a_Passes b_a_Lanes b_a_Tag b_most b_hold name old w_ salt now = some r) :
    Calls Tryz.prog 10 (vals [pt g_b 0, .s name, sl A_old n_old c_old, sl A_w_ n_w_ c_w_, sl A_salt n_salt c_salt, .u64 now]) w (fun e w' => e = .returned (SV.val (I 7)) ∧ Cx F O w w' [Bx 30 g_b [I r.1, I r.2.1, I r.2.2.1, I r.2.2.2.1, I r.2.2.2.2.1, I r.2.2.2.2.2.1, .u64 r.2.2.2.2.2.2, .v (.map none)]]) := by
 unfold m_pass_Book_Change_s1 at hm
 subst hn_old
 subst hn_w_
 subst hn_salt
 refine calls [pt g_b 0, .s name, sl A_old old.length c_old, sl A_w_ w_.length c_w_, sl A_salt salt.length c_salt, .u64 now] Tryz.func10 rfl (of_decide_eq_true (by kernel_rfl)) ?_
 refine W_seq <| W_q [] .a qe (by kernel_rfl) ?_
 refine At_go <| W_seq <| W_seq <| W_reg <| WLs 4 [] (.n 17 (pt g_b 0) (.n 18 (.s name) (.n 19 (sl A_old old.length c_old) (.n 20 (.u64 now) (.kk (.s (.kk .z))))))) qe (by kernel_rfl) ?_
 refine WL_op ?_
 obtain ⟨r_, h_r_, hm⟩ := ob hm
 obtain ⟨F1, O1, kin, hO, hre, hF, hb⟩ := k.go (.i .e)
 refine Op_call [] 21 _ yd_go9 (by kernel_rfl) (c_pass_Book_Login_s1 (F := F1) (O := O1) _ _ _ _ _ _ _ _ _ _ _ _ _ _ (Ro.of_old h_old k hF) rfl hc_old kin _ h_r_) ?_
 rintro e_ w_1 ⟨rfl, k_⟩
 have k_1 := hb w_1 _ _ k_ (.c .n)
 refine ⟨I 7, rfl, ?_⟩
 refine WLs 1 [] (.n 13 (I 7) (.ssss (.s .a))) qe (by kernel_rfl) ?_
 refine WL_nil <| At_go <| W_seq <| W_q [] (.n 23 (.b true) .a) qe (by kernel_rfl) ?_
 refine At_go <| W_cond true (by kernel_rfl) (fun _ => ?_) (fun h => by cases h)
 refine W_seq <| W_q [] (.n 12 (I 7) .z) qe (by kernel_rfl) ?_
 refine At_go <| W_ret (At_tr ?_)
 obtain rfl := Option.some.inj hm
 refine At_rt [I 7] qe (by kernel_rfl) ?_
 exact ⟨rfl, k_1⟩

-- (*quern/pass.Book).Remove
theorem c_pass_Book_Remove_s1 {F O : Nat → Prop} {w : World} (b_a_Kind : Int) (b_a_Memory : Int) (b_a_Passes : Int) (b_a_Lanes : Int) (b_a_Tag : Int) (b_most : Int) (b_hold : UInt64) (name : List UInt8) (g_b : Nat) (k : Cx F O w w [Bx 30 g_b [I b_a_Kind, I b_a_Memory, I b_a_Passes, I b_a_Lanes, I b_a_Tag, I b_most, .u64 b_hold, .v (.map none)]]) (r : (Int × Int × Int × Int × Int × Int × UInt64)) (hm : m_pass_Book_Remove_s1 b_a_Kind b_a_Memory b_a_Passes b_a_Lanes b_a_Tag b_most b_hold name = some r) :
    Calls Tryz.prog 11 (vals [pt g_b 0, .s name]) w (fun e w' => e = .returned (SV.val (I 7)) ∧ Cx F O w w' [Bx 30 g_b [I r.1, I r.2.1, I r.2.2.1, I r.2.2.2.1, I r.2.2.2.2.1, I r.2.2.2.2.2.1, .u64 r.2.2.2.2.2.2, .v (.map none)]]) := by
 unfold m_pass_Book_Remove_s1 at hm
 refine calls [pt g_b 0, .s name] Tryz.func11 rfl (of_decide_eq_true (by kernel_rfl)) ?_
 refine W_seq <| W_q [] .a qe (by kernel_rfl) ?_
 refine At_go <| W_seq <| W_seq <| W_reg <| WLs 1 [] (.n 7 (pt g_b 0) .a) qe (by kernel_rfl) ?_
 refine WL_op ?_
 obtain ⟨r_, h_r_, hm⟩ := ob hm
 obtain ⟨F1, O1, kin, hO, hre, hF, hb⟩ := k.go (.i .e)
 refine Op_call [] 8 _ yd_go13 (by kernel_rfl) (c_pass_Book_none_s1 (F := F1) (O := O1) _ _ _ _ _ _ _ _ kin _ h_r_) ?_
 rintro e_ w_ ⟨rfl, k_⟩
 have k_1 := hb w_ _ _ k_ (.c .n)
 refine ⟨.b true, rfl, ?_⟩
 refine WL_nil <| At_go <| W_cond true (by kernel_rfl) (fun _ => ?_) (fun h => by cases h)
 refine W_seq <| W_q [] (.n 4 (I 7) .z) qe (by kernel_rfl) ?_
 refine At_go <| W_ret (At_tr ?_)
 obtain rfl := Option.some.inj hm
 refine At_rt [I 7] qe (by kernel_rfl) ?_
 exact ⟨rfl, k_1⟩

-- quern/quernlaw21.PassNil
theorem c_l21_PassNil {F O : Nat → Prop} {w : World} (name : List UInt8) (word : List UInt8) (now : UInt64) (A_word : Option Addr) (n_word : Nat) (c_word : Nat) (h_word : Ro F w A_word (e8.all word)) (hn_word : word.length = n_word) (hc_word : n_word ≤ c_word) (k : Cx F O w w []) (r : Bool) (hm : m_l21_PassNil name word now = some r) :
    Calls Tryz.prog 3 (vals [.s name, sl A_word n_word c_word, .u64 now]) w (fun e w' => e = .returned (SV.val (.b r)) ∧ Cx F O w w' []) := by
 unfold m_l21_PassNil at hm
 subst hn_word
 refine calls [.s name, sl A_word word.length c_word, .u64 now] Tryz.func3 rfl (of_decide_eq_true (by kernel_rfl)) ?_
 refine W_seq <| W_q [] .a qe (by kernel_rfl) ?_
 refine At_go <| W_seq <| W_seq <| W_reg <| WL_op ?_
 obtain ⟨r_, h_r_, hm⟩ := ob hm
 refine Op_call [] 12 _ yd_go4 (by kernel_rfl) (c_l21_awake (F := N0) (O := N0)  (Cx.refl _) _ h_r_) ?_
 rintro e_ w_ ⟨rfl, k_⟩
 have k_1 := k.call k_
 refine ⟨.b r_, rfl, ?_⟩
 refine WLs 1 [] (.n 13 (.b (!r_)) (.s .a)) qe (by kernel_rfl) ?_
 refine WL_nil <| At_go <| W_cond (!r_) (by kernel_rfl) (fun hc => ?_) (fun hc => ?_)
 · rw [if_pos hc] at hm
   refine W_seq <| W_q [] (.n 6 (.b false) .z) qe (by kernel_rfl) ?_
   refine At_go <| W_ret (At_tr ?_)
   obtain rfl := Option.some.inj hm
   refine At_rt [.b false] qe (by kernel_rfl) ?_
   exact ⟨rfl, k_1⟩
 rw [if_neg (by rw [hc]; decide)] at hm
 refine W_skip <| At_go <| W_seq <| W_reg <| WLs 1 [] (.n 14 (.agg [I 0, I 0, I 0, I 0, I 0, I 0, .u64 0, .v (.map none)]) (.s .a)) qe (by kernel_rfl) ?_
 refine WL_op <| Op_box [] 15 (.agg [I 0, I 0, I 0, I 0, I 0, I 0, .u64 0, .v (.map none)]) [I 0, I 0, I 0, I 0, I 0, I 0, .u64 0, .v (.map none)] (by kernel_rfl) k_1 ?_
 intro g w_1 k_2
 refine WL_op <| Op_mk yd_tf31 eQ [] 16 ([(Option.none : Option Addr), (some ⟨g, 0, Option.none⟩ : Option Addr)] : List (Option Addr)) [(0, .v (.pointer none)), (1, pt g 0)] [.v (.pointer none), pt g 0] (by kernel_rfl) (by kernel_rfl) (by kernel_rfl) k_2 ?_
 intro A w_2 k_3
 refine WLs 1 [] (.n 7 (sl A 2 2) (.sss .a)) qe (by kernel_rfl) ?_
 refine WL_nil <| At_go <| W_seq <| W_seq <| W_q [] (.n 17 (sl A 2 2) (.n 18 (I 2) (.n 19 (I 0) (.s .a)))) qe (by kernel_rfl) ?_
 refine At_go <| W_block <| W_un ?_
 refine W_seq <| W_q [] (.n 20 (.b true) .a) qe (by kernel_rfl) ?_
 refine At_go <| W_seq <| W_cond true (by kernel_rfl) (fun _ => ?_) (fun h => by cases h)
 refine W_skip <| At_go <| W_seq <| W_block <| W_seq ?_
 have h : geti ([(Option.none : Option Addr), (some ⟨g, 0, Option.none⟩ : Option Addr)] : List (Option Addr)) (0 : Int) = some (Option.none : Option Addr) := rfl
 refine W_q [] (.n 9 (.v (.pointer none)) (.s .a)) (qJ (E := eQ) (k_3.rd 1 rfl) h (k_3.len 1 rfl) <| qC (.v (.pointer none)) (Rd.el (E := eQ) (k := 0) (k_3.rd 1 rfl) h (Pt.ix1 A (0 : Int) 1) rfl) <| qe) (by kernel_rfl) ?_
 refine At_go <| W_seq <| W_reg <| WLs 2 [] (.n 24 (.v (.pointer none)) (.n 25 (.s name) .a)) qe (by kernel_rfl) ?_
 refine WL_op ?_
 obtain ⟨r_1, h_r_1, hm⟩ := ob hm
 refine Op_call [] 26 _ yd_go5 (by kernel_rfl) (c_pass_Book_Old (F := N0) (O := N0) _ (Cx.refl _) _ h_r_1) ?_
 rintro e_ w_3 ⟨rfl, k_4⟩
 have k_5 := k_3.call k_4
 refine ⟨.tup [.b false, I 7], rfl, ?_⟩
 refine WLs 5 [] (.n 10 (.b false) (.n 11 (I 7) (.sss .a))) qe (by kernel_rfl) ?_
 refine WL_nil <| At_go <| W_seq <| W_seq <| W_reg <| WLs 6 [30] (.n 34 (.b false) (.ss .a)) qe (by kernel_rfl) ?_
 refine WLs 1 [34] (.n 35 (.v (.pointer none)) .a) qe (by kernel_rfl) ?_
 refine WL_op ?_
 have k_6 := k_5.sel (.kk .e)
 obtain ⟨r_2, h_r_2, hm⟩ := ob hm
 refine Op_call [34] 36 _ yd_go6 (by kernel_rfl) (c_pass_Book_Names (F := N0) (O := N0)  (Cx.refl _) _ h_r_2) ?_
 rintro e_ w_4 ⟨A1, _, c, rfl, rfl, k_7⟩
 have k_8 := k_6.call k_7
 refine ⟨sl A1 r_2.length c, rfl, ?_⟩
 refine WLs 4 [34] (.n 40 (.b (decide (((r_2.length : Nat) : Int) ≠ 0))) (.sss .a)) qe (by kernel_rfl) ?_
 refine WL_sp 40 (decide (((r_2.length : Nat) : Int) ≠ 0)) (.s .a) (by kernel_rfl) (fun hg => ?_) (fun hg => ?_)
 · rw [if_pos (of_decide_eq_true hg)] at hm
   refine WLs 4 [40] (.n 44 (.b true) (.s .a)) qe (by kernel_rfl) ?_
   refine WL_nil <| At_go <| W_cond true (by kernel_rfl) (fun _ => ?_) (fun h => by cases h)
   refine W_seq <| W_q [] (.n 6 (.b false) .z) qe (by kernel_rfl) ?_
   refine At_go <| W_ret (At_tr (At_ir (At_tr (At_tr (At_ir (At_tr ?_))))))
   obtain rfl := Option.some.inj hm
   refine At_rt [.b false] qe (by kernel_rfl) ?_
   have k_9 := k_8.sel .z
   exact ⟨rfl, k_9⟩
 · rw [if_neg (of_decide_eq_false hg)] at hm
   refine WLs 1 [40] (.n 41 (.v (.pointer none)) .a) qe (by kernel_rfl) ?_
   refine WL_op ?_
   obtain ⟨r_3, h_r_3, hm⟩ := ob hm
   refine Op_call [40] 42 _ yd_go7 (by kernel_rfl) (c_pass_Book_Text (F := N0) (O := N0)  (Cx.refl _) _ h_r_3) ?_
   rintro e_ w_5 ⟨rfl, k_10⟩
   have k_11 := k_8.call k_10
   refine ⟨.s ([] : List UInt8), rfl, ?_⟩
   have k_12 := k_11.sel (.kk .z)
   refine WLs 2 [40] (.n 44 (.b (decide (([] : List UInt8) ≠ ([] : List UInt8)))) (.sss .a)) qe (by kernel_rfl) ?_
   refine WL_nil <| At_go <| W_condp (([] : List UInt8) ≠ ([] : List UInt8)) (by kernel_rfl) (fun hc1 => ?_) (fun hc1 => ?_)
   · rw [if_pos hc1] at hm
     refine W_seq <| W_q [] (.n 6 (.b false) .z) qe (by kernel_rfl) ?_
     refine At_go <| W_ret (At_tr (At_ir (At_tr (At_tr (At_ir (At_tr ?_))))))
     obtain rfl := Option.some.inj hm
     refine At_rt [.b false] qe (by kernel_rfl) ?_
     have k_13 := k_12.sel .z
     exact ⟨rfl, k_13⟩
   rw [if_neg hc1] at hm
   refine W_skip <| At_go <| W_seq <| W_reg <| WLs 4 [] (.n 45 (.v (.pointer none)) (.n 46 (.s name) (.n 47 (sl A_word word.length c_word) (.n 48 (sl A_word word.length c_word) (.s .a))))) qe (by kernel_rfl) ?_
   refine WL_op ?_
   obtain ⟨r_4, h_r_4, hm⟩ := ob hm
   refine Op_call [] 49 _ yd_go8 (by kernel_rfl) (c_pass_Book_Add (F := N0) (O := N0) _ _ _ _ _ _ _ _ _ (Ro.n0 (h_word.cx k_12)) rfl hc_word (Ro.n0 (h_word.cx k_12)) rfl hc_word (Cx.refl _) _ h_r_4) ?_
   rintro e_ w_6 ⟨rfl, k_14⟩
   have k_15 := k_12.call k_14
   refine ⟨I 7, rfl, ?_⟩
   refine WLs 2 [] (.n 51 (.b false) (.ssss (.s .a))) qe (by kernel_rfl) ?_
   refine WLs 4 [51] (.n 52 (.v (.pointer none)) (.n 53 (.s name) (.n 54 (sl A_word word.length c_word) (.n 55 (.u64 now) .a)))) qe (by kernel_rfl) ?_
   refine WL_op ?_
   obtain ⟨r_5, h_r_5, hm⟩ := ob hm
   refine Op_call [51] 56 _ yd_go9 (by kernel_rfl) (c_pass_Book_Login (F := N0) (O := N0) _ _ _ _ _ _ (Ro.n0 (h_word.cx k_15)) rfl hc_word (Cx.refl _) _ h_r_5) ?_
   rintro e_ w_7 ⟨rfl, k_16⟩
   have k_17 := k_15.call k_16
   refine ⟨I 7, rfl, ?_⟩
   refine WLs 3 [51] (.n 59 (.b false) (.ssss (.ss .a))) qe (by kernel_rfl) ?_
   refine WLs 6 [59] (.n 60 (.v (.pointer none)) (.n 61 (.s name) (.n 62 (sl A_word word.length c_word) (.n 63 (sl A_word word.length c_word) (.n 64 (sl A_word word.length c_word) (.n 65 (.u64 now) .a)))))) qe (by kernel_rfl) ?_
   refine WL_op ?_
   have k_18 := k_17.sel (.kk .e)
   obtain ⟨r_6, h_r_6, hm⟩ := ob hm
   refine Op_call [59] 66 _ yd_go10 (by kernel_rfl) (c_pass_Book_Change (F := N0) (O := N0) _ _ _ _ _ _ _ _ _ _ _ _ _ _ (Ro.n0 (h_word.cx k_18)) rfl hc_word (Ro.n0 (h_word.cx k_18)) rfl hc_word (Ro.n0 (h_word.cx k_18)) rfl hc_word (Cx.refl _) _ h_r_6) ?_
   rintro e_ w_8 ⟨rfl, k_19⟩
   have k_20 := k_18.call k_19
   refine ⟨I 7, rfl, ?_⟩
   refine WLs 3 [59] (.n 69 (.b false) (.ssss (.ssss .a))) qe (by kernel_rfl) ?_
   refine WLs 2 [69] (.n 70 (.v (.pointer none)) (.n 71 (.s name) (.k (.s .a)))) qe (by kernel_rfl) ?_
   refine WL_op ?_
   obtain ⟨r_7, h_r_7, hm⟩ := ob hm
   refine Op_call [69] 72 _ yd_go11 (by kernel_rfl) (c_pass_Book_Remove (F := N0) (O := N0) _ (Cx.refl _) _ h_r_7) ?_
   rintro e_ w_9 ⟨rfl, k_21⟩
   have k_22 := k_20.call k_21
   refine ⟨I 7, rfl, ?_⟩
   refine WLs 2 [69] (.n 74 (.b false) (.ssss .a)) qe (by kernel_rfl) ?_
   refine WL_nil <| At_go <| W_cond false (by kernel_rfl) (fun h => by cases h) (fun _ => ?_)
   refine W_skip <| At_in <| At_go <| W_q [] (.n 19 (I 1) (.s (.kk (.s .a)))) qe (by kernel_rfl) ?_
   refine At_un ?_
   refine W_seq <| W_q [] (.n 20 (.b true) .a) qe (by kernel_rfl) ?_
   refine At_go <| W_seq <| W_cond true (by kernel_rfl) (fun _ => ?_) (fun h => by cases h)
   refine W_skip <| At_go <| W_seq <| W_block <| W_seq ?_
   have h1 : geti ([(Option.none : Option Addr), (some ⟨g, 0, Option.none⟩ : Option Addr)] : List (Option Addr)) (1 : Int) = some (some ⟨g, 0, Option.none⟩ : Option Addr) := rfl
   refine W_q [] (.n 9 (pt g 0) (.s .a)) (qJ (E := eQ) (k_22.rd 1 rfl) h1 (k_22.len 1 rfl) <| qC (pt g 0) (Rd.el (E := eQ) (k := 0) (k_22.rd 1 rfl) h1 (Pt.ix1 A (1 : Int) 1) rfl) <| qe) (by kernel_rfl) ?_
   refine At_go <| W_seq <| W_reg <| WLs 2 [] (.n 24 (pt g 0) (.n 25 (.s name) .a)) qe (by kernel_rfl) ?_
   refine WL_op ?_
   obtain ⟨r_8, h_r_8, hm⟩ := ob hm
   obtain ⟨F1, O1, kin, hO, hre, hF, hb⟩ := k_22.go (.i (.r .e))
   refine Op_call [] 26 _ yd_go5 (by kernel_rfl) (c_pass_Book_Old_s1 (F := F1) (O := O1) _ _ _ _ _ _ _ _ _ kin _ h_r_8) ?_
   rintro e_ w_10 ⟨rfl, k_23⟩
   have k_24 := hb w_10 _ _ k_23 (.c .n)
   refine ⟨.tup [.b false, I 7], rfl, ?_⟩
   refine WLs 5 [] (.n 10 (.b false) (.n 11 (I 7) (.sss .a))) qe (by kernel_rfl) ?_
   refine WL_nil <| At_go <| W_seq <| W_seq <| W_reg <| WLs 6 [30] (.n 34 (.b false) (.ss .a)) qe (by kernel_rfl) ?_
   refine WLs 1 [34] (.n 35 (pt g 0) .a) qe (by kernel_rfl) ?_
   refine WL_op ?_
   obtain ⟨r_9, h_r_9, hm⟩ := ob hm
   obtain ⟨F11, O11, kin1, hO1, hre1, hF1, hb1⟩ := k_24.go (.i (.r .e))
   refine Op_call [34] 36 _ yd_go6 (by kernel_rfl) (c_pass_Book_Names_s1 (F := F11) (O := O11) _ _ _ _ _ _ _ _ kin1 _ h_r_9) ?_
   rintro e_ w_11 ⟨A2, _, c1, rfl, rfl, k_25⟩
   have k_26 := hb1 w_11 _ _ k_25 (.c (.c .n))
   refine ⟨sl A2 r_9.1.length c1, rfl, ?_⟩
   refine WLs 4 [34] (.n 40 (.b (decide (((r_9.1.length : Nat) : Int) ≠ 0))) (.sss .a)) qe (by kernel_rfl) ?_
   refine WL_sp 40 (decide (((r_9.1.length : Nat) : Int) ≠ 0)) (.s .a) (by kernel_rfl) (fun hg1 => ?_) (fun hg1 => ?_)
   · rw [if_pos (of_decide_eq_true hg1)] at hm
     refine WLs 4 [40] (.n 44 (.b true) (.s .a)) qe (by kernel_rfl) ?_
     refine WL_nil <| At_go <| W_cond true (by kernel_rfl) (fun _ => ?_) (fun h => by cases h)
     refine W_seq <| W_q [] (.n 6 (.b false) .z) qe (by kernel_rfl) ?_
     refine At_go <| W_ret (At_tr (At_ir (At_tr (At_tr (At_ir (At_tr ?_))))))
     obtain rfl := Option.some.inj hm
     refine At_rt [.b false] qe (by kernel_rfl) ?_
     have k_27 := k_26.sel .z
     exact ⟨rfl, k_27⟩
   · rw [if_neg (of_decide_eq_false hg1)] at hm
     refine WLs 1 [40] (.n 41 (pt g 0) .a) qe (by kernel_rfl) ?_
     refine WL_op ?_
     have k_28 := k_26.sel (.kk (.k .e))
     obtain ⟨r_10, h_r_10, hm⟩ := ob hm
     obtain ⟨F12, O12, kin2, hO2, hre2, hF2, hb2⟩ := k_28.go (.r (.i (.r .e)))
     refine Op_call [40] 42 _ yd_go7 (by kernel_rfl) (c_pass_Book_Text_s1 (F := F12) (O := O12) _ _ _ _ _ _ _ _ kin2 _ h_r_10) ?_
     rintro e_ w_12 ⟨rfl, k_29⟩
     have k_30 := hb2 w_12 _ _ k_29 (.c .n)
     refine ⟨.s ([] : List UInt8), rfl, ?_⟩
     have k_31 := k_30.sel (.k (.s (.k .e)))
     refine WLs 2 [40] (.n 44 (.b (decide (([] : List UInt8) ≠ ([] : List UInt8)))) (.sss .a)) qe (by kernel_rfl) ?_
     refine WL_nil <| At_go <| W_condp (([] : List UInt8) ≠ ([] : List UInt8)) (by kernel_rfl) (fun hc2 => ?_) (fun hc2 => ?_)
     · rw [if_pos hc2] at hm
       refine W_seq <| W_q [] (.n 6 (.b false) .z) qe (by kernel_rfl) ?_
       refine At_go <| W_ret (At_tr (At_ir (At_tr (At_tr (At_ir (At_tr ?_))))))
       obtain rfl := Option.some.inj hm
       refine At_rt [.b false] qe (by kernel_rfl) ?_
       have k_32 := k_31.sel .z
       exact ⟨rfl, k_32⟩
     rw [if_neg hc2] at hm
     refine W_skip <| At_go <| W_seq <| W_reg <| WLs 4 [] (.n 45 (pt g 0) (.n 46 (.s name) (.n 47 (sl A_word word.length c_word) (.n 48 (sl A_word word.length c_word) (.s .a))))) qe (by kernel_rfl) ?_
     refine WL_op ?_
     obtain ⟨r_11, h_r_11, hm⟩ := ob hm
     obtain ⟨F13, O13, kin3, hO3, hre3, hF3, hb3⟩ := k_31.go (.i (.r .e))
     refine Op_call [] 49 _ yd_go8 (by kernel_rfl) (c_pass_Book_Add_s1 (F := F13) (O := O13) _ _ _ _ _ _ _ _ _ _ _ _ _ _ _ _ _ (Ro.of_old h_word k_31 hF3) rfl hc_word (Ro.of_old h_word k_31 hF3) rfl hc_word kin3 _ h_r_11) ?_
     rintro e_ w_13 ⟨rfl, k_33⟩
     have k_34 := hb3 w_13 _ _ k_33 (.c .n)
     refine ⟨I 7, rfl, ?_⟩
     refine WLs 2 [] (.n 51 (.b false) (.ssss (.s .a))) qe (by kernel_rfl) ?_
     refine WLs 4 [51] (.n 52 (pt g 0) (.n 53 (.s name) (.n 54 (sl A_word word.length c_word) (.n 55 (.u64 now) .a)))) qe (by kernel_rfl) ?_
     refine WL_op ?_
     obtain ⟨r_12, h_r_12, hm⟩ := ob hm
     obtain ⟨F14, O14, kin4, hO4, hre4, hF4, hb4⟩ := k_34.go (.i (.r .e))
     refine Op_call [51] 56 _ yd_go9 (by kernel_rfl) (c_pass_Book_Login_s1 (F := F14) (O := O14) _ _ _ _ _ _ _ _ _ _ _ _ _ _ (Ro.of_old h_word k_34 hF4) rfl hc_word kin4 _ h_r_12) ?_
     rintro e_ w_14 ⟨rfl, k_35⟩
     have k_36 := hb4 w_14 _ _ k_35 (.c .n)
     refine ⟨I 7, rfl, ?_⟩
     refine WLs 3 [51] (.n 59 (.b false) (.ssss (.ss .a))) qe (by kernel_rfl) ?_
     refine WLs 6 [59] (.n 60 (pt g 0) (.n 61 (.s name) (.n 62 (sl A_word word.length c_word) (.n 63 (sl A_word word.length c_word) (.n 64 (sl A_word word.length c_word) (.n 65 (.u64 now) .a)))))) qe (by kernel_rfl) ?_
     refine WL_op ?_
     obtain ⟨r_13, h_r_13, hm⟩ := ob hm
     obtain ⟨F15, O15, kin5, hO5, hre5, hF5, hb5⟩ := k_36.go (.i (.r .e))
     refine Op_call [59] 66 _ yd_go10 (by kernel_rfl) (c_pass_Book_Change_s1 (F := F15) (O := O15) _ _ _ _ _ _ _ _ _ _ _ _ _ _ _ _ _ _ _ _ _ _ (Ro.of_old h_word k_36 hF5) rfl hc_word (Ro.of_old h_word k_36 hF5) rfl hc_word (Ro.of_old h_word k_36 hF5) rfl hc_word kin5 _ h_r_13) ?_
     rintro e_ w_15 ⟨rfl, k_37⟩
     have k_38 := hb5 w_15 _ _ k_37 (.c .n)
     refine ⟨I 7, rfl, ?_⟩
     refine WLs 3 [59] (.n 69 (.b false) (.ssss (.ssss .a))) qe (by kernel_rfl) ?_
     refine WLs 2 [69] (.n 70 (pt g 0) (.n 71 (.s name) (.k (.s .a)))) qe (by kernel_rfl) ?_
     refine WL_op ?_
     have k_39 := k_38.sel (.kk .e)
     obtain ⟨r_14, h_r_14, hm⟩ := ob hm
     obtain ⟨F16, O16, kin6, hO6, hre6, hF6, hb6⟩ := k_39.go (.i (.r .e))
     refine Op_call [69] 72 _ yd_go11 (by kernel_rfl) (c_pass_Book_Remove_s1 (F := F16) (O := O16) _ _ _ _ _ _ _ _ _ kin6 _ h_r_14) ?_
     rintro e_ w_16 ⟨rfl, k_40⟩
     have k_41 := hb6 w_16 _ _ k_40 (.c .n)
     refine ⟨I 7, rfl, ?_⟩
     refine WLs 2 [69] (.n 74 (.b false) (.ssss .a)) qe (by kernel_rfl) ?_
     refine WL_nil <| At_go <| W_cond false (by kernel_rfl) (fun h => by cases h) (fun _ => ?_)
     refine W_skip <| At_in <| At_go <| W_q [] (.n 19 (I 2) (.ss .a)) qe (by kernel_rfl) ?_
     refine At_un ?_
     refine W_seq <| W_q [] (.n 20 (.b false) .a) qe (by kernel_rfl) ?_
     refine At_go <| W_seq <| W_cond false (by kernel_rfl) (fun h => by cases h) (fun _ => ?_)
     refine W_exit (At_te (At_te (At_ie ?_)))
     refine At_go <| W_seq <| W_q [] (.n 6 (.b true) .z) qe (by kernel_rfl) ?_
     refine At_go <| W_ret ?_
     obtain rfl := Option.some.inj hm
     refine At_rt [.b true] qe (by kernel_rfl) ?_
     have k_42 := k_41.sel .z
     exact ⟨rfl, k_42⟩
end Go.Sx
