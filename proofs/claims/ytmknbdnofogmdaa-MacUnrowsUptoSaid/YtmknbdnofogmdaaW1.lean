import Derived.Test.YtmknbdnofogmdaaMM
import Derived.Test.YtmknbdnofogmdaaSyR
import Derived.Test.YtmknbdnofogmdaaProg
namespace Go.Sx
open Go.RowKit Go.Proofs
set_option linter.unusedVariables false
set_option linter.unusedSimpArgs false
set_option maxRecDepth 20000
theorem yt_go10 : IsGo Try.prog 10 := ⟨⟨Try.f10, _, Try.func10, rfl, by kernel_rfl⟩⟩
theorem yt_go11 : IsGo Try.prog 11 := ⟨⟨Try.f11, _, Try.func11, rfl, by kernel_rfl⟩⟩
theorem yt_go12 : IsGo Try.prog 12 := ⟨⟨Try.f12, _, Try.func12, rfl, by kernel_rfl⟩⟩
theorem yt_go13 : IsGo Try.prog 13 := ⟨⟨Try.f13, _, Try.func13, rfl, by kernel_rfl⟩⟩
theorem yt_go14 : IsGo Try.prog 14 := ⟨⟨Try.f14, _, Try.func14, rfl, by kernel_rfl⟩⟩
theorem yt_go15 : IsGo Try.prog 15 := ⟨⟨Try.f15, _, Try.func15, rfl, by kernel_rfl⟩⟩
theorem yt_go32 : IsGo Try.prog 32 := ⟨⟨Try.f32, _, Try.func32, rfl, by kernel_rfl⟩⟩
theorem yt_go33 : IsGo Try.prog 33 := ⟨⟨Try.f33, _, Try.func33, rfl, by kernel_rfl⟩⟩
theorem yt_go48 : IsGo Try.prog 48 := ⟨⟨Try.f48, _, Try.func48, rfl, by kernel_rfl⟩⟩
theorem yt_tf22 : TF Try.prog 22 5 [.int .u8 0] 1 := ⟨by kernel_rfl, by kernel_rfl, by decide, by decide⟩
theorem yt_tf24 : TF Try.prog 24 22 [.slice none 0 0] 24 := ⟨by kernel_rfl, by kernel_rfl, by decide, by decide⟩
theorem yt_mixed : Try.prog.follows .mixedOrders = true := by kernel_rfl

-- quern/quernlaw06.wide
theorem c_l06_wide {F O : Nat → Prop} {w : World} (b : List UInt8) (A_b : Option Addr) (n_b : Nat) (c_b : Nat) (h_b : Ro F w A_b (e8.all b)) (hn_b : b.length = n_b) (hc_b : n_b ≤ c_b) (k : Cx F O w w []) (r : (List UInt8)) (hm : m_l06_wide b = some r) :
    Calls Try.prog 10 (vals [sl A_b n_b c_b]) w (fun e w' => ∃ A n c, r.length = n ∧ e = .returned (SV.val (sl A n c)) ∧ Cx F O w w' [Ow e8 A n c r]) := by
 unfold m_l06_wide at hm
 subst hn_b
 refine calls [sl A_b b.length c_b] Try.func10 rfl (of_decide_eq_true (by kernel_rfl)) ?_
 refine W_seq <| W_q [] .a qe (by kernel_rfl) ?_
 refine At_go <| W_seq <| W_q [] (.n 3 (sl none 0 0) .a) qe (by kernel_rfl) ?_
 refine At_go <| W_seq <| W_reg <| WLs 2 [] (.n 5 (sl none 0 0) (.n 6 (sl A_b b.length c_b) (.k .z))) qe (by kernel_rfl) ?_
 refine WL_op ?_
 have k_ := k.nil e8
 obtain ⟨out, h_out, hm⟩ := ob hm
 obtain ⟨hz, hl⟩ := app_some h_out
 refine Op_append (E := e8) (v := sl A_b b.length c_b) (ys := b) yt_tf22 [] 7 0 (by kernel_rfl) k_ rfl (Src.sl (h_b.cx k_) rfl (by rfl)) rfl (by have := k_.len 0 rfl; have := hm; omega) ?_
 intro A0 c0 w_ k_1
 rw [← hl] at k_1
 refine WLs 1 [] (.n 3 (sl A0 (0 + b.length) c0) .z) qe (by kernel_rfl) ?_
 refine WL_nil <| At_go <| W_seq <| W_seq <| W_q [] (.n 4 (I 0) .a) qe (by kernel_rfl) ?_
 refine At_go <| W_block <| W_lp (m_l06_wide_l0) (fun s L wr => ∃ (out1 : List UInt8) (i : Int) (A1 : Option Addr) (n0 : Nat) (c1 : Nat), (out1, i) = s ∧ L = [(3, sl A1 n0 c1), (4, I i)] ∧ out1.length = n0 ∧ Cx F O w wr [Ow e8 A1 n0 c1 out1]) (out, (0 : Int)) r hm ⟨out, (0 : Int), A0, 0 + b.length, c0, rfl, rfl, k_1.len 0 rfl, k_1⟩ (by kernel_rfl) ?_
 intro s0_ L_ w_1 y0 hrel hstep hr0
 obtain ⟨out1, i, A1, _, c1, rfl, rfl, rfl, k_2⟩ := hrel
 have hm := hstep; simp only [m_l06_wide_l0] at hm
 clear hstep
 refine W_seq <| W_seq <| W_q [] (.n 9 (.b (decide (i < 70))) .a) qe (by kernel_rfl) ?_
 refine At_go <| W_condp (i < 70) (by kernel_rfl) (fun hc => ?_) (fun hc => ?_)
 · rw [if_pos hc] at hm
   refine W_skip <| At_go <| W_seq <| W_block <| W_reg <| WLs 5 [] (.n 12 (sl A1 out1.length c1) (.n 16 (.u8 (UInt8.ofInt (w64 (200 + (Int.tmod i 7))))) (.s .a))) (qp ((7 : Int) ≠ (0 : Int)) (by omega) <| qe) (by kernel_rfl) ?_
   refine WL_op <| Op_mk yt_tf22 e8 [] 17 ([UInt8.ofInt (w64 (200 + (Int.tmod i 7)))] : List UInt8) [(0, .u8 (UInt8.ofInt (w64 (200 + (Int.tmod i 7)))))] [.u8 (UInt8.ofInt (w64 (200 + (Int.tmod i 7))))] (by kernel_rfl) (by kernel_rfl) (by kernel_rfl) k_2 ?_
   intro A2 w_2 k_3
   refine WL_op ?_
   obtain ⟨out2, h_out2, hm⟩ := ob hm
   obtain ⟨hz1, hl1⟩ := app_some h_out2
   refine Op_append (E := e8) (v := sl A2 1 1) (ys := ([UInt8.ofInt (w64 (200 + (Int.tmod i 7)))] : List UInt8)) yt_tf22 [] 18 0 (by kernel_rfl) k_3 rfl (Src.sl (k_3.rd 1 rfl) (k_3.len 1 rfl) (by rfl)) (k_3.len 1 rfl) (by have := k_3.len 0 rfl; have := (k_3.len 1 rfl); omega) ?_
   intro A3 c2 w_3 k_4
   rw [← hl1] at k_4
   have k_5 := k_4.sel (.k .z)
   refine WLs 1 [] (.n 3 (sl A3 (out1.length + 1) c2) (.ssss (.s .a))) qe (by kernel_rfl) ?_
   refine WL_nil <| At_in <| At_go <| W_q [] (.n 4 (I (w64 (i + 1))) (.k .z)) qe (by kernel_rfl) ?_
   exact At_rd (out2, w64 (i + 1)) (Option.some.inj hm).symm ⟨out2, w64 (i + 1), A3, out1.length + 1, c2, rfl, rfl, k_5.len 0 rfl, k_5⟩ (by kernel_rfl)
 rw [if_neg hc] at hm
 refine W_exit (At_te (At_te (At_ie ?_)))
 have hm := exit_of hm hr0
 refine At_go <| W_seq <| W_q [] (.n 2 (sl A1 out1.length c1) .z) qe (by kernel_rfl) ?_
 refine At_go <| W_ret ?_
 obtain rfl := Option.some.inj hm
 refine At_rt [sl A1 out1.length c1] qe (by kernel_rfl) ?_
 exact ⟨A1, out1.length, c1, k_2.len 0 rfl, rfl, k_2⟩

-- quern/word.load
theorem c_word_load {F O : Nat → Prop} {w : World} (b : List UInt8) (at_ : Int) (n : Int) (A_b : Option Addr) (n_b : Nat) (c_b : Nat) (h_b : Ro F w A_b (e8.all b)) (hn_b : b.length = n_b) (hc_b : n_b ≤ c_b) (k : Cx F O w w []) (r : (UInt64 × Int)) (hm : m_word_load b at_ n = some r) :
    Calls Try.prog 48 (vals [sl A_b n_b c_b, I at_, I n]) w (fun e w' => e = .returned (SV.val (.tup [.u64 r.1, I r.2])) ∧ Cx F O w w' []) := by
 unfold m_word_load at hm
 subst hn_b
 refine calls [sl A_b b.length c_b, I at_, I n] Try.func48 rfl (of_decide_eq_true (by kernel_rfl)) ?_
 refine W_seq <| W_q [] .a qe (by kernel_rfl) ?_
 refine At_go <| W_seq <| W_seq <| W_q [] (.n 11 (.b (decide (at_ < 0))) .a) qe (by kernel_rfl) ?_
 refine At_go <| W_condp (at_ < 0) (by kernel_rfl) (fun hc => ?_) (fun hc => ?_)
 · rw [if_pos hc] at hm
   refine W_seq <| W_q [] (.n 6 (.u64 0) (.n 7 (I 1) .z)) qe (by kernel_rfl) ?_
   refine At_go <| W_ret (At_tr ?_)
   obtain rfl := Option.some.inj hm
   refine At_rt [.u64 0, I 1] qe (by kernel_rfl) ?_
   exact ⟨rfl, k⟩
 rw [if_neg hc] at hm
 refine W_skip <| At_go <| W_seq <| W_seq <| W_q [] (.n 23 (.b ((decide (((b.length : Nat) : Int) < at_)) || (decide ((w64 (((b.length : Nat) : Int) - at_)) < n)))) (.s .a)) qe (by kernel_rfl) ?_
 refine At_go <| W_cond ((decide (((b.length : Nat) : Int) < at_)) || (decide ((w64 (((b.length : Nat) : Int) - at_)) < n))) (by kernel_rfl) (fun hc1 => ?_) (fun hc1 => ?_)
 · rw [if_pos hc1] at hm
   refine W_seq <| W_q [] (.n 6 (.u64 0) (.n 7 (I 3) .z)) qe (by kernel_rfl) ?_
   refine At_go <| W_ret (At_tr ?_)
   obtain rfl := Option.some.inj hm
   refine At_rt [.u64 0, I 3] qe (by kernel_rfl) ?_
   exact ⟨rfl, k⟩
 rw [if_neg (by rw [hc1]; decide)] at hm
 refine W_skip <| At_go <| W_seq <| W_q [] (.n 8 (.u64 0) (.s .a)) qe (by kernel_rfl) ?_
 refine At_go <| W_seq <| W_seq <| W_q [] (.n 24 (I n) (.n 25 (I 0) (.kkk .z))) qe (by kernel_rfl) ?_
 refine At_go <| W_block <| W_lp (m_word_load_l0 b at_ n) (fun s L wr => ∃ (w_ : UInt64) (x_0 : Int), (w_, x_0) = s ∧ L = [(0, sl A_b b.length c_b), (1, I at_), (8, .u64 w_), (24, I n), (25, I x_0)] ∧ Cx F O w wr []) ((0 : UInt64), (0 : Int)) r hm ⟨(0 : UInt64), (0 : Int), rfl, rfl, k⟩ (by kernel_rfl) ?_
 intro s0_ L_ w_1 y0 hrel hstep hr0
 obtain ⟨w_, x_0, rfl, rfl, k_⟩ := hrel
 have hm := hstep; simp only [m_word_load_l0] at hm
 clear hstep
 refine W_seq <| W_q [] (.n 26 (.b (decide (x_0 < n))) .a) qe (by kernel_rfl) ?_
 refine At_go <| W_seq <| W_condp (x_0 < n) (by kernel_rfl) (fun hc2 => ?_) (fun hc2 => ?_)
 · rw [if_pos hc2] at hm
   refine W_skip <| At_go <| W_seq <| W_block <| W_seq <| W_q [] (.n 9 (I x_0) (.s .a)) qe (by kernel_rfl) ?_
   refine At_go ?_
   obtain ⟨x_2, h_x_2, hm⟩ := ob hm
   obtain ⟨u, h_u, hm⟩ := ob hm
   refine W_q [] (.n 8 (.u64 (w_ ||| (shl64 (UInt64.ofNat x_2.toNat) (Int.toNat (w64 (8 * x_0)))))) (.s (.kk (.s .a)))) (qW (h_b.cx k_) h_x_2 rfl (.u8 x_2) rfl <| qp (0 ≤ w64 (8 * x_0)) (need_some h_u) <| qe) (by kernel_rfl) ?_
   refine At_in <| At_go <| W_q [] (.n 25 (I (w64 (x_0 + 1))) (.kkkk .z)) qe (by kernel_rfl) ?_
   exact At_rd (w_ ||| (shl64 (UInt64.ofNat x_2.toNat) (Int.toNat (w64 (8 * x_0)))), w64 (x_0 + 1)) (Option.some.inj hm).symm ⟨w_ ||| (shl64 (UInt64.ofNat x_2.toNat) (Int.toNat (w64 (8 * x_0)))), w64 (x_0 + 1), rfl, rfl, k_⟩ (by kernel_rfl)
 rw [if_neg hc2] at hm
 refine W_exit (At_te (At_te (At_ie ?_)))
 have hm := exit_of hm hr0
 refine At_go <| W_seq <| W_q [] (.n 6 (.u64 w_) (.n 7 (I 0) .z)) qe (by kernel_rfl) ?_
 refine At_go <| W_ret ?_
 obtain rfl := Option.some.inj hm
 refine At_rt [.u64 w_, I 0] qe (by kernel_rfl) ?_
 exact ⟨rfl, k_⟩

-- quern/word.Load64
theorem c_word_Load64 {F O : Nat → Prop} {w : World} (b : List UInt8) (at_ : Int) (A_b : Option Addr) (n_b : Nat) (c_b : Nat) (h_b : Ro F w A_b (e8.all b)) (hn_b : b.length = n_b) (hc_b : n_b ≤ c_b) (k : Cx F O w w []) (r : (UInt64 × Int)) (hm : m_word_Load64 b at_ = some r) :
    Calls Try.prog 32 (vals [sl A_b n_b c_b, I at_]) w (fun e w' => e = .returned (SV.val (.tup [.u64 r.1, I r.2])) ∧ Cx F O w w' []) := by
 unfold m_word_Load64 at hm
 subst hn_b
 refine calls [sl A_b b.length c_b, I at_] Try.func32 rfl (of_decide_eq_true (by kernel_rfl)) ?_
 refine W_seq <| W_q [] .a qe (by kernel_rfl) ?_
 refine At_go <| W_seq <| W_reg <| WLs 2 [] (.n 6 (sl A_b b.length c_b) (.n 7 (I at_) .z)) qe (by kernel_rfl) ?_
 refine WL_op ?_
 obtain ⟨r_, h_r_, hm⟩ := ob hm
 refine Op_call [] 8 _ yt_go48 (by kernel_rfl) (c_word_load (F := N0) (O := N0) _ _ _ _ _ _ (Ro.n0 (h_b.cx k)) rfl hc_b (Cx.refl _) _ h_r_) ?_
 rintro e_ w_ ⟨rfl, k_⟩
 have k_1 := k.call k_
 refine ⟨.tup [.u64 r_.1, I r_.2], rfl, ?_⟩
 refine WLs 4 [] (.n 4 (.u64 r_.1) (.n 5 (I r_.2) .z)) qe (by kernel_rfl) ?_
 refine WL_nil <| At_go <| W_ret ?_
 obtain rfl := Option.some.inj hm
 refine At_rt [.u64 r_.1, I r_.2] qe (by kernel_rfl) ?_
 exact ⟨rfl, k_1⟩

-- quern/mac.Unrow
theorem c_mac_Unrow {F O : Nat → Prop} {w : World} (b : List UInt8) (A_b : Option Addr) (n_b : Nat) (c_b : Nat) (h_b : Ro F w A_b (e8.all b)) (hn_b : b.length = n_b) (hc_b : n_b ≤ c_b) (k : Cx F O w w []) (r : (List (List UInt8) × Int × Int)) (hm : m_mac_Unrow b = some r) :
    Calls Try.prog 11 (vals [sl A_b n_b c_b]) w (fun e w' => ∃ A n c hd, r.1.length = n ∧ e = .returned (SV.val (.tup [sl A n c, I r.2.1, I r.2.2])) ∧ Cx F O w w' [O2 e8 A n c hd r.1]) := by
 unfold m_mac_Unrow at hm
 subst hn_b
 refine calls [sl A_b b.length c_b] Try.func11 rfl (of_decide_eq_true (by kernel_rfl)) ?_
 refine W_seq <| W_q [] .a qe (by kernel_rfl) ?_
 refine At_go <| W_seq <| W_seq <| W_q [] (.n 11 (.b (decide (16777216 < ((b.length : Nat) : Int)))) .a) qe (by kernel_rfl) ?_
 refine At_go <| W_condp (16777216 < ((b.length : Nat) : Int)) (by kernel_rfl) (fun hc => ?_) (fun hc => ?_)
 · rw [if_pos hc] at hm
   refine W_seq <| W_q [] (.n 2 (sl none 0 0) (.n 3 (I 0) (.n 4 (I 2) .z))) qe (by kernel_rfl) ?_
   refine At_go <| W_ret (At_tr ?_)
   have k_ := k.nil2 e8
   obtain rfl := Option.some.inj hm
   refine At_rt [sl none 0 0, I 0, I 2] qe (by kernel_rfl) ?_
   exact ⟨none, 0, 0, ([] : List Hd), k_.len2 0 rfl, rfl, k_⟩
 rw [if_neg hc] at hm
 refine W_skip <| At_go <| W_seq <| W_q [] (.n 5 (sl none 0 0) (.s .a)) qe (by kernel_rfl) ?_
 refine At_go <| W_seq <| W_seq <| W_q [] (.n 6 (I 0) .a) qe (by kernel_rfl) ?_
 refine At_go <| W_block ?_
 have k_2 := k.nil2 e8
 refine W_lp (m_mac_Unrow_l0 b) (fun s L wr => ∃ (parts : List (List UInt8)) (at_ : Int) (A0 : Option Addr) (n0 : Nat) (c0 : Nat) (hd0 : List Hd), (parts, at_) = s ∧ L = [(0, sl A_b b.length c_b), (5, sl A0 n0 c0), (6, I at_)] ∧ parts.length = n0 ∧ Cx F O w wr [O2 e8 A0 n0 c0 hd0 parts]) (([] : List (List UInt8)), (0 : Int)) r hm ⟨([] : List (List UInt8)), (0 : Int), none, 0, 0, ([] : List Hd), rfl, rfl, k_2.len2 0 rfl, k_2⟩ (by kernel_rfl) ?_
 intro s0_ L_ w_ y0 hrel hstep hr0
 obtain ⟨parts, at_, A0, _, c0, hd0, rfl, rfl, rfl, k_1⟩ := hrel
 have hm := hstep; simp only [m_mac_Unrow_l0] at hm
 clear hstep
 refine W_seq <| W_seq <| W_q [] (.n 15 (.b (decide (at_ < ((b.length : Nat) : Int)))) .a) qe (by kernel_rfl) ?_
 refine At_go <| W_condp (at_ < ((b.length : Nat) : Int)) (by kernel_rfl) (fun hc1 => ?_) (fun hc1 => ?_)
 · rw [if_pos hc1] at hm
   refine W_skip <| At_go <| W_block <| W_seq <| W_reg <| WLs 2 [] (.n 17 (sl A_b b.length c_b) (.n 18 (I at_) (.s .a))) qe (by kernel_rfl) ?_
   refine WL_op ?_
   obtain ⟨r_, h_r_, hm⟩ := ob hm
   refine Op_call [] 19 _ yt_go32 (by kernel_rfl) (c_word_Load64 (F := N0) (O := N0) _ _ _ _ _ (Ro.n0 (h_b.cx k_1)) rfl hc_b (Cx.refl _) _ h_r_) ?_
   rintro e_ w_1 ⟨rfl, k_3⟩
   have k_4 := k_1.call k_3
   refine ⟨.tup [.u64 r_.1, I r_.2], rfl, ?_⟩
   refine WLs 5 [] (.n 7 (.u64 r_.1) (.n 8 (I r_.2) (.sss .a))) qe (by kernel_rfl) ?_
   refine WL_nil <| At_go <| W_seq <| W_seq <| W_q [] (.n 23 (.b (decide (r_.2 ≠ 0))) (.k (.s .a))) qe (by kernel_rfl) ?_
   refine At_go <| W_condp (r_.2 ≠ 0) (by kernel_rfl) (fun hc2 => ?_) (fun hc2 => ?_)
   · rw [if_pos hc2] at hm
     refine W_seq <| W_q [] (.n 2 (sl none 0 0) (.n 3 (I at_) (.n 4 (I 4) .z))) qe (by kernel_rfl) ?_
     refine At_go <| W_ret (At_tr (At_ir (At_tr (At_ir (At_tr ?_)))))
     have hm := exit_of hm hr0
     have k_5 := k_4.nil2 e8
     obtain rfl := Option.some.inj hm
     refine At_rt [sl none 0 0, I at_, I 4] qe (by kernel_rfl) ?_
     have k_6 := k_5.sel (.s (.k .e))
     exact ⟨none, 0, 0, ([] : List Hd), k_6.len2 0 rfl, rfl, k_6⟩
   rw [if_neg hc2] at hm
   refine W_skip <| At_go <| W_seq <| W_q [] (.n 6 (I (w64 (at_ + 8))) (.s (.kkk .z))) qe (by kernel_rfl) ?_
   refine At_go <| W_seq <| W_seq <| W_q [] (.n 33 (.b (decide ((UInt64.ofInt (w64 (((b.length : Nat) : Int) - (w64 (at_ + 8))))) < r_.1))) .a) qe (by kernel_rfl) ?_
   refine At_go <| W_condp ((UInt64.ofInt (w64 (((b.length : Nat) : Int) - (w64 (at_ + 8))))) < r_.1) (by kernel_rfl) (fun hc3 => ?_) (fun hc3 => ?_)
   · rw [if_pos hc3] at hm
     refine W_seq <| W_q [] (.n 2 (sl none 0 0) (.n 3 (I (w64 (at_ + 8))) (.n 4 (I 4) .z))) qe (by kernel_rfl) ?_
     refine At_go <| W_ret (At_tr (At_ir (At_tr (At_ir (At_tr ?_)))))
     have hm := exit_of hm hr0
     have k_7 := k_4.nil2 e8
     obtain rfl := Option.some.inj hm
     refine At_rt [sl none 0 0, I (w64 (at_ + 8)), I 4] qe (by kernel_rfl) ?_
     have k_8 := k_7.sel (.s (.k .e))
     exact ⟨none, 0, 0, ([] : List Hd), k_8.len2 0 rfl, rfl, k_8⟩
   rw [if_neg hc3] at hm
   refine W_skip <| At_go <| W_seq <| W_reg ?_
   obtain ⟨b1, h_b1, hm⟩ := ob hm
   have hs := slc_some h_b1
   have hl := slc_len h_b1
   have hn : b.length = b.length := rfl
   have hc4 : b.length ≤ c_b := hc_b
   obtain ⟨A1, c1, e_, hc5, hA, hc6⟩ := slx A_b (Int.toNat (w64 (at_ + 8))) c_b 1 (Int.toNat (w64 ((w64 (at_ + 8)) + (w64 r_.1.toNat))) - Int.toNat (w64 (at_ + 8))) b1.length (by omega) (by omega)
   refine WLs 8 [] (.n 35 (sl A0 parts.length c0) (.n 42 (sl A1 b1.length c1) (.s .a))) (qp (0 ≤ w64 ((w64 (at_ + 8)) + (w64 r_.1.toNat)) ∧ w64 ((w64 (at_ + 8)) + (w64 r_.1.toNat)) ≤ ((c_b : Nat) : Int)) (by omega) <| qp (0 ≤ w64 (at_ + 8) ∧ w64 (at_ + 8) ≤ ((Int.toNat (w64 ((w64 (at_ + 8)) + (w64 r_.1.toNat))) : Nat) : Int)) (by omega) <| qo (.v (.slice A1 b1.length c1)) <| qp (Value.slice (slA A_b (Int.toNat (w64 (at_ + 8))) c_b 1) (Int.toNat (w64 ((w64 (at_ + 8)) + (w64 r_.1.toNat))) - Int.toNat (w64 (at_ + 8))) (c_b - Int.toNat (w64 (at_ + 8))) = .slice A1 b1.length c1) e_ <| qe) (by kernel_rfl) ?_
   refine WL_op ?_
   have k_9 := k_4.nil e8
   obtain ⟨b2, h_b2, hm⟩ := ob hm
   obtain ⟨hz, hl1⟩ := app_some h_b2
   refine Op_append (E := e8) (v := sl A1 b1.length c1) (ys := b1) yt_tf22 [] 43 1 (by kernel_rfl) k_9 rfl (Src.sl (Rd.cut (h_b.cx k_9) h_b1 rfl (by rfl) hA (by omega)) rfl (by rfl)) rfl (by have := k_9.len 1 rfl; have := hm; omega) ?_
   intro A2 c2 w_2 k_10
   rw [← hl1] at k_10
   refine WL_op ?_
   have k_11 := (k_10.pk .h).pk (.t .h)
   refine Op_mk2 (rest := [O2 e8 A0 parts.length c0 hd0 parts]) yt_tf24 e8 [] 44 ([(A2, 0 + b1.length, c2)] : List Hd) ([b2] : List (List UInt8)) [(0, sl A2 (0 + b1.length) c2)] [sl A2 (0 + b1.length) c2] (by kernel_rfl) (by kernel_rfl) (by kernel_rfl) rfl k_11 ?_
   intro A3 w_3 k_12
   refine WL_op ?_
   have k_13 := (k_12.pk .h).pk (.t .h)
   obtain ⟨parts1, h_parts1, hm⟩ := ob hm
   obtain ⟨hz1, hl2⟩ := app_some h_parts1
   refine Op_append2 yt_tf24 [] 45 (by kernel_rfl) k_13 (by have := k_13.len2 0 rfl; have := k_13.len2 1 rfl; omega) ?_
   intro A4 c3 w_4 k_14
   rw [← hl2] at k_14
   refine WLs 1 [] (.n 5 (sl A4 (parts.length + 1) c3) (.ssss (.s (.kkk .z)))) qe (by kernel_rfl) ?_
   refine WL_nil <| At_go <| W_q [] (.n 6 (I (w64 ((w64 (at_ + 8)) + (w64 r_.1.toNat)))) (.k (.ss .a))) qe (by kernel_rfl) ?_
   refine At_in ?_
   exact At_rd (parts1, w64 ((w64 (at_ + 8)) + (w64 r_.1.toNat))) (Option.some.inj hm).symm ⟨parts1, w64 ((w64 (at_ + 8)) + (w64 r_.1.toNat)), A4, parts.length + 1, c3, hd0 ++ ([(A2, 0 + b1.length, c2)] : List Hd), rfl, rfl, k_14.len2 0 rfl, k_14⟩ (by kernel_rfl)
 rw [if_neg hc1] at hm
 refine W_exit (At_te (At_te (At_ie ?_)))
 have hm := exit_of hm hr0
 refine At_go <| W_seq <| W_q [] (.n 2 (sl A0 parts.length c0) (.n 3 (I 0) (.n 4 (I 0) .z))) qe (by kernel_rfl) ?_
 refine At_go <| W_ret ?_
 obtain rfl := Option.some.inj hm
 refine At_rt [sl A0 parts.length c0, I 0, I 0] qe (by kernel_rfl) ?_
 exact ⟨A0, parts.length, c0, hd0, k_1.len2 0 rfl, rfl, k_1⟩

-- quern/quernref01.Load
theorem c_r01_Load {F O : Nat → Prop} {w : World} (b : List UInt8) (at_ : Int) (n : Int) (A_b : Option Addr) (n_b : Nat) (c_b : Nat) (h_b : Ro F w A_b (e8.all b)) (hn_b : b.length = n_b) (hc_b : n_b ≤ c_b) (k : Cx F O w w []) (r : (UInt64 × Int)) (hm : m_r01_Load b at_ n = some r) :
    Calls Try.prog 33 (vals [sl A_b n_b c_b, I at_, I n]) w (fun e w' => e = .returned (SV.val (.tup [.u64 r.1, I r.2])) ∧ Cx F O w w' []) := by
 unfold m_r01_Load at hm
 subst hn_b
 refine calls [sl A_b b.length c_b, I at_, I n] Try.func33 rfl (of_decide_eq_true (by kernel_rfl)) ?_
 refine W_seq <| W_q [] .a qe (by kernel_rfl) ?_
 refine At_go <| W_seq <| W_seq <| W_q [] (.n 11 (.b (decide (at_ < 0))) .a) qe (by kernel_rfl) ?_
 refine At_go <| W_condp (at_ < 0) (by kernel_rfl) (fun hc => ?_) (fun hc => ?_)
 · rw [if_pos hc] at hm
   refine W_seq <| W_q [] (.n 6 (.u64 0) (.n 7 (I 1) .z)) qe (by kernel_rfl) ?_
   refine At_go <| W_ret (At_tr ?_)
   obtain rfl := Option.some.inj hm
   refine At_rt [.u64 0, I 1] qe (by kernel_rfl) ?_
   exact ⟨rfl, k⟩
 rw [if_neg hc] at hm
 refine W_skip <| At_go <| W_seq <| W_seq <| W_q [] (.n 23 (.b ((decide (((b.length : Nat) : Int) < at_)) || (decide ((w64 (((b.length : Nat) : Int) - at_)) < n)))) (.s .a)) qe (by kernel_rfl) ?_
 refine At_go <| W_cond ((decide (((b.length : Nat) : Int) < at_)) || (decide ((w64 (((b.length : Nat) : Int) - at_)) < n))) (by kernel_rfl) (fun hc1 => ?_) (fun hc1 => ?_)
 · rw [if_pos hc1] at hm
   refine W_seq <| W_q [] (.n 6 (.u64 0) (.n 7 (I 3) .z)) qe (by kernel_rfl) ?_
   refine At_go <| W_ret (At_tr ?_)
   obtain rfl := Option.some.inj hm
   refine At_rt [.u64 0, I 3] qe (by kernel_rfl) ?_
   exact ⟨rfl, k⟩
 rw [if_neg (by rw [hc1]; decide)] at hm
 refine W_skip <| At_go <| W_seq <| W_q [] (.n 8 (.u64 0) (.s .a)) qe (by kernel_rfl) ?_
 refine At_go <| W_seq <| W_seq <| W_q [] (.n 9 (I (w64 (n - 1))) (.kkk .z)) qe (by kernel_rfl) ?_
 refine At_go <| W_block <| W_lp (m_r01_Load_l0 b at_) (fun s L wr => ∃ (w_ : UInt64) (i : Int), (w_, i) = s ∧ L = [(0, sl A_b b.length c_b), (1, I at_), (8, .u64 w_), (9, I i)] ∧ Cx F O w wr []) ((0 : UInt64), w64 (n - 1)) r hm ⟨(0 : UInt64), w64 (n - 1), rfl, rfl, k⟩ (by kernel_rfl) ?_
 intro s0_ L_ w_1 y0 hrel hstep hr0
 obtain ⟨w_, i, rfl, rfl, k_⟩ := hrel
 have hm := hstep; simp only [m_r01_Load_l0] at hm
 clear hstep
 refine W_seq <| W_seq <| W_q [] (.n 27 (.b (decide (0 ≤ i))) .a) qe (by kernel_rfl) ?_
 refine At_go <| W_condp (0 ≤ i) (by kernel_rfl) (fun hc2 => ?_) (fun hc2 => ?_)
 · rw [if_pos hc2] at hm
   refine W_skip <| At_go <| W_seq <| W_block ?_
   obtain ⟨x_0, h_x_0, hm⟩ := ob hm
   refine W_q [] (.n 8 (.u64 ((w_ * 256) + (UInt64.ofNat x_0.toNat))) (.s (.kk (.s .a)))) (qW (h_b.cx k_) h_x_0 rfl (.u8 x_0) rfl <| qe) (by kernel_rfl) ?_
   refine At_in <| At_go <| W_q [] (.n 9 (I (w64 (i - 1))) (.kkk .z)) qe (by kernel_rfl) ?_
   exact At_rd ((w_ * 256) + (UInt64.ofNat x_0.toNat), w64 (i - 1)) (Option.some.inj hm).symm ⟨(w_ * 256) + (UInt64.ofNat x_0.toNat), w64 (i - 1), rfl, rfl, k_⟩ (by kernel_rfl)
 rw [if_neg hc2] at hm
 refine W_exit (At_te (At_te (At_ie ?_)))
 have hm := exit_of hm hr0
 refine At_go <| W_seq <| W_q [] (.n 6 (.u64 w_) (.n 7 (I 0) .z)) qe (by kernel_rfl) ?_
 refine At_go <| W_ret ?_
 obtain rfl := Option.some.inj hm
 refine At_rt [.u64 w_, I 0] qe (by kernel_rfl) ?_
 exact ⟨rfl, k_⟩

-- quern/quernref06.Unrow
theorem c_r06_Unrow {F O : Nat → Prop} {w : World} (b : List UInt8) (A_b : Option Addr) (n_b : Nat) (c_b : Nat) (h_b : Ro F w A_b (e8.all b)) (hn_b : b.length = n_b) (hc_b : n_b ≤ c_b) (k : Cx F O w w []) (r : (List (List UInt8) × Int × Int)) (hm : m_r06_Unrow b = some r) :
    Calls Try.prog 12 (vals [sl A_b n_b c_b]) w (fun e w' => ∃ A n c hd, r.1.length = n ∧ e = .returned (SV.val (.tup [sl A n c, I r.2.1, I r.2.2])) ∧ Cx F O w w' [O2 e8 A n c hd r.1]) := by
 unfold m_r06_Unrow at hm
 subst hn_b
 refine calls [sl A_b b.length c_b] Try.func12 rfl (of_decide_eq_true (by kernel_rfl)) ?_
 refine W_seq <| W_q [] .a qe (by kernel_rfl) ?_
 refine At_go <| W_seq <| W_seq <| W_q [] (.n 12 (.b (decide (16777216 < ((b.length : Nat) : Int)))) .a) qe (by kernel_rfl) ?_
 refine At_go <| W_condp (16777216 < ((b.length : Nat) : Int)) (by kernel_rfl) (fun hc => ?_) (fun hc => ?_)
 · rw [if_pos hc] at hm
   refine W_seq <| W_q [] (.n 2 (sl none 0 0) (.n 3 (I 0) (.n 4 (I 2) .z))) qe (by kernel_rfl) ?_
   refine At_go <| W_ret (At_tr ?_)
   have k_ := k.nil2 e8
   obtain rfl := Option.some.inj hm
   refine At_rt [sl none 0 0, I 0, I 2] qe (by kernel_rfl) ?_
   exact ⟨none, 0, 0, ([] : List Hd), k_.len2 0 rfl, rfl, k_⟩
 rw [if_neg hc] at hm
 refine W_skip <| At_go <| W_seq <| W_q [] (.n 5 (sl none 0 0) (.s .a)) qe (by kernel_rfl) ?_
 refine At_go <| W_seq <| W_q [] (.n 6 (I 0) .a) qe (by kernel_rfl) ?_
 refine At_go <| W_seq <| W_block ?_
 have k_2 := k.nil2 e8
 refine W_lp (m_r06_Unrow_l0 b) (fun s L wr => ∃ (out : List (List UInt8)) (at_ : Int) (A0 : Option Addr) (n0 : Nat) (c0 : Nat) (hd0 : List Hd), (out, at_) = s ∧ L = [(0, sl A_b b.length c_b), (5, sl A0 n0 c0), (6, I at_)] ∧ out.length = n0 ∧ Cx F O w wr [O2 e8 A0 n0 c0 hd0 out]) (([] : List (List UInt8)), (0 : Int)) r hm ⟨([] : List (List UInt8)), (0 : Int), none, 0, 0, ([] : List Hd), rfl, rfl, k_2.len2 0 rfl, k_2⟩ (by kernel_rfl) ?_
 intro s0_ L_ w_ y0 hrel hstep hr0
 obtain ⟨out, at_, A0, _, c0, hd0, rfl, rfl, rfl, k_1⟩ := hrel
 have hm := hstep; simp only [m_r06_Unrow_l0] at hm
 clear hstep
 refine W_seq <| W_seq <| W_q [] (.n 16 (.b (decide (at_ < ((b.length : Nat) : Int)))) .a) qe (by kernel_rfl) ?_
 refine At_go <| W_condp (at_ < ((b.length : Nat) : Int)) (by kernel_rfl) (fun hc1 => ?_) (fun hc1 => ?_)
 · rw [if_pos hc1] at hm
   refine W_skip <| At_go <| W_block <| W_seq <| W_seq <| W_q [] (.n 21 (.b (decide ((w64 (((b.length : Nat) : Int) - at_)) < 8))) (.s .a)) qe (by kernel_rfl) ?_
   refine At_go <| W_condp ((w64 (((b.length : Nat) : Int) - at_)) < 8) (by kernel_rfl) (fun hc2 => ?_) (fun hc2 => ?_)
   · rw [if_pos hc2] at hm
     refine W_seq <| W_q [] (.n 2 (sl none 0 0) (.n 3 (I at_) (.n 4 (I 4) .z))) qe (by kernel_rfl) ?_
     refine At_go <| W_ret (At_tr (At_ir (At_tr (At_ir (At_tr ?_)))))
     have hm := exit_of hm hr0
     have k_3 := k_1.nil2 e8
     obtain rfl := Option.some.inj hm
     refine At_rt [sl none 0 0, I at_, I 4] qe (by kernel_rfl) ?_
     have k_4 := k_3.sel (.s (.k .e))
     exact ⟨none, 0, 0, ([] : List Hd), k_4.len2 0 rfl, rfl, k_4⟩
   rw [if_neg hc2] at hm
   refine W_skip <| At_go <| W_seq <| W_reg <| WLs 2 [] (.n 24 (sl A_b b.length c_b) (.n 25 (I at_) (.s .a))) qe (by kernel_rfl) ?_
   refine WL_op ?_
   obtain ⟨r_, h_r_, hm⟩ := ob hm
   refine Op_call [] 26 _ yt_go33 (by kernel_rfl) (c_r01_Load (F := N0) (O := N0) _ _ _ _ _ _ (Ro.n0 (h_b.cx k_1)) rfl hc_b (Cx.refl _) _ h_r_) ?_
   rintro e_ w_1 ⟨rfl, k_5⟩
   have k_6 := k_1.call k_5
   refine ⟨.tup [.u64 r_.1, I r_.2], rfl, ?_⟩
   refine WLs 5 [] (.n 7 (.u64 r_.1) (.sss .a)) qe (by kernel_rfl) ?_
   refine WL_nil <| At_go <| W_seq <| W_q [] (.n 6 (I (w64 (at_ + 8))) (.kkk .z)) qe (by kernel_rfl) ?_
   refine At_go <| W_seq <| W_seq <| W_q [] (.n 37 (.b (decide ((UInt64.ofInt (w64 (((b.length : Nat) : Int) - (w64 (at_ + 8))))) < r_.1))) .a) qe (by kernel_rfl) ?_
   refine At_go <| W_condp ((UInt64.ofInt (w64 (((b.length : Nat) : Int) - (w64 (at_ + 8))))) < r_.1) (by kernel_rfl) (fun hc3 => ?_) (fun hc3 => ?_)
   · rw [if_pos hc3] at hm
     refine W_seq <| W_q [] (.n 2 (sl none 0 0) (.n 3 (I (w64 (at_ + 8))) (.n 4 (I 4) .z))) qe (by kernel_rfl) ?_
     refine At_go <| W_ret (At_tr (At_ir (At_tr (At_ir (At_tr ?_)))))
     have hm := exit_of hm hr0
     have k_7 := k_6.nil2 e8
     obtain rfl := Option.some.inj hm
     refine At_rt [sl none 0 0, I (w64 (at_ + 8)), I 4] qe (by kernel_rfl) ?_
     have k_8 := k_7.sel (.s (.k .e))
     exact ⟨none, 0, 0, ([] : List Hd), k_8.len2 0 rfl, rfl, k_8⟩
   rw [if_neg hc3] at hm
   refine W_skip <| At_go <| W_seq <| W_q [] (.n 9 (sl none 0 0) (.s .a)) qe (by kernel_rfl) ?_
   refine At_go <| W_seq <| W_reg ?_
   obtain ⟨b1, h_b1, hm⟩ := ob hm
   have hs := slc_some h_b1
   have hl := slc_len h_b1
   have hn : b.length = b.length := rfl
   have hc4 : b.length ≤ c_b := hc_b
   obtain ⟨A1, c1, e_, hc5, hA, hc6⟩ := slx A_b (Int.toNat (w64 (at_ + 8))) c_b 1 (Int.toNat (w64 ((w64 (at_ + 8)) + (w64 r_.1.toNat))) - Int.toNat (w64 (at_ + 8))) b1.length (by omega) (by omega)
   refine WLs 8 [] (.n 39 (sl none 0 0) (.n 46 (sl A1 b1.length c1) .a)) (qp (0 ≤ w64 ((w64 (at_ + 8)) + (w64 r_.1.toNat)) ∧ w64 ((w64 (at_ + 8)) + (w64 r_.1.toNat)) ≤ ((c_b : Nat) : Int)) (by omega) <| qp (0 ≤ w64 (at_ + 8) ∧ w64 (at_ + 8) ≤ ((Int.toNat (w64 ((w64 (at_ + 8)) + (w64 r_.1.toNat))) : Nat) : Int)) (by omega) <| qo (.v (.slice A1 b1.length c1)) <| qp (Value.slice (slA A_b (Int.toNat (w64 (at_ + 8))) c_b 1) (Int.toNat (w64 ((w64 (at_ + 8)) + (w64 r_.1.toNat))) - Int.toNat (w64 (at_ + 8))) (c_b - Int.toNat (w64 (at_ + 8))) = .slice A1 b1.length c1) e_ <| qe) (by kernel_rfl) ?_
   refine WL_op ?_
   have k_9 := k_6.nil e8
   obtain ⟨own, h_own, hm⟩ := ob hm
   obtain ⟨hz, hl1⟩ := app_some h_own
   refine Op_append (E := e8) (v := sl A1 b1.length c1) (ys := b1) yt_tf22 [] 47 1 (by kernel_rfl) k_9 rfl (Src.sl (Rd.cut (h_b.cx k_9) h_b1 rfl (by rfl) hA (by omega)) rfl (by rfl)) rfl (by have := k_9.len 1 rfl; have := hm; omega) ?_
   intro A2 c2 w_2 k_10
   rw [← hl1] at k_10
   refine WLs 1 [] (.n 9 (sl A2 (0 + b1.length) c2) (.ssss .a)) qe (by kernel_rfl) ?_
   refine WL_nil <| At_go <| W_seq <| W_reg <| WLs 2 [] (.n 48 (sl A0 out.length c0) (.n 49 (sl A2 (0 + b1.length) c2) (.s .a))) qe (by kernel_rfl) ?_
   refine WL_op ?_
   have k_11 := (k_10.pk .h).pk (.t .h)
   refine Op_mk2 (rest := [O2 e8 A0 out.length c0 hd0 out]) yt_tf24 e8 [] 50 ([(A2, 0 + b1.length, c2)] : List Hd) ([own] : List (List UInt8)) [(0, sl A2 (0 + b1.length) c2)] [sl A2 (0 + b1.length) c2] (by kernel_rfl) (by kernel_rfl) (by kernel_rfl) rfl k_11 ?_
   intro A3 w_3 k_12
   refine WL_op ?_
   have k_13 := (k_12.pk .h).pk (.t .h)
   obtain ⟨out1, h_out1, hm⟩ := ob hm
   obtain ⟨hz1, hl2⟩ := app_some h_out1
   refine Op_append2 yt_tf24 [] 51 (by kernel_rfl) k_13 (by have := k_13.len2 0 rfl; have := k_13.len2 1 rfl; omega) ?_
   intro A4 c3 w_4 k_14
   rw [← hl2] at k_14
   refine WLs 1 [] (.n 5 (sl A4 (out.length + 1) c3) (.ssss (.kkk .z))) qe (by kernel_rfl) ?_
   refine WL_nil <| At_go <| W_q [] (.n 6 (I (w64 ((w64 (at_ + 8)) + (w64 r_.1.toNat)))) (.k (.ss .a))) qe (by kernel_rfl) ?_
   refine At_in ?_
   exact At_rd (out1, w64 ((w64 (at_ + 8)) + (w64 r_.1.toNat))) (Option.some.inj hm).symm ⟨out1, w64 ((w64 (at_ + 8)) + (w64 r_.1.toNat)), A4, out.length + 1, c3, hd0 ++ ([(A2, 0 + b1.length, c2)] : List Hd), rfl, rfl, k_14.len2 0 rfl, k_14⟩ (by kernel_rfl)
 rw [if_neg hc1] at hm
 refine W_exit (At_te (At_te (At_ie ?_)))
 have hm := exit_of hm hr0
 refine At_go <| W_seq <| W_q [] (.n 2 (sl A0 out.length c0) (.n 3 (I 0) (.n 4 (I 0) .z))) qe (by kernel_rfl) ?_
 refine At_go <| W_ret ?_
 obtain rfl := Option.some.inj hm
 refine At_rt [sl A0 out.length c0, I 0, I 0] qe (by kernel_rfl) ?_
 exact ⟨A0, out.length, c0, hd0, k_1.len2 0 rfl, rfl, k_1⟩

-- quern/quernlaw06.same
theorem c_l06_same {F O : Nat → Prop} {w : World} (a_ : List UInt8) (b : List UInt8) (A_a_ : Option Addr) (n_a_ : Nat) (c_a_ : Nat) (A_b : Option Addr) (n_b : Nat) (c_b : Nat) (h_a_ : Ro F w A_a_ (e8.all a_)) (hn_a_ : a_.length = n_a_) (hc_a_ : n_a_ ≤ c_a_) (h_b : Ro F w A_b (e8.all b)) (hn_b : b.length = n_b) (hc_b : n_b ≤ c_b) (k : Cx F O w w []) (r : Bool) (hm : m_l06_same a_ b = some r) :
    Calls Try.prog 13 (vals [sl A_a_ n_a_ c_a_, sl A_b n_b c_b]) w (fun e w' => e = .returned (SV.val (.b r)) ∧ Cx F O w w' []) := by
 unfold m_l06_same at hm
 subst hn_a_
 subst hn_b
 refine calls [sl A_a_ a_.length c_a_, sl A_b b.length c_b] Try.func13 rfl (of_decide_eq_true (by kernel_rfl)) ?_
 refine W_seq <| W_q [] .a qe (by kernel_rfl) ?_
 refine At_go <| W_seq <| W_seq <| W_q [] (.n 10 (.b (decide (((a_.length : Nat) : Int) ≠ ((b.length : Nat) : Int)))) .a) qe (by kernel_rfl) ?_
 refine At_go <| W_condp (((a_.length : Nat) : Int) ≠ ((b.length : Nat) : Int)) (by kernel_rfl) (fun hc => ?_) (fun hc => ?_)
 · rw [if_pos hc] at hm
   refine W_seq <| W_q [] (.n 4 (.b false) .z) qe (by kernel_rfl) ?_
   refine At_go <| W_ret (At_tr ?_)
   obtain rfl := Option.some.inj hm
   refine At_rt [.b false] qe (by kernel_rfl) ?_
   exact ⟨rfl, k⟩
 rw [if_neg hc] at hm
 refine W_skip <| At_go <| W_seq <| W_seq <| W_q [] (.n 5 (I 0) (.s .a)) qe (by kernel_rfl) ?_
 refine At_go <| W_block <| W_lp (m_l06_same_l0 a_ b) (fun s L wr => ∃ (i : Int), i = s ∧ L = [(0, sl A_a_ a_.length c_a_), (1, sl A_b b.length c_b), (5, I i)] ∧ Cx F O w wr []) (0 : Int) r hm ⟨(0 : Int), rfl, rfl, k⟩ (by kernel_rfl) ?_
 intro s0_ L_ w_ y0 hrel hstep hr0
 obtain ⟨i, rfl, rfl, k_⟩ := hrel
 have hm := hstep; simp only [m_l06_same_l0] at hm
 clear hstep
 refine W_seq <| W_seq <| W_q [] (.n 14 (.b (decide (i < ((a_.length : Nat) : Int)))) .a) qe (by kernel_rfl) ?_
 refine At_go <| W_condp (i < ((a_.length : Nat) : Int)) (by kernel_rfl) (fun hc1 => ?_) (fun hc1 => ?_)
 · rw [if_pos hc1] at hm
   refine W_skip <| At_go <| W_seq <| W_block <| W_seq ?_
   obtain ⟨x_0, h_x_0, hm⟩ := ob hm
   obtain ⟨x_1, h_x_1, hm⟩ := ob hm
   refine W_d yt_mixed (by kernel_rfl) (.n 25 (.b (decide (x_0 ≠ x_1))) (.s .a)) (fun m => qW (h_a_.cx (k_.drew m)) h_x_0 rfl (.u8 x_0) rfl <| qW (h_b.cx (k_.drew m)) h_x_1 rfl (.u8 x_1) rfl <| qe) (by kernel_rfl) (fun m_ => ?_)
   have k_1 := k_.drew m_
   refine At_go <| W_condp (x_0 ≠ x_1) (by kernel_rfl) (fun hc2 => ?_) (fun hc2 => ?_)
   · rw [if_pos hc2] at hm
     refine W_seq <| W_q [] (.n 4 (.b false) .z) qe (by kernel_rfl) ?_
     refine At_go <| W_ret (At_ir (At_tr (At_tr (At_ir (At_tr ?_)))))
     have hm := exit_of hm hr0
     obtain rfl := Option.some.inj hm
     refine At_rt [.b false] qe (by kernel_rfl) ?_
     exact ⟨rfl, k_1⟩
   rw [if_neg hc2] at hm
   refine W_skip <| At_in <| At_go <| W_q [] (.n 5 (I (w64 (i + 1))) (.s (.kk .z))) qe (by kernel_rfl) ?_
   exact At_rd (w64 (i + 1)) (Option.some.inj hm).symm ⟨w64 (i + 1), rfl, rfl, k_1⟩ (by kernel_rfl)
 rw [if_neg hc1] at hm
 refine W_exit (At_te (At_te (At_ie ?_)))
 have hm := exit_of hm hr0
 refine At_go <| W_seq <| W_q [] (.n 4 (.b true) .z) qe (by kernel_rfl) ?_
 refine At_go <| W_ret ?_
 obtain rfl := Option.some.inj hm
 refine At_rt [.b true] qe (by kernel_rfl) ?_
 exact ⟨rfl, k_⟩

-- quern/quernlaw06.spoil
theorem c_l06_spoil {F O : Nat → Prop} {w : World} (b : List UInt8) (A_b : Option Addr) (n_b : Nat) (c_b : Nat) (k : Cx F O w w [Ow e8 A_b n_b c_b b]) (r : Unit) (hm : m_l06_spoil b = some r) :
    Calls Try.prog 14 (vals [sl A_b n_b c_b]) w (fun e w' => e = .returned (SV.val (.tup [])) ∧ Cx F O w w' []) := by
 unfold m_l06_spoil at hm
 obtain rfl := k.len 0 rfl
 refine calls [sl A_b b.length c_b] Try.func14 rfl (of_decide_eq_true (by kernel_rfl)) ?_
 refine W_seq <| W_seq <| W_q [] (.n 2 (I 0) .a) qe (by kernel_rfl) ?_
 refine At_go <| W_block <| W_lp (m_l06_spoil_l0 b) (fun s L wr => ∃ (b1 : List UInt8) (i : Int), (b1, i) = s ∧ L = [(0, sl A_b b.length c_b), (2, I i)] ∧ Cx F O w wr [Ow e8 A_b b.length c_b b1]) (b, (0 : Int)) r hm ⟨b, (0 : Int), rfl, rfl, k⟩ (by kernel_rfl) ?_
 intro s0_ L_ w_ y0 hrel hstep hr0
 obtain ⟨b1, i, rfl, rfl, k_⟩ := hrel
 have hm := hstep; simp only [m_l06_spoil_l0] at hm
 clear hstep
 refine W_seq <| W_seq <| W_q [] (.n 7 (.b (decide (i < ((b.length : Nat) : Int)))) .a) qe (by kernel_rfl) ?_
 refine At_go <| W_condp (i < ((b.length : Nat) : Int)) (by kernel_rfl) (fun hc => ?_) (fun hc => ?_)
 · rw [if_pos hc] at hm
   refine W_skip <| At_go <| W_seq <| W_block <| W_reg ?_
   obtain ⟨x_, h_x_, hm⟩ := ob hm
   obtain ⟨x_1, h_x_1, hm⟩ := ob hm
   refine WLs 8 [] (.n 16 (.u8 (x_ ^^^ 90)) (.n 17 (.v (.pointer (ixA A_b i 1))) (.s .a))) (qW (k_.rd 0 rfl) h_x_ (k_.len 0 rfl) (.u8 x_) rfl <| qJ (k_.rd 0 rfl) h_x_1 (k_.len 0 rfl) <| qe) (by kernel_rfl) ?_
   refine WL_op <| Op_ost (E := e8) (kk := 0) (sv := .u8 (x_ ^^^ 90)) (svs := [.u8 (x_ ^^^ 90)]) [] 0 (x_ ^^^ 90) (by kernel_rfl) (Pt.ix1 A_b i 1) k_ rfl (geti_some h_x_1).2 (E_ix (E := e8) (k_.rd 0 rfl) (by decide) (geti_lt h_x_1).1 (geti_some h_x_1).2) rfl (Nat.le_of_ble_eq_true (by kernel_rfl)) ?_
   intro w_1 k_1
   refine WL_nil <| At_in <| At_go <| W_q [] (.n 2 (I (w64 (i + 1))) (.ss (.k .z))) qe (by kernel_rfl) ?_
   exact At_rd (b1.set (Int.toNat i) (x_ ^^^ 90), w64 (i + 1)) (Option.some.inj hm).symm ⟨b1.set (Int.toNat i) (x_ ^^^ 90), w64 (i + 1), rfl, rfl, k_1⟩ (by kernel_rfl)
 rw [if_neg hc] at hm
 refine W_exit (At_te (At_te (At_ie ?_)))
 have hm := exit_of hm hr0
 refine At_go <| W_seq <| W_q [] (.n 3 (I 0) (.s (.k .z))) qe (by kernel_rfl) ?_
 refine At_go <| W_block <| W_lp (m_l06_spoil_l1) (fun s L wr => ∃ (b2 : List UInt8) (i1 : Int) (A : Option Addr) (n : Nat) (c : Nat), (b2, i1) = s ∧ L = [(0, sl A n c), (3, I i1)] ∧ b2.length = n ∧ Cx F O w wr [Ow e8 A n c b2]) (b1, (0 : Int)) r hm ⟨b1, (0 : Int), A_b, b.length, c_b, rfl, rfl, k_.len 0 rfl, k_⟩ (by kernel_rfl) ?_
 intro s0_ L_ w_2 y0 hrel hstep hr0
 obtain ⟨b2, i1, A, _, c, rfl, rfl, rfl, k_2⟩ := hrel
 have hm := hstep; simp only [m_l06_spoil_l1] at hm
 clear hstep
 refine W_seq <| W_seq <| W_q [] (.n 19 (.b (decide (i1 < 70))) .a) qe (by kernel_rfl) ?_
 refine At_go <| W_condp (i1 < 70) (by kernel_rfl) (fun hc1 => ?_) (fun hc1 => ?_)
 · rw [if_pos hc1] at hm
   refine W_skip <| At_go <| W_seq <| W_block <| W_reg <| WLs 4 [] (.n 22 (sl A b2.length c) (.n 25 (.u8 (UInt8.ofInt (w64 (17 + i1)))) (.s .a))) qe (by kernel_rfl) ?_
   refine WL_op <| Op_mk yt_tf22 e8 [] 26 ([UInt8.ofInt (w64 (17 + i1))] : List UInt8) [(0, .u8 (UInt8.ofInt (w64 (17 + i1))))] [.u8 (UInt8.ofInt (w64 (17 + i1)))] (by kernel_rfl) (by kernel_rfl) (by kernel_rfl) k_2 ?_
   intro A1 w_3 k_3
   refine WL_op ?_
   obtain ⟨b3, h_b3, hm⟩ := ob hm
   obtain ⟨hz, hl⟩ := app_some h_b3
   refine Op_append (E := e8) (v := sl A1 1 1) (ys := ([UInt8.ofInt (w64 (17 + i1))] : List UInt8)) yt_tf22 [] 27 0 (by kernel_rfl) k_3 rfl (Src.sl (k_3.rd 1 rfl) (k_3.len 1 rfl) (by rfl)) (k_3.len 1 rfl) (by have := k_3.len 0 rfl; have := (k_3.len 1 rfl); omega) ?_
   intro A2 c1 w_4 k_4
   rw [← hl] at k_4
   have k_5 := k_4.sel (.k .z)
   refine WLs 1 [] (.n 0 (sl A2 (b2.length + 1) c1) (.ssss (.s .a))) qe (by kernel_rfl) ?_
   refine WL_nil <| At_in <| At_go <| W_q [] (.n 3 (I (w64 (i1 + 1))) (.k .z)) qe (by kernel_rfl) ?_
   exact At_rd (b3, w64 (i1 + 1)) (Option.some.inj hm).symm ⟨b3, w64 (i1 + 1), A2, b2.length + 1, c1, rfl, rfl, k_5.len 0 rfl, k_5⟩ (by kernel_rfl)
 rw [if_neg hc1] at hm
 refine W_exit (At_te (At_te (At_ie ?_)))
 have hm := exit_of hm hr0
 obtain rfl := Option.some.inj hm
 refine At_en [] qe (by kernel_rfl) ?_
 have k_6 := k_2.sel .z
 exact ⟨rfl, k_6⟩

-- quern/quernlaw06.kept
theorem c_l06_kept {F O : Nat → Prop} {w : World} (full : List UInt8) (b : List UInt8) (A_full : Option Addr) (n_full : Nat) (c_full : Nat) (A_b : Option Addr) (n_b : Nat) (c_b : Nat) (h_full : Ro F w A_full (e8.all full)) (hn_full : full.length = n_full) (hc_full : n_full ≤ c_full) (h_b : Ro F w A_b (e8.all b)) (hn_b : b.length = n_b) (hc_b : n_b ≤ c_b) (k : Cx F O w w []) (r : Bool) (hm : m_l06_kept full b = some r) :
    Calls Try.prog 15 (vals [sl A_full n_full c_full, sl A_b n_b c_b]) w (fun e w' => e = .returned (SV.val (.b r)) ∧ Cx F O w w' []) := by
 unfold m_l06_kept at hm
 subst hn_full
 subst hn_b
 refine calls [sl A_full full.length c_full, sl A_b b.length c_b] Try.func15 rfl (of_decide_eq_true (by kernel_rfl)) ?_
 refine W_seq <| W_q [] .a qe (by kernel_rfl) ?_
 refine At_go <| W_seq <| W_reg <| WLs 2 [] (.n 5 (sl A_full full.length c_full) (.n 6 (sl A_b b.length c_b) .z)) qe (by kernel_rfl) ?_
 refine WL_op ?_
 obtain ⟨r_, h_r_, hm⟩ := ob hm
 refine Op_call [] 7 _ yt_go10 (by kernel_rfl) (c_l06_wide (F := N0) (O := N0) _ _ _ _ (Ro.n0 (h_b.cx k)) rfl hc_b (Cx.refl _) _ h_r_) ?_
 rintro e_ w_ ⟨A, _, c, rfl, rfl, k_⟩
 have k_1 := k.call k_
 refine ⟨sl A r_.length c, rfl, ?_⟩
 refine WL_op ?_
 obtain ⟨r_1, h_r_1, hm⟩ := ob hm
 refine Op_call [] 8 _ yt_go13 (by kernel_rfl) (c_l06_same (F := N0) (O := N0) _ _ _ _ _ _ _ _ (Ro.n0 (h_full.cx k_1)) rfl hc_full (Ro.n0 (k_1.rd 0 rfl)) (k_1.len 0 rfl) (k_1.lec 0 rfl) (Cx.refl _) _ h_r_1) ?_
 rintro e_ w_1 ⟨rfl, k_2⟩
 have k_3 := k_1.call k_2
 refine ⟨.b r_1, rfl, ?_⟩
 have k_4 := k_3.sel .z
 refine WLs 1 [] (.n 4 (.b r_1) .z) qe (by kernel_rfl) ?_
 refine WL_nil <| At_go <| W_ret ?_
 obtain rfl := Option.some.inj hm
 refine At_rt [.b r_1] qe (by kernel_rfl) ?_
 exact ⟨rfl, k_4⟩

-- quern/quernlaw06.MacUnrows
theorem c_l06_MacUnrows {F O : Nat → Prop} {w : World} (b : List UInt8) (A_b : Option Addr) (n_b : Nat) (c_b : Nat) (h_b : Ro F w A_b (e8.all b)) (hn_b : b.length = n_b) (hc_b : n_b ≤ c_b) (k : Cx F O w w []) (r : Bool) (hm : m_l06_MacUnrows b = some r) :
    Calls Try.prog 3 (vals [sl A_b n_b c_b]) w (fun e w' => e = .returned (SV.val (.b r)) ∧ Cx F O w w' []) := by
 unfold m_l06_MacUnrows at hm
 subst hn_b
 refine calls [sl A_b b.length c_b] Try.func3 rfl (of_decide_eq_true (by kernel_rfl)) ?_
 refine W_seq <| W_q [] .a qe (by kernel_rfl) ?_
 refine At_go <| W_seq <| W_reg <| WLs 1 [] (.n 13 (sl A_b b.length c_b) .a) qe (by kernel_rfl) ?_
 refine WL_op ?_
 obtain ⟨r_, h_r_, hm⟩ := ob hm
 refine Op_call [] 14 _ yt_go10 (by kernel_rfl) (c_l06_wide (F := N0) (O := N0) _ _ _ _ (Ro.n0 (h_b.cx k)) rfl hc_b (Cx.refl _) _ h_r_) ?_
 rintro e_ w_ ⟨A, _, c, rfl, rfl, k_⟩
 have k_1 := k.call k_
 refine ⟨sl A r_.length c, rfl, ?_⟩
 refine WLs 1 [] (.n 3 (sl A r_.length c) (.ss .a)) qe (by kernel_rfl) ?_
 refine WL_nil <| At_go <| W_seq <| W_reg ?_
 obtain ⟨b1, h_b1, hm⟩ := ob hm
 have hs := slc_some h_b1
 have hl := slc_len h_b1
 have hn : r_.length = r_.length := (k_1.len 0 rfl)
 have hc : r_.length ≤ c := (k_1.lec 0 rfl)
 have hc1 : b1.length ≤ c := by omega
 refine WLs 4 [] (.n 19 (sl A b1.length c) .a) (qp (0 ≤ ((b.length : Nat) : Int) ∧ ((b.length : Nat) : Int) ≤ ((c : Nat) : Int)) (by omega) <| qo (.v (.slice A b1.length c)) <| qp (Value.slice (slA A 0 c 1) (Int.toNat ((b.length : Nat) : Int) - 0) (c - 0) = .slice A b1.length c) (slx0 _ _ _ _ _ (by omega)) <| qe) (by kernel_rfl) ?_
 refine WL_op ?_
 obtain ⟨r_1, h_r_1, hm⟩ := ob hm
 refine Op_call [] 20 _ yt_go11 (by kernel_rfl) (c_mac_Unrow (F := N0) (O := N0) _ _ _ _ (Ro.n0 (Rd.pre (k_1.rd 0 rfl) h_b1 rfl)) rfl hc1 (Cx.refl _) _ h_r_1) ?_
 rintro e_ w_1 ⟨A1, _, c1, hd, rfl, rfl, k_2⟩
 have k_3 := k_1.call k_2
 refine ⟨.tup [sl A1 r_1.1.length c1, I r_1.2.1, I r_1.2.2], rfl, ?_⟩
 refine WLs 7 [] (.n 4 (sl A1 r_1.1.length c1) (.n 5 (I r_1.2.1) (.n 6 (I r_1.2.2) (.ss .a)))) qe (by kernel_rfl) ?_
 refine WL_nil <| At_go <| W_seq <| W_reg <| WLs 1 [] (.n 25 (sl A_b b.length c_b) .a) qe (by kernel_rfl) ?_
 refine WL_op ?_
 obtain ⟨r_2, h_r_2, hm⟩ := ob hm
 refine Op_call [] 26 _ yt_go12 (by kernel_rfl) (c_r06_Unrow (F := N0) (O := N0) _ _ _ _ (Ro.n0 (h_b.cx k_3)) rfl hc_b (Cx.refl _) _ h_r_2) ?_
 rintro e_ w_2 ⟨A2, _, c2, hd1, rfl, rfl, k_4⟩
 have k_5 := k_3.call k_4
 refine ⟨.tup [sl A2 r_2.1.length c2, I r_2.2.1, I r_2.2.2], rfl, ?_⟩
 refine WLs 7 [] (.n 7 (sl A2 r_2.1.length c2) (.n 8 (I r_2.2.1) (.n 9 (I r_2.2.2) (.ss .a)))) qe (by kernel_rfl) ?_
 refine WL_nil <| At_go <| W_seq <| W_seq <| W_q [] (.n 44 (.b (((decide (r_1.2.2 ≠ r_2.2.2)) || (decide (r_1.2.1 ≠ r_2.2.1))) || (decide (((r_1.1.length : Nat) : Int) ≠ ((r_2.1.length : Nat) : Int))))) (.k (.ss (.k (.ss .a))))) qe (by kernel_rfl) ?_
 refine At_go <| W_cond (((decide (r_1.2.2 ≠ r_2.2.2)) || (decide (r_1.2.1 ≠ r_2.2.1))) || (decide (((r_1.1.length : Nat) : Int) ≠ ((r_2.1.length : Nat) : Int)))) (by kernel_rfl) (fun hc2 => ?_) (fun hc2 => ?_)
 · rw [if_pos hc2] at hm
   refine W_seq <| W_q [] (.n 2 (.b false) .z) qe (by kernel_rfl) ?_
   refine At_go <| W_ret (At_tr ?_)
   obtain rfl := Option.some.inj hm
   refine At_rt [.b false] qe (by kernel_rfl) ?_
   have k_6 := k_5.sel .z
   exact ⟨rfl, k_6⟩
 rw [if_neg (by rw [hc2]; decide)] at hm
 refine W_skip <| At_go <| W_seq <| W_seq <| W_q [] (.n 10 (I 0) (.s .a)) qe (by kernel_rfl) ?_
 refine At_go <| W_block <| W_lp (m_l06_MacUnrows_l0 b r_ r_1 r_2) (fun s L wr => ∃ (k_7 : Int), k_7 = s ∧ L = [(0, sl A_b b.length c_b), (3, sl A r_.length c), (4, sl A1 r_1.1.length c1), (7, sl A2 r_2.1.length c2), (10, I k_7)] ∧ Cx F O w wr [Ow e8 A r_.length c r_, O2 e8 A1 r_1.1.length c1 hd r_1.1, O2 e8 A2 r_2.1.length c2 hd1 r_2.1]) (0 : Int) r hm ⟨(0 : Int), rfl, rfl, k_5⟩ (by kernel_rfl) ?_
 intro s0_ L_ w_3 y0 hrel hstep hr0
 obtain ⟨k_7, rfl, rfl, k_8⟩ := hrel
 have hm := hstep; simp only [m_l06_MacUnrows_l0] at hm
 clear hstep
 refine W_seq <| W_seq <| W_q [] (.n 48 (.b (decide (k_7 < ((r_2.1.length : Nat) : Int)))) .a) qe (by kernel_rfl) ?_
 refine At_go <| W_condp (k_7 < ((r_2.1.length : Nat) : Int)) (by kernel_rfl) (fun hc3 => ?_) (fun hc3 => ?_)
 · rw [if_pos hc3] at hm
   refine W_skip <| At_go <| W_seq <| W_block <| W_seq ?_
   have k_9 := k_8.drew 1
   refine W_m yt_mixed (.q 0 1 (.q 1 1 (.q 2 1 (.q 3 0 (.q 4 1 (.q 5 1 (.q 6 1 (.q 7 0 (.op 8 (.q 9 1 .nil)))))))))) [8] k_9 (.c (.kk (.k .e)) .l) (by kernel_rfl) (fun _ => ?_)
   obtain ⟨b2, h_b2, hm⟩ := ob hm
   obtain ⟨A_b2, c_b2, hh, hle⟩ := k_9.at2 1 rfl h_b2
   refine MXq 3 1 [] (.n 53 (.v (.pointer (ixA A1 k_7 1))) (.s .a)) (fun x hx => qJ (hx.hd2 1 rfl) hh (k_9.hlen2 1 rfl) <| qe) (by kernel_rfl) (fun _ => ?_)
   refine MXq 1 0 [] (.n 54 (sl A_b2 b2.length c_b2) (.s .a)) (fun x hx => qC (sl A_b2 b2.length c_b2) (Rd.el (k := 0) (hx.hd2 1 rfl) hh (Pt.ix1 A1 k_7 1) rfl) <| qe) (by kernel_rfl) (fun _ => ?_)
   obtain ⟨b3, h_b3, hm⟩ := ob hm
   obtain ⟨A_b3, c_b3, hh1, hle1⟩ := k_9.at2 2 rfl h_b3
   refine MXq 3 1 [] (.n 57 (.v (.pointer (ixA A2 k_7 1))) .a) (fun x hx => qJ (hx.hd2 2 rfl) hh1 (k_9.hlen2 2 rfl) <| qe) (by kernel_rfl) (fun _ => ?_)
   refine MXq 1 0 [] (.n 58 (sl A_b3 b3.length c_b3) (.s .a)) (fun x hx => qC (sl A_b3 b3.length c_b3) (Rd.el (k := 0) (hx.hd2 2 rfl) hh1 (Pt.ix1 A2 k_7 1) rfl) <| qe) (by kernel_rfl) (fun _ => ?_)
   refine MX_op (by kernel_rfl) rfl ?_
   obtain ⟨r_3, h_r_3, hm⟩ := ob hm
   refine Op_call [] 59 _ yt_go13 (by kernel_rfl) (c_l06_same (F := N0) (O := N0) _ _ _ _ _ _ _ _ (Ro.n0 (k_9.in2 1 rfl h_b2 hh)) rfl hle (Ro.n0 (k_9.in2 2 rfl h_b3 hh1)) rfl hle1 (Cx.refl _) _ h_r_3) ?_
   rintro e_ w_4 ⟨rfl, k_10⟩
   have k_11 := k_9.call k_10
   refine ⟨.b r_3, rfl, ?_⟩
   refine ⟨k_11, fun _ => ?_⟩
   refine MXq 1 1 [] (.n 60 (.b (!r_3)) (.sss .a)) (fun x hx => qe) (by kernel_rfl) (fun _ => ?_)
   refine MX_nil <| At_go <| W_cond (!r_3) (by kernel_rfl) (fun hc4 => ?_) (fun hc4 => ?_)
   · rw [if_pos hc4] at hm
     refine W_seq <| W_q [] (.n 2 (.b false) .z) qe (by kernel_rfl) ?_
     refine At_go <| W_ret (At_ir (At_tr (At_tr (At_ir (At_tr ?_)))))
     have hm := exit_of hm hr0
     obtain rfl := Option.some.inj hm
     refine At_rt [.b false] qe (by kernel_rfl) ?_
     have k_12 := k_11.sel .z
     exact ⟨rfl, k_12⟩
   rw [if_neg (by rw [hc4]; decide)] at hm
   refine W_skip <| At_in <| At_go <| W_q [] (.n 10 (I (w64 (k_7 + 1))) (.s (.kkkk .z))) qe (by kernel_rfl) ?_
   exact At_rd (w64 (k_7 + 1)) (Option.some.inj hm).symm ⟨w64 (k_7 + 1), rfl, rfl, k_11⟩ (by kernel_rfl)
 rw [if_neg hc3] at hm
 refine W_exit (At_te (At_te (At_ie ?_)))
 have hm := exit_of hm hr0
 refine At_go <| W_seq <| W_seq <| W_q [] (.n 11 (I 0) (.s (.kkkk .z))) qe (by kernel_rfl) ?_
 refine At_go <| W_block <| W_lp (m_l06_MacUnrows_l1 b r_ r_1 r_2) (fun s L wr => ∃ (k_13 : Int) (m_ : Nat), k_13 = s ∧ L = [(0, sl A_b b.length c_b), (3, sl A r_.length c), (4, sl A1 r_1.1.length c1), (7, sl A2 r_2.1.length c2), (11, I k_13)] ∧ m_ ≤ Int.toNat k_13 ∧ Cx F O w wr [Ow e8 A r_.length c r_, O2d e8 A1 r_1.1.length c1 hd r_1.1 m_, O2 e8 A2 r_2.1.length c2 hd1 r_2.1]) (0 : Int) r hm ⟨(0 : Int), 0, rfl, rfl, (Nat.zero_le _), k_8⟩ (by kernel_rfl) ?_
 intro s0_ L_ w_5 y0 hrel hstep hr0
 obtain ⟨k_13, m_, rfl, rfl, hdl, k_14⟩ := hrel
 have hm := hstep; simp only [m_l06_MacUnrows_l1] at hm
 clear hstep
 refine W_seq <| W_seq <| W_q [] (.n 64 (.b (decide (k_13 < ((r_1.1.length : Nat) : Int)))) .a) qe (by kernel_rfl) ?_
 refine At_go <| W_condp (k_13 < ((r_1.1.length : Nat) : Int)) (by kernel_rfl) (fun hc5 => ?_) (fun hc5 => ?_)
 · rw [if_pos hc5] at hm
   refine W_skip <| At_go <| W_seq <| W_block <| W_reg ?_
   obtain ⟨b4, h_b4, hm⟩ := ob hm
   obtain ⟨A_b4, c_b4, hh2, hle2⟩ := k_14.at2d 1 rfl hdl h_b4
   refine WLs 4 [] (.n 70 (sl A_b4 b4.length c_b4) (.s .a)) (qJ (k_14.hd2d 1 rfl) hh2 (k_14.hlen2d 1 rfl) <| qC (sl A_b4 b4.length c_b4) (Rd.el (k := 0) (k_14.hd2d 1 rfl) hh2 (Pt.ix1 A1 k_13 1) rfl) <| qe) (by kernel_rfl) ?_
   refine WL_op ?_
   have k_15 := ((k_14.pk (.t (.t .h))).pk (.t .h)).pk (.t (.t .h))
   have k_16 := k_15.open2d hdl h_b4 hh2
   obtain ⟨r_4, h_r_4, hm⟩ := ob hm
   obtain ⟨F1, O1, kin, hO, hre, hF, hb⟩ := k_16.go (.r (.i (.r (.r .e))))
   refine Op_call [] 71 _ yt_go14 (by kernel_rfl) (c_l06_spoil (F := F1) (O := O1) _ _ _ _ kin _ h_r_4) ?_
   rintro e_ w_6 ⟨rfl, k_17⟩
   have k_18 := hb w_6 _ _ k_17 .n
   refine ⟨.tup [], rfl, ?_⟩
   refine WL_nil <| At_in <| At_go <| W_q [] (.n 11 (I (w64 (k_13 + 1))) (.ss (.kkkk .z))) qe (by kernel_rfl) ?_
   have k_19 := ((k_18.pk (.t (.t .h))).pk (.t .h)).pk (.t (.t .h))
   exact At_rd (w64 (k_13 + 1)) (Option.some.inj hm).symm ⟨w64 (k_13 + 1), Int.toNat k_13 + 1, rfl, rfl, (dl_step h_b4 (k_19.max2d 1 rfl)), k_19⟩ (by kernel_rfl)
 rw [if_neg hc5] at hm
 refine W_exit (At_te (At_te (At_ie ?_)))
 have hm := exit_of hm hr0
 refine At_go <| W_seq <| W_reg ?_
 obtain ⟨b5, h_b5, hm⟩ := ob hm
 have hs1 := slc_some h_b5
 have hl1 := slc_len h_b5
 have hn1 : r_.length = r_.length := (k_14.len 0 rfl)
 have hc6 : r_.length ≤ c := (k_14.lec 0 rfl)
 have hc7 : b5.length ≤ c := by omega
 refine WLs 4 [] (.n 76 (sl A b5.length c) (.s (.kkkk .z))) (qp (0 ≤ ((b.length : Nat) : Int) ∧ ((b.length : Nat) : Int) ≤ ((c : Nat) : Int)) (by omega) <| qo (.v (.slice A b5.length c)) <| qp (Value.slice (slA A 0 c 1) (Int.toNat ((b.length : Nat) : Int) - 0) (c - 0) = .slice A b5.length c) (slx0 _ _ _ _ _ (by omega)) <| qe) (by kernel_rfl) ?_
 refine WL_op ?_
 obtain ⟨r_5, h_r_5, hm⟩ := ob hm
 refine Op_call [] 77 _ yt_go11 (by kernel_rfl) (c_mac_Unrow (F := N0) (O := N0) _ _ _ _ (Ro.n0 (Rd.pre (k_14.rd 0 rfl) h_b5 rfl)) rfl hc7 (Cx.refl _) _ h_r_5) ?_
 rintro e_ w_7 ⟨A3, _, c3, hd2, rfl, rfl, k_20⟩
 have k_21 := k_14.call k_20
 refine ⟨.tup [sl A3 r_5.1.length c3, I r_5.2.1, I r_5.2.2], rfl, ?_⟩
 refine WLs 5 [] (.n 4 (sl A3 r_5.1.length c3) (.ss (.kk (.s .a)))) qe (by kernel_rfl) ?_
 refine WL_nil <| At_go <| W_seq <| W_seq <| W_q [] (.n 12 (I 0) .a) qe (by kernel_rfl) ?_
 refine At_go <| W_block ?_
 have k_24 := (((k_21.pk (.t (.t .h))).pk (.t (.t (.t .h)))).pk (.t (.t .h))).sel (.kk (.k .z))
 refine W_lp (m_l06_MacUnrows_l2 b r_ r_2 r_5) (fun s L wr => ∃ (k_22 : Int), k_22 = s ∧ L = [(0, sl A_b b.length c_b), (3, sl A r_.length c), (4, sl A3 r_5.1.length c3), (7, sl A2 r_2.1.length c2), (12, I k_22)] ∧ Cx F O w wr [Ow e8 A r_.length c r_, O2 e8 A3 r_5.1.length c3 hd2 r_5.1, O2 e8 A2 r_2.1.length c2 hd1 r_2.1]) (0 : Int) r hm ⟨(0 : Int), rfl, rfl, k_24⟩ (by kernel_rfl) ?_
 intro s0_ L_ w_8 y0 hrel hstep hr0
 obtain ⟨k_22, rfl, rfl, k_23⟩ := hrel
 have hm := hstep; simp only [m_l06_MacUnrows_l2] at hm
 clear hstep
 refine W_seq <| W_seq <| W_q [] (.n 84 (.b (decide (k_22 < ((r_2.1.length : Nat) : Int)))) .a) qe (by kernel_rfl) ?_
 refine At_go <| W_condp (k_22 < ((r_2.1.length : Nat) : Int)) (by kernel_rfl) (fun hc8 => ?_) (fun hc8 => ?_)
 · rw [if_pos hc8] at hm
   refine W_skip <| At_go <| W_seq <| W_block <| W_seq ?_
   have k_25 := k_23.drew 1
   refine W_m yt_mixed (.q 0 1 (.q 1 1 (.q 2 1 (.q 3 1 (.q 4 1 (.q 5 0 (.q 6 1 (.q 7 1 (.q 8 1 (.q 9 0 (.q 10 1 (.q 11 1 (.q 12 1 (.q 13 0 (.op 14 (.q 15 1 (.q 16 1 .nil))))))))))))))))) [14] k_25 (.c (.kk (.k .e)) .l) (by kernel_rfl) (fun _ => ?_)
   refine MXq 5 1 [] (.n 91 (.b (decide (((r_5.1.length : Nat) : Int) ≠ ((r_2.1.length : Nat) : Int)))) (.s .a)) (fun x hx => qe) (by kernel_rfl) (fun _ => ?_)
   refine MXq 1 0 [] (.n 92 (.b (decide (((r_5.1.length : Nat) : Int) ≠ ((r_2.1.length : Nat) : Int)))) (.s .a)) (fun x hx => qe) (by kernel_rfl) (fun _ => ?_)
   refine MX_sp 92 (decide (((r_5.1.length : Nat) : Int) ≠ ((r_2.1.length : Nat) : Int))) (.s .a) (by kernel_rfl) (fun hg _ => ?_) (fun hg _ => ?_)
   · rw [if_pos (of_decide_eq_true hg)] at hm
     refine MXq 3 1 [92] (.n 95 (.tup []) .a) (fun x hx => qe) (by kernel_rfl) (fun _ => ?_)
     refine MXq 1 0 [92] (.n 96 (.tup []) (.s .a)) (fun x hx => qe) (by kernel_rfl) (fun _ => ?_)
     refine MXq 3 1 [92] (.n 99 (.tup []) .a) (fun x hx => qe) (by kernel_rfl) (fun _ => ?_)
     refine MXq 1 0 [92] (.n 100 (.tup []) (.s .a)) (fun x hx => qe) (by kernel_rfl) (fun _ => ?_)
     refine MX_off 101 [92] (by kernel_rfl) rfl (by kernel_rfl) (fun _ => ?_)
     refine MXq 2 1 [92] (.n 103 (.b true) (.ssss .a)) (fun x hx => qe) (by kernel_rfl) (fun _ => ?_)
     refine MX_nil <| At_go <| W_cond true (by kernel_rfl) (fun _ => ?_) (fun h => by cases h)
     refine W_seq <| W_q [] (.n 2 (.b false) .z) qe (by kernel_rfl) ?_
     refine At_go <| W_ret (At_ir (At_tr (At_tr (At_ir (At_tr ?_)))))
     have hm := exit_of hm hr0
     obtain rfl := Option.some.inj hm
     refine At_rt [.b false] qe (by kernel_rfl) ?_
     have k_26 := k_25.sel .z
     exact ⟨rfl, k_26⟩
   · rw [if_neg (of_decide_eq_false hg)] at hm
     obtain ⟨b6, h_b6, hm⟩ := ob hm
     obtain ⟨A_b6, c_b6, hh3, hle3⟩ := k_25.at2 1 rfl h_b6
     refine MXq 3 1 [92] (.n 95 (.v (.pointer (ixA A3 k_22 1))) .a) (fun x hx => qJ (hx.hd2 1 rfl) hh3 (k_25.hlen2 1 rfl) <| qe) (by kernel_rfl) (fun _ => ?_)
     refine MXq 1 0 [92] (.n 96 (sl A_b6 b6.length c_b6) (.s .a)) (fun x hx => qC (sl A_b6 b6.length c_b6) (Rd.el (k := 0) (hx.hd2 1 rfl) hh3 (Pt.ix1 A3 k_22 1) rfl) <| qe) (by kernel_rfl) (fun _ => ?_)
     obtain ⟨b7, h_b7, hm⟩ := ob hm
     obtain ⟨A_b7, c_b7, hh4, hle4⟩ := k_25.at2 2 rfl h_b7
     refine MXq 3 1 [92] (.n 99 (.v (.pointer (ixA A2 k_22 1))) .a) (fun x hx => qJ (hx.hd2 2 rfl) hh4 (k_25.hlen2 2 rfl) <| qe) (by kernel_rfl) (fun _ => ?_)
     refine MXq 1 0 [92] (.n 100 (sl A_b7 b7.length c_b7) (.s .a)) (fun x hx => qC (sl A_b7 b7.length c_b7) (Rd.el (k := 0) (hx.hd2 2 rfl) hh4 (Pt.ix1 A2 k_22 1) rfl) <| qe) (by kernel_rfl) (fun _ => ?_)
     refine MX_op (by kernel_rfl) rfl ?_
     obtain ⟨r_6, h_r_6, hm⟩ := ob hm
     refine Op_call [92] 101 _ yt_go13 (by kernel_rfl) (c_l06_same (F := N0) (O := N0) _ _ _ _ _ _ _ _ (Ro.n0 (k_25.in2 1 rfl h_b6 hh3)) rfl hle3 (Ro.n0 (k_25.in2 2 rfl h_b7 hh4)) rfl hle4 (Cx.refl _) _ h_r_6) ?_
     rintro e_ w_9 ⟨rfl, k_27⟩
     have k_28 := k_25.call k_27
     refine ⟨.b r_6, rfl, ?_⟩
     refine ⟨k_28, fun _ => ?_⟩
     refine MXq 2 1 [92] (.n 103 (.b (!r_6)) (.ssss .a)) (fun x hx => qe) (by kernel_rfl) (fun _ => ?_)
     refine MX_nil <| At_go <| W_cond (!r_6) (by kernel_rfl) (fun hc9 => ?_) (fun hc9 => ?_)
     · rw [if_pos hc9] at hm
       refine W_seq <| W_q [] (.n 2 (.b false) .z) qe (by kernel_rfl) ?_
       refine At_go <| W_ret (At_ir (At_tr (At_tr (At_ir (At_tr ?_)))))
       have hm := exit_of hm hr0
       obtain rfl := Option.some.inj hm
       refine At_rt [.b false] qe (by kernel_rfl) ?_
       have k_29 := k_28.sel .z
       exact ⟨rfl, k_29⟩
     rw [if_neg (by rw [hc9]; decide)] at hm
     refine W_skip <| At_in <| At_go <| W_q [] (.n 12 (I (w64 (k_22 + 1))) (.s (.kkkk .z))) qe (by kernel_rfl) ?_
     exact At_rd (w64 (k_22 + 1)) (Option.some.inj hm).symm ⟨w64 (k_22 + 1), rfl, rfl, k_28⟩ (by kernel_rfl)
 rw [if_neg hc8] at hm
 refine W_exit (At_te (At_te (At_ie ?_)))
 have hm := exit_of hm hr0
 refine At_go <| W_seq <| W_reg <| WLs 2 [] (.n 104 (sl A r_.length c) (.n 105 (sl A_b b.length c_b) .z)) qe (by kernel_rfl) ?_
 refine WL_op ?_
 obtain ⟨r_7, h_r_7, hm⟩ := ob hm
 refine Op_call [] 106 _ yt_go15 (by kernel_rfl) (c_l06_kept (F := N0) (O := N0) _ _ _ _ _ _ _ _ (Ro.n0 (k_23.rd 0 rfl)) (k_23.len 0 rfl) (k_23.lec 0 rfl) (Ro.n0 (h_b.cx k_23)) rfl hc_b (Cx.refl _) _ h_r_7) ?_
 rintro e_ w_10 ⟨rfl, k_30⟩
 have k_31 := k_23.call k_30
 refine ⟨.b r_7, rfl, ?_⟩
 have k_32 := k_31.sel .z
 refine WLs 1 [] (.n 2 (.b r_7) .z) qe (by kernel_rfl) ?_
 refine WL_nil <| At_go <| W_ret ?_
 obtain rfl := Option.some.inj hm
 refine At_rt [.b r_7] qe (by kernel_rfl) ?_
 exact ⟨rfl, k_32⟩
end Go.Sx
