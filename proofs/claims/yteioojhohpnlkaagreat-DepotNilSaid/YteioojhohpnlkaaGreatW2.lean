import Derived.Test.YteioojhohpnlkaaGreatW1
namespace Go.Sx
open Go.RowKit Go.Proofs
set_option linter.unusedVariables false
set_option linter.unusedSimpArgs false
set_option maxRecDepth 20000

-- (*quern/node.half[uint32]).write
theorem c_node_half_uint32_write {F O : Nat → Prop} {w : World} (x_h : Vec UInt32 8) (x_count_Lo : UInt64) (x_count_Hi : UInt64) (x_held : List UInt8) (x_block : Int) (b : List UInt8) (g_x : Nat) (A_x_held : Option Addr) (n_x_held : Nat) (c_x_held : Nat) (A_b : Option Addr) (n_b : Nat) (c_b : Nat) (h_b : Ro F w A_b (e8.all b)) (hn_b : b.length = n_b) (hc_b : n_b ≤ c_b) (k : Cx F O w w [Bx 220 g_x [.ar e32 x_h, .u64 x_count_Lo, .u64 x_count_Hi, sl A_x_held n_x_held c_x_held, I x_block, .v (.func (.func 143) ⟨SV.vals []⟩ ⟨SV.vals []⟩), .v (.func (.func 144) ⟨SV.vals []⟩ ⟨SV.vals []⟩)], Ow e8 A_x_held n_x_held c_x_held x_held]) (r : (Vec UInt32 8 × UInt64 × UInt64 × List UInt8 × Int)) (hm : m_node_half_uint32_write x_h x_count_Lo x_count_Hi x_held x_block b = some r) :
    Calls Tryz.prog 193 (vals [pt g_x 0, sl A_b n_b c_b]) w (fun e w' => ∃ A n c, r.2.2.2.1.length = n ∧ e = .returned (SV.val (.tup [])) ∧ Cx F O w w' [Bx 220 g_x [.ar e32 r.1, .u64 r.2.1, .u64 r.2.2.1, sl A n c, I r.2.2.2.2, .v (.func (.func 143) ⟨SV.vals []⟩ ⟨SV.vals []⟩), .v (.func (.func 144) ⟨SV.vals []⟩ ⟨SV.vals []⟩)], Ow e8 A n c r.2.2.2.1]) := by
 unfold m_node_half_uint32_write at hm
 obtain rfl := k.len 1 rfl
 subst hn_b
 refine calls [pt g_x 0, sl A_b b.length c_b] Tryz.func193 rfl (of_decide_eq_true (by kernel_rfl)) ?_
 refine W_block <| W_lp (m_node_half_uint32_write_l0 x_block) (fun s L wr => ∃ (x_0 : Vec UInt32 8) (x_5 : UInt64) (x_6 : UInt64) (x_7 : List UInt8) (b1 : List UInt8) (A0 : Option Addr) (n0 : Nat) (c0 : Nat) (A1 : Option Addr) (c1 : Nat), (x_0, x_5, x_6, x_7, b1) = s ∧ L = [(0, pt g_x 0), (1, sl A1 b1.length c1)] ∧ x_7.length = n0 ∧ Ro F w A1 (e8.all b1) ∧ b1.length ≤ c1 ∧ Cx F O w wr [Bx 220 g_x [.ar e32 x_0, .u64 x_5, .u64 x_6, sl A0 n0 c0, I x_block, .v (.func (.func 143) ⟨SV.vals []⟩ ⟨SV.vals []⟩), .v (.func (.func 144) ⟨SV.vals []⟩ ⟨SV.vals []⟩)], Ow e8 A0 n0 c0 x_7]) (x_h, x_count_Lo, x_count_Hi, x_held, b) r hm ⟨x_h, x_count_Lo, x_count_Hi, x_held, b, A_x_held, x_held.length, c_x_held, A_b, c_b, rfl, rfl, k.len 1 rfl, h_b, hc_b, k⟩ (by kernel_rfl) ?_
 intro s0_ L_ w_ y0 hrel hstep hr0
 obtain ⟨x_0, x_5, x_6, x_7, b1, A0, _, c0, A1, c1, rfl, rfl, rfl, h, hc, k_⟩ := hrel
 have hm := hstep; simp only [m_node_half_uint32_write_l0] at hm
 clear hstep
 refine W_seq <| W_seq <| W_q [] (.n 7 (.b (decide (0 < ((b1.length : Nat) : Int)))) .a) qe (by kernel_rfl) ?_
 refine At_go <| W_condp (0 < ((b1.length : Nat) : Int)) (by kernel_rfl) (fun hc1 => ?_) (fun hc1 => ?_)
 · rw [if_pos hc1] at hm
   refine W_skip <| At_go <| W_block <| W_cut (fun L wr => ∃ (x_8 : Vec UInt32 8) (x_9 : UInt64) (x_10 : UInt64) (x_11 : List UInt8) (A2 : Option Addr) (n1 : Nat) (c2 : Nat), m_node_half_uint32_write_j0 x_block b1 x_8 x_9 x_10 x_11 = some y0 ∧ L = [(0, pt g_x 0), (1, sl A1 b1.length c1)] ∧ x_11.length = n1 ∧ Cx F O w wr [Bx 220 g_x [.ar e32 x_8, .u64 x_9, .u64 x_10, sl A2 n1 c2, I x_block, .v (.func (.func 143) ⟨SV.vals []⟩ ⟨SV.vals []⟩), .v (.func (.func 144) ⟨SV.vals []⟩ ⟨SV.vals []⟩)], Ow e8 A2 n1 c2 x_11]) ?_ ?_
   ·
    refine W_seq <| W_d yz_mixed (by kernel_rfl) (.n 17 (.b (decide (((x_7.length : Nat) : Int) = x_block))) (.s .a)) (fun m => qs g_x 0 <| qs g_x 0 <| qB (k_.drew m) 0 rfl 10 (sl A0 x_7.length c0) (by kernel_rfl) <| qs g_x 0 <| qs g_x 0 <| qB (k_.drew m) 0 rfl 11 (I x_block) (by kernel_rfl) <| qe) (by kernel_rfl) (fun m_ => ?_)
    have k_1 := k_.drew m_
    refine At_go <| W_condp (((x_7.length : Nat) : Int) = x_block) (by kernel_rfl) (fun hc2 => ?_) (fun hc2 => ?_)
    · rw [if_pos hc2] at hm
      refine W_seq ?_
      have k_2 := k_1.drew 1
      refine W_m yz_mixed (.q 0 1 (.q 1 1 (.q 2 1 (.q 3 1 (.q 4 0 (.q 5 1 (.q 6 1 (.q 7 1 (.q 8 1 (.q 9 0 (.op 10 (.q 11 1 (.q 12 1 (.q 13 2 (.q 14 2 (.q 15 1 (.op 16 .nil))))))))))))))))) [10, 16] k_2 (.c (.kk .e) (.c (.s (.k .e)) .l)) (by kernel_rfl) (fun _ => ?_)
      refine MXq 4 1 [] (.n 19 (pt g_x 0) (.n 22 (pt g_x 8) (.s .a))) (fun x hx => qs g_x 0 <| qs g_x 0 <| qe) (by kernel_rfl) (fun _ => ?_)
      refine MXq 1 0 [] (.n 23 (.agg [.u64 x_5, .u64 x_6]) (.k (.s .a))) (fun x hx => qT hx 0 rfl 8 2 [.u64 x_5, .u64 x_6] (by kernel_rfl) (by decide) <| qe) (by kernel_rfl) (fun _ => ?_)
      refine MXq 4 1 [] (.n 27 (I x_block) .a) (fun x hx => qs g_x 0 <| qs g_x 0 <| qB hx 0 rfl 11 (I x_block) (by kernel_rfl) <| qe) (by kernel_rfl) (fun _ => ?_)
      refine MXq 1 0 [] (.n 28 (.u64 (UInt64.ofInt x_block)) (.s .a)) (fun x hx => qe) (by kernel_rfl) (fun _ => ?_)
      refine MX_op (by kernel_rfl) rfl ?_
      obtain ⟨r_, h_r_, hm⟩ := ob hm
      refine Op_call [] 29 _ yz_go188 (by kernel_rfl) (c_word_Add (F := N0) (O := N0) _ _ _ (Cx.refl _) _ h_r_) ?_
      rintro e_ w_1 ⟨rfl, k_3⟩
      have k_4 := k_2.call k_3
      refine ⟨.tup [.agg [.u64 r_.1, .u64 r_.2.1], .b r_.2.2], rfl, ?_⟩
      refine ⟨k_4, fun _ => ?_⟩
      refine MXq 2 1 [] (.n 18 (.tup [.agg [.u64 r_.1, .u64 r_.2.1], .b r_.2.2]) (.n 30 (.agg [.u64 r_.1, .u64 r_.2.1]) (.sss .a))) (fun x hx => qe) (by kernel_rfl) (fun _ => ?_)
      refine MXq 2 2 [] (.n 32 (pt g_x 0) (.s (.k (.s .a)))) (fun x hx => qs g_x 0 <| qe) (by kernel_rfl) (fun _ => ?_)
      refine MXq 1 1 [] (.n 33 (pt g_x 8) (.s .a)) (fun x hx => qs g_x 0 <| qe) (by kernel_rfl) (fun _ => ?_)
      refine MX_op (by kernel_rfl) rfl <| Op_b [] 0 (.agg [.u64 r_.1, .u64 r_.2.1]) [.u64 r_.1, .u64 r_.2.1] (Pt.at g_x 8) k_4 rfl (.k .h2) (by kernel_rfl) (by kernel_rfl) ?_
      intro w_2 k_5
      refine ⟨(k_5.sel (.s (.k .e))), fun _ => ?_⟩
      refine MX_nil <| At_go <| W_seq ?_
      have k_6 := k_5.drew 1
      refine W_m yz_mixed (.q 0 1 (.q 1 1 (.q 2 1 (.q 3 1 (.q 4 0 (.q 5 1 (.q 6 1 (.q 7 1 (.q 8 0 (.q 9 1 (.q 10 1 (.q 11 1 (.q 12 0 (.q 13 1 (.q 14 1 (.q 15 1 (.q 16 0 (.op 17 (.q 18 2 (.q 19 1 (.op 20 .nil))))))))))))))))))))) [17, 20] k_6 (.c (.kk .e) (.c (.s (.k .e)) .l)) (by kernel_rfl) (fun _ => ?_)
      refine MXq 4 1 [] (.n 34 (pt g_x 0) (.n 37 (pt g_x 12) (.ss .a))) (fun x hx => qs g_x 0 <| qs g_x 0 <| qe) (by kernel_rfl) (fun _ => ?_)
      refine MXq 1 0 [] (.n 38 (.v (.func (.func 143) ⟨SV.vals []⟩ ⟨SV.vals []⟩)) (.k (.s .a))) (fun x hx => qB hx 0 rfl 12 (.v (.func (.func 143) ⟨SV.vals []⟩ ⟨SV.vals []⟩)) (by kernel_rfl) <| qe) (by kernel_rfl) (fun _ => ?_)
      refine MXq 3 1 [] (.n 41 (pt g_x 0) .a) (fun x hx => qs g_x 0 <| qs g_x 0 <| qe) (by kernel_rfl) (fun _ => ?_)
      refine MXq 1 0 [] (.n 42 (.agg [.ar e32 x_0]) (.s .a)) (fun x hx => qT hx 0 rfl 0 8 [.ar e32 x_0] (by kernel_rfl) (by decide) <| qe) (by kernel_rfl) (fun _ => ?_)
      refine MXq 3 1 [] (.n 45 (pt g_x 10) .a) (fun x hx => qs g_x 0 <| qs g_x 0 <| qe) (by kernel_rfl) (fun _ => ?_)
      refine MXq 1 0 [] (.n 46 (sl A0 x_7.length c0) (.s .a)) (fun x hx => qB hx 0 rfl 10 (sl A0 x_7.length c0) (by kernel_rfl) <| qe) (by kernel_rfl) (fun _ => ?_)
      refine MXq 3 1 [] (.n 49 (pt g_x 8) .a) (fun x hx => qs g_x 0 <| qs g_x 0 <| qe) (by kernel_rfl) (fun _ => ?_)
      refine MXq 1 0 [] (.n 50 (.agg [.u64 r_.1, .u64 r_.2.1]) (.s .a)) (fun x hx => qT hx 0 rfl 8 2 [.u64 r_.1, .u64 r_.2.1] (by kernel_rfl) (by decide) <| qe) (by kernel_rfl) (fun _ => ?_)
      refine MX_op (by kernel_rfl) rfl ?_
      obtain ⟨r_1, h_r_1, hm⟩ := ob hm
      refine Op_callv [] 51 [] [.agg [.ar e32 x_0], sl A0 x_7.length c0, .agg [.u64 r_.1, .u64 r_.2.1], .b false, .b false] [] yz_go143 (by kernel_rfl) (c_node_mixSmall (F := N0) (O := N0) _ _ _ _ _ _ _ _ _ (Ro.n0 (k_6.rd 1 rfl)) (k_6.len 1 rfl) (k_6.lec 1 rfl) (Cx.refl _) _ h_r_1) ?_
      rintro e_ w_3 ⟨rfl, k_7⟩
      have k_8 := k_6.call k_7
      refine ⟨.agg [.ar e32 r_1], rfl, ?_⟩
      refine ⟨k_8, fun _ => ?_⟩
      refine MXq 1 2 [] (.n 52 (pt g_x 0) (.k (.ssss (.s .a)))) (fun x hx => qs g_x 0 <| qe) (by kernel_rfl) (fun _ => ?_)
      refine MXq 1 1 [] (.n 53 (pt g_x 0) (.s .a)) (fun x hx => qs g_x 0 <| qe) (by kernel_rfl) (fun _ => ?_)
      refine MX_op (by kernel_rfl) rfl <| Op_b [] 0 (.agg [.ar e32 r_1]) [.ar e32 r_1] (Pt.at g_x 0) k_8 rfl .h (by kernel_rfl) (by kernel_rfl) ?_
      intro w_4 k_9
      refine ⟨(k_9.sel (.s (.k .e))), fun _ => ?_⟩
      refine MX_nil <| At_go <| W_reg ?_
      obtain ⟨b2, h_b2, hm⟩ := ob hm
      have hs := slc_some h_b2
      have hl := slc_len h_b2
      have hn : x_7.length = x_7.length := (k_9.len 1 rfl)
      have hc3 : x_7.length ≤ c0 := (k_9.lec 1 rfl)
      have hc4 : b2.length ≤ c0 := by omega
      refine WLs 8 [] (.n 59 (sl A0 b2.length c0) (.n 61 (pt g_x 10) (.ss .a))) (qs g_x 0 <| qs g_x 0 <| qB k_9 0 rfl 10 (sl A0 x_7.length c0) (by kernel_rfl) <| qp (0 ≤ (0 : Int) ∧ (0 : Int) ≤ ((c0 : Nat) : Int)) (by omega) <| qo (.v (.slice A0 b2.length c0)) <| qp (Value.slice (slA A0 0 c0 1) (Int.toNat (0 : Int) - 0) (c0 - 0) = .slice A0 b2.length c0) (slx0 _ _ _ _ _ (by omega)) <| qs g_x 0 <| qs g_x 0 <| qe) (by kernel_rfl) ?_
      refine WL_op ?_
      have k_10 := k_9.sel (.kk .e)
      refine Op_b [] 0 (sl A0 b2.length c0) [sl A0 b2.length c0] (Pt.at g_x 10) k_10 rfl (.kk (.k .h)) (by kernel_rfl) (by kernel_rfl) ?_
      intro w_5 k_11
      refine WL_nil ?_
      have k_12 := k_11.pre 1 rfl b2.length c0 b2 (by omega) (by omega) (by omega) (slc_pre h_b2 rfl)
      exact At_c ⟨r_1, r_.1, r_.2.1, b2, A0, b2.length, c0, hm, rfl, k_12.len 1 rfl, k_12⟩ (by kernel_rfl)
    rw [if_neg hc2] at hm
    refine W_skip ?_
    exact At_c ⟨x_0, x_5, x_6, x_7, A0, x_7.length, c0, hm, rfl, k_1.len 1 rfl, k_1⟩ (by kernel_rfl)
   rintro L_ w_6 ⟨x_8, x_9, x_10, x_11, A2, _, c2, hm, rfl, rfl, k_13⟩
   simp only [m_node_half_uint32_write_j0] at hm
   refine W_seq <| W_d yz_mixed (by kernel_rfl) (.n 4 (I (if w64 (x_block - ((x_11.length : Nat) : Int)) < ((b1.length : Nat) : Int) then w64 (x_block - ((x_11.length : Nat) : Int)) else ((b1.length : Nat) : Int))) .a) (fun m => qs g_x 0 <| qs g_x 0 <| qB (k_13.drew m) 0 rfl 11 (I x_block) (by kernel_rfl) <| qs g_x 0 <| qs g_x 0 <| qB (k_13.drew m) 0 rfl 10 (sl A2 x_11.length c2) (by kernel_rfl) <| qe) (by kernel_rfl) (fun m_1 => ?_)
   have k_14 := k_13.drew m_1
   refine At_go <| W_seq ?_
   have k_15 := k_14.drew 1
   refine W_m yz_mixed (.q 0 1 (.q 1 1 (.q 2 1 (.q 3 1 (.q 4 0 (.q 5 1 (.q 6 1 (.q 7 0 (.op 8 (.q 9 2 (.q 10 1 (.op 11 .nil)))))))))))) [8, 11] k_15 (.c (.k .z) (.c (.z) .l)) (by kernel_rfl) (fun _ => ?_)
   refine MXq 4 1 [] (.n 75 (pt g_x 0) (.n 78 (pt g_x 10) .a)) (fun x hx => qs g_x 0 <| qs g_x 0 <| qe) (by kernel_rfl) (fun _ => ?_)
   refine MXq 1 0 [] (.n 79 (sl A2 x_11.length c2) (.k (.s .a))) (fun x hx => qB hx 0 rfl 10 (sl A2 x_11.length c2) (by kernel_rfl) <| qe) (by kernel_rfl) (fun _ => ?_)
   refine MXq 2 1 [] (.n 80 (sl A1 b1.length c1) (.n 81 (I (if w64 (x_block - ((x_11.length : Nat) : Int)) < ((b1.length : Nat) : Int) then w64 (x_block - ((x_11.length : Nat) : Int)) else ((b1.length : Nat) : Int))) .a)) (fun x hx => qe) (by kernel_rfl) (fun _ => ?_)
   obtain ⟨b3, h_b3, hm⟩ := ob hm
   have hs1 := slc_some h_b3
   have hl1 := slc_len h_b3
   have hn1 : b1.length = b1.length := rfl
   have hc5 : b1.length ≤ c1 := hc
   have hc6 : b3.length ≤ c1 := by omega
   refine MXq 1 0 [] (.n 82 (sl A1 b3.length c1) (.ss .a)) (fun x hx => qp (0 ≤ (if w64 (x_block - ((x_11.length : Nat) : Int)) < ((b1.length : Nat) : Int) then w64 (x_block - ((x_11.length : Nat) : Int)) else ((b1.length : Nat) : Int)) ∧ (if w64 (x_block - ((x_11.length : Nat) : Int)) < ((b1.length : Nat) : Int) then w64 (x_block - ((x_11.length : Nat) : Int)) else ((b1.length : Nat) : Int)) ≤ ((c1 : Nat) : Int)) (by omega) <| qo (.v (.slice A1 b3.length c1)) <| qp (Value.slice (slA A1 0 c1 1) (Int.toNat (if w64 (x_block - ((x_11.length : Nat) : Int)) < ((b1.length : Nat) : Int) then w64 (x_block - ((x_11.length : Nat) : Int)) else ((b1.length : Nat) : Int)) - 0) (c1 - 0) = .slice A1 b3.length c1) (slx0 _ _ _ _ _ (by omega)) <| qe) (by kernel_rfl) (fun _ => ?_)
   refine MX_op (by kernel_rfl) rfl ?_
   obtain ⟨b4, h_b4, hm⟩ := ob hm
   obtain ⟨hz, hl2⟩ := app_some h_b4
   refine Op_append (E := e8) (v := sl A1 b3.length c1) (ys := b3) yz_tf26 [] 83 1 (by kernel_rfl) k_15 rfl (Src.sl (Rd.pre (h.cx k_15) h_b3 rfl) rfl (by rfl)) rfl (by have := k_15.len 1 rfl; have := hm; omega) ?_
   intro A3 c3 w_7 k_16
   rw [← hl2] at k_16
   refine ⟨(k_16.sel (.k .z)), fun _ => ?_⟩
   refine MXq 1 2 [] (.n 84 (pt g_x 0) (.k (.sss .a))) (fun x hx => qs g_x 0 <| qe) (by kernel_rfl) (fun _ => ?_)
   refine MXq 1 1 [] (.n 85 (pt g_x 10) (.s .a)) (fun x hx => qs g_x 0 <| qe) (by kernel_rfl) (fun _ => ?_)
   refine MX_op (by kernel_rfl) rfl <| Op_b [] 0 (sl A3 (x_11.length + b3.length) c3) [sl A3 (x_11.length + b3.length) c3] (Pt.at g_x 10) k_16 rfl (.kk (.k .h)) (by kernel_rfl) (by kernel_rfl) ?_
   intro w_8 k_17
   refine ⟨(k_17.sel .z), fun _ => ?_⟩
   refine MX_nil <| At_go ?_
   obtain ⟨b5, h_b5, hm⟩ := ob hm
   have hs2 := slc_some h_b5
   have hl3 := slc_len h_b5
   have hn2 : b1.length = b1.length := rfl
   have hc7 : b1.length ≤ c1 := hc
   obtain ⟨A4, c4, e_, hc8, hA, hc9⟩ := slx A1 (Int.toNat (if w64 (x_block - ((x_11.length : Nat) : Int)) < ((b1.length : Nat) : Int) then w64 (x_block - ((x_11.length : Nat) : Int)) else ((b1.length : Nat) : Int))) c1 1 (b1.length - Int.toNat (if w64 (x_block - ((x_11.length : Nat) : Int)) < ((b1.length : Nat) : Int) then w64 (x_block - ((x_11.length : Nat) : Int)) else ((b1.length : Nat) : Int))) b5.length (by omega) (by omega)
   refine W_q [] (.n 1 (sl A4 b5.length c4) (.sss (.k .z))) (qp (0 ≤ (if w64 (x_block - ((x_11.length : Nat) : Int)) < ((b1.length : Nat) : Int) then w64 (x_block - ((x_11.length : Nat) : Int)) else ((b1.length : Nat) : Int)) ∧ (if w64 (x_block - ((x_11.length : Nat) : Int)) < ((b1.length : Nat) : Int) then w64 (x_block - ((x_11.length : Nat) : Int)) else ((b1.length : Nat) : Int)) ≤ ((b1.length : Nat) : Int)) (by omega) <| qo (.v (.slice A4 b5.length c4)) <| qp (Value.slice (slA A1 (Int.toNat (if w64 (x_block - ((x_11.length : Nat) : Int)) < ((b1.length : Nat) : Int) then w64 (x_block - ((x_11.length : Nat) : Int)) else ((b1.length : Nat) : Int))) c1 1) (b1.length - Int.toNat (if w64 (x_block - ((x_11.length : Nat) : Int)) < ((b1.length : Nat) : Int) then w64 (x_block - ((x_11.length : Nat) : Int)) else ((b1.length : Nat) : Int))) (c1 - Int.toNat (if w64 (x_block - ((x_11.length : Nat) : Int)) < ((b1.length : Nat) : Int) then w64 (x_block - ((x_11.length : Nat) : Int)) else ((b1.length : Nat) : Int))) = .slice A4 b5.length c4) e_ <| qe) (by kernel_rfl) ?_
   refine At_in ?_
   exact At_rd (x_8, x_9, x_10, b4, b5) (Option.some.inj hm).symm ⟨x_8, x_9, x_10, b4, b5, A3, x_11.length + b3.length, c3, A4, c4, rfl, rfl, k_17.len 1 rfl, (Ro.cut h h_b5 rfl (by rfl) hA (by omega)), hc8, k_17⟩ (by kernel_rfl)
 rw [if_neg hc1] at hm
 refine W_exit (At_te (At_te (At_ie ?_)))
 have hm := exit_of hm hr0
 obtain rfl := Option.some.inj hm
 refine At_en [] qe (by kernel_rfl) ?_
 exact ⟨A0, x_7.length, c0, k_.len 1 rfl, rfl, k_⟩

-- (*quern/node.Node).begin
theorem c_node_Node_begin {F O : Nat → Prop} {w : World} (n_kind : Int) (n_digest : Int) (n_block : List UInt8) (n_key : List UInt8) (n_last : Bool) (n_written : UInt64) (g_n : Nat) (A_n_block : Option Addr) (n_n_block : Nat) (c_n_block : Nat) (A_n_key : Option Addr) (n_n_key : Nat) (c_n_key : Nat) (k : Cx F O w w [Bx 163 g_n [I n_kind, I n_digest, sl A_n_block n_n_block c_n_block, sl A_n_key n_n_key c_n_key, .b n_last, .u64 n_written, .v .nilIface], Ow e8 A_n_block n_n_block c_n_block n_block, Ow e8 A_n_key n_n_key c_n_key n_key]) (r : (Int × Int × List UInt8 × List UInt8 × Vec UInt64 8 × UInt64 × UInt64 × List UInt8 × Int) ⊕ (Int × Int × List UInt8 × List UInt8 × Vec UInt32 8 × UInt64 × UInt64 × List UInt8 × Int)) (hm : m_node_Node_begin n_kind n_digest n_block n_key n_last n_written = some r) :
    Calls Tryz.prog 135 (vals [pt g_n 0]) w (fun e w' => match r with | .inl r0 => ∃ A n c A1 n1 c1 g A2 n2 c2, r0.2.2.1.length = n ∧ r0.2.2.2.1.length = n1 ∧ r0.2.2.2.2.2.2.2.1.length = n2 ∧ e = .returned (SV.val (.tup [])) ∧ Cx F O w w' [Bx 163 g_n [I r0.1, I r0.2.1, sl A n c, sl A1 n1 c1, .b false, .u64 0, .v (.iface 206 (SV.val (pt g 0)))], Ow e8 A n c r0.2.2.1, Ow e8 A1 n1 c1 r0.2.2.2.1, Bx 212 g [.ar e64 r0.2.2.2.2.1, .u64 r0.2.2.2.2.2.1, .u64 r0.2.2.2.2.2.2.1, sl A2 n2 c2, I r0.2.2.2.2.2.2.2.2, .v (.func (.func 140) ⟨SV.vals []⟩ ⟨SV.vals []⟩), .v (.func (.func 141) ⟨SV.vals []⟩ ⟨SV.vals []⟩)], Ow e8 A2 n2 c2 r0.2.2.2.2.2.2.2.1] | .inr r1 => ∃ A3 n3 c3 A4 n4 c4 g1 A5 n5 c5, r1.2.2.1.length = n3 ∧ r1.2.2.2.1.length = n4 ∧ r1.2.2.2.2.2.2.2.1.length = n5 ∧ e = .returned (SV.val (.tup [])) ∧ Cx F O w w' [Bx 163 g_n [I r1.1, I r1.2.1, sl A3 n3 c3, sl A4 n4 c4, .b false, .u64 0, .v (.iface 216 (SV.val (pt g1 0)))], Ow e8 A3 n3 c3 r1.2.2.1, Ow e8 A4 n4 c4 r1.2.2.2.1, Bx 220 g1 [.ar e32 r1.2.2.2.2.1, .u64 r1.2.2.2.2.2.1, .u64 r1.2.2.2.2.2.2.1, sl A5 n5 c5, I r1.2.2.2.2.2.2.2.2, .v (.func (.func 143) ⟨SV.vals []⟩ ⟨SV.vals []⟩), .v (.func (.func 144) ⟨SV.vals []⟩ ⟨SV.vals []⟩)], Ow e8 A5 n5 c5 r1.2.2.2.2.2.2.2.1]) := by
 unfold m_node_Node_begin at hm
 obtain rfl := k.len 1 rfl
 obtain rfl := k.len 2 rfl
 refine calls [pt g_n 0] Tryz.func135 rfl (of_decide_eq_true (by kernel_rfl)) ?_
 refine W_seq ?_
 have k_ := k.drew 1
 refine W_m yz_mixed (.q 0 1 (.q 1 1 (.q 2 1 (.q 3 1 (.q 4 0 (.q 5 1 (.q 6 1 (.q 7 1 (.q 8 0 (.op 9 (.q 10 2 (.q 11 1 (.op 12 .nil))))))))))))) [9, 12] k_ (.c (.kk (.k .e)) (.c (.s (.kk .e)) .l)) (by kernel_rfl) (fun _ => ?_)
 refine MXq 4 1 [] (.n 2 (pt g_n 0) (.n 5 (pt g_n 0) .a)) (fun x hx => qs g_n 0 <| qs g_n 0 <| qe) (by kernel_rfl) (fun _ => ?_)
 refine MXq 1 0 [] (.n 6 (I n_kind) (.k (.s .a))) (fun x hx => qB hx 0 rfl 0 (I n_kind) (by kernel_rfl) <| qe) (by kernel_rfl) (fun _ => ?_)
 refine MXq 3 1 [] (.n 9 (pt g_n 2) .a) (fun x hx => qs g_n 0 <| qs g_n 0 <| qe) (by kernel_rfl) (fun _ => ?_)
 refine MXq 1 0 [] (.n 10 (sl A_n_block n_block.length c_n_block) (.s .a)) (fun x hx => qB hx 0 rfl 2 (sl A_n_block n_block.length c_n_block) (by kernel_rfl) <| qe) (by kernel_rfl) (fun _ => ?_)
 refine MX_op (by kernel_rfl) rfl ?_
 obtain ⟨r_, h_r_, hm⟩ := ob hm
 refine Op_call [] 11 _ yz_go137 (by kernel_rfl) (c_node_begun (F := N0) (O := N0) _ _ _ _ _ (Ro.n0 (k_.rd 1 rfl)) (k_.len 1 rfl) (k_.lec 1 rfl) (Cx.refl _) _ h_r_) ?_
 rcases r_ with r_1 | r_2
 · simp only [Sum.elim_inl, Sum.elim_inr] at hm
   rintro e_ w_ ⟨g0, A0, _, c0, rfl, rfl, k_1⟩
   have k_2 := k_.call k_1
   refine ⟨.v (.iface 206 (SV.val (pt g0 0))), rfl, ?_⟩
   refine ⟨(k_2.sel (.kk (.k .z))), fun _ => ?_⟩
   refine MXq 1 2 [] (.n 12 (pt g_n 0) (.k (.sss .a))) (fun x hx => qs g_n 0 <| qe) (by kernel_rfl) (fun _ => ?_)
   refine MXq 1 1 [] (.n 13 (pt g_n 6) (.s .a)) (fun x hx => qs g_n 0 <| qe) (by kernel_rfl) (fun _ => ?_)
   refine MX_op (by kernel_rfl) rfl <| Op_b [] 0 (.v (.iface 206 (SV.val (pt g0 0)))) [.v (.iface 206 (SV.val (pt g0 0)))] (Pt.at g_n 6) k_2 rfl (.kkkk (.kk .h)) (by kernel_rfl) (by kernel_rfl) ?_
   intro w_1 k_3
   refine ⟨(k_3.sel (.s (.kk .z))), fun _ => ?_⟩
   refine MX_nil <| At_go <| W_seq <| W_reg <| WLs 3 [] (.n 16 (pt g_n 4) (.ss .a)) (qs g_n 0 <| qs g_n 0 <| qe) (by kernel_rfl) ?_
   refine WL_op <| Op_b [] 0 (.b false) [.b false] (Pt.at g_n 4) k_3 rfl (.kkkk .h) (by kernel_rfl) (by kernel_rfl) ?_
   intro w_2 k_4
   refine WL_nil <| At_go <| W_seq <| W_reg <| WLs 3 [] (.n 19 (pt g_n 5) (.s .a)) (qs g_n 0 <| qs g_n 0 <| qe) (by kernel_rfl) ?_
   refine WL_op <| Op_b [] 0 (.u64 0) [.u64 0] (Pt.at g_n 5) k_4 rfl (.kkkk (.k .h)) (by kernel_rfl) (by kernel_rfl) ?_
   intro w_3 k_5
   refine WL_nil <| At_go <| W_seq <| W_q [] (.n 25 (.b (decide (0 < ((n_key.length : Nat) : Int)))) (.s .a)) (qs g_n 0 <| qs g_n 0 <| qB k_5 0 rfl 3 (sl A_n_key n_key.length c_n_key) (by kernel_rfl) <| qe) (by kernel_rfl) ?_
   refine At_go <| W_condp (0 < ((n_key.length : Nat) : Int)) (by kernel_rfl) (fun hc => ?_) (fun hc => ?_)
   · rw [if_pos hc] at hm
     have k_6 := k_5.drew 1
     refine W_m yz_mixed (.q 0 3 (.q 1 3 (.q 2 3 (.q 3 3 (.q 4 3 (.q 5 3 (.q 6 3 (.q 7 2 (.q 8 3 (.q 9 3 (.q 10 3 (.q 11 2 (.q 14 3 (.q 15 2 (.op 12 (.op 13 (.op 16 .nil))))))))))))))))) [12, 13, 16] k_6 (.c (.kkkk (.k .e)) (.c (.kkkk (.k .e)) (.c (.kk (.k .z)) .l))) (by kernel_rfl) (fun _ => ?_)
     refine MXq 7 3 [] (.n 29 (.v (.iface 206 (SV.val (pt g0 0)))) (.n 32 (pt g_n 3) (.s .a))) (fun x hx => qs g_n 0 <| qs g_n 0 <| qB hx 0 rfl 6 (.v (.iface 206 (SV.val (pt g0 0)))) (by kernel_rfl) <| qs g_n 0 <| qs g_n 0 <| qe) (by kernel_rfl) (fun _ => ?_)
     refine MXq 1 2 [] (.n 33 (sl A_n_key n_key.length c_n_key) (.k (.s .a))) (fun x hx => qB hx 0 rfl 3 (sl A_n_key n_key.length c_n_key) (by kernel_rfl) <| qe) (by kernel_rfl) (fun _ => ?_)
     refine MXq 3 3 [] (.n 36 (pt g_n 0) (.kk .z)) (fun x hx => qs g_n 0 <| qs g_n 0 <| qe) (by kernel_rfl) (fun _ => ?_)
     refine MXq 1 2 [] (.n 37 (I n_kind) (.s .a)) (fun x hx => qB hx 0 rfl 0 (I n_kind) (by kernel_rfl) <| qe) (by kernel_rfl) (fun _ => ?_)
     refine MXq 1 3 [] .a (fun x hx => qe) (by kernel_rfl) (fun _ => ?_)
     refine MXq 1 2 [] (.n 41 (.v (.iface 206 (SV.val (pt g0 0)))) (.kk .z)) (fun x hx => qe) (by kernel_rfl) (fun _ => ?_)
     refine MX_op (by kernel_rfl) rfl ?_
     have k_7 := k_6.sel (.kkkk (.k .e))
     obtain ⟨r_3, h_r_3, hm⟩ := ob hm
     refine Op_call [] 38 _ yz_go112 (by kernel_rfl) (c_node_blockOf (F := N0) (O := N0) _ (Cx.refl _) _ h_r_3) ?_
     rintro e_ w_4 ⟨rfl, k_8⟩
     have k_9 := k_7.call k_8
     refine ⟨I r_3, rfl, ?_⟩
     refine ⟨k_9, fun _ => ?_⟩
     refine MX_op (by kernel_rfl) rfl ?_
     obtain ⟨r_4, h_r_4, hm⟩ := ob hm
     refine Op_call [] 39 _ yz_go138 (by kernel_rfl) (c_node_padded (F := N0) (O := N0) _ _ _ _ _ (Ro.n0 (k_9.rd 2 rfl)) (k_9.len 2 rfl) (k_9.lec 2 rfl) (Cx.refl _) _ h_r_4) ?_
     rintro e_ w_5 ⟨A6, _, c6, rfl, rfl, k_10⟩
     have k_11 := k_9.call k_10
     refine ⟨sl A6 r_4.length c6, rfl, ?_⟩
     refine ⟨(k_11.sel (.kkkk (.k .z))), fun _ => ?_⟩
     refine MX_op (by kernel_rfl) rfl ?_
     obtain ⟨r_5, h_r_5, hm⟩ := ob hm
     obtain ⟨F1, O1, kin, hO, hre, hF, hb⟩ := k_11.go (.r (.r (.r (.i (.i (.r .e))))))
     refine Op_invoke [] 42 206 (pt g0 0) [sl A6 r_4.length c6] yz_inv206_node_write rfl (by kernel_rfl) (c_node_half_uint64_write (F := F1) (O := O1) _ _ _ _ _ _ _ _ _ _ _ _ _ (Ro.of_rest hre 3 rfl) (k_11.len 5 rfl) (k_11.lec 5 rfl) kin _ h_r_5) ?_
     rintro e_ w_6 ⟨A7, _, c7, rfl, rfl, k_12⟩
     have k_13 := hb w_6 _ _ k_12 (.c (.c .n))
     refine ⟨.tup [], rfl, ?_⟩
     have k_14 := k_13.sel (.kkkk (.k .z))
     refine ⟨(k_14.sel (.ss (.kk (.k .e)))), fun _ => ?_⟩
     refine MX_nil ?_
     obtain rfl := Option.some.inj hm
     refine At_en [] qe (by kernel_rfl) ?_
     have k_15 := ((((k_14.pk (.t .h)).pk (.t .h)).pk (.t (.t (.t (.t .h))))).pk (.t (.t (.t (.t .h))))).pk (.t (.t (.t (.t .h))))
     exact ⟨A_n_block, n_block.length, c_n_block, A_n_key, n_key.length, c_n_key, g0, A7, r_5.2.2.2.1.length, c7, k_15.len 1 rfl, k_15.len 2 rfl, k_15.len 4 rfl, rfl, k_15⟩
   rw [if_neg hc] at hm
   refine W_skip ?_
   obtain rfl := Option.some.inj hm
   refine At_en [] qe (by kernel_rfl) ?_
   exact ⟨A_n_block, n_block.length, c_n_block, A_n_key, n_key.length, c_n_key, g0, A0, r_1.2.length, c0, k_5.len 1 rfl, k_5.len 2 rfl, k_5.len 4 rfl, rfl, k_5⟩
 · simp only [Sum.elim_inl, Sum.elim_inr] at hm
   rintro e_ w_0 ⟨g2, A8, _, c8, rfl, rfl, k_16⟩
   have k_17 := k_.call k_16
   refine ⟨.v (.iface 216 (SV.val (pt g2 0))), rfl, ?_⟩
   refine ⟨(k_17.sel (.kk (.k .z))), fun _ => ?_⟩
   refine MXq 1 2 [] (.n 12 (pt g_n 0) (.k (.sss .a))) (fun x hx => qs g_n 0 <| qe) (by kernel_rfl) (fun _ => ?_)
   refine MXq 1 1 [] (.n 13 (pt g_n 6) (.s .a)) (fun x hx => qs g_n 0 <| qe) (by kernel_rfl) (fun _ => ?_)
   refine MX_op (by kernel_rfl) rfl <| Op_b [] 0 (.v (.iface 216 (SV.val (pt g2 0)))) [.v (.iface 216 (SV.val (pt g2 0)))] (Pt.at g_n 6) k_17 rfl (.kkkk (.kk .h)) (by kernel_rfl) (by kernel_rfl) ?_
   intro w_7 k_18
   refine ⟨(k_18.sel (.s (.kk .z))), fun _ => ?_⟩
   refine MX_nil <| At_go <| W_seq <| W_reg <| WLs 3 [] (.n 16 (pt g_n 4) (.ss .a)) (qs g_n 0 <| qs g_n 0 <| qe) (by kernel_rfl) ?_
   refine WL_op <| Op_b [] 0 (.b false) [.b false] (Pt.at g_n 4) k_18 rfl (.kkkk .h) (by kernel_rfl) (by kernel_rfl) ?_
   intro w_8 k_19
   refine WL_nil <| At_go <| W_seq <| W_reg <| WLs 3 [] (.n 19 (pt g_n 5) (.s .a)) (qs g_n 0 <| qs g_n 0 <| qe) (by kernel_rfl) ?_
   refine WL_op <| Op_b [] 0 (.u64 0) [.u64 0] (Pt.at g_n 5) k_19 rfl (.kkkk (.k .h)) (by kernel_rfl) (by kernel_rfl) ?_
   intro w_9 k_20
   refine WL_nil <| At_go <| W_seq <| W_q [] (.n 25 (.b (decide (0 < ((n_key.length : Nat) : Int)))) (.s .a)) (qs g_n 0 <| qs g_n 0 <| qB k_20 0 rfl 3 (sl A_n_key n_key.length c_n_key) (by kernel_rfl) <| qe) (by kernel_rfl) ?_
   refine At_go <| W_condp (0 < ((n_key.length : Nat) : Int)) (by kernel_rfl) (fun hc0 => ?_) (fun hc0 => ?_)
   · rw [if_pos hc0] at hm
     have k_21 := k_20.drew 1
     refine W_m yz_mixed (.q 0 3 (.q 1 3 (.q 2 3 (.q 3 3 (.q 4 3 (.q 5 3 (.q 6 3 (.q 7 2 (.q 8 3 (.q 9 3 (.q 10 3 (.q 11 2 (.q 14 3 (.q 15 2 (.op 12 (.op 13 (.op 16 .nil))))))))))))))))) [12, 13, 16] k_21 (.c (.kkkk (.k .e)) (.c (.kkkk (.k .e)) (.c (.kk (.k .z)) .l))) (by kernel_rfl) (fun _ => ?_)
     refine MXq 7 3 [] (.n 29 (.v (.iface 216 (SV.val (pt g2 0)))) (.n 32 (pt g_n 3) (.s .a))) (fun x hx => qs g_n 0 <| qs g_n 0 <| qB hx 0 rfl 6 (.v (.iface 216 (SV.val (pt g2 0)))) (by kernel_rfl) <| qs g_n 0 <| qs g_n 0 <| qe) (by kernel_rfl) (fun _ => ?_)
     refine MXq 1 2 [] (.n 33 (sl A_n_key n_key.length c_n_key) (.k (.s .a))) (fun x hx => qB hx 0 rfl 3 (sl A_n_key n_key.length c_n_key) (by kernel_rfl) <| qe) (by kernel_rfl) (fun _ => ?_)
     refine MXq 3 3 [] (.n 36 (pt g_n 0) (.kk .z)) (fun x hx => qs g_n 0 <| qs g_n 0 <| qe) (by kernel_rfl) (fun _ => ?_)
     refine MXq 1 2 [] (.n 37 (I n_kind) (.s .a)) (fun x hx => qB hx 0 rfl 0 (I n_kind) (by kernel_rfl) <| qe) (by kernel_rfl) (fun _ => ?_)
     refine MXq 1 3 [] .a (fun x hx => qe) (by kernel_rfl) (fun _ => ?_)
     refine MXq 1 2 [] (.n 41 (.v (.iface 216 (SV.val (pt g2 0)))) (.kk .z)) (fun x hx => qe) (by kernel_rfl) (fun _ => ?_)
     refine MX_op (by kernel_rfl) rfl ?_
     have k_22 := k_21.sel (.kkkk (.k .e))
     obtain ⟨r_6, h_r_6, hm⟩ := ob hm
     refine Op_call [] 38 _ yz_go112 (by kernel_rfl) (c_node_blockOf (F := N0) (O := N0) _ (Cx.refl _) _ h_r_6) ?_
     rintro e_ w_10 ⟨rfl, k_23⟩
     have k_24 := k_22.call k_23
     refine ⟨I r_6, rfl, ?_⟩
     refine ⟨k_24, fun _ => ?_⟩
     refine MX_op (by kernel_rfl) rfl ?_
     obtain ⟨r_7, h_r_7, hm⟩ := ob hm
     refine Op_call [] 39 _ yz_go138 (by kernel_rfl) (c_node_padded (F := N0) (O := N0) _ _ _ _ _ (Ro.n0 (k_24.rd 2 rfl)) (k_24.len 2 rfl) (k_24.lec 2 rfl) (Cx.refl _) _ h_r_7) ?_
     rintro e_ w_11 ⟨A9, _, c9, rfl, rfl, k_25⟩
     have k_26 := k_24.call k_25
     refine ⟨sl A9 r_7.length c9, rfl, ?_⟩
     refine ⟨(k_26.sel (.kkkk (.k .z))), fun _ => ?_⟩
     refine MX_op (by kernel_rfl) rfl ?_
     obtain ⟨r_8, h_r_8, hm⟩ := ob hm
     obtain ⟨F10, O10, kin0, hO0, hre0, hF0, hb0⟩ := k_26.go (.r (.r (.r (.i (.i (.r .e))))))
     refine Op_invoke [] 42 216 (pt g2 0) [sl A9 r_7.length c9] yz_inv216_node_write rfl (by kernel_rfl) (c_node_half_uint32_write (F := F10) (O := O10) _ _ _ _ _ _ _ _ _ _ _ _ _ (Ro.of_rest hre0 3 rfl) (k_26.len 5 rfl) (k_26.lec 5 rfl) kin0 _ h_r_8) ?_
     rintro e_ w_12 ⟨A10, _, c10, rfl, rfl, k_27⟩
     have k_28 := hb0 w_12 _ _ k_27 (.c (.c .n))
     refine ⟨.tup [], rfl, ?_⟩
     have k_29 := k_28.sel (.kkkk (.k .z))
     refine ⟨(k_29.sel (.ss (.kk (.k .e)))), fun _ => ?_⟩
     refine MX_nil ?_
     obtain rfl := Option.some.inj hm
     refine At_en [] qe (by kernel_rfl) ?_
     have k_30 := ((((k_29.pk (.t .h)).pk (.t .h)).pk (.t (.t (.t (.t .h))))).pk (.t (.t (.t (.t .h))))).pk (.t (.t (.t (.t .h))))
     exact ⟨A_n_block, n_block.length, c_n_block, A_n_key, n_key.length, c_n_key, g2, A10, r_8.2.2.2.1.length, c10, k_30.len 1 rfl, k_30.len 2 rfl, k_30.len 4 rfl, rfl, k_30⟩
   rw [if_neg hc0] at hm
   refine W_skip ?_
   obtain rfl := Option.some.inj hm
   refine At_en [] qe (by kernel_rfl) ?_
   exact ⟨A_n_block, n_block.length, c_n_block, A_n_key, n_key.length, c_n_key, g2, A8, r_2.2.length, c8, k_20.len 1 rfl, k_20.len 2 rfl, k_20.len 4 rfl, rfl, k_20⟩

-- quern/node.made
theorem c_node_made {F O : Nat → Prop} {w : World} (k_ : Int) (block : List UInt8) (digest : Int) (key : List UInt8) (A_block : Option Addr) (n_block : Nat) (c_block : Nat) (A_key : Option Addr) (n_key : Nat) (c_key : Nat) (h_block : Ro F w A_block (e8.all block)) (hn_block : block.length = n_block) (hc_block : n_block ≤ c_block) (h_key : Ro F w A_key (e8.all key)) (hn_key : key.length = n_key) (hc_key : n_key ≤ c_key) (k : Cx F O w w []) (r : (Int × Int × List UInt8 × List UInt8 × Vec UInt64 8 × UInt64 × UInt64 × List UInt8 × Int) ⊕ (Int × Int × List UInt8 × List UInt8 × Vec UInt32 8 × UInt64 × UInt64 × List UInt8 × Int)) (hm : m_node_made k_ block digest key = some r) :
    Calls Tryz.prog 123 (vals [I k_, sl A_block n_block c_block, I digest, sl A_key n_key c_key]) w (fun e w' => match r with | .inl r0 => ∃ g A n c A1 n1 c1 g1 A2 n2 c2, r0.2.2.1.length = n ∧ r0.2.2.2.1.length = n1 ∧ r0.2.2.2.2.2.2.2.1.length = n2 ∧ e = .returned (SV.val (pt g 0)) ∧ Cx F O w w' [Bx 163 g [I r0.1, I r0.2.1, sl A n c, sl A1 n1 c1, .b false, .u64 0, .v (.iface 206 (SV.val (pt g1 0)))], Ow e8 A n c r0.2.2.1, Ow e8 A1 n1 c1 r0.2.2.2.1, Bx 212 g1 [.ar e64 r0.2.2.2.2.1, .u64 r0.2.2.2.2.2.1, .u64 r0.2.2.2.2.2.2.1, sl A2 n2 c2, I r0.2.2.2.2.2.2.2.2, .v (.func (.func 140) ⟨SV.vals []⟩ ⟨SV.vals []⟩), .v (.func (.func 141) ⟨SV.vals []⟩ ⟨SV.vals []⟩)], Ow e8 A2 n2 c2 r0.2.2.2.2.2.2.2.1] | .inr r1 => ∃ g2 A3 n3 c3 A4 n4 c4 g3 A5 n5 c5, r1.2.2.1.length = n3 ∧ r1.2.2.2.1.length = n4 ∧ r1.2.2.2.2.2.2.2.1.length = n5 ∧ e = .returned (SV.val (pt g2 0)) ∧ Cx F O w w' [Bx 163 g2 [I r1.1, I r1.2.1, sl A3 n3 c3, sl A4 n4 c4, .b false, .u64 0, .v (.iface 216 (SV.val (pt g3 0)))], Ow e8 A3 n3 c3 r1.2.2.1, Ow e8 A4 n4 c4 r1.2.2.2.1, Bx 220 g3 [.ar e32 r1.2.2.2.2.1, .u64 r1.2.2.2.2.2.1, .u64 r1.2.2.2.2.2.2.1, sl A5 n5 c5, I r1.2.2.2.2.2.2.2.2, .v (.func (.func 143) ⟨SV.vals []⟩ ⟨SV.vals []⟩), .v (.func (.func 144) ⟨SV.vals []⟩ ⟨SV.vals []⟩)], Ow e8 A5 n5 c5 r1.2.2.2.2.2.2.2.1]) := by
 unfold m_node_made at hm
 subst hn_block
 subst hn_key
 refine calls [I k_, sl A_block block.length c_block, I digest, sl A_key key.length c_key] Tryz.func123 rfl (of_decide_eq_true (by kernel_rfl)) ?_
 refine W_seq <| W_q [] .a qe (by kernel_rfl) ?_
 refine At_go <| W_seq <| W_reg <| WLs 3 [] (.n 10 (I k_) (.n 11 (I digest) (.n 12 (sl A_block block.length c_block) (.sss .a)))) qe (by kernel_rfl) ?_
 refine WL_op ?_
 have k_1 := k.nil e8
 obtain ⟨b, h_b, hm⟩ := ob hm
 obtain ⟨hz, hl⟩ := app_some h_b
 refine Op_append (E := e8) (v := sl A_block block.length c_block) (ys := block) yz_tf26 [] 13 0 (by kernel_rfl) k_1 rfl (Src.sl (h_block.cx k_1) rfl (by rfl)) rfl (by have := k_1.len 0 rfl; have := hm; omega) ?_
 intro A0 c0 w_ k_2
 rw [← hl] at k_2
 refine WLs 1 [] (.n 14 (sl A_key key.length c_key) (.kkk .z)) qe (by kernel_rfl) ?_
 refine WL_op ?_
 have k_3 := k_2.nil e8
 obtain ⟨b1, h_b1, hm⟩ := ob hm
 obtain ⟨hz1, hl1⟩ := app_some h_b1
 refine Op_append (E := e8) (v := sl A_key key.length c_key) (ys := key) yz_tf26 [] 15 1 (by kernel_rfl) k_3 rfl (Src.sl (h_key.cx k_3) rfl (by rfl)) rfl (by have := k_3.len 1 rfl; have := hm; omega) ?_
 intro A6 c6 w_1 k_4
 rw [← hl1] at k_4
 refine WLs 1 [] (.n 16 (.agg [I k_, I digest, sl A0 (0 + block.length) c0, sl A6 (0 + key.length) c6, .b false, .u64 0, .v .nilIface]) .z) qe (by kernel_rfl) ?_
 refine WL_op <| Op_box [] 17 (.agg [I k_, I digest, sl A0 (0 + block.length) c0, sl A6 (0 + key.length) c6, .b false, .u64 0, .v .nilIface]) [I k_, I digest, sl A0 (0 + block.length) c0, sl A6 (0 + key.length) c6, .b false, .u64 0, .v .nilIface] (by kernel_rfl) k_4 ?_
 intro g0 w_2 k_5
 refine WLs 1 [] (.n 9 (pt g0 0) .z) qe (by kernel_rfl) ?_
 refine WL_nil <| At_go <| W_seq <| W_reg <| WLs 1 [] (.n 18 (pt g0 0) .a) qe (by kernel_rfl) ?_
 refine WL_op ?_
 obtain ⟨r_, h_r_, hm⟩ := ob hm
 have k_6 := ((k_5.pk (.t .h)).pk (.t .h)).pk (.t (.t .h))
 obtain ⟨F1, O1, kin, hO, hre, hF, hb⟩ := k_6.go (.i (.i (.i .e)))
 refine Op_call [] 19 _ yz_go135 (by kernel_rfl) (c_node_Node_begin (F := F1) (O := O1) _ _ _ _ _ _ _ _ _ _ _ _ _ kin _ h_r_) ?_
 rcases r_ with r_1 | r_2
 · simp only [Sum.elim_inl, Sum.elim_inr] at hm
   rintro e_ w_3 ⟨A7, _, c7, A8, _, c8, g4, A9, _, c9, rfl, rfl, rfl, rfl, k_7⟩
   have k_8 := hb w_3 _ _ k_7 (.c (.c (.c (.c (.c .n)))))
   refine ⟨.tup [], rfl, ?_⟩
   refine WL_nil <| At_go <| W_seq <| W_q [] (.n 8 (pt g0 0) .z) qe (by kernel_rfl) ?_
   refine At_go <| W_ret ?_
   obtain rfl := Option.some.inj hm
   refine At_rt [pt g0 0] qe (by kernel_rfl) ?_
   exact ⟨g0, A7, r_1.2.2.1.length, c7, A8, r_1.2.2.2.1.length, c8, g4, A9, r_1.2.2.2.2.2.2.2.1.length, c9, k_8.len 1 rfl, k_8.len 2 rfl, k_8.len 4 rfl, rfl, k_8⟩
 · simp only [Sum.elim_inl, Sum.elim_inr] at hm
   rintro e_ w_4 ⟨A10, _, c10, A11, _, c11, g5, A12, _, c12, rfl, rfl, rfl, rfl, k_9⟩
   have k_10 := hb w_4 _ _ k_9 (.c (.c (.c (.c (.c .n)))))
   refine ⟨.tup [], rfl, ?_⟩
   refine WL_nil <| At_go <| W_seq <| W_q [] (.n 8 (pt g0 0) .z) qe (by kernel_rfl) ?_
   refine At_go <| W_ret ?_
   obtain rfl := Option.some.inj hm
   refine At_rt [pt g0 0] qe (by kernel_rfl) ?_
   exact ⟨g0, A10, r_2.2.2.1.length, c10, A11, r_2.2.2.2.1.length, c11, g5, A12, r_2.2.2.2.2.2.2.2.1.length, c12, k_10.len 1 rfl, k_10.len 2 rfl, k_10.len 4 rfl, rfl, k_10⟩

-- quern/node.New
theorem c_node_New {F O : Nat → Prop} {w : World} (k_ : Int) (p_Digest : Int) (p_Key : Int) (p_Fanout : Int) (p_Depth : Int) (p_Leaf : UInt32) (p_Offset : UInt64) (p_Xof : UInt32) (p_NodeDepth : Int) (p_Inner : Int) (p_Salt : List UInt8) (p_Personal : List UInt8) (key : List UInt8) (A_p_Salt : Option Addr) (n_p_Salt : Nat) (c_p_Salt : Nat) (A_p_Personal : Option Addr) (n_p_Personal : Nat) (c_p_Personal : Nat) (A_key : Option Addr) (n_key : Nat) (c_key : Nat) (h_p_Salt : Ro F w A_p_Salt (e8.all p_Salt)) (hn_p_Salt : p_Salt.length = n_p_Salt) (hc_p_Salt : n_p_Salt ≤ c_p_Salt) (h_p_Personal : Ro F w A_p_Personal (e8.all p_Personal)) (hn_p_Personal : p_Personal.length = n_p_Personal) (hc_p_Personal : n_p_Personal ≤ c_p_Personal) (h_key : Ro F w A_key (e8.all key)) (hn_key : key.length = n_key) (hc_key : n_key ≤ c_key) (k : Cx F O w w []) (r : Int ⊕ (Int × Int × List UInt8 × List UInt8 × Vec UInt64 8 × UInt64 × UInt64 × List UInt8 × Int) ⊕ (Int × Int × List UInt8 × List UInt8 × Vec UInt32 8 × UInt64 × UInt64 × List UInt8 × Int)) (hm : m_node_New k_ p_Digest p_Key p_Fanout p_Depth p_Leaf p_Offset p_Xof p_NodeDepth p_Inner p_Salt p_Personal key = some r) :
    Calls Tryz.prog 100 (vals [I k_, .agg [I p_Digest, I p_Key, I p_Fanout, I p_Depth, .u32 p_Leaf, .u64 p_Offset, .u32 p_Xof, I p_NodeDepth, I p_Inner, sl A_p_Salt n_p_Salt c_p_Salt, sl A_p_Personal n_p_Personal c_p_Personal], sl A_key n_key c_key]) w (fun e w' => match r with | .inl r0 => e = .returned (SV.val (.tup [.v (.pointer none), I r0])) ∧ Cx F O w w' [] | .inr (.inl r1) => ∃ g A n c A1 n1 c1 g1 A2 n2 c2, r1.2.2.1.length = n ∧ r1.2.2.2.1.length = n1 ∧ r1.2.2.2.2.2.2.2.1.length = n2 ∧ e = .returned (SV.val (.tup [pt g 0, I 0])) ∧ Cx F O w w' [Bx 163 g [I r1.1, I r1.2.1, sl A n c, sl A1 n1 c1, .b false, .u64 0, .v (.iface 206 (SV.val (pt g1 0)))], Ow e8 A n c r1.2.2.1, Ow e8 A1 n1 c1 r1.2.2.2.1, Bx 212 g1 [.ar e64 r1.2.2.2.2.1, .u64 r1.2.2.2.2.2.1, .u64 r1.2.2.2.2.2.2.1, sl A2 n2 c2, I r1.2.2.2.2.2.2.2.2, .v (.func (.func 140) ⟨SV.vals []⟩ ⟨SV.vals []⟩), .v (.func (.func 141) ⟨SV.vals []⟩ ⟨SV.vals []⟩)], Ow e8 A2 n2 c2 r1.2.2.2.2.2.2.2.1] | .inr (.inr r2) => ∃ g2 A3 n3 c3 A4 n4 c4 g3 A5 n5 c5, r2.2.2.1.length = n3 ∧ r2.2.2.2.1.length = n4 ∧ r2.2.2.2.2.2.2.2.1.length = n5 ∧ e = .returned (SV.val (.tup [pt g2 0, I 0])) ∧ Cx F O w w' [Bx 163 g2 [I r2.1, I r2.2.1, sl A3 n3 c3, sl A4 n4 c4, .b false, .u64 0, .v (.iface 216 (SV.val (pt g3 0)))], Ow e8 A3 n3 c3 r2.2.2.1, Ow e8 A4 n4 c4 r2.2.2.2.1, Bx 220 g3 [.ar e32 r2.2.2.2.2.1, .u64 r2.2.2.2.2.2.1, .u64 r2.2.2.2.2.2.2.1, sl A5 n5 c5, I r2.2.2.2.2.2.2.2.2, .v (.func (.func 143) ⟨SV.vals []⟩ ⟨SV.vals []⟩), .v (.func (.func 144) ⟨SV.vals []⟩ ⟨SV.vals []⟩)], Ow e8 A5 n5 c5 r2.2.2.2.2.2.2.2.1]) := by
 unfold m_node_New at hm
 subst hn_p_Salt
 subst hn_p_Personal
 subst hn_key
 refine calls [I k_, .agg [I p_Digest, I p_Key, I p_Fanout, I p_Depth, .u32 p_Leaf, .u64 p_Offset, .u32 p_Xof, I p_NodeDepth, I p_Inner, sl A_p_Salt p_Salt.length c_p_Salt, sl A_p_Personal p_Personal.length c_p_Personal], sl A_key key.length c_key] Tryz.func100 rfl (of_decide_eq_true (by kernel_rfl)) ?_
 refine W_seq <| W_reg <| WL_op <| Op_box [] 4 (.agg [I p_Digest, I p_Key, I p_Fanout, I p_Depth, .u32 p_Leaf, .u64 p_Offset, .u32 p_Xof, I p_NodeDepth, I p_Inner, sl A_p_Salt p_Salt.length c_p_Salt, sl A_p_Personal p_Personal.length c_p_Personal]) [I p_Digest, I p_Key, I p_Fanout, I p_Depth, .u32 p_Leaf, .u64 p_Offset, .u32 p_Xof, I p_NodeDepth, I p_Inner, sl A_p_Salt p_Salt.length c_p_Salt, sl A_p_Personal p_Personal.length c_p_Personal] (by kernel_rfl) k ?_
 intro g0 w_ k_1
 refine WLs 2 [] (.kk (.s .a)) qe (by kernel_rfl) ?_
 refine WL_nil <| At_go <| W_seq <| W_reg <| WLs 2 [] (.n 11 (I k_) (.n 12 (.agg [I p_Digest, I p_Key, I p_Fanout, I p_Depth, .u32 p_Leaf, .u64 p_Offset, .u32 p_Xof, I p_NodeDepth, I p_Inner, sl A_p_Salt p_Salt.length c_p_Salt, sl A_p_Personal p_Personal.length c_p_Personal]) .a)) (qT k_1 0 rfl 0 11 [I p_Digest, I p_Key, I p_Fanout, I p_Depth, .u32 p_Leaf, .u64 p_Offset, .u32 p_Xof, I p_NodeDepth, I p_Inner, sl A_p_Salt p_Salt.length c_p_Salt, sl A_p_Personal p_Personal.length c_p_Personal] (by kernel_rfl) (by decide) <| qe) (by kernel_rfl) ?_
 refine WL_op ?_
 obtain ⟨r_, h_r_, hm⟩ := ob hm
 refine Op_call [] 13 _ yz_go122 (by kernel_rfl) (c_param_Encode (F := N0) (O := N0) _ _ _ _ _ _ _ _ _ _ _ _ _ _ _ _ _ _ (Ro.n0 (h_p_Salt.cx k_1)) rfl hc_p_Salt (Ro.n0 (h_p_Personal.cx k_1)) rfl hc_p_Personal (Cx.refl _) _ h_r_) ?_
 rintro e_ w_1 ⟨A0, _, c0, rfl, rfl, k_2⟩
 have k_3 := k_1.call k_2
 refine ⟨.tup [sl A0 r_.1.length c0, I r_.2], rfl, ?_⟩
 refine WLs 5 [] (.n 8 (sl A0 r_.1.length c0) (.n 9 (I r_.2) (.sss .a))) qe (by kernel_rfl) ?_
 refine WL_nil <| At_go <| W_seq <| W_seq <| W_q [] (.n 17 (.b (decide (r_.2 ≠ 0))) .a) qe (by kernel_rfl) ?_
 refine At_go <| W_condp (r_.2 ≠ 0) (by kernel_rfl) (fun hc => ?_) (fun hc => ?_)
 · rw [if_pos hc] at hm
   refine W_seq <| W_q [] (.n 6 (.v (.pointer none)) (.n 7 (I r_.2) .z)) qe (by kernel_rfl) ?_
   refine At_go <| W_ret (At_tr ?_)
   obtain rfl := Option.some.inj hm
   refine At_rt [.v (.pointer none), I r_.2] qe (by kernel_rfl) ?_
   have k_4 := k_3.sel .z
   exact ⟨rfl, k_4⟩
 rw [if_neg hc] at hm
 refine W_skip <| At_go <| W_seq <| W_seq <| W_q [] (.n 28 (.b ((decide (((key.length : Nat) : Int) ≠ 0)) && (decide (((key.length : Nat) : Int) ≠ p_Key)))) (.s (.k (.s .a)))) (qp ((decide (((key.length : Nat) : Int) ≠ 0)) = true → (some ⟨g0, 0, none⟩ : Option Addr).isSome = true) (fun hg0 => rfl) <| qo (I p_Key) <| qc (fun w => (decide (((key.length : Nat) : Int) ≠ 0)) = true → ∃ a, (some ⟨g0, 1, none⟩ : Option Addr) = some a ∧ w.cell? a = some (SV.val (I p_Key))) (fun hg0 => k_3.bld 0 rfl 1 (I p_Key) (by kernel_rfl)) <| qe) (by kernel_rfl) ?_
 refine At_go <| W_cond ((decide (((key.length : Nat) : Int) ≠ 0)) && (decide (((key.length : Nat) : Int) ≠ p_Key))) (by kernel_rfl) (fun hc1 => ?_) (fun hc1 => ?_)
 · rw [if_pos hc1] at hm
   refine W_seq <| W_q [] (.n 6 (.v (.pointer none)) (.n 7 (I 8) .z)) qe (by kernel_rfl) ?_
   refine At_go <| W_ret (At_tr ?_)
   obtain rfl := Option.some.inj hm
   refine At_rt [.v (.pointer none), I 8] qe (by kernel_rfl) ?_
   have k_5 := k_3.sel .z
   exact ⟨rfl, k_5⟩
 rw [if_neg (by rw [hc1]; decide)] at hm
 refine W_skip <| At_go <| W_seq <| W_reg <| WLs 5 [] (.n 29 (I k_) (.n 30 (sl A0 r_.1.length c0) (.n 32 (I p_Digest) (.n 33 (sl A_key key.length c_key) .z)))) (qs g0 0 <| qB k_3 0 rfl 0 (I p_Digest) (by kernel_rfl) <| qe) (by kernel_rfl) ?_
 refine WL_op ?_
 obtain ⟨r_1, h_r_1, hm⟩ := ob hm
 refine Op_call [] 34 _ yz_go123 (by kernel_rfl) (c_node_made (F := N0) (O := N0) _ _ _ _ _ _ _ _ _ _ (Ro.n0 (k_3.rd 1 rfl)) (k_3.len 1 rfl) (k_3.lec 1 rfl) (Ro.n0 (h_key.cx k_3)) rfl hc_key (Cx.refl _) _ h_r_1) ?_
 rcases r_1 with r_2 | r_3
 · simp only [Sum.elim_inl, Sum.elim_inr] at hm
   rintro e_ w_2 ⟨g4, A6, _, c6, A7, _, c7, g5, A8, _, c8, rfl, rfl, rfl, rfl, k_6⟩
   have k_7 := k_3.call k_6
   refine ⟨pt g4 0, rfl, ?_⟩
   have k_8 := k_7.sel (.ss (.kkkk (.k .e)))
   refine WLs 2 [] (.n 6 (pt g4 0) (.n 7 (I 0) .z)) qe (by kernel_rfl) ?_
   refine WL_nil <| At_go <| W_ret ?_
   obtain rfl := Option.some.inj hm
   refine At_rt [pt g4 0, I 0] qe (by kernel_rfl) ?_
   exact ⟨g4, A6, r_2.2.2.1.length, c6, A7, r_2.2.2.2.1.length, c7, g5, A8, r_2.2.2.2.2.2.2.2.1.length, c8, k_8.len 1 rfl, k_8.len 2 rfl, k_8.len 4 rfl, rfl, k_8⟩
 · simp only [Sum.elim_inl, Sum.elim_inr] at hm
   rintro e_ w_3 ⟨g6, A9, _, c9, A10, _, c10, g7, A11, _, c11, rfl, rfl, rfl, rfl, k_9⟩
   have k_10 := k_3.call k_9
   refine ⟨pt g6 0, rfl, ?_⟩
   have k_11 := k_10.sel (.ss (.kkkk (.k .e)))
   refine WLs 2 [] (.n 6 (pt g6 0) (.n 7 (I 0) .z)) qe (by kernel_rfl) ?_
   refine WL_nil <| At_go <| W_ret ?_
   obtain rfl := Option.some.inj hm
   refine At_rt [pt g6 0, I 0] qe (by kernel_rfl) ?_
   exact ⟨g6, A9, r_3.2.2.1.length, c9, A10, r_3.2.2.2.1.length, c10, g7, A11, r_3.2.2.2.2.2.2.2.1.length, c11, k_11.len 1 rfl, k_11.len 2 rfl, k_11.len 4 rfl, rfl, k_11⟩

-- (*quern/xof.Stream).begin
theorem c_xof_Stream_begin {F O : Nat → Prop} {w : World} (x_s_kind : Int) (x_s_full : Int) (x_s_code : UInt32) (x_s_total : UInt64) (x_s_known : Bool) (x_key : List UInt8) (x_salt : List UInt8) (x_personal : List UInt8) (x_root : List UInt8) (x_at : UInt64) (x_now : Vec UInt8 64) (x_have : Int) (g_x : Nat) (A_x_key : Option Addr) (n_x_key : Nat) (c_x_key : Nat) (A_x_salt : Option Addr) (n_x_salt : Nat) (c_x_salt : Nat) (A_x_personal : Option Addr) (n_x_personal : Nat) (c_x_personal : Nat) (A_x_root : Option Addr) (n_x_root : Nat) (c_x_root : Nat) (k : Cx F O w w [Bx 132 g_x [I x_s_kind, I x_s_full, .u32 x_s_code, .u64 x_s_total, .b x_s_known, sl A_x_key n_x_key c_x_key, sl A_x_salt n_x_salt c_x_salt, sl A_x_personal n_x_personal c_x_personal, .v (.pointer none), sl A_x_root n_x_root c_x_root, .u64 x_at, .ar e8 x_now, I x_have, .v .nilFunc], Ow e8 A_x_key n_x_key c_x_key x_key, Ow e8 A_x_salt n_x_salt c_x_salt x_salt, Ow e8 A_x_personal n_x_personal c_x_personal x_personal, Ow e8 A_x_root n_x_root c_x_root x_root]) (r : (Int × Int × UInt32 × UInt64 × Bool × List UInt8 × List UInt8 × List UInt8 × List UInt8 × Vec UInt8 64) ⊕ (Int × Int × UInt32 × UInt64 × Bool × List UInt8 × List UInt8 × List UInt8 × Int × Int × List UInt8 × List UInt8 × Vec UInt64 8 × UInt64 × UInt64 × List UInt8 × Int × List UInt8 × Vec UInt8 64) ⊕ (Int × Int × UInt32 × UInt64 × Bool × List UInt8 × List UInt8 × List UInt8 × Int × Int × List UInt8 × List UInt8 × Vec UInt32 8 × UInt64 × UInt64 × List UInt8 × Int × List UInt8 × Vec UInt8 64)) (hm : m_xof_Stream_begin x_s_kind x_s_full x_s_code x_s_total x_s_known x_key x_salt x_personal x_root x_at x_now x_have = some r) :
    Calls Tryz.prog 79 (vals [pt g_x 0]) w (fun e w' => match r with | .inl r0 => ∃ A n c A1 n1 c1 A2 n2 c2 A3 n3 c3, r0.2.2.2.2.2.1.length = n ∧ r0.2.2.2.2.2.2.1.length = n1 ∧ r0.2.2.2.2.2.2.2.1.length = n2 ∧ r0.2.2.2.2.2.2.2.2.1.length = n3 ∧ e = .returned (SV.val (.tup [])) ∧ Cx F O w w' [Bx 132 g_x [I r0.1, I r0.2.1, .u32 r0.2.2.1, .u64 r0.2.2.2.1, .b r0.2.2.2.2.1, sl A n c, sl A1 n1 c1, sl A2 n2 c2, .v (.pointer none), sl A3 n3 c3, .u64 0, .ar e8 r0.2.2.2.2.2.2.2.2.2, I (-1), .v (.func (.func 104) ⟨SV.vals [pt g_x 0]⟩ ⟨SV.vals []⟩)], Ow e8 A n c r0.2.2.2.2.2.1, Ow e8 A1 n1 c1 r0.2.2.2.2.2.2.1, Ow e8 A2 n2 c2 r0.2.2.2.2.2.2.2.1, Ow e8 A3 n3 c3 r0.2.2.2.2.2.2.2.2.1] | .inr (.inl r1) => ∃ A4 n4 c4 A5 n5 c5 A6 n6 c6 g A7 n7 c7 A8 n8 c8 g1 A9 n9 c9 A10 n10 c10, r1.2.2.2.2.2.1.length = n4 ∧ r1.2.2.2.2.2.2.1.length = n5 ∧ r1.2.2.2.2.2.2.2.1.length = n6 ∧ r1.2.2.2.2.2.2.2.2.2.2.1.length = n7 ∧ r1.2.2.2.2.2.2.2.2.2.2.2.1.length = n8 ∧ r1.2.2.2.2.2.2.2.2.2.2.2.2.2.2.2.1.length = n9 ∧ r1.2.2.2.2.2.2.2.2.2.2.2.2.2.2.2.2.2.1.length = n10 ∧ e = .returned (SV.val (.tup [])) ∧ Cx F O w w' [Bx 132 g_x [I r1.1, I r1.2.1, .u32 r1.2.2.1, .u64 r1.2.2.2.1, .b r1.2.2.2.2.1, sl A4 n4 c4, sl A5 n5 c5, sl A6 n6 c6, pt g 0, sl A10 n10 c10, .u64 0, .ar e8 r1.2.2.2.2.2.2.2.2.2.2.2.2.2.2.2.2.2.2, I (-1), .v (.func (.func 104) ⟨SV.vals [pt g_x 0]⟩ ⟨SV.vals []⟩)], Ow e8 A4 n4 c4 r1.2.2.2.2.2.1, Ow e8 A5 n5 c5 r1.2.2.2.2.2.2.1, Ow e8 A6 n6 c6 r1.2.2.2.2.2.2.2.1, Bx 163 g [I r1.2.2.2.2.2.2.2.2.1, I r1.2.2.2.2.2.2.2.2.2.1, sl A7 n7 c7, sl A8 n8 c8, .b false, .u64 0, .v (.iface 206 (SV.val (pt g1 0)))], Ow e8 A7 n7 c7 r1.2.2.2.2.2.2.2.2.2.2.1, Ow e8 A8 n8 c8 r1.2.2.2.2.2.2.2.2.2.2.2.1, Bx 212 g1 [.ar e64 r1.2.2.2.2.2.2.2.2.2.2.2.2.1, .u64 r1.2.2.2.2.2.2.2.2.2.2.2.2.2.1, .u64 r1.2.2.2.2.2.2.2.2.2.2.2.2.2.2.1, sl A9 n9 c9, I r1.2.2.2.2.2.2.2.2.2.2.2.2.2.2.2.2.1, .v (.func (.func 140) ⟨SV.vals []⟩ ⟨SV.vals []⟩), .v (.func (.func 141) ⟨SV.vals []⟩ ⟨SV.vals []⟩)], Ow e8 A9 n9 c9 r1.2.2.2.2.2.2.2.2.2.2.2.2.2.2.2.1, Ow e8 A10 n10 c10 r1.2.2.2.2.2.2.2.2.2.2.2.2.2.2.2.2.2.1] | .inr (.inr r2) => ∃ A11 n11 c11 A12 n12 c12 A13 n13 c13 g2 A14 n14 c14 A15 n15 c15 g3 A16 n16 c16 A17 n17 c17, r2.2.2.2.2.2.1.length = n11 ∧ r2.2.2.2.2.2.2.1.length = n12 ∧ r2.2.2.2.2.2.2.2.1.length = n13 ∧ r2.2.2.2.2.2.2.2.2.2.2.1.length = n14 ∧ r2.2.2.2.2.2.2.2.2.2.2.2.1.length = n15 ∧ r2.2.2.2.2.2.2.2.2.2.2.2.2.2.2.2.1.length = n16 ∧ r2.2.2.2.2.2.2.2.2.2.2.2.2.2.2.2.2.2.1.length = n17 ∧ e = .returned (SV.val (.tup [])) ∧ Cx F O w w' [Bx 132 g_x [I r2.1, I r2.2.1, .u32 r2.2.2.1, .u64 r2.2.2.2.1, .b r2.2.2.2.2.1, sl A11 n11 c11, sl A12 n12 c12, sl A13 n13 c13, pt g2 0, sl A17 n17 c17, .u64 0, .ar e8 r2.2.2.2.2.2.2.2.2.2.2.2.2.2.2.2.2.2.2, I (-1), .v (.func (.func 104) ⟨SV.vals [pt g_x 0]⟩ ⟨SV.vals []⟩)], Ow e8 A11 n11 c11 r2.2.2.2.2.2.1, Ow e8 A12 n12 c12 r2.2.2.2.2.2.2.1, Ow e8 A13 n13 c13 r2.2.2.2.2.2.2.2.1, Bx 163 g2 [I r2.2.2.2.2.2.2.2.2.1, I r2.2.2.2.2.2.2.2.2.2.1, sl A14 n14 c14, sl A15 n15 c15, .b false, .u64 0, .v (.iface 216 (SV.val (pt g3 0)))], Ow e8 A14 n14 c14 r2.2.2.2.2.2.2.2.2.2.2.1, Ow e8 A15 n15 c15 r2.2.2.2.2.2.2.2.2.2.2.2.1, Bx 220 g3 [.ar e32 r2.2.2.2.2.2.2.2.2.2.2.2.2.1, .u64 r2.2.2.2.2.2.2.2.2.2.2.2.2.2.1, .u64 r2.2.2.2.2.2.2.2.2.2.2.2.2.2.2.1, sl A16 n16 c16, I r2.2.2.2.2.2.2.2.2.2.2.2.2.2.2.2.2.1, .v (.func (.func 143) ⟨SV.vals []⟩ ⟨SV.vals []⟩), .v (.func (.func 144) ⟨SV.vals []⟩ ⟨SV.vals []⟩)], Ow e8 A16 n16 c16 r2.2.2.2.2.2.2.2.2.2.2.2.2.2.2.2.1, Ow e8 A17 n17 c17 r2.2.2.2.2.2.2.2.2.2.2.2.2.2.2.2.2.2.1]) := by
 unfold m_xof_Stream_begin at hm
 obtain rfl := k.len 1 rfl
 obtain rfl := k.len 2 rfl
 obtain rfl := k.len 3 rfl
 obtain rfl := k.len 4 rfl
 refine calls [pt g_x 0] Tryz.func79 rfl (of_decide_eq_true (by kernel_rfl)) ?_
 refine W_seq ?_
 have k_ := k.drew 1
 refine W_m yz_mixed (.q 0 2 (.q 1 2 (.q 2 2 (.q 3 2 (.q 4 2 (.q 5 1 (.q 6 2 (.q 7 2 (.q 8 2 (.q 9 1 (.q 10 2 (.q 11 2 (.q 12 2 (.q 13 1 (.q 14 2 (.q 15 2 (.q 16 2 (.q 17 1 (.q 18 2 (.q 19 2 (.q 20 2 (.q 21 1 (.q 23 2 (.q 24 2 (.q 25 2 (.q 26 1 (.op 22 (.op 27 (.q 28 2 (.q 29 2 (.q 30 3 (.q 31 3 (.q 32 2 (.op 33 .nil)))))))))))))))))))))))))))))))))) [22, 27, 33] k_ (.c (.kkkk (.k .e)) (.c (.kkkk (.k .e)) (.c (.s (.kkkk .e)) .l))) (by kernel_rfl) (fun _ => ?_)
 refine MXq 5 2 [] (.n 3 (pt g_x 0) (.n 7 (pt g_x 0) .a)) (fun x hx => qs g_x 0 <| qs g_x 0 <| qs g_x 0 <| qe) (by kernel_rfl) (fun _ => ?_)
 refine MXq 1 1 [] (.n 8 (I x_s_kind) (.k (.s .a))) (fun x hx => qB hx 0 rfl 0 (I x_s_kind) (by kernel_rfl) <| qe) (by kernel_rfl) (fun _ => ?_)
 refine MXq 3 2 [] (.n 11 (pt g_x 0) .a) (fun x hx => qs g_x 0 <| qs g_x 0 <| qe) (by kernel_rfl) (fun _ => ?_)
 refine MXq 1 1 [] (.n 12 (.agg [I x_s_kind, I x_s_full, .u32 x_s_code, .u64 x_s_total, .b x_s_known]) (.s .a)) (fun x hx => qT hx 0 rfl 0 5 [I x_s_kind, I x_s_full, .u32 x_s_code, .u64 x_s_total, .b x_s_known] (by kernel_rfl) (by decide) <| qe) (by kernel_rfl) (fun _ => ?_)
 refine MXq 3 2 [] (.n 15 (pt g_x 5) .a) (fun x hx => qs g_x 0 <| qs g_x 0 <| qe) (by kernel_rfl) (fun _ => ?_)
 refine MXq 1 1 [] (.n 16 (sl A_x_key x_key.length c_x_key) (.s .a)) (fun x hx => qB hx 0 rfl 5 (sl A_x_key x_key.length c_x_key) (by kernel_rfl) <| qe) (by kernel_rfl) (fun _ => ?_)
 refine MXq 3 2 [] (.n 19 (pt g_x 6) .a) (fun x hx => qs g_x 0 <| qs g_x 0 <| qe) (by kernel_rfl) (fun _ => ?_)
 refine MXq 1 1 [] (.n 20 (sl A_x_salt x_salt.length c_x_salt) (.s .a)) (fun x hx => qB hx 0 rfl 6 (sl A_x_salt x_salt.length c_x_salt) (by kernel_rfl) <| qe) (by kernel_rfl) (fun _ => ?_)
 refine MXq 3 2 [] (.n 23 (pt g_x 7) .a) (fun x hx => qs g_x 0 <| qs g_x 0 <| qe) (by kernel_rfl) (fun _ => ?_)
 refine MXq 1 1 [] (.n 24 (sl A_x_personal x_personal.length c_x_personal) (.s .a)) (fun x hx => qB hx 0 rfl 7 (sl A_x_personal x_personal.length c_x_personal) (by kernel_rfl) <| qe) (by kernel_rfl) (fun _ => ?_)
 refine MXq 3 2 [] (.n 28 (pt g_x 5) .a) (fun x hx => qs g_x 0 <| qs g_x 0 <| qe) (by kernel_rfl) (fun _ => ?_)
 refine MXq 1 1 [] (.n 29 (sl A_x_key x_key.length c_x_key) (.s .a)) (fun x hx => qB hx 0 rfl 5 (sl A_x_key x_key.length c_x_key) (by kernel_rfl) <| qe) (by kernel_rfl) (fun _ => ?_)
 refine MX_op (by kernel_rfl) rfl ?_
 obtain ⟨r_, h_r_, hm⟩ := ob hm
 refine Op_call [] 25 _ yz_go103 (by kernel_rfl) (c_xof_shape_pars (F := N0) (O := N0) _ _ _ _ _ _ _ _ _ _ _ _ _ _ _ _ _ (Ro.n0 (k_.rd 1 rfl)) (k_.len 1 rfl) (k_.lec 1 rfl) (Ro.n0 (k_.rd 2 rfl)) (k_.len 2 rfl) (k_.lec 2 rfl) (Ro.n0 (k_.rd 3 rfl)) (k_.len 3 rfl) (k_.lec 3 rfl) (Cx.refl _) _ h_r_) ?_
 rintro e_ w_ ⟨rfl, k_1⟩
 have k_2 := k_.call k_1
 refine ⟨.agg [I r_.1, I r_.2.1, I 1, I 1, .u32 0, .u64 0, .u32 r_.2.2, I 0, I 0, sl A_x_salt x_salt.length c_x_salt, sl A_x_personal x_personal.length c_x_personal], rfl, ?_⟩
 refine ⟨k_2, fun _ => ?_⟩
 refine MX_op (by kernel_rfl) rfl ?_
 obtain ⟨r_1, h_r_1, hm⟩ := ob hm
 refine Op_call [] 30 _ yz_go100 (by kernel_rfl) (c_node_New (F := N0) (O := N0) _ _ _ _ _ _ _ _ _ _ _ _ _ _ _ _ _ _ _ _ _ _ (Ro.n0 (k_2.rd 2 rfl)) (k_2.len 2 rfl) (k_2.lec 2 rfl) (Ro.n0 (k_2.rd 3 rfl)) (k_2.len 3 rfl) (k_2.lec 3 rfl) (Ro.n0 (k_2.rd 1 rfl)) (k_2.len 1 rfl) (k_2.lec 1 rfl) (Cx.refl _) _ h_r_1) ?_
 rcases r_1 with r_2 | r_3 | r_4
 · simp only [Sum.elim_inl, Sum.elim_inr] at hm
   rintro e_ w_1 ⟨rfl, k_3⟩
   have k_4 := k_2.call k_3
   refine ⟨.tup [.v (.pointer none), I r_2], rfl, ?_⟩
   refine ⟨k_4, fun _ => ?_⟩
   refine MXq 2 2 [] (.n 2 (.tup [.v (.pointer none), I r_2]) (.n 31 (.v (.pointer none)) (.ssss (.ssss .a)))) (fun x hx => qe) (by kernel_rfl) (fun _ => ?_)
   refine MXq 2 3 [] (.n 33 (pt g_x 0) (.s (.k (.s .a)))) (fun x hx => qs g_x 0 <| qe) (by kernel_rfl) (fun _ => ?_)
   refine MXq 1 2 [] (.n 34 (pt g_x 8) (.s .a)) (fun x hx => qs g_x 0 <| qe) (by kernel_rfl) (fun _ => ?_)
   refine MX_op (by kernel_rfl) rfl <| Op_b [] 0 (.v (.pointer none)) [.v (.pointer none)] (Pt.at g_x 8) k_4 rfl (.kkkk (.kkkk .h)) (by kernel_rfl) (by kernel_rfl) ?_
   intro w_2 k_5
   refine ⟨(k_5.sel (.s (.kkkk .e))), fun _ => ?_⟩
   refine MX_nil <| At_go <| W_seq <| W_reg <| WLs 5 [] (.n 36 (pt g_x 0) (.n 37 (pt g_x 0) (.n 39 (pt g_x 9) (.ss .a)))) (qs g_x 0 <| qs g_x 0 <| qe) (by kernel_rfl) ?_
   refine WL_op <| Op_b [] 0 (sl none 0 0) [sl none 0 0] (Pt.at g_x 9) k_5 rfl (.kkkk (.kkkk (.k .h))) (by kernel_rfl) (by kernel_rfl) ?_
   intro w_3 k_6
   have k_7 := k_6.sel (.kkkk .z)
   refine WLs 2 [] (.n 41 (pt g_x 10) (.s (.k (.s .a)))) (qs g_x 0 <| qs g_x 0 <| qe) (by kernel_rfl) ?_
   refine WL_op ?_
   have k_8 := k_7.sel (.kkkk .e)
   refine Op_b [] 0 (.u64 0) [.u64 0] (Pt.at g_x 10) k_8 rfl (.kkkk (.kkkk (.kk .h))) (by kernel_rfl) (by kernel_rfl) ?_
   intro w_4 k_9
   refine WLs 2 [] (.n 43 (pt g_x 75) (.ss .a)) (qs g_x 0 <| qs g_x 0 <| qe) (by kernel_rfl) ?_
   refine WL_op <| Op_b [] 0 (I (-1)) [I (-1)] (Pt.at g_x 75) k_9 rfl (.kkkk (.kkkk (.kkkk .h))) (by kernel_rfl) (by kernel_rfl) ?_
   intro w_5 k_10
   refine WL_nil <| At_go <| W_reg <| WLs 5 [] (.n 46 (.v (.func (.func 104) ⟨SV.vals [pt g_x 0]⟩ ⟨SV.vals []⟩)) (.n 48 (pt g_x 76) .z)) (qs g_x 0 <| qs g_x 0 <| qe) (by kernel_rfl) ?_
   refine WL_op <| Op_b [] 0 (.v (.func (.func 104) ⟨SV.vals [pt g_x 0]⟩ ⟨SV.vals []⟩)) [.v (.func (.func 104) ⟨SV.vals [pt g_x 0]⟩ ⟨SV.vals []⟩)] (Pt.at g_x 76) k_10 rfl (.kkkk (.kkkk (.kkkk (.k .h)))) (by kernel_rfl) (by kernel_rfl) ?_
   intro w_6 k_11
   refine WL_nil ?_
   have k_12 := k_11.nil e8
   obtain rfl := Option.some.inj hm
   refine At_en [] qe (by kernel_rfl) ?_
   exact ⟨A_x_key, x_key.length, c_x_key, A_x_salt, x_salt.length, c_x_salt, A_x_personal, x_personal.length, c_x_personal, none, 0, 0, k_12.len 1 rfl, k_12.len 2 rfl, k_12.len 3 rfl, k_12.len 4 rfl, rfl, k_12⟩
 · simp only [Sum.elim_inl, Sum.elim_inr] at hm
   rintro e_ w_7 ⟨g0, A0, _, c0, A18, _, c18, g4, A19, _, c19, rfl, rfl, rfl, rfl, k_13⟩
   have k_14 := k_2.call k_13
   refine ⟨.tup [pt g0 0, I 0], rfl, ?_⟩
   refine ⟨(k_14.sel (.kkkk (.k .z))), fun _ => ?_⟩
   refine MXq 2 2 [] (.n 2 (.tup [pt g0 0, I 0]) (.n 31 (pt g0 0) (.ssss (.ssss .a)))) (fun x hx => qe) (by kernel_rfl) (fun _ => ?_)
   refine MXq 2 3 [] (.n 33 (pt g_x 0) (.s (.k (.s .a)))) (fun x hx => qs g_x 0 <| qe) (by kernel_rfl) (fun _ => ?_)
   refine MXq 1 2 [] (.n 34 (pt g_x 8) (.s .a)) (fun x hx => qs g_x 0 <| qe) (by kernel_rfl) (fun _ => ?_)
   refine MX_op (by kernel_rfl) rfl <| Op_b [] 0 (pt g0 0) [pt g0 0] (Pt.at g_x 8) k_14 rfl (.kkkk (.kkkk .h)) (by kernel_rfl) (by kernel_rfl) ?_
   intro w_8 k_15
   refine ⟨(k_15.sel (.s (.kkkk .z))), fun _ => ?_⟩
   refine MX_nil <| At_go <| W_seq <| W_reg <| WLs 5 [] (.n 36 (pt g_x 0) (.n 37 (pt g_x 0) (.n 39 (pt g_x 9) (.ss .a)))) (qs g_x 0 <| qs g_x 0 <| qe) (by kernel_rfl) ?_
   refine WL_op <| Op_b [] 0 (sl none 0 0) [sl none 0 0] (Pt.at g_x 9) k_15 rfl (.kkkk (.kkkk (.k .h))) (by kernel_rfl) (by kernel_rfl) ?_
   intro w_9 k_16
   have k_17 := k_16.sel (.kkkk (.s (.kkkk (.k .e))))
   refine WLs 2 [] (.n 41 (pt g_x 10) (.s (.k (.s .a)))) (qs g_x 0 <| qs g_x 0 <| qe) (by kernel_rfl) ?_
   refine WL_op ?_
   have k_18 := k_17.sel (.kkkk (.kkkk (.k .e)))
   refine Op_b [] 0 (.u64 0) [.u64 0] (Pt.at g_x 10) k_18 rfl (.kkkk (.kkkk (.kk .h))) (by kernel_rfl) (by kernel_rfl) ?_
   intro w_10 k_19
   refine WLs 2 [] (.n 43 (pt g_x 75) (.ss .a)) (qs g_x 0 <| qs g_x 0 <| qe) (by kernel_rfl) ?_
   refine WL_op <| Op_b [] 0 (I (-1)) [I (-1)] (Pt.at g_x 75) k_19 rfl (.kkkk (.kkkk (.kkkk .h))) (by kernel_rfl) (by kernel_rfl) ?_
   intro w_11 k_20
   refine WL_nil <| At_go <| W_reg <| WLs 5 [] (.n 46 (.v (.func (.func 104) ⟨SV.vals [pt g_x 0]⟩ ⟨SV.vals []⟩)) (.n 48 (pt g_x 76) .z)) (qs g_x 0 <| qs g_x 0 <| qe) (by kernel_rfl) ?_
   refine WL_op <| Op_b [] 0 (.v (.func (.func 104) ⟨SV.vals [pt g_x 0]⟩ ⟨SV.vals []⟩)) [.v (.func (.func 104) ⟨SV.vals [pt g_x 0]⟩ ⟨SV.vals []⟩)] (Pt.at g_x 76) k_20 rfl (.kkkk (.kkkk (.kkkk (.k .h)))) (by kernel_rfl) (by kernel_rfl) ?_
   intro w_12 k_21
   refine WL_nil ?_
   have k_22 := k_21.nil e8
   obtain rfl := Option.some.inj hm
   refine At_en [] qe (by kernel_rfl) ?_
   exact ⟨A_x_key, x_key.length, c_x_key, A_x_salt, x_salt.length, c_x_salt, A_x_personal, x_personal.length, c_x_personal, g0, A0, r_3.2.2.1.length, c0, A18, r_3.2.2.2.1.length, c18, g4, A19, r_3.2.2.2.2.2.2.2.1.length, c19, none, 0, 0, k_22.len 1 rfl, k_22.len 2 rfl, k_22.len 3 rfl, k_22.len 5 rfl, k_22.len 6 rfl, k_22.len 8 rfl, k_22.len 9 rfl, rfl, k_22⟩
 · simp only [Sum.elim_inl, Sum.elim_inr] at hm
   rintro e_ w_13 ⟨g5, A20, _, c20, A21, _, c21, g6, A22, _, c22, rfl, rfl, rfl, rfl, k_23⟩
   have k_24 := k_2.call k_23
   refine ⟨.tup [pt g5 0, I 0], rfl, ?_⟩
   refine ⟨(k_24.sel (.kkkk (.k .z))), fun _ => ?_⟩
   refine MXq 2 2 [] (.n 2 (.tup [pt g5 0, I 0]) (.n 31 (pt g5 0) (.ssss (.ssss .a)))) (fun x hx => qe) (by kernel_rfl) (fun _ => ?_)
   refine MXq 2 3 [] (.n 33 (pt g_x 0) (.s (.k (.s .a)))) (fun x hx => qs g_x 0 <| qe) (by kernel_rfl) (fun _ => ?_)
   refine MXq 1 2 [] (.n 34 (pt g_x 8) (.s .a)) (fun x hx => qs g_x 0 <| qe) (by kernel_rfl) (fun _ => ?_)
   refine MX_op (by kernel_rfl) rfl <| Op_b [] 0 (pt g5 0) [pt g5 0] (Pt.at g_x 8) k_24 rfl (.kkkk (.kkkk .h)) (by kernel_rfl) (by kernel_rfl) ?_
   intro w_14 k_25
   refine ⟨(k_25.sel (.s (.kkkk .z))), fun _ => ?_⟩
   refine MX_nil <| At_go <| W_seq <| W_reg <| WLs 5 [] (.n 36 (pt g_x 0) (.n 37 (pt g_x 0) (.n 39 (pt g_x 9) (.ss .a)))) (qs g_x 0 <| qs g_x 0 <| qe) (by kernel_rfl) ?_
   refine WL_op <| Op_b [] 0 (sl none 0 0) [sl none 0 0] (Pt.at g_x 9) k_25 rfl (.kkkk (.kkkk (.k .h))) (by kernel_rfl) (by kernel_rfl) ?_
   intro w_15 k_26
   have k_27 := k_26.sel (.kkkk (.s (.kkkk (.k .e))))
   refine WLs 2 [] (.n 41 (pt g_x 10) (.s (.k (.s .a)))) (qs g_x 0 <| qs g_x 0 <| qe) (by kernel_rfl) ?_
   refine WL_op ?_
   have k_28 := k_27.sel (.kkkk (.kkkk (.k .e)))
   refine Op_b [] 0 (.u64 0) [.u64 0] (Pt.at g_x 10) k_28 rfl (.kkkk (.kkkk (.kk .h))) (by kernel_rfl) (by kernel_rfl) ?_
   intro w_16 k_29
   refine WLs 2 [] (.n 43 (pt g_x 75) (.ss .a)) (qs g_x 0 <| qs g_x 0 <| qe) (by kernel_rfl) ?_
   refine WL_op <| Op_b [] 0 (I (-1)) [I (-1)] (Pt.at g_x 75) k_29 rfl (.kkkk (.kkkk (.kkkk .h))) (by kernel_rfl) (by kernel_rfl) ?_
   intro w_17 k_30
   refine WL_nil <| At_go <| W_reg <| WLs 5 [] (.n 46 (.v (.func (.func 104) ⟨SV.vals [pt g_x 0]⟩ ⟨SV.vals []⟩)) (.n 48 (pt g_x 76) .z)) (qs g_x 0 <| qs g_x 0 <| qe) (by kernel_rfl) ?_
   refine WL_op <| Op_b [] 0 (.v (.func (.func 104) ⟨SV.vals [pt g_x 0]⟩ ⟨SV.vals []⟩)) [.v (.func (.func 104) ⟨SV.vals [pt g_x 0]⟩ ⟨SV.vals []⟩)] (Pt.at g_x 76) k_30 rfl (.kkkk (.kkkk (.kkkk (.k .h)))) (by kernel_rfl) (by kernel_rfl) ?_
   intro w_18 k_31
   refine WL_nil ?_
   have k_32 := k_31.nil e8
   obtain rfl := Option.some.inj hm
   refine At_en [] qe (by kernel_rfl) ?_
   exact ⟨A_x_key, x_key.length, c_x_key, A_x_salt, x_salt.length, c_x_salt, A_x_personal, x_personal.length, c_x_personal, g5, A20, r_4.2.2.1.length, c20, A21, r_4.2.2.2.1.length, c21, g6, A22, r_4.2.2.2.2.2.2.2.1.length, c22, none, 0, 0, k_32.len 1 rfl, k_32.len 2 rfl, k_32.len 3 rfl, k_32.len 5 rfl, k_32.len 6 rfl, k_32.len 8 rfl, k_32.len 9 rfl, rfl, k_32⟩

-- quern/xof.New
theorem c_xof_New {F O : Nat → Prop} {w : World} (k_ : Int) (length : Int) (key : List UInt8) (salt : List UInt8) (personal : List UInt8) (A_key : Option Addr) (n_key : Nat) (c_key : Nat) (A_salt : Option Addr) (n_salt : Nat) (c_salt : Nat) (A_personal : Option Addr) (n_personal : Nat) (c_personal : Nat) (h_key : Ro F w A_key (e8.all key)) (hn_key : key.length = n_key) (hc_key : n_key ≤ c_key) (h_salt : Ro F w A_salt (e8.all salt)) (hn_salt : salt.length = n_salt) (hc_salt : n_salt ≤ c_salt) (h_personal : Ro F w A_personal (e8.all personal)) (hn_personal : personal.length = n_personal) (hc_personal : n_personal ≤ c_personal) (k : Cx F O w w []) (r : Int ⊕ (Int × Int × UInt32 × UInt64 × Bool × List UInt8 × List UInt8 × List UInt8 × List UInt8 × Vec UInt8 64) ⊕ (Int × Int × UInt32 × UInt64 × Bool × List UInt8 × List UInt8 × List UInt8 × Int × Int × List UInt8 × List UInt8 × Vec UInt64 8 × UInt64 × UInt64 × List UInt8 × Int × List UInt8 × Vec UInt8 64) ⊕ (Int × Int × UInt32 × UInt64 × Bool × List UInt8 × List UInt8 × List UInt8 × Int × Int × List UInt8 × List UInt8 × Vec UInt32 8 × UInt64 × UInt64 × List UInt8 × Int × List UInt8 × Vec UInt8 64)) (hm : m_xof_New k_ length key salt personal = some r) :
    Calls Tryz.prog 59 (vals [I k_, I length, sl A_key n_key c_key, sl A_salt n_salt c_salt, sl A_personal n_personal c_personal]) w (fun e w' => match r with | .inl r0 => e = .returned (SV.val (.tup [.v (.pointer none), I r0])) ∧ Cx F O w w' [] | .inr (.inl r1) => ∃ g A n c A1 n1 c1 A2 n2 c2 A3 n3 c3, r1.2.2.2.2.2.1.length = n ∧ r1.2.2.2.2.2.2.1.length = n1 ∧ r1.2.2.2.2.2.2.2.1.length = n2 ∧ r1.2.2.2.2.2.2.2.2.1.length = n3 ∧ e = .returned (SV.val (.tup [pt g 0, I 0])) ∧ Cx F O w w' [Bx 132 g [I r1.1, I r1.2.1, .u32 r1.2.2.1, .u64 r1.2.2.2.1, .b r1.2.2.2.2.1, sl A n c, sl A1 n1 c1, sl A2 n2 c2, .v (.pointer none), sl A3 n3 c3, .u64 0, .ar e8 r1.2.2.2.2.2.2.2.2.2, I (-1), .v (.func (.func 104) ⟨SV.vals [pt g 0]⟩ ⟨SV.vals []⟩)], Ow e8 A n c r1.2.2.2.2.2.1, Ow e8 A1 n1 c1 r1.2.2.2.2.2.2.1, Ow e8 A2 n2 c2 r1.2.2.2.2.2.2.2.1, Ow e8 A3 n3 c3 r1.2.2.2.2.2.2.2.2.1] | .inr (.inr (.inl r2)) => ∃ g1 A4 n4 c4 A5 n5 c5 A6 n6 c6 g2 A7 n7 c7 A8 n8 c8 g3 A9 n9 c9 A10 n10 c10, r2.2.2.2.2.2.1.length = n4 ∧ r2.2.2.2.2.2.2.1.length = n5 ∧ r2.2.2.2.2.2.2.2.1.length = n6 ∧ r2.2.2.2.2.2.2.2.2.2.2.1.length = n7 ∧ r2.2.2.2.2.2.2.2.2.2.2.2.1.length = n8 ∧ r2.2.2.2.2.2.2.2.2.2.2.2.2.2.2.2.1.length = n9 ∧ r2.2.2.2.2.2.2.2.2.2.2.2.2.2.2.2.2.2.1.length = n10 ∧ e = .returned (SV.val (.tup [pt g1 0, I 0])) ∧ Cx F O w w' [Bx 132 g1 [I r2.1, I r2.2.1, .u32 r2.2.2.1, .u64 r2.2.2.2.1, .b r2.2.2.2.2.1, sl A4 n4 c4, sl A5 n5 c5, sl A6 n6 c6, pt g2 0, sl A10 n10 c10, .u64 0, .ar e8 r2.2.2.2.2.2.2.2.2.2.2.2.2.2.2.2.2.2.2, I (-1), .v (.func (.func 104) ⟨SV.vals [pt g1 0]⟩ ⟨SV.vals []⟩)], Ow e8 A4 n4 c4 r2.2.2.2.2.2.1, Ow e8 A5 n5 c5 r2.2.2.2.2.2.2.1, Ow e8 A6 n6 c6 r2.2.2.2.2.2.2.2.1, Bx 163 g2 [I r2.2.2.2.2.2.2.2.2.1, I r2.2.2.2.2.2.2.2.2.2.1, sl A7 n7 c7, sl A8 n8 c8, .b false, .u64 0, .v (.iface 206 (SV.val (pt g3 0)))], Ow e8 A7 n7 c7 r2.2.2.2.2.2.2.2.2.2.2.1, Ow e8 A8 n8 c8 r2.2.2.2.2.2.2.2.2.2.2.2.1, Bx 212 g3 [.ar e64 r2.2.2.2.2.2.2.2.2.2.2.2.2.1, .u64 r2.2.2.2.2.2.2.2.2.2.2.2.2.2.1, .u64 r2.2.2.2.2.2.2.2.2.2.2.2.2.2.2.1, sl A9 n9 c9, I r2.2.2.2.2.2.2.2.2.2.2.2.2.2.2.2.2.1, .v (.func (.func 140) ⟨SV.vals []⟩ ⟨SV.vals []⟩), .v (.func (.func 141) ⟨SV.vals []⟩ ⟨SV.vals []⟩)], Ow e8 A9 n9 c9 r2.2.2.2.2.2.2.2.2.2.2.2.2.2.2.2.1, Ow e8 A10 n10 c10 r2.2.2.2.2.2.2.2.2.2.2.2.2.2.2.2.2.2.1] | .inr (.inr (.inr r3)) => ∃ g4 A11 n11 c11 A12 n12 c12 A13 n13 c13 g5 A14 n14 c14 A15 n15 c15 g6 A16 n16 c16 A17 n17 c17, r3.2.2.2.2.2.1.length = n11 ∧ r3.2.2.2.2.2.2.1.length = n12 ∧ r3.2.2.2.2.2.2.2.1.length = n13 ∧ r3.2.2.2.2.2.2.2.2.2.2.1.length = n14 ∧ r3.2.2.2.2.2.2.2.2.2.2.2.1.length = n15 ∧ r3.2.2.2.2.2.2.2.2.2.2.2.2.2.2.2.1.length = n16 ∧ r3.2.2.2.2.2.2.2.2.2.2.2.2.2.2.2.2.2.1.length = n17 ∧ e = .returned (SV.val (.tup [pt g4 0, I 0])) ∧ Cx F O w w' [Bx 132 g4 [I r3.1, I r3.2.1, .u32 r3.2.2.1, .u64 r3.2.2.2.1, .b r3.2.2.2.2.1, sl A11 n11 c11, sl A12 n12 c12, sl A13 n13 c13, pt g5 0, sl A17 n17 c17, .u64 0, .ar e8 r3.2.2.2.2.2.2.2.2.2.2.2.2.2.2.2.2.2.2, I (-1), .v (.func (.func 104) ⟨SV.vals [pt g4 0]⟩ ⟨SV.vals []⟩)], Ow e8 A11 n11 c11 r3.2.2.2.2.2.1, Ow e8 A12 n12 c12 r3.2.2.2.2.2.2.1, Ow e8 A13 n13 c13 r3.2.2.2.2.2.2.2.1, Bx 163 g5 [I r3.2.2.2.2.2.2.2.2.1, I r3.2.2.2.2.2.2.2.2.2.1, sl A14 n14 c14, sl A15 n15 c15, .b false, .u64 0, .v (.iface 216 (SV.val (pt g6 0)))], Ow e8 A14 n14 c14 r3.2.2.2.2.2.2.2.2.2.2.1, Ow e8 A15 n15 c15 r3.2.2.2.2.2.2.2.2.2.2.2.1, Bx 220 g6 [.ar e32 r3.2.2.2.2.2.2.2.2.2.2.2.2.1, .u64 r3.2.2.2.2.2.2.2.2.2.2.2.2.2.1, .u64 r3.2.2.2.2.2.2.2.2.2.2.2.2.2.2.1, sl A16 n16 c16, I r3.2.2.2.2.2.2.2.2.2.2.2.2.2.2.2.2.1, .v (.func (.func 143) ⟨SV.vals []⟩ ⟨SV.vals []⟩), .v (.func (.func 144) ⟨SV.vals []⟩ ⟨SV.vals []⟩)], Ow e8 A16 n16 c16 r3.2.2.2.2.2.2.2.2.2.2.2.2.2.2.2.1, Ow e8 A17 n17 c17 r3.2.2.2.2.2.2.2.2.2.2.2.2.2.2.2.2.2.1]) := by
 unfold m_xof_New at hm
 subst hn_key
 subst hn_salt
 subst hn_personal
 refine calls [I k_, I length, sl A_key key.length c_key, sl A_salt salt.length c_salt, sl A_personal personal.length c_personal] Tryz.func59 rfl (of_decide_eq_true (by kernel_rfl)) ?_
 refine W_seq <| W_q [] .a qe (by kernel_rfl) ?_
 refine At_go <| W_seq <| W_reg <| WLs 5 [] (.n 16 (I k_) (.n 17 (I length) (.n 18 (sl A_key key.length c_key) (.n 19 (sl A_salt salt.length c_salt) (.n 20 (sl A_personal personal.length c_personal) (.ss .a)))))) qe (by kernel_rfl) ?_
 refine WL_op ?_
 obtain ⟨r_, h_r_, hm⟩ := ob hm
 refine Op_call [] 21 _ yz_go77 (by kernel_rfl) (c_xof_valid (F := N0) (O := N0) _ _ _ _ _ _ _ _ _ _ _ _ _ _ (Ro.n0 (h_key.cx k)) rfl hc_key (Ro.n0 (h_salt.cx k)) rfl hc_salt (Ro.n0 (h_personal.cx k)) rfl hc_personal (Cx.refl _) _ h_r_) ?_
 rintro e_ w_ ⟨rfl, k_1⟩
 have k_2 := k.call k_1
 refine ⟨.tup [.agg [I r_.1, I r_.2.1, .u32 r_.2.2.1, .u64 r_.2.2.2.1, .b r_.2.2.2.2.1], I r_.2.2.2.2.2], rfl, ?_⟩
 refine WLs 3 [] (.n 22 (.agg [I r_.1, I r_.2.1, .u32 r_.2.2.1, .u64 r_.2.2.2.1, .b r_.2.2.2.2.1]) (.n 23 (I r_.2.2.2.2.2) (.ssss (.ss .a)))) qe (by kernel_rfl) ?_
 refine WL_op <| Op_alloc [] 12 [I 0, I 0, .u32 0, .u64 0, .b false] (by kernel_rfl) k_2 ?_
 intro g0 w_1 k_3
 refine WL_op <| Op_b [] 0 (.agg [I r_.1, I r_.2.1, .u32 r_.2.2.1, .u64 r_.2.2.2.1, .b r_.2.2.2.2.1]) [I r_.1, I r_.2.1, .u32 r_.2.2.1, .u64 r_.2.2.2.1, .b r_.2.2.2.2.1] (Pt.at g0 0) k_3 rfl .all (by kernel_rfl) (by kernel_rfl) ?_
 intro w_2 k_4
 refine WLs 1 [] (.n 13 (I r_.2.2.2.2.2) (.k (.ss .a))) qe (by kernel_rfl) ?_
 refine WL_nil <| At_go <| W_seq <| W_seq <| W_q [] (.n 25 (.b (decide (r_.2.2.2.2.2 ≠ 0))) .a) qe (by kernel_rfl) ?_
 refine At_go <| W_condp (r_.2.2.2.2.2 ≠ 0) (by kernel_rfl) (fun hc => ?_) (fun hc => ?_)
 · rw [if_pos hc] at hm
   refine W_seq <| W_q [] (.n 10 (.v (.pointer none)) (.n 11 (I r_.2.2.2.2.2) .z)) qe (by kernel_rfl) ?_
   refine At_go <| W_ret (At_tr ?_)
   obtain rfl := Option.some.inj hm
   refine At_rt [.v (.pointer none), I r_.2.2.2.2.2] qe (by kernel_rfl) ?_
   have k_5 := k_4.sel .z
   exact ⟨rfl, k_5⟩
 rw [if_neg hc] at hm
 refine W_skip <| At_go <| W_seq ?_
 have k_6 := k_4.drew 1
 refine W_m yz_mixed (.q 1 3 (.q 3 3 (.q 5 3 (.q 0 4 (.op 2 (.op 4 (.op 6 (.q 7 3 (.op 8 (.q 9 4 .nil)))))))))) [2, 4, 6, 8] k_6 (.c (.k .e) (.c (.k .e) (.c (.k .e) (.c (.k .e) .l)))) (by kernel_rfl) (fun _ => ?_)
 refine MXq 3 3 [] (.n 28 (sl A_key key.length c_key) (.n 30 (sl A_salt salt.length c_salt) (.n 32 (sl A_personal personal.length c_personal) (.ss (.k .z))))) (fun x hx => qe) (by kernel_rfl) (fun _ => ?_)
 refine MXq 1 4 [] (.n 27 (.agg [I r_.1, I r_.2.1, .u32 r_.2.2.1, .u64 r_.2.2.2.1, .b r_.2.2.2.2.1]) (.kkk .z)) (fun x hx => qT hx 0 rfl 0 5 [I r_.1, I r_.2.1, .u32 r_.2.2.1, .u64 r_.2.2.2.1, .b r_.2.2.2.2.1] (by kernel_rfl) (by decide) <| qe) (by kernel_rfl) (fun _ => ?_)
 refine MX_op (by kernel_rfl) rfl ?_
 obtain ⟨r_1, h_r_1, hm⟩ := ob hm
 refine Op_call [] 29 _ yz_go78 (by kernel_rfl) (c_xof_own (F := N0) (O := N0) _ _ _ _ (Ro.n0 (h_key.cx k_6)) rfl hc_key (Cx.refl _) _ h_r_1) ?_
 rintro e_ w_3 ⟨A0, _, c0, rfl, rfl, k_7⟩
 have k_8 := k_6.call k_7
 refine ⟨sl A0 r_1.length c0, rfl, ?_⟩
 refine ⟨(k_8.sel (.k .z)), fun _ => ?_⟩
 refine MX_op (by kernel_rfl) rfl ?_
 have k_9 := k_8.sel (.kk .e)
 obtain ⟨r_2, h_r_2, hm⟩ := ob hm
 refine Op_call [] 31 _ yz_go78 (by kernel_rfl) (c_xof_own (F := N0) (O := N0) _ _ _ _ (Ro.n0 (h_salt.cx k_9)) rfl hc_salt (Cx.refl _) _ h_r_2) ?_
 rintro e_ w_4 ⟨A18, _, c18, rfl, rfl, k_10⟩
 have k_11 := k_9.call k_10
 refine ⟨sl A18 r_2.length c18, rfl, ?_⟩
 refine ⟨(k_11.sel (.k .z)), fun _ => ?_⟩
 refine MX_op (by kernel_rfl) rfl ?_
 obtain ⟨r_3, h_r_3, hm⟩ := ob hm
 refine Op_call [] 33 _ yz_go78 (by kernel_rfl) (c_xof_own (F := N0) (O := N0) _ _ _ _ (Ro.n0 (h_personal.cx k_11)) rfl hc_personal (Cx.refl _) _ h_r_3) ?_
 rintro e_ w_5 ⟨A19, _, c19, rfl, rfl, k_12⟩
 have k_13 := k_11.call k_12
 refine ⟨sl A19 r_3.length c19, rfl, ?_⟩
 refine ⟨(k_13.sel (.k .z)), fun _ => ?_⟩
 refine MXq 1 3 [] (.n 34 (.agg [I r_.1, I r_.2.1, .u32 r_.2.2.1, .u64 r_.2.2.2.1, .b r_.2.2.2.2.1, sl A0 r_1.length c0, sl A18 r_2.length c18, sl A19 r_3.length c19, .v (.pointer none), sl none 0 0, .u64 0, .ar e8 (Vec.rep 64 (0 : UInt8)), I 0, .v .nilFunc]) .z) (fun x hx => qe) (by kernel_rfl) (fun _ => ?_)
 refine MX_op (by kernel_rfl) rfl <| Op_box [] 35 (.agg [I r_.1, I r_.2.1, .u32 r_.2.2.1, .u64 r_.2.2.2.1, .b r_.2.2.2.2.1, sl A0 r_1.length c0, sl A18 r_2.length c18, sl A19 r_3.length c19, .v (.pointer none), sl none 0 0, .u64 0, .ar e8 (Vec.rep 64 (0 : UInt8)), I 0, .v .nilFunc]) [I r_.1, I r_.2.1, .u32 r_.2.2.1, .u64 r_.2.2.2.1, .b r_.2.2.2.2.1, sl A0 r_1.length c0, sl A18 r_2.length c18, sl A19 r_3.length c19, .v (.pointer none), sl none 0 0, .u64 0, .ar e8 (Vec.rep 64 (0 : UInt8)), I 0, .v .nilFunc] (by kernel_rfl) k_13 ?_
 intro g7 w_6 k_14
 refine ⟨(k_14.sel (.k .z)), fun _ => ?_⟩
 refine MXq 1 4 [] (.n 14 (pt g7 0) .z) (fun x hx => qe) (by kernel_rfl) (fun _ => ?_)
 refine MX_nil <| At_go <| W_seq <| W_reg <| WLs 1 [] (.n 36 (pt g7 0) .a) qe (by kernel_rfl) ?_
 refine WL_op ?_
 have k_15 := k_14.nil e8
 obtain ⟨r_4, h_r_4, hm⟩ := ob hm
 have k_16 := (((((k_15.pk .h).pk (.t (.t (.t (.t (.t .h)))))).pk (.t (.t (.t (.t .h))))).pk (.t (.t (.t (.t .h))))).pk (.t (.t (.t (.t .h))))).pk (.t (.t (.t (.t (.t .h)))))
 obtain ⟨F1, O1, kin, hO, hre, hF, hb⟩ := k_16.go (.i (.i (.i (.i (.i (.r .e))))))
 refine Op_call [] 37 _ yz_go79 (by kernel_rfl) (c_xof_Stream_begin (F := F1) (O := O1) _ _ _ _ _ _ _ _ _ _ _ _ _ _ _ _ _ _ _ _ _ _ _ _ _ kin _ h_r_4) ?_
 rcases r_4 with r_5 | r_6 | r_7
 · simp only [Sum.elim_inl, Sum.elim_inr] at hm
   rintro e_ w_7 ⟨A20, _, c20, A21, _, c21, A22, _, c22, A23, _, c23, rfl, rfl, rfl, rfl, rfl, k_17⟩
   have k_18 := hb w_7 _ _ k_17 (.c (.c (.c (.c (.c .n)))))
   refine ⟨.tup [], rfl, ?_⟩
   have k_19 := k_18.sel (.kkkk (.k .z))
   refine WL_nil <| At_go <| W_seq <| W_q [] (.n 10 (pt g7 0) (.n 11 (I 0) .z)) qe (by kernel_rfl) ?_
   refine At_go <| W_ret ?_
   obtain rfl := Option.some.inj hm
   refine At_rt [pt g7 0, I 0] qe (by kernel_rfl) ?_
   exact ⟨g7, A20, r_5.2.2.2.2.2.1.length, c20, A21, r_5.2.2.2.2.2.2.1.length, c21, A22, r_5.2.2.2.2.2.2.2.1.length, c22, A23, r_5.2.2.2.2.2.2.2.2.1.length, c23, k_19.len 1 rfl, k_19.len 2 rfl, k_19.len 3 rfl, k_19.len 4 rfl, rfl, k_19⟩
 · simp only [Sum.elim_inl, Sum.elim_inr] at hm
   rintro e_ w_8 ⟨A24, _, c24, A25, _, c25, A26, _, c26, g8, A27, _, c27, A28, _, c28, g9, A29, _, c29, A30, _, c30, rfl, rfl, rfl, rfl, rfl, rfl, rfl, rfl, k_20⟩
   have k_21 := hb w_8 _ _ k_20 (.c (.c (.c (.c (.c (.c (.c (.c (.c (.c .n))))))))))
   refine ⟨.tup [], rfl, ?_⟩
   have k_22 := k_21.sel (.kkkk (.kkkk (.kk .z)))
   refine WL_nil <| At_go <| W_seq <| W_q [] (.n 10 (pt g7 0) (.n 11 (I 0) .z)) qe (by kernel_rfl) ?_
   refine At_go <| W_ret ?_
   obtain rfl := Option.some.inj hm
   refine At_rt [pt g7 0, I 0] qe (by kernel_rfl) ?_
   exact ⟨g7, A24, r_6.2.2.2.2.2.1.length, c24, A25, r_6.2.2.2.2.2.2.1.length, c25, A26, r_6.2.2.2.2.2.2.2.1.length, c26, g8, A27, r_6.2.2.2.2.2.2.2.2.2.2.1.length, c27, A28, r_6.2.2.2.2.2.2.2.2.2.2.2.1.length, c28, g9, A29, r_6.2.2.2.2.2.2.2.2.2.2.2.2.2.2.2.1.length, c29, A30, r_6.2.2.2.2.2.2.2.2.2.2.2.2.2.2.2.2.2.1.length, c30, k_22.len 1 rfl, k_22.len 2 rfl, k_22.len 3 rfl, k_22.len 5 rfl, k_22.len 6 rfl, k_22.len 8 rfl, k_22.len 9 rfl, rfl, k_22⟩
 · simp only [Sum.elim_inl, Sum.elim_inr] at hm
   rintro e_ w_9 ⟨A31, _, c31, A32, _, c32, A33, _, c33, g10, A34, _, c34, A35, _, c35, g11, A36, _, c36, A37, _, c37, rfl, rfl, rfl, rfl, rfl, rfl, rfl, rfl, k_23⟩
   have k_24 := hb w_9 _ _ k_23 (.c (.c (.c (.c (.c (.c (.c (.c (.c (.c .n))))))))))
   refine ⟨.tup [], rfl, ?_⟩
   have k_25 := k_24.sel (.kkkk (.kkkk (.kk .z)))
   refine WL_nil <| At_go <| W_seq <| W_q [] (.n 10 (pt g7 0) (.n 11 (I 0) .z)) qe (by kernel_rfl) ?_
   refine At_go <| W_ret ?_
   obtain rfl := Option.some.inj hm
   refine At_rt [pt g7 0, I 0] qe (by kernel_rfl) ?_
   exact ⟨g7, A31, r_7.2.2.2.2.2.1.length, c31, A32, r_7.2.2.2.2.2.2.1.length, c32, A33, r_7.2.2.2.2.2.2.2.1.length, c33, g10, A34, r_7.2.2.2.2.2.2.2.2.2.2.1.length, c34, A35, r_7.2.2.2.2.2.2.2.2.2.2.2.1.length, c35, g11, A36, r_7.2.2.2.2.2.2.2.2.2.2.2.2.2.2.2.1.length, c36, A37, r_7.2.2.2.2.2.2.2.2.2.2.2.2.2.2.2.2.2.1.length, c37, k_25.len 1 rfl, k_25.len 2 rfl, k_25.len 3 rfl, k_25.len 5 rfl, k_25.len 6 rfl, k_25.len 8 rfl, k_25.len 9 rfl, rfl, k_25⟩

-- quern/dice.New
theorem c_dice_New {F O : Nat → Prop} {w : World} (seed : List UInt8) (A_seed : Option Addr) (n_seed : Nat) (c_seed : Nat) (h_seed : Ro F w A_seed (e8.all seed)) (hn_seed : seed.length = n_seed) (hc_seed : n_seed ≤ c_seed) (k : Cx F O w w []) (r : Int ⊕ (List UInt8) ⊕ (List UInt8 × Int × Int × UInt32 × UInt64 × Bool × List UInt8 × List UInt8 × List UInt8 × List UInt8 × Vec UInt8 64) ⊕ (List UInt8 × Int × Int × UInt32 × UInt64 × Bool × List UInt8 × List UInt8 × List UInt8 × Int × Int × List UInt8 × List UInt8 × Vec UInt64 8 × UInt64 × UInt64 × List UInt8 × Int × List UInt8 × Vec UInt8 64) ⊕ (List UInt8 × Int × Int × UInt32 × UInt64 × Bool × List UInt8 × List UInt8 × List UInt8 × Int × Int × List UInt8 × List UInt8 × Vec UInt32 8 × UInt64 × UInt64 × List UInt8 × Int × List UInt8 × Vec UInt8 64)) (hm : m_dice_New seed = some r) :
    Calls Tryz.prog 31 (vals [sl A_seed n_seed c_seed]) w (fun e w' => match r with | .inl r0 => e = .returned (SV.val (.tup [.v (.pointer none), I r0])) ∧ Cx F O w w' [] | .inr (.inl r1) => ∃ g A n c, r1.length = n ∧ e = .returned (SV.val (.tup [pt g 0, I 0])) ∧ Cx F O w w' [Bx 29 g [sl A n c, .v (.pointer none)], Ow e8 A n c r1] | .inr (.inr (.inl r2)) => ∃ g1 A1 n1 c1 g2 A2 n2 c2 A3 n3 c3 A4 n4 c4 A5 n5 c5, r2.1.length = n1 ∧ r2.2.2.2.2.2.2.1.length = n2 ∧ r2.2.2.2.2.2.2.2.1.length = n3 ∧ r2.2.2.2.2.2.2.2.2.1.length = n4 ∧ r2.2.2.2.2.2.2.2.2.2.1.length = n5 ∧ e = .returned (SV.val (.tup [pt g1 0, I 0])) ∧ Cx F O w w' [Bx 29 g1 [sl A1 n1 c1, pt g2 0], Ow e8 A1 n1 c1 r2.1, Bx 132 g2 [I r2.2.1, I r2.2.2.1, .u32 r2.2.2.2.1, .u64 r2.2.2.2.2.1, .b r2.2.2.2.2.2.1, sl A2 n2 c2, sl A3 n3 c3, sl A4 n4 c4, .v (.pointer none), sl A5 n5 c5, .u64 0, .ar e8 r2.2.2.2.2.2.2.2.2.2.2, I (-1), .v (.func (.func 104) ⟨SV.vals [pt g2 0]⟩ ⟨SV.vals []⟩)], Ow e8 A2 n2 c2 r2.2.2.2.2.2.2.1, Ow e8 A3 n3 c3 r2.2.2.2.2.2.2.2.1, Ow e8 A4 n4 c4 r2.2.2.2.2.2.2.2.2.1, Ow e8 A5 n5 c5 r2.2.2.2.2.2.2.2.2.2.1] | .inr (.inr (.inr (.inl r3))) => ∃ g3 A6 n6 c6 g4 A7 n7 c7 A8 n8 c8 A9 n9 c9 g5 A10 n10 c10 A11 n11 c11 g6 A12 n12 c12 A13 n13 c13, r3.1.length = n6 ∧ r3.2.2.2.2.2.2.1.length = n7 ∧ r3.2.2.2.2.2.2.2.1.length = n8 ∧ r3.2.2.2.2.2.2.2.2.1.length = n9 ∧ r3.2.2.2.2.2.2.2.2.2.2.2.1.length = n10 ∧ r3.2.2.2.2.2.2.2.2.2.2.2.2.1.length = n11 ∧ r3.2.2.2.2.2.2.2.2.2.2.2.2.2.2.2.2.1.length = n12 ∧ r3.2.2.2.2.2.2.2.2.2.2.2.2.2.2.2.2.2.2.1.length = n13 ∧ e = .returned (SV.val (.tup [pt g3 0, I 0])) ∧ Cx F O w w' [Bx 29 g3 [sl A6 n6 c6, pt g4 0], Ow e8 A6 n6 c6 r3.1, Bx 132 g4 [I r3.2.1, I r3.2.2.1, .u32 r3.2.2.2.1, .u64 r3.2.2.2.2.1, .b r3.2.2.2.2.2.1, sl A7 n7 c7, sl A8 n8 c8, sl A9 n9 c9, pt g5 0, sl A13 n13 c13, .u64 0, .ar e8 r3.2.2.2.2.2.2.2.2.2.2.2.2.2.2.2.2.2.2.2, I (-1), .v (.func (.func 104) ⟨SV.vals [pt g4 0]⟩ ⟨SV.vals []⟩)], Ow e8 A7 n7 c7 r3.2.2.2.2.2.2.1, Ow e8 A8 n8 c8 r3.2.2.2.2.2.2.2.1, Ow e8 A9 n9 c9 r3.2.2.2.2.2.2.2.2.1, Bx 163 g5 [I r3.2.2.2.2.2.2.2.2.2.1, I r3.2.2.2.2.2.2.2.2.2.2.1, sl A10 n10 c10, sl A11 n11 c11, .b false, .u64 0, .v (.iface 206 (SV.val (pt g6 0)))], Ow e8 A10 n10 c10 r3.2.2.2.2.2.2.2.2.2.2.2.1, Ow e8 A11 n11 c11 r3.2.2.2.2.2.2.2.2.2.2.2.2.1, Bx 212 g6 [.ar e64 r3.2.2.2.2.2.2.2.2.2.2.2.2.2.1, .u64 r3.2.2.2.2.2.2.2.2.2.2.2.2.2.2.1, .u64 r3.2.2.2.2.2.2.2.2.2.2.2.2.2.2.2.1, sl A12 n12 c12, I r3.2.2.2.2.2.2.2.2.2.2.2.2.2.2.2.2.2.1, .v (.func (.func 140) ⟨SV.vals []⟩ ⟨SV.vals []⟩), .v (.func (.func 141) ⟨SV.vals []⟩ ⟨SV.vals []⟩)], Ow e8 A12 n12 c12 r3.2.2.2.2.2.2.2.2.2.2.2.2.2.2.2.2.1, Ow e8 A13 n13 c13 r3.2.2.2.2.2.2.2.2.2.2.2.2.2.2.2.2.2.2.1] | .inr (.inr (.inr (.inr r4))) => ∃ g7 A14 n14 c14 g8 A15 n15 c15 A16 n16 c16 A17 n17 c17 g9 A18 n18 c18 A19 n19 c19 g10 A20 n20 c20 A21 n21 c21, r4.1.length = n14 ∧ r4.2.2.2.2.2.2.1.length = n15 ∧ r4.2.2.2.2.2.2.2.1.length = n16 ∧ r4.2.2.2.2.2.2.2.2.1.length = n17 ∧ r4.2.2.2.2.2.2.2.2.2.2.2.1.length = n18 ∧ r4.2.2.2.2.2.2.2.2.2.2.2.2.1.length = n19 ∧ r4.2.2.2.2.2.2.2.2.2.2.2.2.2.2.2.2.1.length = n20 ∧ r4.2.2.2.2.2.2.2.2.2.2.2.2.2.2.2.2.2.2.1.length = n21 ∧ e = .returned (SV.val (.tup [pt g7 0, I 0])) ∧ Cx F O w w' [Bx 29 g7 [sl A14 n14 c14, pt g8 0], Ow e8 A14 n14 c14 r4.1, Bx 132 g8 [I r4.2.1, I r4.2.2.1, .u32 r4.2.2.2.1, .u64 r4.2.2.2.2.1, .b r4.2.2.2.2.2.1, sl A15 n15 c15, sl A16 n16 c16, sl A17 n17 c17, pt g9 0, sl A21 n21 c21, .u64 0, .ar e8 r4.2.2.2.2.2.2.2.2.2.2.2.2.2.2.2.2.2.2.2, I (-1), .v (.func (.func 104) ⟨SV.vals [pt g8 0]⟩ ⟨SV.vals []⟩)], Ow e8 A15 n15 c15 r4.2.2.2.2.2.2.1, Ow e8 A16 n16 c16 r4.2.2.2.2.2.2.2.1, Ow e8 A17 n17 c17 r4.2.2.2.2.2.2.2.2.1, Bx 163 g9 [I r4.2.2.2.2.2.2.2.2.2.1, I r4.2.2.2.2.2.2.2.2.2.2.1, sl A18 n18 c18, sl A19 n19 c19, .b false, .u64 0, .v (.iface 216 (SV.val (pt g10 0)))], Ow e8 A18 n18 c18 r4.2.2.2.2.2.2.2.2.2.2.2.1, Ow e8 A19 n19 c19 r4.2.2.2.2.2.2.2.2.2.2.2.2.1, Bx 220 g10 [.ar e32 r4.2.2.2.2.2.2.2.2.2.2.2.2.2.1, .u64 r4.2.2.2.2.2.2.2.2.2.2.2.2.2.2.1, .u64 r4.2.2.2.2.2.2.2.2.2.2.2.2.2.2.2.1, sl A20 n20 c20, I r4.2.2.2.2.2.2.2.2.2.2.2.2.2.2.2.2.2.1, .v (.func (.func 143) ⟨SV.vals []⟩ ⟨SV.vals []⟩), .v (.func (.func 144) ⟨SV.vals []⟩ ⟨SV.vals []⟩)], Ow e8 A20 n20 c20 r4.2.2.2.2.2.2.2.2.2.2.2.2.2.2.2.2.1, Ow e8 A21 n21 c21 r4.2.2.2.2.2.2.2.2.2.2.2.2.2.2.2.2.2.2.1]) := by
 unfold m_dice_New at hm
 subst hn_seed
 refine calls [sl A_seed seed.length c_seed] Tryz.func31 rfl (of_decide_eq_true (by kernel_rfl)) ?_
 refine W_seq <| W_q [] .a qe (by kernel_rfl) ?_
 refine At_go <| W_seq <| W_seq <| W_q [] (.n 8 (.b (decide (64 < ((seed.length : Nat) : Int)))) .a) qe (by kernel_rfl) ?_
 refine At_go <| W_condp (64 < ((seed.length : Nat) : Int)) (by kernel_rfl) (fun hc => ?_) (fun hc => ?_)
 · rw [if_pos hc] at hm
   refine W_seq <| W_q [] (.n 2 (.v (.pointer none)) (.n 3 (I 8) .z)) qe (by kernel_rfl) ?_
   refine At_go <| W_ret (At_tr ?_)
   obtain rfl := Option.some.inj hm
   refine At_rt [.v (.pointer none), I 8] qe (by kernel_rfl) ?_
   exact ⟨rfl, k⟩
 rw [if_neg hc] at hm
 refine W_skip <| At_go <| W_seq <| W_reg <| WLs 1 [] (.n 10 (sl A_seed seed.length c_seed) (.s .a)) qe (by kernel_rfl) ?_
 refine WL_op ?_
 obtain ⟨r_, h_r_, hm⟩ := ob hm
 refine Op_call [] 11 _ yz_go59 (by kernel_rfl) (c_xof_New (F := N0) (O := N0) _ _ _ _ _ _ _ _ _ _ _ _ _ _ (Ro.n0 (h_seed.cx k)) rfl hc_seed (Ro.nilE e8) rfl (Nat.le_refl 0) (Ro.nilE e8) rfl (Nat.le_refl 0) (Cx.refl _) _ h_r_) ?_
 rcases r_ with r_1 | r_2 | r_3 | r_4
 · simp only [Sum.elim_inl, Sum.elim_inr] at hm
   rintro e_ w_ ⟨rfl, k_⟩
   have k_1 := k.call k_
   refine ⟨.tup [.v (.pointer none), I r_1], rfl, ?_⟩
   refine WLs 5 [] (.n 4 (.v (.pointer none)) (.n 5 (I r_1) (.ss .a))) qe (by kernel_rfl) ?_
   refine WL_nil <| At_go <| W_seq <| W_seq <| W_q [] (.n 15 (.b (decide (r_1 ≠ 0))) .a) qe (by kernel_rfl) ?_
   refine At_go <| W_condp (r_1 ≠ 0) (by kernel_rfl) (fun hc1 => ?_) (fun hc1 => ?_)
   · rw [if_pos hc1] at hm
     refine W_seq <| W_q [] (.n 2 (.v (.pointer none)) (.n 3 (I r_1) .z)) qe (by kernel_rfl) ?_
     refine At_go <| W_ret (At_tr ?_)
     obtain rfl := Option.some.inj hm
     refine At_rt [.v (.pointer none), I r_1] qe (by kernel_rfl) ?_
     exact ⟨rfl, k_1⟩
   rw [if_neg hc1] at hm
   refine W_skip <| At_go <| W_seq <| W_reg <| WLs 1 [] (.n 17 (sl A_seed seed.length c_seed) (.s (.k .z))) qe (by kernel_rfl) ?_
   refine WL_op ?_
   have k_2 := k_1.nil e8
   obtain ⟨b, h_b, hm⟩ := ob hm
   obtain ⟨hz, hl⟩ := app_some h_b
   refine Op_append (E := e8) (v := sl A_seed seed.length c_seed) (ys := seed) yz_tf26 [] 18 0 (by kernel_rfl) k_2 rfl (Src.sl (h_seed.cx k_2) rfl (by rfl)) rfl (by have := k_2.len 0 rfl; have := hm; omega) ?_
   intro A0 c0 w_1 k_3
   rw [← hl] at k_3
   refine WLs 2 [] (.n 20 (.agg [sl A0 (0 + seed.length) c0, .v (.pointer none)]) .z) qe (by kernel_rfl) ?_
   refine WL_op <| Op_box [] 21 (.agg [sl A0 (0 + seed.length) c0, .v (.pointer none)]) [sl A0 (0 + seed.length) c0, .v (.pointer none)] (by kernel_rfl) k_3 ?_
   intro g0 w_2 k_4
   refine WLs 2 [] (.n 2 (pt g0 0) (.n 3 (I 0) .z)) qe (by kernel_rfl) ?_
   refine WL_nil <| At_go <| W_ret ?_
   obtain rfl := Option.some.inj hm
   refine At_rt [pt g0 0, I 0] qe (by kernel_rfl) ?_
   have k_5 := (k_4.pk .h).pk (.t .h)
   exact ⟨g0, A0, 0 + seed.length, c0, k_5.len 1 rfl, rfl, k_5⟩
 · simp only [Sum.elim_inl, Sum.elim_inr] at hm
   rintro e_ w_0 ⟨g11, A22, _, c22, A23, _, c23, A24, _, c24, A25, _, c25, rfl, rfl, rfl, rfl, rfl, k_0⟩
   have k_6 := k.call k_0
   refine ⟨.tup [pt g11 0, I 0], rfl, ?_⟩
   refine WLs 5 [] (.n 4 (pt g11 0) (.n 5 (I 0) (.ss .a))) qe (by kernel_rfl) ?_
   refine WL_nil <| At_go <| W_seq <| W_seq <| W_q [] (.n 15 (.b (decide (0 ≠ 0))) .a) qe (by kernel_rfl) ?_
   refine At_go <| W_condp (0 ≠ 0) (by kernel_rfl) (fun hc2 => ?_) (fun hc2 => ?_)
   · rw [if_pos hc2] at hm
     refine W_seq <| W_q [] (.n 2 (.v (.pointer none)) (.n 3 (I 0) .z)) qe (by kernel_rfl) ?_
     refine At_go <| W_ret (At_tr ?_)
     obtain rfl := Option.some.inj hm
     refine At_rt [.v (.pointer none), I 0] qe (by kernel_rfl) ?_
     have k_7 := k_6.sel .z
     exact ⟨rfl, k_7⟩
   rw [if_neg hc2] at hm
   refine W_skip <| At_go <| W_seq <| W_reg <| WLs 1 [] (.n 17 (sl A_seed seed.length c_seed) (.s (.k .z))) qe (by kernel_rfl) ?_
   refine WL_op ?_
   have k_8 := k_6.nil e8
   obtain ⟨b0, h_b0, hm⟩ := ob hm
   obtain ⟨hz0, hl0⟩ := app_some h_b0
   refine Op_append (E := e8) (v := sl A_seed seed.length c_seed) (ys := seed) yz_tf26 [] 18 5 (by kernel_rfl) k_8 rfl (Src.sl (h_seed.cx k_8) rfl (by rfl)) rfl (by have := k_8.len 5 rfl; have := hm; omega) ?_
   intro A26 c26 w_3 k_9
   rw [← hl0] at k_9
   refine WLs 2 [] (.n 20 (.agg [sl A26 (0 + seed.length) c26, pt g11 0]) .z) qe (by kernel_rfl) ?_
   refine WL_op <| Op_box [] 21 (.agg [sl A26 (0 + seed.length) c26, pt g11 0]) [sl A26 (0 + seed.length) c26, pt g11 0] (by kernel_rfl) k_9 ?_
   intro g12 w_4 k_10
   refine WLs 2 [] (.n 2 (pt g12 0) (.n 3 (I 0) .z)) qe (by kernel_rfl) ?_
   refine WL_nil <| At_go <| W_ret ?_
   obtain rfl := Option.some.inj hm
   refine At_rt [pt g12 0, I 0] qe (by kernel_rfl) ?_
   have k_11 := ((((((k_10.pk (.t (.t (.t (.t .h))))).pk (.t (.t (.t (.t .h))))).pk (.t (.t (.t (.t .h))))).pk (.t (.t (.t (.t .h))))).pk (.t (.t (.t (.t .h))))).pk (.t (.t (.t (.t (.t .h)))))).pk (.t (.t (.t (.t (.t (.t .h))))))
   exact ⟨g12, A26, 0 + seed.length, c26, g11, A22, r_2.2.2.2.2.2.1.length, c22, A23, r_2.2.2.2.2.2.2.1.length, c23, A24, r_2.2.2.2.2.2.2.2.1.length, c24, A25, r_2.2.2.2.2.2.2.2.2.1.length, c25, k_11.len 1 rfl, k_11.len 3 rfl, k_11.len 4 rfl, k_11.len 5 rfl, k_11.len 6 rfl, rfl, k_11⟩
 · simp only [Sum.elim_inl, Sum.elim_inr] at hm
   rintro e_ w_5 ⟨g13, A27, _, c27, A28, _, c28, A29, _, c29, g14, A30, _, c30, A31, _, c31, g15, A32, _, c32, A33, _, c33, rfl, rfl, rfl, rfl, rfl, rfl, rfl, rfl, k_12⟩
   have k_13 := k.call k_12
   refine ⟨.tup [pt g13 0, I 0], rfl, ?_⟩
   refine WLs 5 [] (.n 4 (pt g13 0) (.n 5 (I 0) (.ss .a))) qe (by kernel_rfl) ?_
   refine WL_nil <| At_go <| W_seq <| W_seq <| W_q [] (.n 15 (.b (decide (0 ≠ 0))) .a) qe (by kernel_rfl) ?_
   refine At_go <| W_condp (0 ≠ 0) (by kernel_rfl) (fun hc3 => ?_) (fun hc3 => ?_)
   · rw [if_pos hc3] at hm
     refine W_seq <| W_q [] (.n 2 (.v (.pointer none)) (.n 3 (I 0) .z)) qe (by kernel_rfl) ?_
     refine At_go <| W_ret (At_tr ?_)
     obtain rfl := Option.some.inj hm
     refine At_rt [.v (.pointer none), I 0] qe (by kernel_rfl) ?_
     have k_14 := k_13.sel .z
     exact ⟨rfl, k_14⟩
   rw [if_neg hc3] at hm
   refine W_skip <| At_go <| W_seq <| W_reg <| WLs 1 [] (.n 17 (sl A_seed seed.length c_seed) (.s (.k .z))) qe (by kernel_rfl) ?_
   refine WL_op ?_
   have k_15 := k_13.nil e8
   obtain ⟨b1, h_b1, hm⟩ := ob hm
   obtain ⟨hz1, hl1⟩ := app_some h_b1
   refine Op_append (E := e8) (v := sl A_seed seed.length c_seed) (ys := seed) yz_tf26 [] 18 10 (by kernel_rfl) k_15 rfl (Src.sl (h_seed.cx k_15) rfl (by rfl)) rfl (by have := k_15.len 10 rfl; have := hm; omega) ?_
   intro A34 c34 w_6 k_16
   rw [← hl1] at k_16
   refine WLs 2 [] (.n 20 (.agg [sl A34 (0 + seed.length) c34, pt g13 0]) .z) qe (by kernel_rfl) ?_
   refine WL_op <| Op_box [] 21 (.agg [sl A34 (0 + seed.length) c34, pt g13 0]) [sl A34 (0 + seed.length) c34, pt g13 0] (by kernel_rfl) k_16 ?_
   intro g16 w_7 k_17
   refine WLs 2 [] (.n 2 (pt g16 0) (.n 3 (I 0) .z)) qe (by kernel_rfl) ?_
   refine WL_nil <| At_go <| W_ret ?_
   obtain rfl := Option.some.inj hm
   refine At_rt [pt g16 0, I 0] qe (by kernel_rfl) ?_
   have k_18 := (((((((((((k_17.pk (.t (.t (.t (.t (.t (.t (.t (.t (.t .h)))))))))).pk (.t (.t (.t (.t (.t (.t (.t (.t (.t .h)))))))))).pk (.t (.t (.t (.t (.t (.t (.t (.t (.t .h)))))))))).pk (.t (.t (.t (.t (.t (.t (.t (.t (.t .h)))))))))).pk (.t (.t (.t (.t (.t (.t (.t (.t (.t .h)))))))))).pk (.t (.t (.t (.t (.t (.t (.t (.t (.t .h)))))))))).pk (.t (.t (.t (.t (.t (.t (.t (.t (.t .h)))))))))).pk (.t (.t (.t (.t (.t (.t (.t (.t (.t .h)))))))))).pk (.t (.t (.t (.t (.t (.t (.t (.t (.t .h)))))))))).pk (.t (.t (.t (.t (.t (.t (.t (.t (.t .h)))))))))).pk (.t (.t (.t (.t (.t (.t (.t (.t (.t (.t .h))))))))))).pk (.t (.t (.t (.t (.t (.t (.t (.t (.t (.t (.t .h)))))))))))
   exact ⟨g16, A34, 0 + seed.length, c34, g13, A27, r_3.2.2.2.2.2.1.length, c27, A28, r_3.2.2.2.2.2.2.1.length, c28, A29, r_3.2.2.2.2.2.2.2.1.length, c29, g14, A30, r_3.2.2.2.2.2.2.2.2.2.2.1.length, c30, A31, r_3.2.2.2.2.2.2.2.2.2.2.2.1.length, c31, g15, A32, r_3.2.2.2.2.2.2.2.2.2.2.2.2.2.2.2.1.length, c32, A33, r_3.2.2.2.2.2.2.2.2.2.2.2.2.2.2.2.2.2.1.length, c33, k_18.len 1 rfl, k_18.len 3 rfl, k_18.len 4 rfl, k_18.len 5 rfl, k_18.len 7 rfl, k_18.len 8 rfl, k_18.len 10 rfl, k_18.len 11 rfl, rfl, k_18⟩
 · simp only [Sum.elim_inl, Sum.elim_inr] at hm
   rintro e_ w_8 ⟨g17, A35, _, c35, A36, _, c36, A37, _, c37, g18, A38, _, c38, A39, _, c39, g19, A40, _, c40, A41, _, c41, rfl, rfl, rfl, rfl, rfl, rfl, rfl, rfl, k_19⟩
   have k_20 := k.call k_19
   refine ⟨.tup [pt g17 0, I 0], rfl, ?_⟩
   refine WLs 5 [] (.n 4 (pt g17 0) (.n 5 (I 0) (.ss .a))) qe (by kernel_rfl) ?_
   refine WL_nil <| At_go <| W_seq <| W_seq <| W_q [] (.n 15 (.b (decide (0 ≠ 0))) .a) qe (by kernel_rfl) ?_
   refine At_go <| W_condp (0 ≠ 0) (by kernel_rfl) (fun hc4 => ?_) (fun hc4 => ?_)
   · rw [if_pos hc4] at hm
     refine W_seq <| W_q [] (.n 2 (.v (.pointer none)) (.n 3 (I 0) .z)) qe (by kernel_rfl) ?_
     refine At_go <| W_ret (At_tr ?_)
     obtain rfl := Option.some.inj hm
     refine At_rt [.v (.pointer none), I 0] qe (by kernel_rfl) ?_
     have k_21 := k_20.sel .z
     exact ⟨rfl, k_21⟩
   rw [if_neg hc4] at hm
   refine W_skip <| At_go <| W_seq <| W_reg <| WLs 1 [] (.n 17 (sl A_seed seed.length c_seed) (.s (.k .z))) qe (by kernel_rfl) ?_
   refine WL_op ?_
   have k_22 := k_20.nil e8
   obtain ⟨b2, h_b2, hm⟩ := ob hm
   obtain ⟨hz2, hl2⟩ := app_some h_b2
   refine Op_append (E := e8) (v := sl A_seed seed.length c_seed) (ys := seed) yz_tf26 [] 18 10 (by kernel_rfl) k_22 rfl (Src.sl (h_seed.cx k_22) rfl (by rfl)) rfl (by have := k_22.len 10 rfl; have := hm; omega) ?_
   intro A42 c42 w_9 k_23
   rw [← hl2] at k_23
   refine WLs 2 [] (.n 20 (.agg [sl A42 (0 + seed.length) c42, pt g17 0]) .z) qe (by kernel_rfl) ?_
   refine WL_op <| Op_box [] 21 (.agg [sl A42 (0 + seed.length) c42, pt g17 0]) [sl A42 (0 + seed.length) c42, pt g17 0] (by kernel_rfl) k_23 ?_
   intro g20 w_10 k_24
   refine WLs 2 [] (.n 2 (pt g20 0) (.n 3 (I 0) .z)) qe (by kernel_rfl) ?_
   refine WL_nil <| At_go <| W_ret ?_
   obtain rfl := Option.some.inj hm
   refine At_rt [pt g20 0, I 0] qe (by kernel_rfl) ?_
   have k_25 := (((((((((((k_24.pk (.t (.t (.t (.t (.t (.t (.t (.t (.t .h)))))))))).pk (.t (.t (.t (.t (.t (.t (.t (.t (.t .h)))))))))).pk (.t (.t (.t (.t (.t (.t (.t (.t (.t .h)))))))))).pk (.t (.t (.t (.t (.t (.t (.t (.t (.t .h)))))))))).pk (.t (.t (.t (.t (.t (.t (.t (.t (.t .h)))))))))).pk (.t (.t (.t (.t (.t (.t (.t (.t (.t .h)))))))))).pk (.t (.t (.t (.t (.t (.t (.t (.t (.t .h)))))))))).pk (.t (.t (.t (.t (.t (.t (.t (.t (.t .h)))))))))).pk (.t (.t (.t (.t (.t (.t (.t (.t (.t .h)))))))))).pk (.t (.t (.t (.t (.t (.t (.t (.t (.t .h)))))))))).pk (.t (.t (.t (.t (.t (.t (.t (.t (.t (.t .h))))))))))).pk (.t (.t (.t (.t (.t (.t (.t (.t (.t (.t (.t .h)))))))))))
   exact ⟨g20, A42, 0 + seed.length, c42, g17, A35, r_4.2.2.2.2.2.1.length, c35, A36, r_4.2.2.2.2.2.2.1.length, c36, A37, r_4.2.2.2.2.2.2.2.1.length, c37, g18, A38, r_4.2.2.2.2.2.2.2.2.2.2.1.length, c38, A39, r_4.2.2.2.2.2.2.2.2.2.2.2.1.length, c39, g19, A40, r_4.2.2.2.2.2.2.2.2.2.2.2.2.2.2.2.1.length, c40, A41, r_4.2.2.2.2.2.2.2.2.2.2.2.2.2.2.2.2.2.1.length, c41, k_25.len 1 rfl, k_25.len 3 rfl, k_25.len 4 rfl, k_25.len 5 rfl, k_25.len 7 rfl, k_25.len 8 rfl, k_25.len 10 rfl, k_25.len 11 rfl, rfl, k_25⟩

-- (*quern/dice.Dice).none
theorem c_dice_Dice_none {F O : Nat → Prop} {w : World} (d_seed : List UInt8) (g_d : Nat) (A_d_seed : Option Addr) (n_d_seed : Nat) (c_d_seed : Nat) (k : Cx F O w w [Bx 29 g_d [sl A_d_seed n_d_seed c_d_seed, .v (.pointer none)], Ow e8 A_d_seed n_d_seed c_d_seed d_seed]) (r : (List UInt8)) (hm : m_dice_Dice_none d_seed = some r) :
    Calls Tryz.prog 34 (vals [pt g_d 0]) w (fun e w' => ∃ A n c, r.length = n ∧ e = .returned (SV.val (.b true)) ∧ Cx F O w w' [Bx 29 g_d [sl A n c, .v (.pointer none)], Ow e8 A n c r]) := by
 unfold m_dice_Dice_none at hm
 obtain rfl := k.len 1 rfl
 refine calls [pt g_d 0] Tryz.func34 rfl (of_decide_eq_true (by kernel_rfl)) ?_
 refine W_seq <| W_q [] .a qe (by kernel_rfl) ?_
 refine At_go <| W_seq <| W_q [5] (.n 2 (.b true) .z) (qs g_d 0 <| qs g_d 0 <| qB k 0 rfl 1 (.v (.pointer none)) (by kernel_rfl) <| qe) (by kernel_rfl) ?_
 refine At_go <| W_ret ?_
 obtain rfl := Option.some.inj hm
 refine At_rt [.b true] qe (by kernel_rfl) ?_
 exact ⟨A_d_seed, d_seed.length, c_d_seed, k.len 1 rfl, rfl, k⟩

-- (*quern/dice.Dice).Pick
theorem c_dice_Dice_Pick {F O : Nat → Prop} {w : World} (d_seed : List UInt8) (g_d : Nat) (A_d_seed : Option Addr) (n_d_seed : Nat) (c_d_seed : Nat) (k : Cx F O w w [Bx 29 g_d [sl A_d_seed n_d_seed c_d_seed, .v (.pointer none)], Ow e8 A_d_seed n_d_seed c_d_seed d_seed]) (r : (List UInt8)) (hm : m_dice_Dice_Pick d_seed = some r) :
    Calls Tryz.prog 12 (vals [pt g_d 0, sl none 0 0]) w (fun e w' => ∃ A n c, r.length = n ∧ e = .returned (SV.val (.tup [I 0, I 7])) ∧ Cx F O w w' [Bx 29 g_d [sl A n c, .v (.pointer none)], Ow e8 A n c r]) := by
 unfold m_dice_Dice_Pick at hm
 obtain rfl := k.len 1 rfl
 refine calls [pt g_d 0, sl none 0 0] Tryz.func12 rfl (of_decide_eq_true (by kernel_rfl)) ?_
 refine W_seq <| W_q [] .a qe (by kernel_rfl) ?_
 refine At_go <| W_seq <| W_seq <| W_reg <| WLs 1 [] (.n 16 (pt g_d 0) .a) qe (by kernel_rfl) ?_
 refine WL_op ?_
 obtain ⟨r_, h_r_, hm⟩ := ob hm
 obtain ⟨F1, O1, kin, hO, hre, hF, hb⟩ := k.go (.i (.i .e))
 refine Op_call [] 17 _ yz_go34 (by kernel_rfl) (c_dice_Dice_none (F := F1) (O := O1) _ _ _ _ _ kin _ h_r_) ?_
 rintro e_ w_ ⟨A0, _, c0, rfl, rfl, k_⟩
 have k_1 := hb w_ _ _ k_ (.c (.c .n))
 refine ⟨.b true, rfl, ?_⟩
 refine WL_nil <| At_go <| W_cond true (by kernel_rfl) (fun _ => ?_) (fun h => by cases h)
 refine W_seq <| W_q [] (.n 4 (I 0) (.n 5 (I 7) .z)) qe (by kernel_rfl) ?_
 refine At_go <| W_ret (At_tr ?_)
 obtain rfl := Option.some.inj hm
 refine At_rt [I 0, I 7] qe (by kernel_rfl) ?_
 exact ⟨A0, r_.length, c0, k_1.len 1 rfl, rfl, k_1⟩

-- (*quern/dice.Dice).none
theorem c_dice_Dice_none_s1 {F O : Nat → Prop} {w : World} (d_seed : List UInt8) (d_s_s_kind : Int) (d_s_s_full : Int) (d_s_s_code : UInt32) (d_s_s_total : UInt64) (d_s_s_known : Bool) (d_s_key : List UInt8) (d_s_salt : List UInt8) (d_s_personal : List UInt8) (d_s_root : List UInt8) (d_s_at : UInt64) (d_s_now : Vec UInt8 64) (d_s_have : Int) (g_d : Nat) (A_d_seed : Option Addr) (n_d_seed : Nat) (c_d_seed : Nat) (g_d_s : Nat) (A_d_s_key : Option Addr) (n_d_s_key : Nat) (c_d_s_key : Nat) (A_d_s_salt : Option Addr) (n_d_s_salt : Nat) (c_d_s_salt : Nat) (A_d_s_personal : Option Addr) (n_d_s_personal : Nat) (c_d_s_personal : Nat) (A_d_s_root : Option Addr) (n_d_s_root : Nat) (c_d_s_root : Nat) (k : Cx F O w w [Bx 29 g_d [sl A_d_seed n_d_seed c_d_seed, pt g_d_s 0], Ow e8 A_d_seed n_d_seed c_d_seed d_seed, Bx 132 g_d_s [I d_s_s_kind, I d_s_s_full, .u32 d_s_s_code, .u64 d_s_s_total, .b d_s_s_known, sl A_d_s_key n_d_s_key c_d_s_key, sl A_d_s_salt n_d_s_salt c_d_s_salt, sl A_d_s_personal n_d_s_personal c_d_s_personal, .v (.pointer none), sl A_d_s_root n_d_s_root c_d_s_root, .u64 d_s_at, .ar e8 d_s_now, I d_s_have, .v (.func (.func 104) ⟨SV.vals [pt g_d_s 0]⟩ ⟨SV.vals []⟩)], Ow e8 A_d_s_key n_d_s_key c_d_s_key d_s_key, Ow e8 A_d_s_salt n_d_s_salt c_d_s_salt d_s_salt, Ow e8 A_d_s_personal n_d_s_personal c_d_s_personal d_s_personal, Ow e8 A_d_s_root n_d_s_root c_d_s_root d_s_root]) (r : (Int × Int × UInt32 × UInt64 × Bool × List UInt8 × List UInt8 × List UInt8 × List UInt8 × UInt64 × Vec UInt8 64 × Int × List UInt8)) (hm : m_dice_Dice_none_s1 d_seed d_s_s_kind d_s_s_full d_s_s_code d_s_s_total d_s_s_known d_s_key d_s_salt d_s_personal d_s_root d_s_at d_s_now d_s_have = some r) :
    Calls Tryz.prog 34 (vals [pt g_d 0]) w (fun e w' => ∃ A n c A1 n1 c1 A2 n2 c2 A3 n3 c3 A4 n4 c4, r.2.2.2.2.2.1.length = n ∧ r.2.2.2.2.2.2.1.length = n1 ∧ r.2.2.2.2.2.2.2.1.length = n2 ∧ r.2.2.2.2.2.2.2.2.1.length = n3 ∧ r.2.2.2.2.2.2.2.2.2.2.2.2.length = n4 ∧ e = .returned (SV.val (.b false)) ∧ Cx F O w w' [Bx 132 g_d_s [I r.1, I r.2.1, .u32 r.2.2.1, .u64 r.2.2.2.1, .b r.2.2.2.2.1, sl A n c, sl A1 n1 c1, sl A2 n2 c2, .v (.pointer none), sl A3 n3 c3, .u64 r.2.2.2.2.2.2.2.2.2.1, .ar e8 r.2.2.2.2.2.2.2.2.2.2.1, I r.2.2.2.2.2.2.2.2.2.2.2.1, .v (.func (.func 104) ⟨SV.vals [pt g_d_s 0]⟩ ⟨SV.vals []⟩)], Ow e8 A n c r.2.2.2.2.2.1, Ow e8 A1 n1 c1 r.2.2.2.2.2.2.1, Ow e8 A2 n2 c2 r.2.2.2.2.2.2.2.1, Ow e8 A3 n3 c3 r.2.2.2.2.2.2.2.2.1, Bx 29 g_d [sl A4 n4 c4, pt g_d_s 0], Ow e8 A4 n4 c4 r.2.2.2.2.2.2.2.2.2.2.2.2]) := by
 unfold m_dice_Dice_none_s1 at hm
 obtain rfl := k.len 1 rfl
 obtain rfl := k.len 3 rfl
 obtain rfl := k.len 4 rfl
 obtain rfl := k.len 5 rfl
 obtain rfl := k.len 6 rfl
 refine calls [pt g_d 0] Tryz.func34 rfl (of_decide_eq_true (by kernel_rfl)) ?_
 refine W_seq <| W_q [] .a qe (by kernel_rfl) ?_
 refine At_go <| W_seq <| W_q [5] (.n 2 (.b false) .z) (qs g_d 0 <| qs g_d 0 <| qB k 0 rfl 1 (pt g_d_s 0) (by kernel_rfl) <| qe) (by kernel_rfl) ?_
 refine At_go <| W_ret ?_
 obtain rfl := Option.some.inj hm
 refine At_rt [.b false] qe (by kernel_rfl) ?_
 have k_ := ((((((k.pk (.t .h)).pk (.t .h)).pk (.t (.t (.t (.t (.t (.t .h))))))).pk (.t (.t (.t (.t (.t (.t .h))))))).pk (.t (.t (.t (.t (.t (.t .h))))))).pk (.t (.t (.t (.t (.t (.t .h))))))).pk (.t (.t (.t (.t (.t (.t .h))))))
 exact ⟨A_d_s_key, d_s_key.length, c_d_s_key, A_d_s_salt, d_s_salt.length, c_d_s_salt, A_d_s_personal, d_s_personal.length, c_d_s_personal, A_d_s_root, d_s_root.length, c_d_s_root, A_d_seed, d_seed.length, c_d_seed, k_.len 1 rfl, k_.len 2 rfl, k_.len 3 rfl, k_.len 4 rfl, k_.len 6 rfl, rfl, k_⟩

-- quern/dice.weighed
theorem c_dice_weighed {F O : Nat → Prop} {w : World} (k : Cx F O w w []) (r : (List Int)) (hm : m_dice_weighed = some r) :
    Calls Tryz.prog 41 (vals [sl none 0 0]) w (fun e w' => ∃ A n c, r.length = n ∧ e = .returned (SV.val (.tup [sl A n c, .v (.float .f64 0), I 251])) ∧ Cx F O w w' [Ow eI A n c r]) := by
 unfold m_dice_weighed at hm
 refine calls [sl none 0 0] Tryz.func41 rfl (of_decide_eq_true (by kernel_rfl)) ?_
 refine W_seq <| W_q [] .a qe (by kernel_rfl) ?_
 refine At_go <| W_seq <| W_seq <| W_q [] (.n 12 (.b false) .a) qe (by kernel_rfl) ?_
 refine At_go <| W_cond false (by kernel_rfl) (fun h => by cases h) (fun _ => ?_)
 refine W_skip <| At_go <| W_seq <| W_q [] (.n 5 (sl none 0 0) (.s .a)) qe (by kernel_rfl) ?_
 refine At_go <| W_seq <| W_q [] (.n 6 (.v (.float .f64 0)) (.n 7 (.b false) .a)) qe (by kernel_rfl) ?_
 refine At_go <| W_seq <| W_seq <| W_q [] (.n 13 (sl none 0 0) (.n 14 (I 0) (.n 15 (I 0) (.kkk .z)))) qe (by kernel_rfl) ?_
 refine At_go <| W_block <| W_un ?_
 refine W_seq <| W_q [] (.n 16 (.b false) .a) qe (by kernel_rfl) ?_
 refine At_go <| W_seq <| W_cond false (by kernel_rfl) (fun h => by cases h) (fun _ => ?_)
 refine W_exit (At_te (At_te (At_ie ?_)))
 refine At_go <| W_seq <| W_block <| W_seq <| W_q [] (.n 42 (.b true) (.ssss (.k (.s .a)))) qe (by kernel_rfl) ?_
 refine At_go <| W_cond true (by kernel_rfl) (fun _ => ?_) (fun h => by cases h)
 refine W_seq <| W_q [] (.n 2 (sl none 0 0) (.n 3 (.v (.float .f64 0)) (.n 4 (I 251) .z))) qe (by kernel_rfl) ?_
 refine At_go <| W_ret (At_ir (At_tr ?_))
 have k_ := k.nil eI
 obtain rfl := Option.some.inj hm
 refine At_rt [sl none 0 0, .v (.float .f64 0), I 251] qe (by kernel_rfl) ?_
 exact ⟨none, 0, 0, k_.len 0 rfl, rfl, k_⟩

-- (*quern/dice.Dice).Pick
theorem c_dice_Dice_Pick_s1 {F O : Nat → Prop} {w : World} (d_seed : List UInt8) (d_s_s_kind : Int) (d_s_s_full : Int) (d_s_s_code : UInt32) (d_s_s_total : UInt64) (d_s_s_known : Bool) (d_s_key : List UInt8) (d_s_salt : List UInt8) (d_s_personal : List UInt8) (d_s_root : List UInt8) (d_s_at : UInt64) (d_s_now : Vec UInt8 64) (d_s_have : Int) (g_d : Nat) (A_d_seed : Option Addr) (n_d_seed : Nat) (c_d_seed : Nat) (g_d_s : Nat) (A_d_s_key : Option Addr) (n_d_s_key : Nat) (c_d_s_key : Nat) (A_d_s_salt : Option Addr) (n_d_s_salt : Nat) (c_d_s_salt : Nat) (A_d_s_personal : Option Addr) (n_d_s_personal : Nat) (c_d_s_personal : Nat) (A_d_s_root : Option Addr) (n_d_s_root : Nat) (c_d_s_root : Nat) (k : Cx F O w w [Bx 29 g_d [sl A_d_seed n_d_seed c_d_seed, pt g_d_s 0], Ow e8 A_d_seed n_d_seed c_d_seed d_seed, Bx 132 g_d_s [I d_s_s_kind, I d_s_s_full, .u32 d_s_s_code, .u64 d_s_s_total, .b d_s_s_known, sl A_d_s_key n_d_s_key c_d_s_key, sl A_d_s_salt n_d_s_salt c_d_s_salt, sl A_d_s_personal n_d_s_personal c_d_s_personal, .v (.pointer none), sl A_d_s_root n_d_s_root c_d_s_root, .u64 d_s_at, .ar e8 d_s_now, I d_s_have, .v (.func (.func 104) ⟨SV.vals [pt g_d_s 0]⟩ ⟨SV.vals []⟩)], Ow e8 A_d_s_key n_d_s_key c_d_s_key d_s_key, Ow e8 A_d_s_salt n_d_s_salt c_d_s_salt d_s_salt, Ow e8 A_d_s_personal n_d_s_personal c_d_s_personal d_s_personal, Ow e8 A_d_s_root n_d_s_root c_d_s_root d_s_root]) (r : (Int × Int × UInt32 × UInt64 × Bool × List UInt8 × List UInt8 × List UInt8 × List UInt8 × UInt64 × Vec UInt8 64 × Int × List UInt8)) (hm : m_dice_Dice_Pick_s1 d_seed d_s_s_kind d_s_s_full d_s_s_code d_s_s_total d_s_s_known d_s_key d_s_salt d_s_personal d_s_root d_s_at d_s_now d_s_have = some r) :
    Calls Tryz.prog 12 (vals [pt g_d 0, sl none 0 0]) w (fun e w' => ∃ A n c A1 n1 c1 A2 n2 c2 A3 n3 c3 A4 n4 c4, r.2.2.2.2.2.1.length = n ∧ r.2.2.2.2.2.2.1.length = n1 ∧ r.2.2.2.2.2.2.2.1.length = n2 ∧ r.2.2.2.2.2.2.2.2.1.length = n3 ∧ r.2.2.2.2.2.2.2.2.2.2.2.2.length = n4 ∧ e = .returned (SV.val (.tup [I 0, I 251])) ∧ Cx F O w w' [Bx 132 g_d_s [I r.1, I r.2.1, .u32 r.2.2.1, .u64 r.2.2.2.1, .b r.2.2.2.2.1, sl A n c, sl A1 n1 c1, sl A2 n2 c2, .v (.pointer none), sl A3 n3 c3, .u64 r.2.2.2.2.2.2.2.2.2.1, .ar e8 r.2.2.2.2.2.2.2.2.2.2.1, I r.2.2.2.2.2.2.2.2.2.2.2.1, .v (.func (.func 104) ⟨SV.vals [pt g_d_s 0]⟩ ⟨SV.vals []⟩)], Ow e8 A n c r.2.2.2.2.2.1, Ow e8 A1 n1 c1 r.2.2.2.2.2.2.1, Ow e8 A2 n2 c2 r.2.2.2.2.2.2.2.1, Ow e8 A3 n3 c3 r.2.2.2.2.2.2.2.2.1, Bx 29 g_d [sl A4 n4 c4, pt g_d_s 0], Ow e8 A4 n4 c4 r.2.2.2.2.2.2.2.2.2.2.2.2]) := by
 unfold m_dice_Dice_Pick_s1 at hm
 obtain rfl := k.len 1 rfl
 obtain rfl := k.len 3 rfl
 obtain rfl := k.len 4 rfl
 obtain rfl := k.len 5 rfl
 obtain rfl := k.len 6 rfl
 refine calls [pt g_d 0, sl none 0 0] Tryz.func12 rfl (of_decide_eq_true (by kernel_rfl)) ?_
 refine W_seq <| W_q [] .a qe (by kernel_rfl) ?_
 refine At_go <| W_seq <| W_seq <| W_reg <| WLs 1 [] (.n 16 (pt g_d 0) .a) qe (by kernel_rfl) ?_
 refine WL_op ?_
 obtain ⟨r_, h_r_, hm⟩ := ob hm
 obtain ⟨F1, O1, kin, hO, hre, hF, hb⟩ := k.go (.i (.i (.i (.i (.i (.i (.i .e)))))))
 refine Op_call [] 17 _ yz_go34 (by kernel_rfl) (c_dice_Dice_none_s1 (F := F1) (O := O1) _ _ _ _ _ _ _ _ _ _ _ _ _ _ _ _ _ _ _ _ _ _ _ _ _ _ _ _ _ _ kin _ h_r_) ?_
 rintro e_ w_ ⟨A0, _, c0, A5, _, c5, A6, _, c6, A7, _, c7, A8, _, c8, rfl, rfl, rfl, rfl, rfl, rfl, k_⟩
 have k_1 := hb w_ _ _ k_ (.c (.c (.c (.c (.c (.c (.c .n)))))))
 refine ⟨.b false, rfl, ?_⟩
 refine WL_nil <| At_go <| W_cond false (by kernel_rfl) (fun h => by cases h) (fun _ => ?_)
 refine W_skip <| At_go <| W_seq <| W_reg <| WLs 1 [] (.n 19 (sl none 0 0) (.ss .a)) qe (by kernel_rfl) ?_
 refine WL_op ?_
 obtain ⟨r_1, h_r_1, hm⟩ := ob hm
 refine Op_call [] 20 _ yz_go41 (by kernel_rfl) (c_dice_weighed (F := N0) (O := N0)  (Cx.refl _) _ h_r_1) ?_
 rintro e_ w_1 ⟨A9, _, c9, rfl, rfl, k_2⟩
 have k_3 := k_1.call k_2
 refine ⟨.tup [sl A9 r_1.length c9, .v (.float .f64 0), I 251], rfl, ?_⟩
 refine WLs 7 [] (.n 6 (sl A9 r_1.length c9) (.n 7 (.v (.float .f64 0)) (.n 8 (I 251) (.ss .a)))) qe (by kernel_rfl) ?_
 refine WL_nil <| At_go <| W_seq <| W_seq <| W_q [] (.n 25 (.b true) .a) qe (by kernel_rfl) ?_
 refine At_go <| W_cond true (by kernel_rfl) (fun _ => ?_) (fun h => by cases h)
 refine W_seq <| W_q [] (.n 4 (I 0) (.n 5 (I 251) .z)) qe (by kernel_rfl) ?_
 refine At_go <| W_ret (At_tr ?_)
 obtain rfl := Option.some.inj hm
 refine At_rt [I 0, I 251] qe (by kernel_rfl) ?_
 have k_4 := k_3.sel (.kkkk (.kk (.k .z)))
 exact ⟨A0, r_.2.2.2.2.2.1.length, c0, A5, r_.2.2.2.2.2.2.1.length, c5, A6, r_.2.2.2.2.2.2.2.1.length, c6, A7, r_.2.2.2.2.2.2.2.2.1.length, c7, A8, r_.2.2.2.2.2.2.2.2.2.2.2.2.length, c8, k_4.len 1 rfl, k_4.len 2 rfl, k_4.len 3 rfl, k_4.len 4 rfl, k_4.len 6 rfl, rfl, k_4⟩

-- (*quern/dice.Dice).none
theorem c_dice_Dice_none_s2 {F O : Nat → Prop} {w : World} (d_seed : List UInt8) (d_s_s_kind : Int) (d_s_s_full : Int) (d_s_s_code : UInt32) (d_s_s_total : UInt64) (d_s_s_known : Bool) (d_s_key : List UInt8) (d_s_salt : List UInt8) (d_s_personal : List UInt8) (d_s_n_kind : Int) (d_s_n_digest : Int) (d_s_n_block : List UInt8) (d_s_n_key : List UInt8) (d_s_n_last : Bool) (d_s_n_written : UInt64) (d_s_n_e_h : Vec UInt64 8) (d_s_n_e_count_Lo : UInt64) (d_s_n_e_count_Hi : UInt64) (d_s_n_e_held : List UInt8) (d_s_n_e_block : Int) (d_s_root : List UInt8) (d_s_at : UInt64) (d_s_now : Vec UInt8 64) (d_s_have : Int) (g_d : Nat) (A_d_seed : Option Addr) (n_d_seed : Nat) (c_d_seed : Nat) (g_d_s : Nat) (A_d_s_key : Option Addr) (n_d_s_key : Nat) (c_d_s_key : Nat) (A_d_s_salt : Option Addr) (n_d_s_salt : Nat) (c_d_s_salt : Nat) (A_d_s_personal : Option Addr) (n_d_s_personal : Nat) (c_d_s_personal : Nat) (g_d_s_n : Nat) (A_d_s_n_block : Option Addr) (n_d_s_n_block : Nat) (c_d_s_n_block : Nat) (A_d_s_n_key : Option Addr) (n_d_s_n_key : Nat) (c_d_s_n_key : Nat) (g_d_s_n_e : Nat) (A_d_s_n_e_held : Option Addr) (n_d_s_n_e_held : Nat) (c_d_s_n_e_held : Nat) (A_d_s_root : Option Addr) (n_d_s_root : Nat) (c_d_s_root : Nat) (k : Cx F O w w [Bx 29 g_d [sl A_d_seed n_d_seed c_d_seed, pt g_d_s 0], Ow e8 A_d_seed n_d_seed c_d_seed d_seed, Bx 132 g_d_s [I d_s_s_kind, I d_s_s_full, .u32 d_s_s_code, .u64 d_s_s_total, .b d_s_s_known, sl A_d_s_key n_d_s_key c_d_s_key, sl A_d_s_salt n_d_s_salt c_d_s_salt, sl A_d_s_personal n_d_s_personal c_d_s_personal, pt g_d_s_n 0, sl A_d_s_root n_d_s_root c_d_s_root, .u64 d_s_at, .ar e8 d_s_now, I d_s_have, .v (.func (.func 104) ⟨SV.vals [pt g_d_s 0]⟩ ⟨SV.vals []⟩)], Ow e8 A_d_s_key n_d_s_key c_d_s_key d_s_key, Ow e8 A_d_s_salt n_d_s_salt c_d_s_salt d_s_salt, Ow e8 A_d_s_personal n_d_s_personal c_d_s_personal d_s_personal, Bx 163 g_d_s_n [I d_s_n_kind, I d_s_n_digest, sl A_d_s_n_block n_d_s_n_block c_d_s_n_block, sl A_d_s_n_key n_d_s_n_key c_d_s_n_key, .b d_s_n_last, .u64 d_s_n_written, .v (.iface 206 (SV.val (pt g_d_s_n_e 0)))], Ow e8 A_d_s_n_block n_d_s_n_block c_d_s_n_block d_s_n_block, Ow e8 A_d_s_n_key n_d_s_n_key c_d_s_n_key d_s_n_key, Bx 212 g_d_s_n_e [.ar e64 d_s_n_e_h, .u64 d_s_n_e_count_Lo, .u64 d_s_n_e_count_Hi, sl A_d_s_n_e_held n_d_s_n_e_held c_d_s_n_e_held, I d_s_n_e_block, .v (.func (.func 140) ⟨SV.vals []⟩ ⟨SV.vals []⟩), .v (.func (.func 141) ⟨SV.vals []⟩ ⟨SV.vals []⟩)], Ow e8 A_d_s_n_e_held n_d_s_n_e_held c_d_s_n_e_held d_s_n_e_held, Ow e8 A_d_s_root n_d_s_root c_d_s_root d_s_root]) (r : (Vec UInt64 8 × UInt64 × UInt64 × List UInt8 × Int × Int × Int × List UInt8 × List UInt8 × Bool × UInt64 × Int × Int × UInt32 × UInt64 × Bool × List UInt8 × List UInt8 × List UInt8 × List UInt8 × UInt64 × Vec UInt8 64 × Int × List UInt8)) (hm : m_dice_Dice_none_s2 d_seed d_s_s_kind d_s_s_full d_s_s_code d_s_s_total d_s_s_known d_s_key d_s_salt d_s_personal d_s_n_kind d_s_n_digest d_s_n_block d_s_n_key d_s_n_last d_s_n_written d_s_n_e_h d_s_n_e_count_Lo d_s_n_e_count_Hi d_s_n_e_held d_s_n_e_block d_s_root d_s_at d_s_now d_s_have = some r) :
    Calls Tryz.prog 34 (vals [pt g_d 0]) w (fun e w' => ∃ A n c A1 n1 c1 A2 n2 c2 A3 n3 c3 A4 n4 c4 A5 n5 c5 A6 n6 c6 A7 n7 c7, r.2.2.2.1.length = n ∧ r.2.2.2.2.2.2.2.1.length = n1 ∧ r.2.2.2.2.2.2.2.2.1.length = n2 ∧ r.2.2.2.2.2.2.2.2.2.2.2.2.2.2.2.2.1.length = n3 ∧ r.2.2.2.2.2.2.2.2.2.2.2.2.2.2.2.2.2.1.length = n4 ∧ r.2.2.2.2.2.2.2.2.2.2.2.2.2.2.2.2.2.2.1.length = n5 ∧ r.2.2.2.2.2.2.2.2.2.2.2.2.2.2.2.2.2.2.2.1.length = n6 ∧ r.2.2.2.2.2.2.2.2.2.2.2.2.2.2.2.2.2.2.2.2.2.2.2.length = n7 ∧ e = .returned (SV.val (.b false)) ∧ Cx F O w w' [Bx 212 g_d_s_n_e [.ar e64 r.1, .u64 r.2.1, .u64 r.2.2.1, sl A n c, I r.2.2.2.2.1, .v (.func (.func 140) ⟨SV.vals []⟩ ⟨SV.vals []⟩), .v (.func (.func 141) ⟨SV.vals []⟩ ⟨SV.vals []⟩)], Ow e8 A n c r.2.2.2.1, Bx 163 g_d_s_n [I r.2.2.2.2.2.1, I r.2.2.2.2.2.2.1, sl A1 n1 c1, sl A2 n2 c2, .b r.2.2.2.2.2.2.2.2.2.1, .u64 r.2.2.2.2.2.2.2.2.2.2.1, .v (.iface 206 (SV.val (pt g_d_s_n_e 0)))], Ow e8 A1 n1 c1 r.2.2.2.2.2.2.2.1, Ow e8 A2 n2 c2 r.2.2.2.2.2.2.2.2.1, Bx 132 g_d_s [I r.2.2.2.2.2.2.2.2.2.2.2.1, I r.2.2.2.2.2.2.2.2.2.2.2.2.1, .u32 r.2.2.2.2.2.2.2.2.2.2.2.2.2.1, .u64 r.2.2.2.2.2.2.2.2.2.2.2.2.2.2.1, .b r.2.2.2.2.2.2.2.2.2.2.2.2.2.2.2.1, sl A3 n3 c3, sl A4 n4 c4, sl A5 n5 c5, pt g_d_s_n 0, sl A6 n6 c6, .u64 r.2.2.2.2.2.2.2.2.2.2.2.2.2.2.2.2.2.2.2.2.1, .ar e8 r.2.2.2.2.2.2.2.2.2.2.2.2.2.2.2.2.2.2.2.2.2.1, I r.2.2.2.2.2.2.2.2.2.2.2.2.2.2.2.2.2.2.2.2.2.2.1, .v (.func (.func 104) ⟨SV.vals [pt g_d_s 0]⟩ ⟨SV.vals []⟩)], Ow e8 A3 n3 c3 r.2.2.2.2.2.2.2.2.2.2.2.2.2.2.2.2.1, Ow e8 A4 n4 c4 r.2.2.2.2.2.2.2.2.2.2.2.2.2.2.2.2.2.1, Ow e8 A5 n5 c5 r.2.2.2.2.2.2.2.2.2.2.2.2.2.2.2.2.2.2.1, Ow e8 A6 n6 c6 r.2.2.2.2.2.2.2.2.2.2.2.2.2.2.2.2.2.2.2.1, Bx 29 g_d [sl A7 n7 c7, pt g_d_s 0], Ow e8 A7 n7 c7 r.2.2.2.2.2.2.2.2.2.2.2.2.2.2.2.2.2.2.2.2.2.2.2]) := by
 unfold m_dice_Dice_none_s2 at hm
 obtain rfl := k.len 1 rfl
 obtain rfl := k.len 3 rfl
 obtain rfl := k.len 4 rfl
 obtain rfl := k.len 5 rfl
 obtain rfl := k.len 7 rfl
 obtain rfl := k.len 8 rfl
 obtain rfl := k.len 10 rfl
 obtain rfl := k.len 11 rfl
 refine calls [pt g_d 0] Tryz.func34 rfl (of_decide_eq_true (by kernel_rfl)) ?_
 refine W_seq <| W_q [] .a qe (by kernel_rfl) ?_
 refine At_go <| W_seq <| W_q [5] (.n 2 (.b false) .z) (qs g_d 0 <| qs g_d 0 <| qB k 0 rfl 1 (pt g_d_s 0) (by kernel_rfl) <| qe) (by kernel_rfl) ?_
 refine At_go <| W_ret ?_
 obtain rfl := Option.some.inj hm
 refine At_rt [.b false] qe (by kernel_rfl) ?_
 have k_ := (((((((((((k.pk (.t .h)).pk (.t .h)).pk (.t (.t (.t (.t (.t (.t (.t (.t (.t (.t (.t .h)))))))))))).pk (.t (.t (.t (.t (.t (.t .h))))))).pk (.t (.t (.t (.t (.t (.t .h))))))).pk (.t (.t (.t (.t (.t (.t .h))))))).pk (.t (.t (.t (.t (.t (.t .h))))))).pk (.t (.t (.t (.t (.t (.t (.t (.t (.t .h)))))))))).pk (.t (.t (.t (.t (.t (.t (.t (.t (.t .h)))))))))).pk (.t (.t (.t (.t (.t (.t (.t (.t (.t .h)))))))))).pk (.t (.t (.t (.t (.t (.t (.t (.t (.t (.t (.t .h)))))))))))).pk (.t (.t (.t (.t (.t (.t (.t (.t (.t (.t (.t .h)))))))))))
 exact ⟨A_d_s_n_e_held, d_s_n_e_held.length, c_d_s_n_e_held, A_d_s_n_block, d_s_n_block.length, c_d_s_n_block, A_d_s_n_key, d_s_n_key.length, c_d_s_n_key, A_d_s_key, d_s_key.length, c_d_s_key, A_d_s_salt, d_s_salt.length, c_d_s_salt, A_d_s_personal, d_s_personal.length, c_d_s_personal, A_d_s_root, d_s_root.length, c_d_s_root, A_d_seed, d_seed.length, c_d_seed, k_.len 1 rfl, k_.len 3 rfl, k_.len 4 rfl, k_.len 6 rfl, k_.len 7 rfl, k_.len 8 rfl, k_.len 9 rfl, k_.len 11 rfl, rfl, k_⟩

-- (*quern/dice.Dice).Pick
theorem c_dice_Dice_Pick_s2 {F O : Nat → Prop} {w : World} (d_seed : List UInt8) (d_s_s_kind : Int) (d_s_s_full : Int) (d_s_s_code : UInt32) (d_s_s_total : UInt64) (d_s_s_known : Bool) (d_s_key : List UInt8) (d_s_salt : List UInt8) (d_s_personal : List UInt8) (d_s_n_kind : Int) (d_s_n_digest : Int) (d_s_n_block : List UInt8) (d_s_n_key : List UInt8) (d_s_n_last : Bool) (d_s_n_written : UInt64) (d_s_n_e_h : Vec UInt64 8) (d_s_n_e_count_Lo : UInt64) (d_s_n_e_count_Hi : UInt64) (d_s_n_e_held : List UInt8) (d_s_n_e_block : Int) (d_s_root : List UInt8) (d_s_at : UInt64) (d_s_now : Vec UInt8 64) (d_s_have : Int) (g_d : Nat) (A_d_seed : Option Addr) (n_d_seed : Nat) (c_d_seed : Nat) (g_d_s : Nat) (A_d_s_key : Option Addr) (n_d_s_key : Nat) (c_d_s_key : Nat) (A_d_s_salt : Option Addr) (n_d_s_salt : Nat) (c_d_s_salt : Nat) (A_d_s_personal : Option Addr) (n_d_s_personal : Nat) (c_d_s_personal : Nat) (g_d_s_n : Nat) (A_d_s_n_block : Option Addr) (n_d_s_n_block : Nat) (c_d_s_n_block : Nat) (A_d_s_n_key : Option Addr) (n_d_s_n_key : Nat) (c_d_s_n_key : Nat) (g_d_s_n_e : Nat) (A_d_s_n_e_held : Option Addr) (n_d_s_n_e_held : Nat) (c_d_s_n_e_held : Nat) (A_d_s_root : Option Addr) (n_d_s_root : Nat) (c_d_s_root : Nat) (k : Cx F O w w [Bx 29 g_d [sl A_d_seed n_d_seed c_d_seed, pt g_d_s 0], Ow e8 A_d_seed n_d_seed c_d_seed d_seed, Bx 132 g_d_s [I d_s_s_kind, I d_s_s_full, .u32 d_s_s_code, .u64 d_s_s_total, .b d_s_s_known, sl A_d_s_key n_d_s_key c_d_s_key, sl A_d_s_salt n_d_s_salt c_d_s_salt, sl A_d_s_personal n_d_s_personal c_d_s_personal, pt g_d_s_n 0, sl A_d_s_root n_d_s_root c_d_s_root, .u64 d_s_at, .ar e8 d_s_now, I d_s_have, .v (.func (.func 104) ⟨SV.vals [pt g_d_s 0]⟩ ⟨SV.vals []⟩)], Ow e8 A_d_s_key n_d_s_key c_d_s_key d_s_key, Ow e8 A_d_s_salt n_d_s_salt c_d_s_salt d_s_salt, Ow e8 A_d_s_personal n_d_s_personal c_d_s_personal d_s_personal, Bx 163 g_d_s_n [I d_s_n_kind, I d_s_n_digest, sl A_d_s_n_block n_d_s_n_block c_d_s_n_block, sl A_d_s_n_key n_d_s_n_key c_d_s_n_key, .b d_s_n_last, .u64 d_s_n_written, .v (.iface 206 (SV.val (pt g_d_s_n_e 0)))], Ow e8 A_d_s_n_block n_d_s_n_block c_d_s_n_block d_s_n_block, Ow e8 A_d_s_n_key n_d_s_n_key c_d_s_n_key d_s_n_key, Bx 212 g_d_s_n_e [.ar e64 d_s_n_e_h, .u64 d_s_n_e_count_Lo, .u64 d_s_n_e_count_Hi, sl A_d_s_n_e_held n_d_s_n_e_held c_d_s_n_e_held, I d_s_n_e_block, .v (.func (.func 140) ⟨SV.vals []⟩ ⟨SV.vals []⟩), .v (.func (.func 141) ⟨SV.vals []⟩ ⟨SV.vals []⟩)], Ow e8 A_d_s_n_e_held n_d_s_n_e_held c_d_s_n_e_held d_s_n_e_held, Ow e8 A_d_s_root n_d_s_root c_d_s_root d_s_root]) (r : (Vec UInt64 8 × UInt64 × UInt64 × List UInt8 × Int × Int × Int × List UInt8 × List UInt8 × Bool × UInt64 × Int × Int × UInt32 × UInt64 × Bool × List UInt8 × List UInt8 × List UInt8 × List UInt8 × UInt64 × Vec UInt8 64 × Int × List UInt8)) (hm : m_dice_Dice_Pick_s2 d_seed d_s_s_kind d_s_s_full d_s_s_code d_s_s_total d_s_s_known d_s_key d_s_salt d_s_personal d_s_n_kind d_s_n_digest d_s_n_block d_s_n_key d_s_n_last d_s_n_written d_s_n_e_h d_s_n_e_count_Lo d_s_n_e_count_Hi d_s_n_e_held d_s_n_e_block d_s_root d_s_at d_s_now d_s_have = some r) :
    Calls Tryz.prog 12 (vals [pt g_d 0, sl none 0 0]) w (fun e w' => ∃ A n c A1 n1 c1 A2 n2 c2 A3 n3 c3 A4 n4 c4 A5 n5 c5 A6 n6 c6 A7 n7 c7, r.2.2.2.1.length = n ∧ r.2.2.2.2.2.2.2.1.length = n1 ∧ r.2.2.2.2.2.2.2.2.1.length = n2 ∧ r.2.2.2.2.2.2.2.2.2.2.2.2.2.2.2.2.1.length = n3 ∧ r.2.2.2.2.2.2.2.2.2.2.2.2.2.2.2.2.2.1.length = n4 ∧ r.2.2.2.2.2.2.2.2.2.2.2.2.2.2.2.2.2.2.1.length = n5 ∧ r.2.2.2.2.2.2.2.2.2.2.2.2.2.2.2.2.2.2.2.1.length = n6 ∧ r.2.2.2.2.2.2.2.2.2.2.2.2.2.2.2.2.2.2.2.2.2.2.2.length = n7 ∧ e = .returned (SV.val (.tup [I 0, I 251])) ∧ Cx F O w w' [Bx 212 g_d_s_n_e [.ar e64 r.1, .u64 r.2.1, .u64 r.2.2.1, sl A n c, I r.2.2.2.2.1, .v (.func (.func 140) ⟨SV.vals []⟩ ⟨SV.vals []⟩), .v (.func (.func 141) ⟨SV.vals []⟩ ⟨SV.vals []⟩)], Ow e8 A n c r.2.2.2.1, Bx 163 g_d_s_n [I r.2.2.2.2.2.1, I r.2.2.2.2.2.2.1, sl A1 n1 c1, sl A2 n2 c2, .b r.2.2.2.2.2.2.2.2.2.1, .u64 r.2.2.2.2.2.2.2.2.2.2.1, .v (.iface 206 (SV.val (pt g_d_s_n_e 0)))], Ow e8 A1 n1 c1 r.2.2.2.2.2.2.2.1, Ow e8 A2 n2 c2 r.2.2.2.2.2.2.2.2.1, Bx 132 g_d_s [I r.2.2.2.2.2.2.2.2.2.2.2.1, I r.2.2.2.2.2.2.2.2.2.2.2.2.1, .u32 r.2.2.2.2.2.2.2.2.2.2.2.2.2.1, .u64 r.2.2.2.2.2.2.2.2.2.2.2.2.2.2.1, .b r.2.2.2.2.2.2.2.2.2.2.2.2.2.2.2.1, sl A3 n3 c3, sl A4 n4 c4, sl A5 n5 c5, pt g_d_s_n 0, sl A6 n6 c6, .u64 r.2.2.2.2.2.2.2.2.2.2.2.2.2.2.2.2.2.2.2.2.1, .ar e8 r.2.2.2.2.2.2.2.2.2.2.2.2.2.2.2.2.2.2.2.2.2.1, I r.2.2.2.2.2.2.2.2.2.2.2.2.2.2.2.2.2.2.2.2.2.2.1, .v (.func (.func 104) ⟨SV.vals [pt g_d_s 0]⟩ ⟨SV.vals []⟩)], Ow e8 A3 n3 c3 r.2.2.2.2.2.2.2.2.2.2.2.2.2.2.2.2.1, Ow e8 A4 n4 c4 r.2.2.2.2.2.2.2.2.2.2.2.2.2.2.2.2.2.1, Ow e8 A5 n5 c5 r.2.2.2.2.2.2.2.2.2.2.2.2.2.2.2.2.2.2.1, Ow e8 A6 n6 c6 r.2.2.2.2.2.2.2.2.2.2.2.2.2.2.2.2.2.2.2.1, Bx 29 g_d [sl A7 n7 c7, pt g_d_s 0], Ow e8 A7 n7 c7 r.2.2.2.2.2.2.2.2.2.2.2.2.2.2.2.2.2.2.2.2.2.2.2]) := by
 unfold m_dice_Dice_Pick_s2 at hm
 obtain rfl := k.len 1 rfl
 obtain rfl := k.len 3 rfl
 obtain rfl := k.len 4 rfl
 obtain rfl := k.len 5 rfl
 obtain rfl := k.len 7 rfl
 obtain rfl := k.len 8 rfl
 obtain rfl := k.len 10 rfl
 obtain rfl := k.len 11 rfl
 refine calls [pt g_d 0, sl none 0 0] Tryz.func12 rfl (of_decide_eq_true (by kernel_rfl)) ?_
 refine W_seq <| W_q [] .a qe (by kernel_rfl) ?_
 refine At_go <| W_seq <| W_seq <| W_reg <| WLs 1 [] (.n 16 (pt g_d 0) .a) qe (by kernel_rfl) ?_
 refine WL_op ?_
 obtain ⟨r_, h_r_, hm⟩ := ob hm
 obtain ⟨F1, O1, kin, hO, hre, hF, hb⟩ := k.go (.i (.i (.i (.i (.i (.i (.i (.i (.i (.i (.i (.i .e))))))))))))
 refine Op_call [] 17 _ yz_go34 (by kernel_rfl) (c_dice_Dice_none_s2 (F := F1) (O := O1) _ _ _ _ _ _ _ _ _ _ _ _ _ _ _ _ _ _ _ _ _ _ _ _ _ _ _ _ _ _ _ _ _ _ _ _ _ _ _ _ _ _ _ _ _ _ _ _ _ _ _ _ kin _ h_r_) ?_
 rintro e_ w_ ⟨A0, _, c0, A8, _, c8, A9, _, c9, A10, _, c10, A11, _, c11, A12, _, c12, A13, _, c13, A14, _, c14, rfl, rfl, rfl, rfl, rfl, rfl, rfl, rfl, rfl, k_⟩
 have k_1 := hb w_ _ _ k_ (.c (.c (.c (.c (.c (.c (.c (.c (.c (.c (.c (.c .n))))))))))))
 refine ⟨.b false, rfl, ?_⟩
 refine WL_nil <| At_go <| W_cond false (by kernel_rfl) (fun h => by cases h) (fun _ => ?_)
 refine W_skip <| At_go <| W_seq <| W_reg <| WLs 1 [] (.n 19 (sl none 0 0) (.ss .a)) qe (by kernel_rfl) ?_
 refine WL_op ?_
 obtain ⟨r_1, h_r_1, hm⟩ := ob hm
 refine Op_call [] 20 _ yz_go41 (by kernel_rfl) (c_dice_weighed (F := N0) (O := N0)  (Cx.refl _) _ h_r_1) ?_
 rintro e_ w_1 ⟨A15, _, c15, rfl, rfl, k_2⟩
 have k_3 := k_1.call k_2
 refine ⟨.tup [sl A15 r_1.length c15, .v (.float .f64 0), I 251], rfl, ?_⟩
 refine WLs 7 [] (.n 6 (sl A15 r_1.length c15) (.n 7 (.v (.float .f64 0)) (.n 8 (I 251) (.ss .a)))) qe (by kernel_rfl) ?_
 refine WL_nil <| At_go <| W_seq <| W_seq <| W_q [] (.n 25 (.b true) .a) qe (by kernel_rfl) ?_
 refine At_go <| W_cond true (by kernel_rfl) (fun _ => ?_) (fun h => by cases h)
 refine W_seq <| W_q [] (.n 4 (I 0) (.n 5 (I 251) .z)) qe (by kernel_rfl) ?_
 refine At_go <| W_ret (At_tr ?_)
 obtain rfl := Option.some.inj hm
 refine At_rt [I 0, I 251] qe (by kernel_rfl) ?_
 have k_4 := k_3.sel (.kkkk (.kkkk (.kkkk .z)))
 exact ⟨A0, r_.2.2.2.1.length, c0, A8, r_.2.2.2.2.2.2.2.1.length, c8, A9, r_.2.2.2.2.2.2.2.2.1.length, c9, A10, r_.2.2.2.2.2.2.2.2.2.2.2.2.2.2.2.2.1.length, c10, A11, r_.2.2.2.2.2.2.2.2.2.2.2.2.2.2.2.2.2.1.length, c11, A12, r_.2.2.2.2.2.2.2.2.2.2.2.2.2.2.2.2.2.2.1.length, c12, A13, r_.2.2.2.2.2.2.2.2.2.2.2.2.2.2.2.2.2.2.2.1.length, c13, A14, r_.2.2.2.2.2.2.2.2.2.2.2.2.2.2.2.2.2.2.2.2.2.2.2.length, c14, k_4.len 1 rfl, k_4.len 3 rfl, k_4.len 4 rfl, k_4.len 6 rfl, k_4.len 7 rfl, k_4.len 8 rfl, k_4.len 9 rfl, k_4.len 11 rfl, rfl, k_4⟩

-- (*quern/dice.Dice).none
theorem c_dice_Dice_none_s3 {F O : Nat → Prop} {w : World} (d_seed : List UInt8) (d_s_s_kind : Int) (d_s_s_full : Int) (d_s_s_code : UInt32) (d_s_s_total : UInt64) (d_s_s_known : Bool) (d_s_key : List UInt8) (d_s_salt : List UInt8) (d_s_personal : List UInt8) (d_s_n_kind : Int) (d_s_n_digest : Int) (d_s_n_block : List UInt8) (d_s_n_key : List UInt8) (d_s_n_last : Bool) (d_s_n_written : UInt64) (d_s_n_e_h : Vec UInt32 8) (d_s_n_e_count_Lo : UInt64) (d_s_n_e_count_Hi : UInt64) (d_s_n_e_held : List UInt8) (d_s_n_e_block : Int) (d_s_root : List UInt8) (d_s_at : UInt64) (d_s_now : Vec UInt8 64) (d_s_have : Int) (g_d : Nat) (A_d_seed : Option Addr) (n_d_seed : Nat) (c_d_seed : Nat) (g_d_s : Nat) (A_d_s_key : Option Addr) (n_d_s_key : Nat) (c_d_s_key : Nat) (A_d_s_salt : Option Addr) (n_d_s_salt : Nat) (c_d_s_salt : Nat) (A_d_s_personal : Option Addr) (n_d_s_personal : Nat) (c_d_s_personal : Nat) (g_d_s_n : Nat) (A_d_s_n_block : Option Addr) (n_d_s_n_block : Nat) (c_d_s_n_block : Nat) (A_d_s_n_key : Option Addr) (n_d_s_n_key : Nat) (c_d_s_n_key : Nat) (g_d_s_n_e : Nat) (A_d_s_n_e_held : Option Addr) (n_d_s_n_e_held : Nat) (c_d_s_n_e_held : Nat) (A_d_s_root : Option Addr) (n_d_s_root : Nat) (c_d_s_root : Nat) (k : Cx F O w w [Bx 29 g_d [sl A_d_seed n_d_seed c_d_seed, pt g_d_s 0], Ow e8 A_d_seed n_d_seed c_d_seed d_seed, Bx 132 g_d_s [I d_s_s_kind, I d_s_s_full, .u32 d_s_s_code, .u64 d_s_s_total, .b d_s_s_known, sl A_d_s_key n_d_s_key c_d_s_key, sl A_d_s_salt n_d_s_salt c_d_s_salt, sl A_d_s_personal n_d_s_personal c_d_s_personal, pt g_d_s_n 0, sl A_d_s_root n_d_s_root c_d_s_root, .u64 d_s_at, .ar e8 d_s_now, I d_s_have, .v (.func (.func 104) ⟨SV.vals [pt g_d_s 0]⟩ ⟨SV.vals []⟩)], Ow e8 A_d_s_key n_d_s_key c_d_s_key d_s_key, Ow e8 A_d_s_salt n_d_s_salt c_d_s_salt d_s_salt, Ow e8 A_d_s_personal n_d_s_personal c_d_s_personal d_s_personal, Bx 163 g_d_s_n [I d_s_n_kind, I d_s_n_digest, sl A_d_s_n_block n_d_s_n_block c_d_s_n_block, sl A_d_s_n_key n_d_s_n_key c_d_s_n_key, .b d_s_n_last, .u64 d_s_n_written, .v (.iface 216 (SV.val (pt g_d_s_n_e 0)))], Ow e8 A_d_s_n_block n_d_s_n_block c_d_s_n_block d_s_n_block, Ow e8 A_d_s_n_key n_d_s_n_key c_d_s_n_key d_s_n_key, Bx 220 g_d_s_n_e [.ar e32 d_s_n_e_h, .u64 d_s_n_e_count_Lo, .u64 d_s_n_e_count_Hi, sl A_d_s_n_e_held n_d_s_n_e_held c_d_s_n_e_held, I d_s_n_e_block, .v (.func (.func 143) ⟨SV.vals []⟩ ⟨SV.vals []⟩), .v (.func (.func 144) ⟨SV.vals []⟩ ⟨SV.vals []⟩)], Ow e8 A_d_s_n_e_held n_d_s_n_e_held c_d_s_n_e_held d_s_n_e_held, Ow e8 A_d_s_root n_d_s_root c_d_s_root d_s_root]) (r : (Vec UInt32 8 × UInt64 × UInt64 × List UInt8 × Int × Int × Int × List UInt8 × List UInt8 × Bool × UInt64 × Int × Int × UInt32 × UInt64 × Bool × List UInt8 × List UInt8 × List UInt8 × List UInt8 × UInt64 × Vec UInt8 64 × Int × List UInt8)) (hm : m_dice_Dice_none_s3 d_seed d_s_s_kind d_s_s_full d_s_s_code d_s_s_total d_s_s_known d_s_key d_s_salt d_s_personal d_s_n_kind d_s_n_digest d_s_n_block d_s_n_key d_s_n_last d_s_n_written d_s_n_e_h d_s_n_e_count_Lo d_s_n_e_count_Hi d_s_n_e_held d_s_n_e_block d_s_root d_s_at d_s_now d_s_have = some r) :
    Calls Tryz.prog 34 (vals [pt g_d 0]) w (fun e w' => ∃ A n c A1 n1 c1 A2 n2 c2 A3 n3 c3 A4 n4 c4 A5 n5 c5 A6 n6 c6 A7 n7 c7, r.2.2.2.1.length = n ∧ r.2.2.2.2.2.2.2.1.length = n1 ∧ r.2.2.2.2.2.2.2.2.1.length = n2 ∧ r.2.2.2.2.2.2.2.2.2.2.2.2.2.2.2.2.1.length = n3 ∧ r.2.2.2.2.2.2.2.2.2.2.2.2.2.2.2.2.2.1.length = n4 ∧ r.2.2.2.2.2.2.2.2.2.2.2.2.2.2.2.2.2.2.1.length = n5 ∧ r.2.2.2.2.2.2.2.2.2.2.2.2.2.2.2.2.2.2.2.1.length = n6 ∧ r.2.2.2.2.2.2.2.2.2.2.2.2.2.2.2.2.2.2.2.2.2.2.2.length = n7 ∧ e = .returned (SV.val (.b false)) ∧ Cx F O w w' [Bx 220 g_d_s_n_e [.ar e32 r.1, .u64 r.2.1, .u64 r.2.2.1, sl A n c, I r.2.2.2.2.1, .v (.func (.func 143) ⟨SV.vals []⟩ ⟨SV.vals []⟩), .v (.func (.func 144) ⟨SV.vals []⟩ ⟨SV.vals []⟩)], Ow e8 A n c r.2.2.2.1, Bx 163 g_d_s_n [I r.2.2.2.2.2.1, I r.2.2.2.2.2.2.1, sl A1 n1 c1, sl A2 n2 c2, .b r.2.2.2.2.2.2.2.2.2.1, .u64 r.2.2.2.2.2.2.2.2.2.2.1, .v (.iface 216 (SV.val (pt g_d_s_n_e 0)))], Ow e8 A1 n1 c1 r.2.2.2.2.2.2.2.1, Ow e8 A2 n2 c2 r.2.2.2.2.2.2.2.2.1, Bx 132 g_d_s [I r.2.2.2.2.2.2.2.2.2.2.2.1, I r.2.2.2.2.2.2.2.2.2.2.2.2.1, .u32 r.2.2.2.2.2.2.2.2.2.2.2.2.2.1, .u64 r.2.2.2.2.2.2.2.2.2.2.2.2.2.2.1, .b r.2.2.2.2.2.2.2.2.2.2.2.2.2.2.2.1, sl A3 n3 c3, sl A4 n4 c4, sl A5 n5 c5, pt g_d_s_n 0, sl A6 n6 c6, .u64 r.2.2.2.2.2.2.2.2.2.2.2.2.2.2.2.2.2.2.2.2.1, .ar e8 r.2.2.2.2.2.2.2.2.2.2.2.2.2.2.2.2.2.2.2.2.2.1, I r.2.2.2.2.2.2.2.2.2.2.2.2.2.2.2.2.2.2.2.2.2.2.1, .v (.func (.func 104) ⟨SV.vals [pt g_d_s 0]⟩ ⟨SV.vals []⟩)], Ow e8 A3 n3 c3 r.2.2.2.2.2.2.2.2.2.2.2.2.2.2.2.2.1, Ow e8 A4 n4 c4 r.2.2.2.2.2.2.2.2.2.2.2.2.2.2.2.2.2.1, Ow e8 A5 n5 c5 r.2.2.2.2.2.2.2.2.2.2.2.2.2.2.2.2.2.2.1, Ow e8 A6 n6 c6 r.2.2.2.2.2.2.2.2.2.2.2.2.2.2.2.2.2.2.2.1, Bx 29 g_d [sl A7 n7 c7, pt g_d_s 0], Ow e8 A7 n7 c7 r.2.2.2.2.2.2.2.2.2.2.2.2.2.2.2.2.2.2.2.2.2.2.2]) := by
 unfold m_dice_Dice_none_s3 at hm
 obtain rfl := k.len 1 rfl
 obtain rfl := k.len 3 rfl
 obtain rfl := k.len 4 rfl
 obtain rfl := k.len 5 rfl
 obtain rfl := k.len 7 rfl
 obtain rfl := k.len 8 rfl
 obtain rfl := k.len 10 rfl
 obtain rfl := k.len 11 rfl
 refine calls [pt g_d 0] Tryz.func34 rfl (of_decide_eq_true (by kernel_rfl)) ?_
 refine W_seq <| W_q [] .a qe (by kernel_rfl) ?_
 refine At_go <| W_seq <| W_q [5] (.n 2 (.b false) .z) (qs g_d 0 <| qs g_d 0 <| qB k 0 rfl 1 (pt g_d_s 0) (by kernel_rfl) <| qe) (by kernel_rfl) ?_
 refine At_go <| W_ret ?_
 obtain rfl := Option.some.inj hm
 refine At_rt [.b false] qe (by kernel_rfl) ?_
 have k_ := (((((((((((k.pk (.t .h)).pk (.t .h)).pk (.t (.t (.t (.t (.t (.t (.t (.t (.t (.t (.t .h)))))))))))).pk (.t (.t (.t (.t (.t (.t .h))))))).pk (.t (.t (.t (.t (.t (.t .h))))))).pk (.t (.t (.t (.t (.t (.t .h))))))).pk (.t (.t (.t (.t (.t (.t .h))))))).pk (.t (.t (.t (.t (.t (.t (.t (.t (.t .h)))))))))).pk (.t (.t (.t (.t (.t (.t (.t (.t (.t .h)))))))))).pk (.t (.t (.t (.t (.t (.t (.t (.t (.t .h)))))))))).pk (.t (.t (.t (.t (.t (.t (.t (.t (.t (.t (.t .h)))))))))))).pk (.t (.t (.t (.t (.t (.t (.t (.t (.t (.t (.t .h)))))))))))
 exact ⟨A_d_s_n_e_held, d_s_n_e_held.length, c_d_s_n_e_held, A_d_s_n_block, d_s_n_block.length, c_d_s_n_block, A_d_s_n_key, d_s_n_key.length, c_d_s_n_key, A_d_s_key, d_s_key.length, c_d_s_key, A_d_s_salt, d_s_salt.length, c_d_s_salt, A_d_s_personal, d_s_personal.length, c_d_s_personal, A_d_s_root, d_s_root.length, c_d_s_root, A_d_seed, d_seed.length, c_d_seed, k_.len 1 rfl, k_.len 3 rfl, k_.len 4 rfl, k_.len 6 rfl, k_.len 7 rfl, k_.len 8 rfl, k_.len 9 rfl, k_.len 11 rfl, rfl, k_⟩

-- (*quern/dice.Dice).Pick
theorem c_dice_Dice_Pick_s3 {F O : Nat → Prop} {w : World} (d_seed : List UInt8) (d_s_s_kind : Int) (d_s_s_full : Int) (d_s_s_code : UInt32) (d_s_s_total : UInt64) (d_s_s_known : Bool) (d_s_key : List UInt8) (d_s_salt : List UInt8) (d_s_personal : List UInt8) (d_s_n_kind : Int) (d_s_n_digest : Int) (d_s_n_block : List UInt8) (d_s_n_key : List UInt8) (d_s_n_last : Bool) (d_s_n_written : UInt64) (d_s_n_e_h : Vec UInt32 8) (d_s_n_e_count_Lo : UInt64) (d_s_n_e_count_Hi : UInt64) (d_s_n_e_held : List UInt8) (d_s_n_e_block : Int) (d_s_root : List UInt8) (d_s_at : UInt64) (d_s_now : Vec UInt8 64) (d_s_have : Int) (g_d : Nat) (A_d_seed : Option Addr) (n_d_seed : Nat) (c_d_seed : Nat) (g_d_s : Nat) (A_d_s_key : Option Addr) (n_d_s_key : Nat) (c_d_s_key : Nat) (A_d_s_salt : Option Addr) (n_d_s_salt : Nat) (c_d_s_salt : Nat) (A_d_s_personal : Option Addr) (n_d_s_personal : Nat) (c_d_s_personal : Nat) (g_d_s_n : Nat) (A_d_s_n_block : Option Addr) (n_d_s_n_block : Nat) (c_d_s_n_block : Nat) (A_d_s_n_key : Option Addr) (n_d_s_n_key : Nat) (c_d_s_n_key : Nat) (g_d_s_n_e : Nat) (A_d_s_n_e_held : Option Addr) (n_d_s_n_e_held : Nat) (c_d_s_n_e_held : Nat) (A_d_s_root : Option Addr) (n_d_s_root : Nat) (c_d_s_root : Nat) (k : Cx F O w w [Bx 29 g_d [sl A_d_seed n_d_seed c_d_seed, pt g_d_s 0], Ow e8 A_d_seed n_d_seed c_d_seed d_seed, Bx 132 g_d_s [I d_s_s_kind, I d_s_s_full, .u32 d_s_s_code, .u64 d_s_s_total, .b d_s_s_known, sl A_d_s_key n_d_s_key c_d_s_key, sl A_d_s_salt n_d_s_salt c_d_s_salt, sl A_d_s_personal n_d_s_personal c_d_s_personal, pt g_d_s_n 0, sl A_d_s_root n_d_s_root c_d_s_root, .u64 d_s_at, .ar e8 d_s_now, I d_s_have, .v (.func (.func 104) ⟨SV.vals [pt g_d_s 0]⟩ ⟨SV.vals []⟩)], Ow e8 A_d_s_key n_d_s_key c_d_s_key d_s_key, Ow e8 A_d_s_salt n_d_s_salt c_d_s_salt d_s_salt, Ow e8 A_d_s_personal n_d_s_personal c_d_s_personal d_s_personal, Bx 163 g_d_s_n [I d_s_n_kind, I d_s_n_digest, sl A_d_s_n_block n_d_s_n_block c_d_s_n_block, sl A_d_s_n_key n_d_s_n_key c_d_s_n_key, .b d_s_n_last, .u64 d_s_n_written, .v (.iface 216 (SV.val (pt g_d_s_n_e 0)))], Ow e8 A_d_s_n_block n_d_s_n_block c_d_s_n_block d_s_n_block, Ow e8 A_d_s_n_key n_d_s_n_key c_d_s_n_key d_s_n_key, Bx 220 g_d_s_n_e [.ar e32 d_s_n_e_h, .u64 d_s_n_e_count_Lo, .u64 d_s_n_e_count_Hi, sl A_d_s_n_e_held n_d_s_n_e_held c_d_s_n_e_held, I d_s_n_e_block, .v (.func (.func 143) ⟨SV.vals []⟩ ⟨SV.vals []⟩), .v (.func (.func 144) ⟨SV.vals []⟩ ⟨SV.vals []⟩)], Ow e8 A_d_s_n_e_held n_d_s_n_e_held c_d_s_n_e_held d_s_n_e_held, Ow e8 A_d_s_root n_d_s_root c_d_s_root d_s_root]) (r : (Vec UInt32 8 × UInt64 × UInt64 × List UInt8 × Int × Int × Int × List UInt8 × List UInt8 × Bool × UInt64 × Int × Int × UInt32 × UInt64 × Bool × List UInt8 × List UInt8 × List UInt8 × List UInt8 × UInt64 × Vec UInt8 64 × Int × List UInt8)) (hm : m_dice_Dice_Pick_s3 d_seed d_s_s_kind d_s_s_full d_s_s_code d_s_s_total d_s_s_known d_s_key d_s_salt d_s_personal d_s_n_kind d_s_n_digest d_s_n_block d_s_n_key d_s_n_last d_s_n_written d_s_n_e_h d_s_n_e_count_Lo d_s_n_e_count_Hi d_s_n_e_held d_s_n_e_block d_s_root d_s_at d_s_now d_s_have = some r) :
    Calls Tryz.prog 12 (vals [pt g_d 0, sl none 0 0]) w (fun e w' => ∃ A n c A1 n1 c1 A2 n2 c2 A3 n3 c3 A4 n4 c4 A5 n5 c5 A6 n6 c6 A7 n7 c7, r.2.2.2.1.length = n ∧ r.2.2.2.2.2.2.2.1.length = n1 ∧ r.2.2.2.2.2.2.2.2.1.length = n2 ∧ r.2.2.2.2.2.2.2.2.2.2.2.2.2.2.2.2.1.length = n3 ∧ r.2.2.2.2.2.2.2.2.2.2.2.2.2.2.2.2.2.1.length = n4 ∧ r.2.2.2.2.2.2.2.2.2.2.2.2.2.2.2.2.2.2.1.length = n5 ∧ r.2.2.2.2.2.2.2.2.2.2.2.2.2.2.2.2.2.2.2.1.length = n6 ∧ r.2.2.2.2.2.2.2.2.2.2.2.2.2.2.2.2.2.2.2.2.2.2.2.length = n7 ∧ e = .returned (SV.val (.tup [I 0, I 251])) ∧ Cx F O w w' [Bx 220 g_d_s_n_e [.ar e32 r.1, .u64 r.2.1, .u64 r.2.2.1, sl A n c, I r.2.2.2.2.1, .v (.func (.func 143) ⟨SV.vals []⟩ ⟨SV.vals []⟩), .v (.func (.func 144) ⟨SV.vals []⟩ ⟨SV.vals []⟩)], Ow e8 A n c r.2.2.2.1, Bx 163 g_d_s_n [I r.2.2.2.2.2.1, I r.2.2.2.2.2.2.1, sl A1 n1 c1, sl A2 n2 c2, .b r.2.2.2.2.2.2.2.2.2.1, .u64 r.2.2.2.2.2.2.2.2.2.2.1, .v (.iface 216 (SV.val (pt g_d_s_n_e 0)))], Ow e8 A1 n1 c1 r.2.2.2.2.2.2.2.1, Ow e8 A2 n2 c2 r.2.2.2.2.2.2.2.2.1, Bx 132 g_d_s [I r.2.2.2.2.2.2.2.2.2.2.2.1, I r.2.2.2.2.2.2.2.2.2.2.2.2.1, .u32 r.2.2.2.2.2.2.2.2.2.2.2.2.2.1, .u64 r.2.2.2.2.2.2.2.2.2.2.2.2.2.2.1, .b r.2.2.2.2.2.2.2.2.2.2.2.2.2.2.2.1, sl A3 n3 c3, sl A4 n4 c4, sl A5 n5 c5, pt g_d_s_n 0, sl A6 n6 c6, .u64 r.2.2.2.2.2.2.2.2.2.2.2.2.2.2.2.2.2.2.2.2.1, .ar e8 r.2.2.2.2.2.2.2.2.2.2.2.2.2.2.2.2.2.2.2.2.2.1, I r.2.2.2.2.2.2.2.2.2.2.2.2.2.2.2.2.2.2.2.2.2.2.1, .v (.func (.func 104) ⟨SV.vals [pt g_d_s 0]⟩ ⟨SV.vals []⟩)], Ow e8 A3 n3 c3 r.2.2.2.2.2.2.2.2.2.2.2.2.2.2.2.2.1, Ow e8 A4 n4 c4 r.2.2.2.2.2.2.2.2.2.2.2.2.2.2.2.2.2.1, Ow e8 A5 n5 c5 r.2.2.2.2.2.2.2.2.2.2.2.2.2.2.2.2.2.2.1, Ow e8 A6 n6 c6 r.2.2.2.2.2.2.2.2.2.2.2.2.2.2.2.2.2.2.2.1, Bx 29 g_d [sl A7 n7 c7, pt g_d_s 0], Ow e8 A7 n7 c7 r.2.2.2.2.2.2.2.2.2.2.2.2.2.2.2.2.2.2.2.2.2.2.2]) := by
 unfold m_dice_Dice_Pick_s3 at hm
 obtain rfl := k.len 1 rfl
 obtain rfl := k.len 3 rfl
 obtain rfl := k.len 4 rfl
 obtain rfl := k.len 5 rfl
 obtain rfl := k.len 7 rfl
 obtain rfl := k.len 8 rfl
 obtain rfl := k.len 10 rfl
 obtain rfl := k.len 11 rfl
 refine calls [pt g_d 0, sl none 0 0] Tryz.func12 rfl (of_decide_eq_true (by kernel_rfl)) ?_
 refine W_seq <| W_q [] .a qe (by kernel_rfl) ?_
 refine At_go <| W_seq <| W_seq <| W_reg <| WLs 1 [] (.n 16 (pt g_d 0) .a) qe (by kernel_rfl) ?_
 refine WL_op ?_
 obtain ⟨r_, h_r_, hm⟩ := ob hm
 obtain ⟨F1, O1, kin, hO, hre, hF, hb⟩ := k.go (.i (.i (.i (.i (.i (.i (.i (.i (.i (.i (.i (.i .e))))))))))))
 refine Op_call [] 17 _ yz_go34 (by kernel_rfl) (c_dice_Dice_none_s3 (F := F1) (O := O1) _ _ _ _ _ _ _ _ _ _ _ _ _ _ _ _ _ _ _ _ _ _ _ _ _ _ _ _ _ _ _ _ _ _ _ _ _ _ _ _ _ _ _ _ _ _ _ _ _ _ _ _ kin _ h_r_) ?_
 rintro e_ w_ ⟨A0, _, c0, A8, _, c8, A9, _, c9, A10, _, c10, A11, _, c11, A12, _, c12, A13, _, c13, A14, _, c14, rfl, rfl, rfl, rfl, rfl, rfl, rfl, rfl, rfl, k_⟩
 have k_1 := hb w_ _ _ k_ (.c (.c (.c (.c (.c (.c (.c (.c (.c (.c (.c (.c .n))))))))))))
 refine ⟨.b false, rfl, ?_⟩
 refine WL_nil <| At_go <| W_cond false (by kernel_rfl) (fun h => by cases h) (fun _ => ?_)
 refine W_skip <| At_go <| W_seq <| W_reg <| WLs 1 [] (.n 19 (sl none 0 0) (.ss .a)) qe (by kernel_rfl) ?_
 refine WL_op ?_
 obtain ⟨r_1, h_r_1, hm⟩ := ob hm
 refine Op_call [] 20 _ yz_go41 (by kernel_rfl) (c_dice_weighed (F := N0) (O := N0)  (Cx.refl _) _ h_r_1) ?_
 rintro e_ w_1 ⟨A15, _, c15, rfl, rfl, k_2⟩
 have k_3 := k_1.call k_2
 refine ⟨.tup [sl A15 r_1.length c15, .v (.float .f64 0), I 251], rfl, ?_⟩
 refine WLs 7 [] (.n 6 (sl A15 r_1.length c15) (.n 7 (.v (.float .f64 0)) (.n 8 (I 251) (.ss .a)))) qe (by kernel_rfl) ?_
 refine WL_nil <| At_go <| W_seq <| W_seq <| W_q [] (.n 25 (.b true) .a) qe (by kernel_rfl) ?_
 refine At_go <| W_cond true (by kernel_rfl) (fun _ => ?_) (fun h => by cases h)
 refine W_seq <| W_q [] (.n 4 (I 0) (.n 5 (I 251) .z)) qe (by kernel_rfl) ?_
 refine At_go <| W_ret (At_tr ?_)
 obtain rfl := Option.some.inj hm
 refine At_rt [I 0, I 251] qe (by kernel_rfl) ?_
 have k_4 := k_3.sel (.kkkk (.kkkk (.kkkk .z)))
 exact ⟨A0, r_.2.2.2.1.length, c0, A8, r_.2.2.2.2.2.2.2.1.length, c8, A9, r_.2.2.2.2.2.2.2.2.1.length, c9, A10, r_.2.2.2.2.2.2.2.2.2.2.2.2.2.2.2.2.1.length, c10, A11, r_.2.2.2.2.2.2.2.2.2.2.2.2.2.2.2.2.2.1.length, c11, A12, r_.2.2.2.2.2.2.2.2.2.2.2.2.2.2.2.2.2.2.1.length, c12, A13, r_.2.2.2.2.2.2.2.2.2.2.2.2.2.2.2.2.2.2.2.1.length, c13, A14, r_.2.2.2.2.2.2.2.2.2.2.2.2.2.2.2.2.2.2.2.2.2.2.2.length, c14, k_4.len 1 rfl, k_4.len 3 rfl, k_4.len 4 rfl, k_4.len 6 rfl, k_4.len 7 rfl, k_4.len 8 rfl, k_4.len 9 rfl, k_4.len 11 rfl, rfl, k_4⟩

-- quern/quernlaw25.awake
theorem c_l25_awake {F O : Nat → Prop} {w : World} (k : Cx F O w w []) (r : Bool) (hm : m_l25_awake = some r) :
    Calls Tryz.prog 5 (vals []) w (fun e w' => e = .returned (SV.val (.b r)) ∧ Cx F O w w' []) := by
 unfold m_l25_awake at hm
 refine calls [] Tryz.func5 rfl (of_decide_eq_true (by kernel_rfl)) ?_
 refine W_seq <| W_q [] .a qe (by kernel_rfl) ?_
 refine At_go <| W_seq <| W_reg <| WL_op ?_
 obtain ⟨r_, h_r_, hm⟩ := ob hm
 refine Op_call [] 6 _ yz_go31 (by kernel_rfl) (c_dice_New (F := N0) (O := N0) _ _ _ _ (Ro.nilE e8) rfl (Nat.le_refl 0) (Cx.refl _) _ h_r_) ?_
 rcases r_ with r_1 | r_2 | r_3 | r_4 | r_5
 · simp only [Sum.elim_inl, Sum.elim_inr] at hm
   rintro e_ w_ ⟨rfl, k_⟩
   have k_1 := k.call k_
   refine ⟨.tup [.v (.pointer none), I r_1], rfl, ?_⟩
   refine WLs 5 [] (.n 1 (.v (.pointer none)) (.n 2 (I r_1) .z)) qe (by kernel_rfl) ?_
   refine WL_nil <| At_go <| W_seq <| W_seq <| W_q [11] (.n 14 (.b true) (.k .z)) qe (by kernel_rfl) ?_
   refine At_go <| W_cond true (by kernel_rfl) (fun _ => ?_) (fun h => by cases h)
   refine W_seq <| W_q [] (.n 0 (.b false) .z) qe (by kernel_rfl) ?_
   refine At_go <| W_ret (At_tr ?_)
   obtain rfl := Option.some.inj hm
   refine At_rt [.b false] qe (by kernel_rfl) ?_
   exact ⟨rfl, k_1⟩
 · simp only [Sum.elim_inl, Sum.elim_inr] at hm
   rintro e_ w_0 ⟨g, A, _, c, rfl, rfl, k_0⟩
   have k_2 := k.call k_0
   refine ⟨.tup [pt g 0, I 0], rfl, ?_⟩
   refine WLs 5 [] (.n 1 (pt g 0) (.n 2 (I 0) .z)) qe (by kernel_rfl) ?_
   refine WL_nil <| At_go <| W_seq <| W_seq <| W_q [11] (.n 14 (.b (decide (0 ≠ 0))) (.k .z)) qe (by kernel_rfl) ?_
   refine At_go <| W_condp (0 ≠ 0) (by kernel_rfl) (fun hc => ?_) (fun hc => ?_)
   · rw [if_pos hc] at hm
     refine W_seq <| W_q [] (.n 0 (.b false) .z) qe (by kernel_rfl) ?_
     refine At_go <| W_ret (At_tr ?_)
     obtain rfl := Option.some.inj hm
     refine At_rt [.b false] qe (by kernel_rfl) ?_
     have k_3 := k_2.sel .z
     exact ⟨rfl, k_3⟩
   rw [if_neg hc] at hm
   refine W_skip <| At_go <| W_seq <| W_reg <| WLs 1 [] (.n 16 (pt g 0) .z) qe (by kernel_rfl) ?_
   refine WL_op ?_
   obtain ⟨r_6, h_r_6, hm⟩ := ob hm
   obtain ⟨F1, O1, kin, hO, hre, hF, hb⟩ := k_2.go (.i (.i .e))
   refine Op_call [] 17 _ yz_go12 (by kernel_rfl) (c_dice_Dice_Pick (F := F1) (O := O1) _ _ _ _ _ kin _ h_r_6) ?_
   rintro e_ w_1 ⟨A1, _, c1, rfl, rfl, k_4⟩
   have k_5 := hb w_1 _ _ k_4 (.c (.c .n))
   refine ⟨.tup [I 0, I 7], rfl, ?_⟩
   have k_6 := k_5.sel .z
   refine WLs 5 [] (.n 4 (I 7) .z) qe (by kernel_rfl) ?_
   refine WL_nil <| At_go <| W_seq <| W_q [] (.n 0 (.b (decide (7 = 251))) .z) qe (by kernel_rfl) ?_
   refine At_go <| W_ret ?_
   obtain rfl := Option.some.inj hm
   refine At_rt [.b (decide (7 = 251))] qe (by kernel_rfl) ?_
   exact ⟨rfl, k_6⟩
 · simp only [Sum.elim_inl, Sum.elim_inr] at hm
   rintro e_ w_2 ⟨g0, A0, _, c0, g1, A2, _, c2, A3, _, c3, A4, _, c4, A5, _, c5, rfl, rfl, rfl, rfl, rfl, rfl, k_7⟩
   have k_8 := k.call k_7
   refine ⟨.tup [pt g0 0, I 0], rfl, ?_⟩
   refine WLs 5 [] (.n 1 (pt g0 0) (.n 2 (I 0) .z)) qe (by kernel_rfl) ?_
   refine WL_nil <| At_go <| W_seq <| W_seq <| W_q [11] (.n 14 (.b (decide (0 ≠ 0))) (.k .z)) qe (by kernel_rfl) ?_
   refine At_go <| W_condp (0 ≠ 0) (by kernel_rfl) (fun hc0 => ?_) (fun hc0 => ?_)
   · rw [if_pos hc0] at hm
     refine W_seq <| W_q [] (.n 0 (.b false) .z) qe (by kernel_rfl) ?_
     refine At_go <| W_ret (At_tr ?_)
     obtain rfl := Option.some.inj hm
     refine At_rt [.b false] qe (by kernel_rfl) ?_
     have k_9 := k_8.sel .z
     exact ⟨rfl, k_9⟩
   rw [if_neg hc0] at hm
   refine W_skip <| At_go <| W_seq <| W_reg <| WLs 1 [] (.n 16 (pt g0 0) .z) qe (by kernel_rfl) ?_
   refine WL_op ?_
   obtain ⟨r_7, h_r_7, hm⟩ := ob hm
   obtain ⟨F10, O10, kin0, hO0, hre0, hF0, hb0⟩ := k_8.go (.i (.i (.i (.i (.i (.i (.i .e)))))))
   refine Op_call [] 17 _ yz_go12 (by kernel_rfl) (c_dice_Dice_Pick_s1 (F := F10) (O := O10) _ _ _ _ _ _ _ _ _ _ _ _ _ _ _ _ _ _ _ _ _ _ _ _ _ _ _ _ _ _ kin0 _ h_r_7) ?_
   rintro e_ w_3 ⟨A6, _, c6, A7, _, c7, A8, _, c8, A9, _, c9, A10, _, c10, rfl, rfl, rfl, rfl, rfl, rfl, k_10⟩
   have k_11 := hb0 w_3 _ _ k_10 (.c (.c (.c (.c (.c (.c (.c .n)))))))
   refine ⟨.tup [I 0, I 251], rfl, ?_⟩
   have k_12 := k_11.sel .z
   refine WLs 5 [] (.n 4 (I 251) .z) qe (by kernel_rfl) ?_
   refine WL_nil <| At_go <| W_seq <| W_q [] (.n 0 (.b (decide (251 = 251))) .z) qe (by kernel_rfl) ?_
   refine At_go <| W_ret ?_
   obtain rfl := Option.some.inj hm
   refine At_rt [.b (decide (251 = 251))] qe (by kernel_rfl) ?_
   exact ⟨rfl, k_12⟩
 · simp only [Sum.elim_inl, Sum.elim_inr] at hm
   rintro e_ w_4 ⟨g2, A11, _, c11, g3, A12, _, c12, A13, _, c13, A14, _, c14, g4, A15, _, c15, A16, _, c16, g5, A17, _, c17, A18, _, c18, rfl, rfl, rfl, rfl, rfl, rfl, rfl, rfl, rfl, k_13⟩
   have k_14 := k.call k_13
   refine ⟨.tup [pt g2 0, I 0], rfl, ?_⟩
   refine WLs 5 [] (.n 1 (pt g2 0) (.n 2 (I 0) .z)) qe (by kernel_rfl) ?_
   refine WL_nil <| At_go <| W_seq <| W_seq <| W_q [11] (.n 14 (.b (decide (0 ≠ 0))) (.k .z)) qe (by kernel_rfl) ?_
   refine At_go <| W_condp (0 ≠ 0) (by kernel_rfl) (fun hc1 => ?_) (fun hc1 => ?_)
   · rw [if_pos hc1] at hm
     refine W_seq <| W_q [] (.n 0 (.b false) .z) qe (by kernel_rfl) ?_
     refine At_go <| W_ret (At_tr ?_)
     obtain rfl := Option.some.inj hm
     refine At_rt [.b false] qe (by kernel_rfl) ?_
     have k_15 := k_14.sel .z
     exact ⟨rfl, k_15⟩
   rw [if_neg hc1] at hm
   refine W_skip <| At_go <| W_seq <| W_reg <| WLs 1 [] (.n 16 (pt g2 0) .z) qe (by kernel_rfl) ?_
   refine WL_op ?_
   obtain ⟨r_8, h_r_8, hm⟩ := ob hm
   obtain ⟨F11, O11, kin1, hO1, hre1, hF1, hb1⟩ := k_14.go (.i (.i (.i (.i (.i (.i (.i (.i (.i (.i (.i (.i .e))))))))))))
   refine Op_call [] 17 _ yz_go12 (by kernel_rfl) (c_dice_Dice_Pick_s2 (F := F11) (O := O11) _ _ _ _ _ _ _ _ _ _ _ _ _ _ _ _ _ _ _ _ _ _ _ _ _ _ _ _ _ _ _ _ _ _ _ _ _ _ _ _ _ _ _ _ _ _ _ _ _ _ _ _ kin1 _ h_r_8) ?_
   rintro e_ w_5 ⟨A19, _, c19, A20, _, c20, A21, _, c21, A22, _, c22, A23, _, c23, A24, _, c24, A25, _, c25, A26, _, c26, rfl, rfl, rfl, rfl, rfl, rfl, rfl, rfl, rfl, k_16⟩
   have k_17 := hb1 w_5 _ _ k_16 (.c (.c (.c (.c (.c (.c (.c (.c (.c (.c (.c (.c .n))))))))))))
   refine ⟨.tup [I 0, I 251], rfl, ?_⟩
   have k_18 := k_17.sel .z
   refine WLs 5 [] (.n 4 (I 251) .z) qe (by kernel_rfl) ?_
   refine WL_nil <| At_go <| W_seq <| W_q [] (.n 0 (.b (decide (251 = 251))) .z) qe (by kernel_rfl) ?_
   refine At_go <| W_ret ?_
   obtain rfl := Option.some.inj hm
   refine At_rt [.b (decide (251 = 251))] qe (by kernel_rfl) ?_
   exact ⟨rfl, k_18⟩
 · simp only [Sum.elim_inl, Sum.elim_inr] at hm
   rintro e_ w_6 ⟨g6, A27, _, c27, g7, A28, _, c28, A29, _, c29, A30, _, c30, g8, A31, _, c31, A32, _, c32, g9, A33, _, c33, A34, _, c34, rfl, rfl, rfl, rfl, rfl, rfl, rfl, rfl, rfl, k_19⟩
   have k_20 := k.call k_19
   refine ⟨.tup [pt g6 0, I 0], rfl, ?_⟩
   refine WLs 5 [] (.n 1 (pt g6 0) (.n 2 (I 0) .z)) qe (by kernel_rfl) ?_
   refine WL_nil <| At_go <| W_seq <| W_seq <| W_q [11] (.n 14 (.b (decide (0 ≠ 0))) (.k .z)) qe (by kernel_rfl) ?_
   refine At_go <| W_condp (0 ≠ 0) (by kernel_rfl) (fun hc2 => ?_) (fun hc2 => ?_)
   · rw [if_pos hc2] at hm
     refine W_seq <| W_q [] (.n 0 (.b false) .z) qe (by kernel_rfl) ?_
     refine At_go <| W_ret (At_tr ?_)
     obtain rfl := Option.some.inj hm
     refine At_rt [.b false] qe (by kernel_rfl) ?_
     have k_21 := k_20.sel .z
     exact ⟨rfl, k_21⟩
   rw [if_neg hc2] at hm
   refine W_skip <| At_go <| W_seq <| W_reg <| WLs 1 [] (.n 16 (pt g6 0) .z) qe (by kernel_rfl) ?_
   refine WL_op ?_
   obtain ⟨r_9, h_r_9, hm⟩ := ob hm
   obtain ⟨F12, O12, kin2, hO2, hre2, hF2, hb2⟩ := k_20.go (.i (.i (.i (.i (.i (.i (.i (.i (.i (.i (.i (.i .e))))))))))))
   refine Op_call [] 17 _ yz_go12 (by kernel_rfl) (c_dice_Dice_Pick_s3 (F := F12) (O := O12) _ _ _ _ _ _ _ _ _ _ _ _ _ _ _ _ _ _ _ _ _ _ _ _ _ _ _ _ _ _ _ _ _ _ _ _ _ _ _ _ _ _ _ _ _ _ _ _ _ _ _ _ kin2 _ h_r_9) ?_
   rintro e_ w_7 ⟨A35, _, c35, A36, _, c36, A37, _, c37, A38, _, c38, A39, _, c39, A40, _, c40, A41, _, c41, A42, _, c42, rfl, rfl, rfl, rfl, rfl, rfl, rfl, rfl, rfl, k_22⟩
   have k_23 := hb2 w_7 _ _ k_22 (.c (.c (.c (.c (.c (.c (.c (.c (.c (.c (.c (.c .n))))))))))))
   refine ⟨.tup [I 0, I 251], rfl, ?_⟩
   have k_24 := k_23.sel .z
   refine WLs 5 [] (.n 4 (I 251) .z) qe (by kernel_rfl) ?_
   refine WL_nil <| At_go <| W_seq <| W_q [] (.n 0 (.b (decide (251 = 251))) .z) qe (by kernel_rfl) ?_
   refine At_go <| W_ret ?_
   obtain rfl := Option.some.inj hm
   refine At_rt [.b (decide (251 = 251))] qe (by kernel_rfl) ?_
   exact ⟨rfl, k_24⟩

-- (*quern/dice.Dice).none
theorem c_dice_Dice_none_s4 {F O : Nat → Prop} {w : World} (k : Cx F O w w []) (r : Unit) (hm : m_dice_Dice_none_s4 = some r) :
    Calls Tryz.prog 34 (vals [.v (.pointer none)]) w (fun e w' => e = .returned (SV.val (.b true)) ∧ Cx F O w w' []) := by
 unfold m_dice_Dice_none_s4 at hm
 refine calls [.v (.pointer none)] Tryz.func34 rfl (of_decide_eq_true (by kernel_rfl)) ?_
 refine W_seq <| W_q [] .a qe (by kernel_rfl) ?_
 refine At_go <| W_seq <| W_q [5] (.n 2 (.b true) .z) qe (by kernel_rfl) ?_
 refine At_go <| W_ret ?_
 obtain rfl := Option.some.inj hm
 refine At_rt [.b true] qe (by kernel_rfl) ?_
 exact ⟨rfl, k⟩

-- (*quern/dice.Dice).drawn
theorem c_dice_Dice_drawn {F O : Nat → Prop} {w : World} (work : UInt64) (g_work : Nat) (k : Cx F O w w [Bx 22 g_work [.u64 work]]) (r : UInt64) (hm : m_dice_Dice_drawn work = some r) :
    Calls Tryz.prog 32 (vals [.v (.pointer none), .v (.func (.func 33) ⟨SV.vals []⟩ ⟨SV.vals [pt g_work 0]⟩)]) w (fun e w' => e = .returned (SV.val (I 7)) ∧ Cx F O w w' [Bx 22 g_work [.u64 r]]) := by
 unfold m_dice_Dice_drawn at hm
 refine calls [.v (.pointer none), .v (.func (.func 33) ⟨SV.vals []⟩ ⟨SV.vals [pt g_work 0]⟩)] Tryz.func32 rfl (of_decide_eq_true (by kernel_rfl)) ?_
 refine W_seq <| W_reg <| WL_op <| Op_box [] 2 (.v (.pointer none)) [.v (.pointer none)] (by kernel_rfl) k ?_
 intro g w_ k_
 refine WLs 1 [] (.k (.s .a)) qe (by kernel_rfl) ?_
 refine WL_nil <| At_go <| W_seq <| W_seq <| W_reg <| WLs 1 [] (.n 7 (.v (.pointer none)) .a) (qB k_ 1 rfl 0 (.v (.pointer none)) (by kernel_rfl) <| qe) (by kernel_rfl) ?_
 refine WL_op ?_
 obtain ⟨r_, h_r_, hm⟩ := ob hm
 refine Op_call [] 8 _ yz_go34 (by kernel_rfl) (c_dice_Dice_none_s4 (F := N0) (O := N0)  (Cx.refl _) _ h_r_) ?_
 rintro e_ w_1 ⟨rfl, k_1⟩
 have k_2 := k_.call k_1
 refine ⟨.b true, rfl, ?_⟩
 refine WL_nil <| At_go <| W_cond true (by kernel_rfl) (fun _ => ?_) (fun h => by cases h)
 refine W_seq <| W_q [] (.n 4 (I 7) .z) qe (by kernel_rfl) ?_
 refine At_go <| W_ret (At_tr ?_)
 obtain rfl := Option.some.inj hm
 refine At_rt [I 7] qe (by kernel_rfl) ?_
 have k_3 := k_2.sel (.k .z)
 exact ⟨rfl, k_3⟩

-- (*quern/dice.Dice).Word
theorem c_dice_Dice_Word {F O : Nat → Prop} {w : World} (k : Cx F O w w []) (r : Unit) (hm : m_dice_Dice_Word = some r) :
    Calls Tryz.prog 6 (vals [.v (.pointer none)]) w (fun e w' => e = .returned (SV.val (.tup [.u64 0, I 7])) ∧ Cx F O w w' []) := by
 unfold m_dice_Dice_Word at hm
 refine calls [.v (.pointer none)] Tryz.func6 rfl (of_decide_eq_true (by kernel_rfl)) ?_
 refine W_seq <| W_q [] .a qe (by kernel_rfl) ?_
 refine At_go <| W_seq <| W_reg <| WL_op <| Op_alloc [] 4 [.u64 0] (by kernel_rfl) k ?_
 intro g w_ k_
 refine WL_op <| Op_b [] 0 (.u64 0) [.u64 0] (Pt.at g 0) k_ rfl .all (by kernel_rfl) (by kernel_rfl) ?_
 intro w_1 k_1
 refine WL_nil <| At_go <| W_seq <| W_reg <| WLs 2 [] (.n 6 (.v (.pointer none)) (.n 7 (.v (.func (.func 33) ⟨SV.vals []⟩ ⟨SV.vals [pt g 0]⟩)) (.k .z))) qe (by kernel_rfl) ?_
 refine WL_op ?_
 obtain ⟨r_, h_r_, hm⟩ := ob hm
 obtain ⟨F1, O1, kin, hO, hre, hF, hb⟩ := k_1.go (.i .e)
 refine Op_call [] 8 _ yz_go32 (by kernel_rfl) (c_dice_Dice_drawn (F := F1) (O := O1) _ _ kin _ h_r_) ?_
 rintro e_ w_2 ⟨rfl, k_2⟩
 have k_3 := hb w_2 _ _ k_2 (.c .n)
 refine ⟨I 7, rfl, ?_⟩
 refine WLs 1 [] (.n 5 (I 7) (.sss .a)) qe (by kernel_rfl) ?_
 refine WL_nil <| At_go <| W_seq <| W_seq <| W_q [] (.n 10 (.b true) .a) qe (by kernel_rfl) ?_
 refine At_go <| W_cond true (by kernel_rfl) (fun _ => ?_) (fun h => by cases h)
 refine W_seq <| W_q [] (.n 2 (.u64 0) (.n 3 (I 7) .z)) qe (by kernel_rfl) ?_
 refine At_go <| W_ret (At_tr ?_)
 obtain rfl := Option.some.inj hm
 refine At_rt [.u64 0, I 7] qe (by kernel_rfl) ?_
 have k_4 := k_3.sel .z
 exact ⟨rfl, k_4⟩

-- (*quern/dice.Dice).Below
theorem c_dice_Dice_Below {F O : Nat → Prop} {w : World} (n : UInt64) (k : Cx F O w w []) (r : Unit) (hm : m_dice_Dice_Below n = some r) :
    Calls Tryz.prog 7 (vals [.v (.pointer none), .u64 n]) w (fun e w' => e = .returned (SV.val (.tup [.u64 0, I 7])) ∧ Cx F O w w' []) := by
 unfold m_dice_Dice_Below at hm
 refine calls [.v (.pointer none), .u64 n] Tryz.func7 rfl (of_decide_eq_true (by kernel_rfl)) ?_
 refine W_seq <| W_reg <| WL_op <| Op_box [] 3 (.u64 n) [.u64 n] (by kernel_rfl) k ?_
 intro g w_ k_
 refine WLs 2 [] (.kk .z) qe (by kernel_rfl) ?_
 refine WL_nil <| At_go <| W_seq <| W_seq <| W_reg <| WLs 1 [] (.n 8 (.v (.pointer none)) .a) qe (by kernel_rfl) ?_
 refine WL_op ?_
 obtain ⟨r_, h_r_, hm⟩ := ob hm
 refine Op_call [] 9 _ yz_go34 (by kernel_rfl) (c_dice_Dice_none_s4 (F := N0) (O := N0)  (Cx.refl _) _ h_r_) ?_
 rintro e_ w_1 ⟨rfl, k_1⟩
 have k_2 := k_.call k_1
 refine ⟨.b true, rfl, ?_⟩
 refine WL_nil <| At_go <| W_cond true (by kernel_rfl) (fun _ => ?_) (fun h => by cases h)
 refine W_seq <| W_q [] (.n 4 (.u64 0) (.n 5 (I 7) .z)) qe (by kernel_rfl) ?_
 refine At_go <| W_ret (At_tr ?_)
 obtain rfl := Option.some.inj hm
 refine At_rt [.u64 0, I 7] qe (by kernel_rfl) ?_
 have k_3 := k_2.sel .z
 exact ⟨rfl, k_3⟩

-- quern/dice.share
theorem c_dice_share {F O : Nat → Prop} {w : World} (k : Cx F O w w []) (r : Unit) (hm : m_dice_share = some r) :
    Calls Tryz.prog 37 (vals [.u64 0]) w (fun e w' => e = .returned (SV.val (.v (.float .f64 0))) ∧ Cx F O w w' []) := by
 unfold m_dice_share at hm
 refine calls [.u64 0] Tryz.func37 rfl (of_decide_eq_true (by kernel_rfl)) ?_
 refine W_seq <| W_q [] .a qe (by kernel_rfl) ?_
 refine At_go <| W_seq <| W_reg <| WLs 2 [] (.n 4 (.u64 0) .z) qe (by kernel_rfl) ?_
 refine WL_op <| Op_fconv [] 5 (SV.val (.u64 0)) (.v (.float .f64 0)) (by kernel_rfl) (by kernel_rfl) ?_
 refine WL_op <| Op_fop [] 6 (.float .f64 0) (.float .f64 4845873199050653696) (.v (.float .f64 0)) (by kernel_rfl) (by kernel_rfl) (by kernel_rfl) ?_
 refine WLs 1 [] (.n 2 (.v (.float .f64 0)) .z) qe (by kernel_rfl) ?_
 refine WL_nil <| At_go <| W_ret ?_
 obtain rfl := Option.some.inj hm
 refine At_rt [.v (.float .f64 0)] qe (by kernel_rfl) ?_
 exact ⟨rfl, k⟩

-- (*quern/dice.Dice).Share
theorem c_dice_Dice_Share {F O : Nat → Prop} {w : World} (k : Cx F O w w []) (r : Unit) (hm : m_dice_Dice_Share = some r) :
    Calls Tryz.prog 8 (vals [.v (.pointer none)]) w (fun e w' => e = .returned (SV.val (.tup [.v (.float .f64 0), I 7])) ∧ Cx F O w w' []) := by
 unfold m_dice_Dice_Share at hm
 refine calls [.v (.pointer none)] Tryz.func8 rfl (of_decide_eq_true (by kernel_rfl)) ?_
 refine W_seq <| W_q [] .a qe (by kernel_rfl) ?_
 refine At_go <| W_seq <| W_reg <| WLs 1 [] (.n 7 (.v (.pointer none)) .z) qe (by kernel_rfl) ?_
 refine WL_op ?_
 obtain ⟨r_, h_r_, hm⟩ := ob hm
 refine Op_call [] 8 _ yz_go6 (by kernel_rfl) (c_dice_Dice_Word (F := N0) (O := N0)  (Cx.refl _) _ h_r_) ?_
 rintro e_ w_ ⟨rfl, k_⟩
 have k_1 := k.call k_
 refine ⟨.tup [.u64 0, I 7], rfl, ?_⟩
 refine WLs 5 [] (.n 4 (.u64 0) (.n 5 (I 7) .z)) qe (by kernel_rfl) ?_
 refine WL_nil <| At_go <| W_seq <| W_reg <| WLs 1 [] (.n 11 (.u64 0) (.s .a)) qe (by kernel_rfl) ?_
 refine WL_op ?_
 obtain ⟨r_1, h_r_1, hm⟩ := ob hm
 refine Op_call [] 12 _ yz_go37 (by kernel_rfl) (c_dice_share (F := N0) (O := N0)  (Cx.refl _) _ h_r_1) ?_
 rintro e_ w_1 ⟨rfl, k_2⟩
 have k_3 := k_1.call k_2
 refine ⟨.v (.float .f64 0), rfl, ?_⟩
 refine WLs 3 [] (.n 2 (.v (.float .f64 0)) (.n 3 (I 7) .z)) qe (by kernel_rfl) ?_
 refine WL_nil <| At_go <| W_ret ?_
 obtain rfl := Option.some.inj hm
 refine At_rt [.v (.float .f64 0), I 7] qe (by kernel_rfl) ?_
 exact ⟨rfl, k_3⟩

-- (*quern/dice.Dice).Between
theorem c_dice_Dice_Between {F O : Nat → Prop} {w : World} (k : Cx F O w w []) (r : Unit) (hm : m_dice_Dice_Between = some r) :
    Calls Tryz.prog 9 (vals [.v (.pointer none), .v (.float .f64 4607182418800017408), .v (.float .f64 4611686018427387904)]) w (fun e w' => e = .returned (SV.val (.tup [.v (.float .f64 0), I 7])) ∧ Cx F O w w' []) := by
 unfold m_dice_Dice_Between at hm
 refine calls [.v (.pointer none), .v (.float .f64 4607182418800017408), .v (.float .f64 4611686018427387904)] Tryz.func9 rfl (of_decide_eq_true (by kernel_rfl)) ?_
 refine W_seq <| W_q [] .a qe (by kernel_rfl) ?_
 refine At_go <| W_seq <| W_seq <| W_reg <| WLs 1 [] (.n 10 (.v (.pointer none)) .a) qe (by kernel_rfl) ?_
 refine WL_op ?_
 obtain ⟨r_, h_r_, hm⟩ := ob hm
 refine Op_call [] 11 _ yz_go34 (by kernel_rfl) (c_dice_Dice_none_s4 (F := N0) (O := N0)  (Cx.refl _) _ h_r_) ?_
 rintro e_ w_ ⟨rfl, k_⟩
 have k_1 := k.call k_
 refine ⟨.b true, rfl, ?_⟩
 refine WL_nil <| At_go <| W_cond true (by kernel_rfl) (fun _ => ?_) (fun h => by cases h)
 refine W_seq <| W_q [] (.n 6 (.v (.float .f64 0)) (.n 7 (I 7) .z)) qe (by kernel_rfl) ?_
 refine At_go <| W_ret (At_tr ?_)
 obtain rfl := Option.some.inj hm
 refine At_rt [.v (.float .f64 0), I 7] qe (by kernel_rfl) ?_
 exact ⟨rfl, k_1⟩

-- quern/quernref22.Is
theorem c_r22_Is {F O : Nat → Prop} {w : World} (k : Cx F O w w []) (r : Unit) (hm : m_r22_Is = some r) :
    Calls Tryz.prog 66 (vals [.v (.float .f64 0)]) w (fun e w' => e = .returned (SV.val (.b false)) ∧ Cx F O w w' []) := by
 unfold m_r22_Is at hm
 refine calls [.v (.float .f64 0)] Tryz.func66 rfl (of_decide_eq_true (by kernel_rfl)) ?_
 refine W_seq <| W_q [] .a qe (by kernel_rfl) ?_
 refine At_go <| W_seq <| W_reg <| WLs 2 [] (.n 3 (.v (.float .f64 0)) (.n 4 (.v (.float .f64 0)) .z)) qe (by kernel_rfl) ?_
 refine WL_op <| Op_fop [] 5 (.float .f64 0) (.float .f64 0) (.b false) (by kernel_rfl) (by kernel_rfl) (by kernel_rfl) ?_
 refine WLs 1 [] (.n 2 (.b false) .z) qe (by kernel_rfl) ?_
 refine WL_nil <| At_go <| W_ret ?_
 obtain rfl := Option.some.inj hm
 refine At_rt [.b false] qe (by kernel_rfl) ?_
 exact ⟨rfl, k⟩

-- quern/quernref22.One
theorem c_r22_One {F O : Nat → Prop} {w : World} (k : Cx F O w w []) (r : Unit) (hm : m_r22_One = some r) :
    Calls Tryz.prog 39 (vals [.v (.float .f64 0)]) w (fun e w' => e = .returned (SV.val (.u64 0)) ∧ Cx F O w w' []) := by
 unfold m_r22_One at hm
 refine calls [.v (.float .f64 0)] Tryz.func39 rfl (of_decide_eq_true (by kernel_rfl)) ?_
 refine W_seq <| W_q [] .a qe (by kernel_rfl) ?_
 refine At_go <| W_seq <| W_seq <| W_reg <| WLs 1 [] (.n 3 (.v (.float .f64 0)) .a) qe (by kernel_rfl) ?_
 refine WL_op ?_
 obtain ⟨r_, h_r_, hm⟩ := ob hm
 refine Op_call [] 4 _ yz_go66 (by kernel_rfl) (c_r22_Is (F := N0) (O := N0)  (Cx.refl _) _ h_r_) ?_
 rintro e_ w_ ⟨rfl, k_⟩
 have k_1 := k.call k_
 refine ⟨.b false, rfl, ?_⟩
 refine WL_nil <| At_go <| W_cond false (by kernel_rfl) (fun h => by cases h) (fun _ => ?_)
 refine W_skip <| At_go <| W_seq <| W_reg <| WLs 1 [] (.n 5 (.v (.float .f64 0)) .z) qe (by kernel_rfl) ?_
 refine WL_op <| Op_fbits yz_fb67 [] 6 0 (by decide) (by kernel_rfl) ?_
 refine WLs 1 [] (.n 2 (.u64 0) .z) qe (by kernel_rfl) ?_
 refine WL_nil <| At_go <| W_ret ?_
 obtain rfl := Option.some.inj hm
 refine At_rt [.u64 0] qe (by kernel_rfl) ?_
 exact ⟨rfl, k_1⟩

-- quern/quernlaw25.equal
theorem c_l25_equal {F O : Nat → Prop} {w : World} (k : Cx F O w w []) (r : Bool) (hm : m_l25_equal = some r) :
    Calls Tryz.prog 10 (vals [.v (.float .f64 0), .v (.float .f64 0)]) w (fun e w' => e = .returned (SV.val (.b r)) ∧ Cx F O w w' []) := by
 unfold m_l25_equal at hm
 refine calls [.v (.float .f64 0), .v (.float .f64 0)] Tryz.func10 rfl (of_decide_eq_true (by kernel_rfl)) ?_
 refine W_seq <| W_q [] .a qe (by kernel_rfl) ?_
 refine At_go <| W_seq <| W_reg <| WLs 1 [] (.n 5 (.v (.float .f64 0)) (.s .a)) qe (by kernel_rfl) ?_
 refine WL_op ?_
 obtain ⟨r_, h_r_, hm⟩ := ob hm
 refine Op_call [] 6 _ yz_go39 (by kernel_rfl) (c_r22_One (F := N0) (O := N0)  (Cx.refl _) _ h_r_) ?_
 rintro e_ w_ ⟨rfl, k_⟩
 have k_1 := k.call k_
 refine ⟨.u64 0, rfl, ?_⟩
 refine WLs 1 [] (.n 7 (.v (.float .f64 0)) (.k .z)) qe (by kernel_rfl) ?_
 refine WL_op ?_
 obtain ⟨r_1, h_r_1, hm⟩ := ob hm
 refine Op_call [] 8 _ yz_go39 (by kernel_rfl) (c_r22_One (F := N0) (O := N0)  (Cx.refl _) _ h_r_1) ?_
 rintro e_ w_1 ⟨rfl, k_2⟩
 have k_3 := k_1.call k_2
 refine ⟨.u64 0, rfl, ?_⟩
 refine WLs 2 [] (.n 4 (.b (decide ((0 : UInt64) = 0))) .z) qe (by kernel_rfl) ?_
 refine WL_nil <| At_go <| W_ret ?_
 obtain rfl := Option.some.inj hm
 refine At_rt [.b (decide ((0 : UInt64) = 0))] qe (by kernel_rfl) ?_
 exact ⟨rfl, k_3⟩

-- (*quern/dice.Dice).drawn
theorem c_dice_Dice_drawn_s1 {F O : Nat → Prop} {w : World} (g_work : Nat) (k : Cx F O w w [Bx 35 g_work [.v (.float .f64 0)]]) (r : Unit) (hm : m_dice_Dice_drawn_s1 = some r) :
    Calls Tryz.prog 32 (vals [.v (.pointer none), .v (.func (.func 40) ⟨SV.vals []⟩ ⟨SV.vals [pt g_work 0]⟩)]) w (fun e w' => e = .returned (SV.val (I 7)) ∧ Cx F O w w' [Bx 35 g_work [.v (.float .f64 0)]]) := by
 unfold m_dice_Dice_drawn_s1 at hm
 refine calls [.v (.pointer none), .v (.func (.func 40) ⟨SV.vals []⟩ ⟨SV.vals [pt g_work 0]⟩)] Tryz.func32 rfl (of_decide_eq_true (by kernel_rfl)) ?_
 refine W_seq <| W_reg <| WL_op <| Op_box [] 2 (.v (.pointer none)) [.v (.pointer none)] (by kernel_rfl) k ?_
 intro g w_ k_
 refine WLs 1 [] (.k (.s .a)) qe (by kernel_rfl) ?_
 refine WL_nil <| At_go <| W_seq <| W_seq <| W_reg <| WLs 1 [] (.n 7 (.v (.pointer none)) .a) (qB k_ 1 rfl 0 (.v (.pointer none)) (by kernel_rfl) <| qe) (by kernel_rfl) ?_
 refine WL_op ?_
 obtain ⟨r_, h_r_, hm⟩ := ob hm
 refine Op_call [] 8 _ yz_go34 (by kernel_rfl) (c_dice_Dice_none_s4 (F := N0) (O := N0)  (Cx.refl _) _ h_r_) ?_
 rintro e_ w_1 ⟨rfl, k_1⟩
 have k_2 := k_.call k_1
 refine ⟨.b true, rfl, ?_⟩
 refine WL_nil <| At_go <| W_cond true (by kernel_rfl) (fun _ => ?_) (fun h => by cases h)
 refine W_seq <| W_q [] (.n 4 (I 7) .z) qe (by kernel_rfl) ?_
 refine At_go <| W_ret (At_tr ?_)
 obtain rfl := Option.some.inj hm
 refine At_rt [I 7] qe (by kernel_rfl) ?_
 have k_3 := k_2.sel (.k .z)
 exact ⟨rfl, k_3⟩

-- (*quern/dice.Dice).Bell
theorem c_dice_Dice_Bell {F O : Nat → Prop} {w : World} (k : Cx F O w w []) (r : Unit) (hm : m_dice_Dice_Bell = some r) :
    Calls Tryz.prog 11 (vals [.v (.pointer none)]) w (fun e w' => e = .returned (SV.val (.tup [.v (.float .f64 0), I 7])) ∧ Cx F O w w' []) := by
 unfold m_dice_Dice_Bell at hm
 refine calls [.v (.pointer none)] Tryz.func11 rfl (of_decide_eq_true (by kernel_rfl)) ?_
 refine W_seq <| W_q [] .a qe (by kernel_rfl) ?_
 refine At_go <| W_seq <| W_reg <| WL_op <| Op_alloc [] 4 [.v (.float .f64 0)] (by kernel_rfl) k ?_
 intro g w_ k_
 refine WL_op <| Op_b [] 0 (.v (.float .f64 0)) [.v (.float .f64 0)] (Pt.at g 0) k_ rfl .all (by kernel_rfl) (by kernel_rfl) ?_
 intro w_1 k_1
 refine WL_nil <| At_go <| W_seq <| W_reg <| WLs 2 [] (.n 6 (.v (.pointer none)) (.n 7 (.v (.func (.func 40) ⟨SV.vals []⟩ ⟨SV.vals [pt g 0]⟩)) (.k .z))) qe (by kernel_rfl) ?_
 refine WL_op ?_
 obtain ⟨r_, h_r_, hm⟩ := ob hm
 obtain ⟨F1, O1, kin, hO, hre, hF, hb⟩ := k_1.go (.i .e)
 refine Op_call [] 8 _ yz_go32 (by kernel_rfl) (c_dice_Dice_drawn_s1 (F := F1) (O := O1) _ kin _ h_r_) ?_
 rintro e_ w_2 ⟨rfl, k_2⟩
 have k_3 := hb w_2 _ _ k_2 (.c .n)
 refine ⟨I 7, rfl, ?_⟩
 refine WLs 1 [] (.n 5 (I 7) (.sss .a)) qe (by kernel_rfl) ?_
 refine WL_nil <| At_go <| W_seq <| W_seq <| W_q [] (.n 10 (.b true) .a) qe (by kernel_rfl) ?_
 refine At_go <| W_cond true (by kernel_rfl) (fun _ => ?_) (fun h => by cases h)
 refine W_seq <| W_q [] (.n 2 (.v (.float .f64 0)) (.n 3 (I 7) .z)) qe (by kernel_rfl) ?_
 refine At_go <| W_ret (At_tr ?_)
 obtain rfl := Option.some.inj hm
 refine At_rt [.v (.float .f64 0), I 7] qe (by kernel_rfl) ?_
 have k_4 := k_3.sel .z
 exact ⟨rfl, k_4⟩

-- (*quern/dice.Dice).Pick
theorem c_dice_Dice_Pick_s4 {F O : Nat → Prop} {w : World} (A_weights : Option Addr) (n_weights : Nat) (c_weights : Nat) (k : Cx F O w w []) (r : Unit) (hm : m_dice_Dice_Pick_s4 = some r) :
    Calls Tryz.prog 12 (vals [.v (.pointer none), sl A_weights n_weights c_weights]) w (fun e w' => e = .returned (SV.val (.tup [I 0, I 7])) ∧ Cx F O w w' []) := by
 unfold m_dice_Dice_Pick_s4 at hm
 refine calls [.v (.pointer none), sl A_weights n_weights c_weights] Tryz.func12 rfl (of_decide_eq_true (by kernel_rfl)) ?_
 refine W_seq <| W_q [] .a qe (by kernel_rfl) ?_
 refine At_go <| W_seq <| W_seq <| W_reg <| WLs 1 [] (.n 16 (.v (.pointer none)) .a) qe (by kernel_rfl) ?_
 refine WL_op ?_
 obtain ⟨r_, h_r_, hm⟩ := ob hm
 refine Op_call [] 17 _ yz_go34 (by kernel_rfl) (c_dice_Dice_none_s4 (F := N0) (O := N0)  (Cx.refl _) _ h_r_) ?_
 rintro e_ w_ ⟨rfl, k_⟩
 have k_1 := k.call k_
 refine ⟨.b true, rfl, ?_⟩
 refine WL_nil <| At_go <| W_cond true (by kernel_rfl) (fun _ => ?_) (fun h => by cases h)
 refine W_seq <| W_q [] (.n 4 (I 0) (.n 5 (I 7) .z)) qe (by kernel_rfl) ?_
 refine At_go <| W_ret (At_tr ?_)
 obtain rfl := Option.some.inj hm
 refine At_rt [I 0, I 7] qe (by kernel_rfl) ?_
 exact ⟨rfl, k_1⟩

-- (*quern/dice.Dice).Order
theorem c_dice_Dice_Order {F O : Nat → Prop} {w : World} (n : Int) (k : Cx F O w w []) (r : (List Int)) (hm : m_dice_Dice_Order n = some r) :
    Calls Tryz.prog 13 (vals [.v (.pointer none), I n]) w (fun e w' => ∃ A n1 c, r.length = n1 ∧ e = .returned (SV.val (.tup [sl A n1 c, I 7])) ∧ Cx F O w w' [Ow eI A n1 c r]) := by
 unfold m_dice_Dice_Order at hm
 refine calls [.v (.pointer none), I n] Tryz.func13 rfl (of_decide_eq_true (by kernel_rfl)) ?_
 refine W_seq <| W_reg <| WL_op <| Op_box [] 3 (I n) [I n] (by kernel_rfl) k ?_
 intro g w_ k_
 refine WLs 2 [] (.kk .z) qe (by kernel_rfl) ?_
 refine WL_nil <| At_go <| W_seq <| W_seq <| W_reg <| WLs 1 [] (.n 9 (.v (.pointer none)) .a) qe (by kernel_rfl) ?_
 refine WL_op ?_
 obtain ⟨r_, h_r_, hm⟩ := ob hm
 refine Op_call [] 10 _ yz_go34 (by kernel_rfl) (c_dice_Dice_none_s4 (F := N0) (O := N0)  (Cx.refl _) _ h_r_) ?_
 rintro e_ w_1 ⟨rfl, k_1⟩
 have k_2 := k_.call k_1
 refine ⟨.b true, rfl, ?_⟩
 refine WL_nil <| At_go <| W_cond true (by kernel_rfl) (fun _ => ?_) (fun h => by cases h)
 refine W_seq <| W_q [] (.n 4 (sl none 0 0) (.n 5 (I 7) .z)) qe (by kernel_rfl) ?_
 refine At_go <| W_ret (At_tr ?_)
 have k_3 := k_2.nil eI
 obtain rfl := Option.some.inj hm
 refine At_rt [sl none 0 0, I 7] qe (by kernel_rfl) ?_
 have k_4 := k_3.sel (.s (.k .e))
 exact ⟨none, 0, 0, k_4.len 0 rfl, rfl, k_4⟩

-- (*quern/dice.Dice).Choose
theorem c_dice_Dice_Choose {F O : Nat → Prop} {w : World} (n : Int) (k_ : Int) (k : Cx F O w w []) (r : (List Int)) (hm : m_dice_Dice_Choose n k_ = some r) :
    Calls Tryz.prog 14 (vals [.v (.pointer none), I n, I k_]) w (fun e w' => ∃ A n1 c, r.length = n1 ∧ e = .returned (SV.val (.tup [sl A n1 c, I 7])) ∧ Cx F O w w' [Ow eI A n1 c r]) := by
 unfold m_dice_Dice_Choose at hm
 refine calls [.v (.pointer none), I n, I k_] Tryz.func14 rfl (of_decide_eq_true (by kernel_rfl)) ?_
 refine W_seq <| W_q [] .a qe (by kernel_rfl) ?_
 refine At_go <| W_seq <| W_seq <| W_reg <| WLs 1 [] (.n 10 (.v (.pointer none)) .a) qe (by kernel_rfl) ?_
 refine WL_op ?_
 obtain ⟨r_, h_r_, hm⟩ := ob hm
 refine Op_call [] 11 _ yz_go34 (by kernel_rfl) (c_dice_Dice_none_s4 (F := N0) (O := N0)  (Cx.refl _) _ h_r_) ?_
 rintro e_ w_ ⟨rfl, k_1⟩
 have k_2 := k.call k_1
 refine ⟨.b true, rfl, ?_⟩
 refine WL_nil <| At_go <| W_cond true (by kernel_rfl) (fun _ => ?_) (fun h => by cases h)
 refine W_seq <| W_q [] (.n 6 (sl none 0 0) (.n 7 (I 7) .z)) qe (by kernel_rfl) ?_
 refine At_go <| W_ret (At_tr ?_)
 have k_3 := k_2.nil eI
 obtain rfl := Option.some.inj hm
 refine At_rt [sl none 0 0, I 7] qe (by kernel_rfl) ?_
 exact ⟨none, 0, 0, k_3.len 0 rfl, rfl, k_3⟩

-- (*quern/dice.Dice).Fork
theorem c_dice_Dice_Fork {F O : Nat → Prop} {w : World} (name : List UInt8) (A_name : Option Addr) (n_name : Nat) (c_name : Nat) (h_name : Ro F w A_name (e8.all name)) (hn_name : name.length = n_name) (hc_name : n_name ≤ c_name) (k : Cx F O w w []) (r : Unit) (hm : m_dice_Dice_Fork name = some r) :
    Calls Tryz.prog 15 (vals [.v (.pointer none), sl A_name n_name c_name]) w (fun e w' => e = .returned (SV.val (.tup [.v (.pointer none), I 7])) ∧ Cx F O w w' []) := by
 unfold m_dice_Dice_Fork at hm
 subst hn_name
 refine calls [.v (.pointer none), sl A_name name.length c_name] Tryz.func15 rfl (of_decide_eq_true (by kernel_rfl)) ?_
 refine W_seq <| W_q [] .a qe (by kernel_rfl) ?_
 refine At_go <| W_seq <| W_seq <| W_reg <| WLs 1 [] (.n 8 (.v (.pointer none)) .a) qe (by kernel_rfl) ?_
 refine WL_op ?_
 obtain ⟨r_, h_r_, hm⟩ := ob hm
 refine Op_call [] 9 _ yz_go34 (by kernel_rfl) (c_dice_Dice_none_s4 (F := N0) (O := N0)  (Cx.refl _) _ h_r_) ?_
 rintro e_ w_ ⟨rfl, k_⟩
 have k_1 := k.call k_
 refine ⟨.b true, rfl, ?_⟩
 refine WL_nil <| At_go <| W_cond true (by kernel_rfl) (fun _ => ?_) (fun h => by cases h)
 refine W_seq <| W_q [] (.n 4 (.v (.pointer none)) (.n 5 (I 7) .z)) qe (by kernel_rfl) ?_
 refine At_go <| W_ret (At_tr ?_)
 obtain rfl := Option.some.inj hm
 refine At_rt [.v (.pointer none), I 7] qe (by kernel_rfl) ?_
 exact ⟨rfl, k_1⟩

-- (*quern/dice.Dice).Skip
theorem c_dice_Dice_Skip {F O : Nat → Prop} {w : World} (n : UInt64) (k : Cx F O w w []) (r : Unit) (hm : m_dice_Dice_Skip n = some r) :
    Calls Tryz.prog 16 (vals [.v (.pointer none), .u64 n]) w (fun e w' => e = .returned (SV.val (I 7)) ∧ Cx F O w w' []) := by
 unfold m_dice_Dice_Skip at hm
 refine calls [.v (.pointer none), .u64 n] Tryz.func16 rfl (of_decide_eq_true (by kernel_rfl)) ?_
 refine W_seq <| W_q [] .a qe (by kernel_rfl) ?_
 refine At_go <| W_seq <| W_seq <| W_reg <| WLs 1 [] (.n 5 (.v (.pointer none)) .a) qe (by kernel_rfl) ?_
 refine WL_op ?_
 obtain ⟨r_, h_r_, hm⟩ := ob hm
 refine Op_call [] 6 _ yz_go34 (by kernel_rfl) (c_dice_Dice_none_s4 (F := N0) (O := N0)  (Cx.refl _) _ h_r_) ?_
 rintro e_ w_ ⟨rfl, k_⟩
 have k_1 := k.call k_
 refine ⟨.b true, rfl, ?_⟩
 refine WL_nil <| At_go <| W_cond true (by kernel_rfl) (fun _ => ?_) (fun h => by cases h)
 refine W_seq <| W_q [] (.n 4 (I 7) .z) qe (by kernel_rfl) ?_
 refine At_go <| W_ret (At_tr ?_)
 obtain rfl := Option.some.inj hm
 refine At_rt [I 7] qe (by kernel_rfl) ?_
 exact ⟨rfl, k_1⟩

-- (*quern/dice.Dice).At
theorem c_dice_Dice_At {F O : Nat → Prop} {w : World} (k : Cx F O w w []) (r : Unit) (hm : m_dice_Dice_At = some r) :
    Calls Tryz.prog 17 (vals [.v (.pointer none)]) w (fun e w' => e = .returned (SV.val (.u64 0)) ∧ Cx F O w w' []) := by
 unfold m_dice_Dice_At at hm
 refine calls [.v (.pointer none)] Tryz.func17 rfl (of_decide_eq_true (by kernel_rfl)) ?_
 refine W_seq <| W_q [] .a qe (by kernel_rfl) ?_
 refine At_go <| W_seq <| W_seq <| W_reg <| WLs 1 [] (.n 3 (.v (.pointer none)) .a) qe (by kernel_rfl) ?_
 refine WL_op ?_
 obtain ⟨r_, h_r_, hm⟩ := ob hm
 refine Op_call [] 4 _ yz_go34 (by kernel_rfl) (c_dice_Dice_none_s4 (F := N0) (O := N0)  (Cx.refl _) _ h_r_) ?_
 rintro e_ w_ ⟨rfl, k_⟩
 have k_1 := k.call k_
 refine ⟨.b true, rfl, ?_⟩
 refine WL_nil <| At_go <| W_cond true (by kernel_rfl) (fun _ => ?_) (fun h => by cases h)
 refine W_seq <| W_q [] (.n 2 (.u64 0) .z) qe (by kernel_rfl) ?_
 refine At_go <| W_ret (At_tr ?_)
 obtain rfl := Option.some.inj hm
 refine At_rt [.u64 0] qe (by kernel_rfl) ?_
 exact ⟨rfl, k_1⟩

-- (*quern/dice.Dice).drawn
theorem c_dice_Dice_drawn_s2 {F O : Nat → Prop} {w : World} (d_seed : List UInt8) (work : UInt64) (g_d : Nat) (A_d_seed : Option Addr) (n_d_seed : Nat) (c_d_seed : Nat) (g_work : Nat) (k : Cx F O w w [Bx 29 g_d [sl A_d_seed n_d_seed c_d_seed, .v (.pointer none)], Ow e8 A_d_seed n_d_seed c_d_seed d_seed, Bx 22 g_work [.u64 work]]) (r : (List UInt8 × UInt64)) (hm : m_dice_Dice_drawn_s2 d_seed work = some r) :
    Calls Tryz.prog 32 (vals [pt g_d 0, .v (.func (.func 33) ⟨SV.vals []⟩ ⟨SV.vals [pt g_work 0]⟩)]) w (fun e w' => ∃ A n c, r.1.length = n ∧ e = .returned (SV.val (I 7)) ∧ Cx F O w w' [Bx 29 g_d [sl A n c, .v (.pointer none)], Ow e8 A n c r.1, Bx 22 g_work [.u64 r.2]]) := by
 unfold m_dice_Dice_drawn_s2 at hm
 obtain rfl := k.len 1 rfl
 refine calls [pt g_d 0, .v (.func (.func 33) ⟨SV.vals []⟩ ⟨SV.vals [pt g_work 0]⟩)] Tryz.func32 rfl (of_decide_eq_true (by kernel_rfl)) ?_
 refine W_seq <| W_reg <| WL_op <| Op_box [] 2 (pt g_d 0) [pt g_d 0] (by kernel_rfl) k ?_
 intro g w_ k_
 refine WLs 1 [] (.k (.s .a)) qe (by kernel_rfl) ?_
 refine WL_nil <| At_go <| W_seq <| W_seq <| W_reg <| WLs 1 [] (.n 7 (pt g_d 0) .a) (qB k_ 3 rfl 0 (pt g_d 0) (by kernel_rfl) <| qe) (by kernel_rfl) ?_
 refine WL_op ?_
 obtain ⟨r_, h_r_, hm⟩ := ob hm
 obtain ⟨F1, O1, kin, hO, hre, hF, hb⟩ := k_.go (.i (.i (.r (.r .e))))
 refine Op_call [] 8 _ yz_go34 (by kernel_rfl) (c_dice_Dice_none (F := F1) (O := O1) _ _ _ _ _ kin _ h_r_) ?_
 rintro e_ w_1 ⟨A0, _, c0, rfl, rfl, k_1⟩
 have k_2 := hb w_1 _ _ k_1 (.c (.c .n))
 refine ⟨.b true, rfl, ?_⟩
 refine WL_nil <| At_go <| W_cond true (by kernel_rfl) (fun _ => ?_) (fun h => by cases h)
 refine W_seq <| W_q [] (.n 4 (I 7) .z) qe (by kernel_rfl) ?_
 refine At_go <| W_ret (At_tr ?_)
 obtain rfl := Option.some.inj hm
 refine At_rt [I 7] qe (by kernel_rfl) ?_
 have k_3 := k_2.sel (.kk (.k .z))
 exact ⟨A0, r_.length, c0, k_3.len 1 rfl, rfl, k_3⟩

-- (*quern/dice.Dice).Word
theorem c_dice_Dice_Word_s1 {F O : Nat → Prop} {w : World} (d_seed : List UInt8) (g_d : Nat) (A_d_seed : Option Addr) (n_d_seed : Nat) (c_d_seed : Nat) (k : Cx F O w w [Bx 29 g_d [sl A_d_seed n_d_seed c_d_seed, .v (.pointer none)], Ow e8 A_d_seed n_d_seed c_d_seed d_seed]) (r : (List UInt8)) (hm : m_dice_Dice_Word_s1 d_seed = some r) :
    Calls Tryz.prog 6 (vals [pt g_d 0]) w (fun e w' => ∃ A n c, r.length = n ∧ e = .returned (SV.val (.tup [.u64 0, I 7])) ∧ Cx F O w w' [Bx 29 g_d [sl A n c, .v (.pointer none)], Ow e8 A n c r]) := by
 unfold m_dice_Dice_Word_s1 at hm
 obtain rfl := k.len 1 rfl
 refine calls [pt g_d 0] Tryz.func6 rfl (of_decide_eq_true (by kernel_rfl)) ?_
 refine W_seq <| W_q [] .a qe (by kernel_rfl) ?_
 refine At_go <| W_seq <| W_reg <| WL_op <| Op_alloc [] 4 [.u64 0] (by kernel_rfl) k ?_
 intro g w_ k_
 refine WL_op <| Op_b [] 2 (.u64 0) [.u64 0] (Pt.at g 0) k_ rfl .all (by kernel_rfl) (by kernel_rfl) ?_
 intro w_1 k_1
 refine WL_nil <| At_go <| W_seq <| W_reg <| WLs 2 [] (.n 6 (pt g_d 0) (.n 7 (.v (.func (.func 33) ⟨SV.vals []⟩ ⟨SV.vals [pt g 0]⟩)) (.k .z))) qe (by kernel_rfl) ?_
 refine WL_op ?_
 obtain ⟨r_, h_r_, hm⟩ := ob hm
 obtain ⟨F1, O1, kin, hO, hre, hF, hb⟩ := k_1.go (.i (.i (.i .e)))
 refine Op_call [] 8 _ yz_go32 (by kernel_rfl) (c_dice_Dice_drawn_s2 (F := F1) (O := O1) _ _ _ _ _ _ _ kin _ h_r_) ?_
 rintro e_ w_2 ⟨A0, _, c0, rfl, rfl, k_2⟩
 have k_3 := hb w_2 _ _ k_2 (.c (.c (.c .n)))
 refine ⟨I 7, rfl, ?_⟩
 refine WLs 1 [] (.n 5 (I 7) (.sss .a)) qe (by kernel_rfl) ?_
 refine WL_nil <| At_go <| W_seq <| W_seq <| W_q [] (.n 10 (.b true) .a) qe (by kernel_rfl) ?_
 refine At_go <| W_cond true (by kernel_rfl) (fun _ => ?_) (fun h => by cases h)
 refine W_seq <| W_q [] (.n 2 (.u64 0) (.n 3 (I 7) .z)) qe (by kernel_rfl) ?_
 refine At_go <| W_ret (At_tr ?_)
 obtain rfl := Option.some.inj hm
 refine At_rt [.u64 0, I 7] qe (by kernel_rfl) ?_
 have k_4 := k_3.sel (.kk .z)
 exact ⟨A0, r_.1.length, c0, k_4.len 1 rfl, rfl, k_4⟩

-- (*quern/dice.Dice).Below
theorem c_dice_Dice_Below_s1 {F O : Nat → Prop} {w : World} (d_seed : List UInt8) (n : UInt64) (g_d : Nat) (A_d_seed : Option Addr) (n_d_seed : Nat) (c_d_seed : Nat) (k : Cx F O w w [Bx 29 g_d [sl A_d_seed n_d_seed c_d_seed, .v (.pointer none)], Ow e8 A_d_seed n_d_seed c_d_seed d_seed]) (r : (List UInt8)) (hm : m_dice_Dice_Below_s1 d_seed n = some r) :
    Calls Tryz.prog 7 (vals [pt g_d 0, .u64 n]) w (fun e w' => ∃ A n1 c, r.length = n1 ∧ e = .returned (SV.val (.tup [.u64 0, I 7])) ∧ Cx F O w w' [Bx 29 g_d [sl A n1 c, .v (.pointer none)], Ow e8 A n1 c r]) := by
 unfold m_dice_Dice_Below_s1 at hm
 obtain rfl := k.len 1 rfl
 refine calls [pt g_d 0, .u64 n] Tryz.func7 rfl (of_decide_eq_true (by kernel_rfl)) ?_
 refine W_seq <| W_reg <| WL_op <| Op_box [] 3 (.u64 n) [.u64 n] (by kernel_rfl) k ?_
 intro g w_ k_
 refine WLs 2 [] (.kk .z) qe (by kernel_rfl) ?_
 refine WL_nil <| At_go <| W_seq <| W_seq <| W_reg <| WLs 1 [] (.n 8 (pt g_d 0) .a) qe (by kernel_rfl) ?_
 refine WL_op ?_
 obtain ⟨r_, h_r_, hm⟩ := ob hm
 obtain ⟨F1, O1, kin, hO, hre, hF, hb⟩ := k_.go (.i (.i (.r .e)))
 refine Op_call [] 9 _ yz_go34 (by kernel_rfl) (c_dice_Dice_none (F := F1) (O := O1) _ _ _ _ _ kin _ h_r_) ?_
 rintro e_ w_1 ⟨A0, _, c0, rfl, rfl, k_1⟩
 have k_2 := hb w_1 _ _ k_1 (.c (.c .n))
 refine ⟨.b true, rfl, ?_⟩
 refine WL_nil <| At_go <| W_cond true (by kernel_rfl) (fun _ => ?_) (fun h => by cases h)
 refine W_seq <| W_q [] (.n 4 (.u64 0) (.n 5 (I 7) .z)) qe (by kernel_rfl) ?_
 refine At_go <| W_ret (At_tr ?_)
 obtain rfl := Option.some.inj hm
 refine At_rt [.u64 0, I 7] qe (by kernel_rfl) ?_
 have k_3 := k_2.sel (.kk .z)
 exact ⟨A0, r_.length, c0, k_3.len 1 rfl, rfl, k_3⟩

-- (*quern/dice.Dice).Share
theorem c_dice_Dice_Share_s1 {F O : Nat → Prop} {w : World} (d_seed : List UInt8) (g_d : Nat) (A_d_seed : Option Addr) (n_d_seed : Nat) (c_d_seed : Nat) (k : Cx F O w w [Bx 29 g_d [sl A_d_seed n_d_seed c_d_seed, .v (.pointer none)], Ow e8 A_d_seed n_d_seed c_d_seed d_seed]) (r : (List UInt8)) (hm : m_dice_Dice_Share_s1 d_seed = some r) :
    Calls Tryz.prog 8 (vals [pt g_d 0]) w (fun e w' => ∃ A n c, r.length = n ∧ e = .returned (SV.val (.tup [.v (.float .f64 0), I 7])) ∧ Cx F O w w' [Bx 29 g_d [sl A n c, .v (.pointer none)], Ow e8 A n c r]) := by
 unfold m_dice_Dice_Share_s1 at hm
 obtain rfl := k.len 1 rfl
 refine calls [pt g_d 0] Tryz.func8 rfl (of_decide_eq_true (by kernel_rfl)) ?_
 refine W_seq <| W_q [] .a qe (by kernel_rfl) ?_
 refine At_go <| W_seq <| W_reg <| WLs 1 [] (.n 7 (pt g_d 0) .z) qe (by kernel_rfl) ?_
 refine WL_op ?_
 obtain ⟨r_, h_r_, hm⟩ := ob hm
 obtain ⟨F1, O1, kin, hO, hre, hF, hb⟩ := k.go (.i (.i .e))
 refine Op_call [] 8 _ yz_go6 (by kernel_rfl) (c_dice_Dice_Word_s1 (F := F1) (O := O1) _ _ _ _ _ kin _ h_r_) ?_
 rintro e_ w_ ⟨A0, _, c0, rfl, rfl, k_⟩
 have k_1 := hb w_ _ _ k_ (.c (.c .n))
 refine ⟨.tup [.u64 0, I 7], rfl, ?_⟩
 refine WLs 5 [] (.n 4 (.u64 0) (.n 5 (I 7) .z)) qe (by kernel_rfl) ?_
 refine WL_nil <| At_go <| W_seq <| W_reg <| WLs 1 [] (.n 11 (.u64 0) (.s .a)) qe (by kernel_rfl) ?_
 refine WL_op ?_
 obtain ⟨r_1, h_r_1, hm⟩ := ob hm
 refine Op_call [] 12 _ yz_go37 (by kernel_rfl) (c_dice_share (F := N0) (O := N0)  (Cx.refl _) _ h_r_1) ?_
 rintro e_ w_1 ⟨rfl, k_2⟩
 have k_3 := k_1.call k_2
 refine ⟨.v (.float .f64 0), rfl, ?_⟩
 refine WLs 3 [] (.n 2 (.v (.float .f64 0)) (.n 3 (I 7) .z)) qe (by kernel_rfl) ?_
 refine WL_nil <| At_go <| W_ret ?_
 obtain rfl := Option.some.inj hm
 refine At_rt [.v (.float .f64 0), I 7] qe (by kernel_rfl) ?_
 exact ⟨A0, r_.length, c0, k_3.len 1 rfl, rfl, k_3⟩

-- (*quern/dice.Dice).Between
theorem c_dice_Dice_Between_s1 {F O : Nat → Prop} {w : World} (d_seed : List UInt8) (g_d : Nat) (A_d_seed : Option Addr) (n_d_seed : Nat) (c_d_seed : Nat) (k : Cx F O w w [Bx 29 g_d [sl A_d_seed n_d_seed c_d_seed, .v (.pointer none)], Ow e8 A_d_seed n_d_seed c_d_seed d_seed]) (r : (List UInt8)) (hm : m_dice_Dice_Between_s1 d_seed = some r) :
    Calls Tryz.prog 9 (vals [pt g_d 0, .v (.float .f64 4607182418800017408), .v (.float .f64 4611686018427387904)]) w (fun e w' => ∃ A n c, r.length = n ∧ e = .returned (SV.val (.tup [.v (.float .f64 0), I 7])) ∧ Cx F O w w' [Bx 29 g_d [sl A n c, .v (.pointer none)], Ow e8 A n c r]) := by
 unfold m_dice_Dice_Between_s1 at hm
 obtain rfl := k.len 1 rfl
 refine calls [pt g_d 0, .v (.float .f64 4607182418800017408), .v (.float .f64 4611686018427387904)] Tryz.func9 rfl (of_decide_eq_true (by kernel_rfl)) ?_
 refine W_seq <| W_q [] .a qe (by kernel_rfl) ?_
 refine At_go <| W_seq <| W_seq <| W_reg <| WLs 1 [] (.n 10 (pt g_d 0) .a) qe (by kernel_rfl) ?_
 refine WL_op ?_
 obtain ⟨r_, h_r_, hm⟩ := ob hm
 obtain ⟨F1, O1, kin, hO, hre, hF, hb⟩ := k.go (.i (.i .e))
 refine Op_call [] 11 _ yz_go34 (by kernel_rfl) (c_dice_Dice_none (F := F1) (O := O1) _ _ _ _ _ kin _ h_r_) ?_
 rintro e_ w_ ⟨A0, _, c0, rfl, rfl, k_⟩
 have k_1 := hb w_ _ _ k_ (.c (.c .n))
 refine ⟨.b true, rfl, ?_⟩
 refine WL_nil <| At_go <| W_cond true (by kernel_rfl) (fun _ => ?_) (fun h => by cases h)
 refine W_seq <| W_q [] (.n 6 (.v (.float .f64 0)) (.n 7 (I 7) .z)) qe (by kernel_rfl) ?_
 refine At_go <| W_ret (At_tr ?_)
 obtain rfl := Option.some.inj hm
 refine At_rt [.v (.float .f64 0), I 7] qe (by kernel_rfl) ?_
 exact ⟨A0, r_.length, c0, k_1.len 1 rfl, rfl, k_1⟩

-- (*quern/dice.Dice).drawn
theorem c_dice_Dice_drawn_s3 {F O : Nat → Prop} {w : World} (d_seed : List UInt8) (g_d : Nat) (A_d_seed : Option Addr) (n_d_seed : Nat) (c_d_seed : Nat) (g_work : Nat) (k : Cx F O w w [Bx 29 g_d [sl A_d_seed n_d_seed c_d_seed, .v (.pointer none)], Ow e8 A_d_seed n_d_seed c_d_seed d_seed, Bx 35 g_work [.v (.float .f64 0)]]) (r : (List UInt8)) (hm : m_dice_Dice_drawn_s3 d_seed = some r) :
    Calls Tryz.prog 32 (vals [pt g_d 0, .v (.func (.func 40) ⟨SV.vals []⟩ ⟨SV.vals [pt g_work 0]⟩)]) w (fun e w' => ∃ A n c, r.length = n ∧ e = .returned (SV.val (I 7)) ∧ Cx F O w w' [Bx 29 g_d [sl A n c, .v (.pointer none)], Ow e8 A n c r, Bx 35 g_work [.v (.float .f64 0)]]) := by
 unfold m_dice_Dice_drawn_s3 at hm
 obtain rfl := k.len 1 rfl
 refine calls [pt g_d 0, .v (.func (.func 40) ⟨SV.vals []⟩ ⟨SV.vals [pt g_work 0]⟩)] Tryz.func32 rfl (of_decide_eq_true (by kernel_rfl)) ?_
 refine W_seq <| W_reg <| WL_op <| Op_box [] 2 (pt g_d 0) [pt g_d 0] (by kernel_rfl) k ?_
 intro g w_ k_
 refine WLs 1 [] (.k (.s .a)) qe (by kernel_rfl) ?_
 refine WL_nil <| At_go <| W_seq <| W_seq <| W_reg <| WLs 1 [] (.n 7 (pt g_d 0) .a) (qB k_ 3 rfl 0 (pt g_d 0) (by kernel_rfl) <| qe) (by kernel_rfl) ?_
 refine WL_op ?_
 obtain ⟨r_, h_r_, hm⟩ := ob hm
 obtain ⟨F1, O1, kin, hO, hre, hF, hb⟩ := k_.go (.i (.i (.r (.r .e))))
 refine Op_call [] 8 _ yz_go34 (by kernel_rfl) (c_dice_Dice_none (F := F1) (O := O1) _ _ _ _ _ kin _ h_r_) ?_
 rintro e_ w_1 ⟨A0, _, c0, rfl, rfl, k_1⟩
 have k_2 := hb w_1 _ _ k_1 (.c (.c .n))
 refine ⟨.b true, rfl, ?_⟩
 refine WL_nil <| At_go <| W_cond true (by kernel_rfl) (fun _ => ?_) (fun h => by cases h)
 refine W_seq <| W_q [] (.n 4 (I 7) .z) qe (by kernel_rfl) ?_
 refine At_go <| W_ret (At_tr ?_)
 obtain rfl := Option.some.inj hm
 refine At_rt [I 7] qe (by kernel_rfl) ?_
 have k_3 := k_2.sel (.kk (.k .z))
 exact ⟨A0, r_.length, c0, k_3.len 1 rfl, rfl, k_3⟩

-- (*quern/dice.Dice).Bell
theorem c_dice_Dice_Bell_s1 {F O : Nat → Prop} {w : World} (d_seed : List UInt8) (g_d : Nat) (A_d_seed : Option Addr) (n_d_seed : Nat) (c_d_seed : Nat) (k : Cx F O w w [Bx 29 g_d [sl A_d_seed n_d_seed c_d_seed, .v (.pointer none)], Ow e8 A_d_seed n_d_seed c_d_seed d_seed]) (r : (List UInt8)) (hm : m_dice_Dice_Bell_s1 d_seed = some r) :
    Calls Tryz.prog 11 (vals [pt g_d 0]) w (fun e w' => ∃ A n c, r.length = n ∧ e = .returned (SV.val (.tup [.v (.float .f64 0), I 7])) ∧ Cx F O w w' [Bx 29 g_d [sl A n c, .v (.pointer none)], Ow e8 A n c r]) := by
 unfold m_dice_Dice_Bell_s1 at hm
 obtain rfl := k.len 1 rfl
 refine calls [pt g_d 0] Tryz.func11 rfl (of_decide_eq_true (by kernel_rfl)) ?_
 refine W_seq <| W_q [] .a qe (by kernel_rfl) ?_
 refine At_go <| W_seq <| W_reg <| WL_op <| Op_alloc [] 4 [.v (.float .f64 0)] (by kernel_rfl) k ?_
 intro g w_ k_
 refine WL_op <| Op_b [] 2 (.v (.float .f64 0)) [.v (.float .f64 0)] (Pt.at g 0) k_ rfl .all (by kernel_rfl) (by kernel_rfl) ?_
 intro w_1 k_1
 refine WL_nil <| At_go <| W_seq <| W_reg <| WLs 2 [] (.n 6 (pt g_d 0) (.n 7 (.v (.func (.func 40) ⟨SV.vals []⟩ ⟨SV.vals [pt g 0]⟩)) (.k .z))) qe (by kernel_rfl) ?_
 refine WL_op ?_
 obtain ⟨r_, h_r_, hm⟩ := ob hm
 obtain ⟨F1, O1, kin, hO, hre, hF, hb⟩ := k_1.go (.i (.i (.i .e)))
 refine Op_call [] 8 _ yz_go32 (by kernel_rfl) (c_dice_Dice_drawn_s3 (F := F1) (O := O1) _ _ _ _ _ _ kin _ h_r_) ?_
 rintro e_ w_2 ⟨A0, _, c0, rfl, rfl, k_2⟩
 have k_3 := hb w_2 _ _ k_2 (.c (.c (.c .n)))
 refine ⟨I 7, rfl, ?_⟩
 refine WLs 1 [] (.n 5 (I 7) (.sss .a)) qe (by kernel_rfl) ?_
 refine WL_nil <| At_go <| W_seq <| W_seq <| W_q [] (.n 10 (.b true) .a) qe (by kernel_rfl) ?_
 refine At_go <| W_cond true (by kernel_rfl) (fun _ => ?_) (fun h => by cases h)
 refine W_seq <| W_q [] (.n 2 (.v (.float .f64 0)) (.n 3 (I 7) .z)) qe (by kernel_rfl) ?_
 refine At_go <| W_ret (At_tr ?_)
 obtain rfl := Option.some.inj hm
 refine At_rt [.v (.float .f64 0), I 7] qe (by kernel_rfl) ?_
 have k_4 := k_3.sel (.kk .z)
 exact ⟨A0, r_.length, c0, k_4.len 1 rfl, rfl, k_4⟩

-- (*quern/dice.Dice).Pick
theorem c_dice_Dice_Pick_s5 {F O : Nat → Prop} {w : World} (d_seed : List UInt8) (g_d : Nat) (A_d_seed : Option Addr) (n_d_seed : Nat) (c_d_seed : Nat) (A_weights : Option Addr) (n_weights : Nat) (c_weights : Nat) (k : Cx F O w w [Bx 29 g_d [sl A_d_seed n_d_seed c_d_seed, .v (.pointer none)], Ow e8 A_d_seed n_d_seed c_d_seed d_seed]) (r : (List UInt8)) (hm : m_dice_Dice_Pick_s5 d_seed = some r) :
    Calls Tryz.prog 12 (vals [pt g_d 0, sl A_weights n_weights c_weights]) w (fun e w' => ∃ A n c, r.length = n ∧ e = .returned (SV.val (.tup [I 0, I 7])) ∧ Cx F O w w' [Bx 29 g_d [sl A n c, .v (.pointer none)], Ow e8 A n c r]) := by
 unfold m_dice_Dice_Pick_s5 at hm
 obtain rfl := k.len 1 rfl
 refine calls [pt g_d 0, sl A_weights n_weights c_weights] Tryz.func12 rfl (of_decide_eq_true (by kernel_rfl)) ?_
 refine W_seq <| W_q [] .a qe (by kernel_rfl) ?_
 refine At_go <| W_seq <| W_seq <| W_reg <| WLs 1 [] (.n 16 (pt g_d 0) .a) qe (by kernel_rfl) ?_
 refine WL_op ?_
 obtain ⟨r_, h_r_, hm⟩ := ob hm
 obtain ⟨F1, O1, kin, hO, hre, hF, hb⟩ := k.go (.i (.i .e))
 refine Op_call [] 17 _ yz_go34 (by kernel_rfl) (c_dice_Dice_none (F := F1) (O := O1) _ _ _ _ _ kin _ h_r_) ?_
 rintro e_ w_ ⟨A0, _, c0, rfl, rfl, k_⟩
 have k_1 := hb w_ _ _ k_ (.c (.c .n))
 refine ⟨.b true, rfl, ?_⟩
 refine WL_nil <| At_go <| W_cond true (by kernel_rfl) (fun _ => ?_) (fun h => by cases h)
 refine W_seq <| W_q [] (.n 4 (I 0) (.n 5 (I 7) .z)) qe (by kernel_rfl) ?_
 refine At_go <| W_ret (At_tr ?_)
 obtain rfl := Option.some.inj hm
 refine At_rt [I 0, I 7] qe (by kernel_rfl) ?_
 exact ⟨A0, r_.length, c0, k_1.len 1 rfl, rfl, k_1⟩

-- (*quern/dice.Dice).Order
theorem c_dice_Dice_Order_s1 {F O : Nat → Prop} {w : World} (d_seed : List UInt8) (n : Int) (g_d : Nat) (A_d_seed : Option Addr) (n_d_seed : Nat) (c_d_seed : Nat) (k : Cx F O w w [Bx 29 g_d [sl A_d_seed n_d_seed c_d_seed, .v (.pointer none)], Ow e8 A_d_seed n_d_seed c_d_seed d_seed]) (r : (List Int × List UInt8)) (hm : m_dice_Dice_Order_s1 d_seed n = some r) :
    Calls Tryz.prog 13 (vals [pt g_d 0, I n]) w (fun e w' => ∃ A n1 c A1 n2 c1, r.1.length = n1 ∧ r.2.length = n2 ∧ e = .returned (SV.val (.tup [sl A n1 c, I 7])) ∧ Cx F O w w' [Ow eI A n1 c r.1, Bx 29 g_d [sl A1 n2 c1, .v (.pointer none)], Ow e8 A1 n2 c1 r.2]) := by
 unfold m_dice_Dice_Order_s1 at hm
 obtain rfl := k.len 1 rfl
 refine calls [pt g_d 0, I n] Tryz.func13 rfl (of_decide_eq_true (by kernel_rfl)) ?_
 refine W_seq <| W_reg <| WL_op <| Op_box [] 3 (I n) [I n] (by kernel_rfl) k ?_
 intro g w_ k_
 refine WLs 2 [] (.kk .z) qe (by kernel_rfl) ?_
 refine WL_nil <| At_go <| W_seq <| W_seq <| W_reg <| WLs 1 [] (.n 9 (pt g_d 0) .a) qe (by kernel_rfl) ?_
 refine WL_op ?_
 obtain ⟨r_, h_r_, hm⟩ := ob hm
 obtain ⟨F1, O1, kin, hO, hre, hF, hb⟩ := k_.go (.i (.i (.r .e)))
 refine Op_call [] 10 _ yz_go34 (by kernel_rfl) (c_dice_Dice_none (F := F1) (O := O1) _ _ _ _ _ kin _ h_r_) ?_
 rintro e_ w_1 ⟨A0, _, c0, rfl, rfl, k_1⟩
 have k_2 := hb w_1 _ _ k_1 (.c (.c .n))
 refine ⟨.b true, rfl, ?_⟩
 refine WL_nil <| At_go <| W_cond true (by kernel_rfl) (fun _ => ?_) (fun h => by cases h)
 refine W_seq <| W_q [] (.n 4 (sl none 0 0) (.n 5 (I 7) .z)) qe (by kernel_rfl) ?_
 refine At_go <| W_ret (At_tr ?_)
 have k_3 := k_2.nil eI
 obtain rfl := Option.some.inj hm
 refine At_rt [sl none 0 0, I 7] qe (by kernel_rfl) ?_
 have k_4 := (((k_3.pk (.t .h)).pk (.t .h)).pk (.t (.t (.t .h)))).sel (.kk (.k .z))
 exact ⟨none, 0, 0, A0, r_.length, c0, k_4.len 0 rfl, k_4.len 2 rfl, rfl, k_4⟩

-- (*quern/dice.Dice).Choose
theorem c_dice_Dice_Choose_s1 {F O : Nat → Prop} {w : World} (d_seed : List UInt8) (n : Int) (k_ : Int) (g_d : Nat) (A_d_seed : Option Addr) (n_d_seed : Nat) (c_d_seed : Nat) (k : Cx F O w w [Bx 29 g_d [sl A_d_seed n_d_seed c_d_seed, .v (.pointer none)], Ow e8 A_d_seed n_d_seed c_d_seed d_seed]) (r : (List Int × List UInt8)) (hm : m_dice_Dice_Choose_s1 d_seed n k_ = some r) :
    Calls Tryz.prog 14 (vals [pt g_d 0, I n, I k_]) w (fun e w' => ∃ A n1 c A1 n2 c1, r.1.length = n1 ∧ r.2.length = n2 ∧ e = .returned (SV.val (.tup [sl A n1 c, I 7])) ∧ Cx F O w w' [Ow eI A n1 c r.1, Bx 29 g_d [sl A1 n2 c1, .v (.pointer none)], Ow e8 A1 n2 c1 r.2]) := by
 unfold m_dice_Dice_Choose_s1 at hm
 obtain rfl := k.len 1 rfl
 refine calls [pt g_d 0, I n, I k_] Tryz.func14 rfl (of_decide_eq_true (by kernel_rfl)) ?_
 refine W_seq <| W_q [] .a qe (by kernel_rfl) ?_
 refine At_go <| W_seq <| W_seq <| W_reg <| WLs 1 [] (.n 10 (pt g_d 0) .a) qe (by kernel_rfl) ?_
 refine WL_op ?_
 obtain ⟨r_, h_r_, hm⟩ := ob hm
 obtain ⟨F1, O1, kin, hO, hre, hF, hb⟩ := k.go (.i (.i .e))
 refine Op_call [] 11 _ yz_go34 (by kernel_rfl) (c_dice_Dice_none (F := F1) (O := O1) _ _ _ _ _ kin _ h_r_) ?_
 rintro e_ w_ ⟨A0, _, c0, rfl, rfl, k_1⟩
 have k_2 := hb w_ _ _ k_1 (.c (.c .n))
 refine ⟨.b true, rfl, ?_⟩
 refine WL_nil <| At_go <| W_cond true (by kernel_rfl) (fun _ => ?_) (fun h => by cases h)
 refine W_seq <| W_q [] (.n 6 (sl none 0 0) (.n 7 (I 7) .z)) qe (by kernel_rfl) ?_
 refine At_go <| W_ret (At_tr ?_)
 have k_3 := k_2.nil eI
 obtain rfl := Option.some.inj hm
 refine At_rt [sl none 0 0, I 7] qe (by kernel_rfl) ?_
 have k_4 := ((k_3.pk (.t .h)).pk (.t .h)).pk (.t (.t .h))
 exact ⟨none, 0, 0, A0, r_.length, c0, k_4.len 0 rfl, k_4.len 2 rfl, rfl, k_4⟩

-- (*quern/dice.Dice).Fork
theorem c_dice_Dice_Fork_s1 {F O : Nat → Prop} {w : World} (d_seed : List UInt8) (name : List UInt8) (g_d : Nat) (A_d_seed : Option Addr) (n_d_seed : Nat) (c_d_seed : Nat) (A_name : Option Addr) (n_name : Nat) (c_name : Nat) (h_name : Ro F w A_name (e8.all name)) (hn_name : name.length = n_name) (hc_name : n_name ≤ c_name) (k : Cx F O w w [Bx 29 g_d [sl A_d_seed n_d_seed c_d_seed, .v (.pointer none)], Ow e8 A_d_seed n_d_seed c_d_seed d_seed]) (r : (List UInt8)) (hm : m_dice_Dice_Fork_s1 d_seed name = some r) :
    Calls Tryz.prog 15 (vals [pt g_d 0, sl A_name n_name c_name]) w (fun e w' => ∃ A n c, r.length = n ∧ e = .returned (SV.val (.tup [.v (.pointer none), I 7])) ∧ Cx F O w w' [Bx 29 g_d [sl A n c, .v (.pointer none)], Ow e8 A n c r]) := by
 unfold m_dice_Dice_Fork_s1 at hm
 obtain rfl := k.len 1 rfl
 subst hn_name
 refine calls [pt g_d 0, sl A_name name.length c_name] Tryz.func15 rfl (of_decide_eq_true (by kernel_rfl)) ?_
 refine W_seq <| W_q [] .a qe (by kernel_rfl) ?_
 refine At_go <| W_seq <| W_seq <| W_reg <| WLs 1 [] (.n 8 (pt g_d 0) .a) qe (by kernel_rfl) ?_
 refine WL_op ?_
 obtain ⟨r_, h_r_, hm⟩ := ob hm
 obtain ⟨F1, O1, kin, hO, hre, hF, hb⟩ := k.go (.i (.i .e))
 refine Op_call [] 9 _ yz_go34 (by kernel_rfl) (c_dice_Dice_none (F := F1) (O := O1) _ _ _ _ _ kin _ h_r_) ?_
 rintro e_ w_ ⟨A0, _, c0, rfl, rfl, k_⟩
 have k_1 := hb w_ _ _ k_ (.c (.c .n))
 refine ⟨.b true, rfl, ?_⟩
 refine WL_nil <| At_go <| W_cond true (by kernel_rfl) (fun _ => ?_) (fun h => by cases h)
 refine W_seq <| W_q [] (.n 4 (.v (.pointer none)) (.n 5 (I 7) .z)) qe (by kernel_rfl) ?_
 refine At_go <| W_ret (At_tr ?_)
 obtain rfl := Option.some.inj hm
 refine At_rt [.v (.pointer none), I 7] qe (by kernel_rfl) ?_
 exact ⟨A0, r_.length, c0, k_1.len 1 rfl, rfl, k_1⟩

-- (*quern/dice.Dice).Skip
theorem c_dice_Dice_Skip_s1 {F O : Nat → Prop} {w : World} (d_seed : List UInt8) (n : UInt64) (g_d : Nat) (A_d_seed : Option Addr) (n_d_seed : Nat) (c_d_seed : Nat) (k : Cx F O w w [Bx 29 g_d [sl A_d_seed n_d_seed c_d_seed, .v (.pointer none)], Ow e8 A_d_seed n_d_seed c_d_seed d_seed]) (r : (List UInt8)) (hm : m_dice_Dice_Skip_s1 d_seed n = some r) :
    Calls Tryz.prog 16 (vals [pt g_d 0, .u64 n]) w (fun e w' => ∃ A n1 c, r.length = n1 ∧ e = .returned (SV.val (I 7)) ∧ Cx F O w w' [Bx 29 g_d [sl A n1 c, .v (.pointer none)], Ow e8 A n1 c r]) := by
 unfold m_dice_Dice_Skip_s1 at hm
 obtain rfl := k.len 1 rfl
 refine calls [pt g_d 0, .u64 n] Tryz.func16 rfl (of_decide_eq_true (by kernel_rfl)) ?_
 refine W_seq <| W_q [] .a qe (by kernel_rfl) ?_
 refine At_go <| W_seq <| W_seq <| W_reg <| WLs 1 [] (.n 5 (pt g_d 0) .a) qe (by kernel_rfl) ?_
 refine WL_op ?_
 obtain ⟨r_, h_r_, hm⟩ := ob hm
 obtain ⟨F1, O1, kin, hO, hre, hF, hb⟩ := k.go (.i (.i .e))
 refine Op_call [] 6 _ yz_go34 (by kernel_rfl) (c_dice_Dice_none (F := F1) (O := O1) _ _ _ _ _ kin _ h_r_) ?_
 rintro e_ w_ ⟨A0, _, c0, rfl, rfl, k_⟩
 have k_1 := hb w_ _ _ k_ (.c (.c .n))
 refine ⟨.b true, rfl, ?_⟩
 refine WL_nil <| At_go <| W_cond true (by kernel_rfl) (fun _ => ?_) (fun h => by cases h)
 refine W_seq <| W_q [] (.n 4 (I 7) .z) qe (by kernel_rfl) ?_
 refine At_go <| W_ret (At_tr ?_)
 obtain rfl := Option.some.inj hm
 refine At_rt [I 7] qe (by kernel_rfl) ?_
 exact ⟨A0, r_.length, c0, k_1.len 1 rfl, rfl, k_1⟩

-- (*quern/dice.Dice).At
theorem c_dice_Dice_At_s1 {F O : Nat → Prop} {w : World} (d_seed : List UInt8) (g_d : Nat) (A_d_seed : Option Addr) (n_d_seed : Nat) (c_d_seed : Nat) (k : Cx F O w w [Bx 29 g_d [sl A_d_seed n_d_seed c_d_seed, .v (.pointer none)], Ow e8 A_d_seed n_d_seed c_d_seed d_seed]) (r : (List UInt8)) (hm : m_dice_Dice_At_s1 d_seed = some r) :
    Calls Tryz.prog 17 (vals [pt g_d 0]) w (fun e w' => ∃ A n c, r.length = n ∧ e = .returned (SV.val (.u64 0)) ∧ Cx F O w w' [Bx 29 g_d [sl A n c, .v (.pointer none)], Ow e8 A n c r]) := by
 unfold m_dice_Dice_At_s1 at hm
 obtain rfl := k.len 1 rfl
 refine calls [pt g_d 0] Tryz.func17 rfl (of_decide_eq_true (by kernel_rfl)) ?_
 refine W_seq <| W_q [] .a qe (by kernel_rfl) ?_
 refine At_go <| W_seq <| W_seq <| W_reg <| WLs 1 [] (.n 3 (pt g_d 0) .a) qe (by kernel_rfl) ?_
 refine WL_op ?_
 obtain ⟨r_, h_r_, hm⟩ := ob hm
 obtain ⟨F1, O1, kin, hO, hre, hF, hb⟩ := k.go (.i (.i .e))
 refine Op_call [] 4 _ yz_go34 (by kernel_rfl) (c_dice_Dice_none (F := F1) (O := O1) _ _ _ _ _ kin _ h_r_) ?_
 rintro e_ w_ ⟨A0, _, c0, rfl, rfl, k_⟩
 have k_1 := hb w_ _ _ k_ (.c (.c .n))
 refine ⟨.b true, rfl, ?_⟩
 refine WL_nil <| At_go <| W_cond true (by kernel_rfl) (fun _ => ?_) (fun h => by cases h)
 refine W_seq <| W_q [] (.n 2 (.u64 0) .z) qe (by kernel_rfl) ?_
 refine At_go <| W_ret (At_tr ?_)
 obtain rfl := Option.some.inj hm
 refine At_rt [.u64 0] qe (by kernel_rfl) ?_
 exact ⟨A0, r_.length, c0, k_1.len 1 rfl, rfl, k_1⟩

-- quern/quernlaw25.DiceNil
theorem c_l25_DiceNil {F O : Nat → Prop} {w : World} (n : UInt64) (k_ : Int) (A_l : Option Addr) (n_l : Nat) (c_l : Nat) (k : Cx F O w w []) (r : Bool) (hm : m_l25_DiceNil n k_ = some r) :
    Calls Tryz.prog 3 (vals [.u64 n, I k_, sl A_l n_l c_l]) w (fun e w' => e = .returned (SV.val (.b r)) ∧ Cx F O w w' []) := by
 unfold m_l25_DiceNil at hm
 refine calls [.u64 n, I k_, sl A_l n_l c_l] Tryz.func3 rfl (of_decide_eq_true (by kernel_rfl)) ?_
 refine W_seq <| W_q [] .a qe (by kernel_rfl) ?_
 refine At_go <| W_seq <| W_seq <| W_reg <| WL_op ?_
 obtain ⟨r_, h_r_, hm⟩ := ob hm
 refine Op_call [] 24 _ yz_go5 (by kernel_rfl) (c_l25_awake (F := N0) (O := N0)  (Cx.refl _) _ h_r_) ?_
 rintro e_ w_ ⟨rfl, k_1⟩
 have k_2 := k.call k_1
 refine ⟨.b r_, rfl, ?_⟩
 refine WLs 1 [] (.n 25 (.b (!r_)) (.s .a)) qe (by kernel_rfl) ?_
 refine WL_nil <| At_go <| W_cond (!r_) (by kernel_rfl) (fun hc => ?_) (fun hc => ?_)
 · rw [if_pos hc] at hm
   refine W_seq <| W_q [] (.n 6 (.b false) .z) qe (by kernel_rfl) ?_
   refine At_go <| W_ret (At_tr ?_)
   obtain rfl := Option.some.inj hm
   refine At_rt [.b false] qe (by kernel_rfl) ?_
   exact ⟨rfl, k_2⟩
 rw [if_neg (by rw [hc]; decide)] at hm
 refine W_skip <| At_go <| W_seq <| W_reg <| WLs 1 [] (.n 26 (.agg [sl none 0 0, .v (.pointer none)]) (.s .a)) qe (by kernel_rfl) ?_
 refine WL_op <| Op_box [] 27 (.agg [sl none 0 0, .v (.pointer none)]) [sl none 0 0, .v (.pointer none)] (by kernel_rfl) k_2 ?_
 intro g w_1 k_3
 refine WL_op <| Op_mk yz_tf30 eQ [] 28 ([(Option.none : Option Addr), (some ⟨g, 0, Option.none⟩ : Option Addr)] : List (Option Addr)) [(0, .v (.pointer none)), (1, pt g 0)] [.v (.pointer none), pt g 0] (by kernel_rfl) (by kernel_rfl) (by kernel_rfl) k_3 ?_
 intro A w_2 k_4
 refine WLs 1 [] (.n 7 (sl A 2 2) (.sss .a)) qe (by kernel_rfl) ?_
 refine WL_nil <| At_go <| W_seq <| W_seq <| W_q [] (.n 29 (sl A 2 2) (.n 30 (I 2) (.n 31 (I 0) (.s .a)))) qe (by kernel_rfl) ?_
 refine At_go <| W_block <| W_un ?_
 refine W_seq <| W_q [] (.n 32 (.b true) .a) qe (by kernel_rfl) ?_
 refine At_go <| W_seq <| W_cond true (by kernel_rfl) (fun _ => ?_) (fun h => by cases h)
 refine W_skip <| At_go <| W_seq <| W_block <| W_seq ?_
 have h : geti ([(Option.none : Option Addr), (some ⟨g, 0, Option.none⟩ : Option Addr)] : List (Option Addr)) (0 : Int) = some (Option.none : Option Addr) := rfl
 refine W_q [] (.n 9 (.v (.pointer none)) (.s .a)) (qJ (E := eQ) (k_4.rd 1 rfl) h (k_4.len 1 rfl) <| qC (.v (.pointer none)) (Rd.el (E := eQ) (k := 0) (k_4.rd 1 rfl) h (Pt.ix1 A (0 : Int) 1) rfl) <| qe) (by kernel_rfl) ?_
 refine At_go <| W_seq <| W_reg <| WLs 1 [] (.n 36 (.v (.pointer none)) .a) qe (by kernel_rfl) ?_
 refine WL_op ?_
 obtain ⟨r_1, h_r_1, hm⟩ := ob hm
 refine Op_call [] 37 _ yz_go6 (by kernel_rfl) (c_dice_Dice_Word (F := N0) (O := N0)  (Cx.refl _) _ h_r_1) ?_
 rintro e_ w_3 ⟨rfl, k_5⟩
 have k_6 := k_4.call k_5
 refine ⟨.tup [.u64 0, I 7], rfl, ?_⟩
 refine WLs 5 [] (.n 10 (.u64 0) (.n 11 (I 7) (.ss .a))) qe (by kernel_rfl) ?_
 refine WL_nil <| At_go <| W_seq <| W_reg <| WLs 2 [] (.n 41 (.v (.pointer none)) (.n 42 (.u64 n) .a)) qe (by kernel_rfl) ?_
 refine WL_op ?_
 have k_7 := k_6.sel (.kk .e)
 obtain ⟨r_2, h_r_2, hm⟩ := ob hm
 refine Op_call [] 43 _ yz_go7 (by kernel_rfl) (c_dice_Dice_Below (F := N0) (O := N0) _ (Cx.refl _) _ h_r_2) ?_
 rintro e_ w_4 ⟨rfl, k_8⟩
 have k_9 := k_7.call k_8
 refine ⟨.tup [.u64 0, I 7], rfl, ?_⟩
 refine WLs 5 [] (.n 12 (.u64 0) (.n 13 (I 7) (.sss .a))) qe (by kernel_rfl) ?_
 refine WL_nil <| At_go <| W_seq <| W_reg <| WLs 1 [] (.n 47 (.v (.pointer none)) .a) qe (by kernel_rfl) ?_
 refine WL_op ?_
 obtain ⟨r_3, h_r_3, hm⟩ := ob hm
 refine Op_call [] 48 _ yz_go8 (by kernel_rfl) (c_dice_Dice_Share (F := N0) (O := N0)  (Cx.refl _) _ h_r_3) ?_
 rintro e_ w_5 ⟨rfl, k_10⟩
 have k_11 := k_9.call k_10
 refine ⟨.tup [.v (.float .f64 0), I 7], rfl, ?_⟩
 refine WLs 5 [] (.n 14 (.v (.float .f64 0)) (.n 15 (I 7) (.ss .a))) qe (by kernel_rfl) ?_
 refine WL_nil <| At_go <| W_seq <| W_reg <| WLs 1 [] (.n 52 (.v (.pointer none)) .a) qe (by kernel_rfl) ?_
 refine WL_op ?_
 obtain ⟨r_4, h_r_4, hm⟩ := ob hm
 refine Op_call [] 53 _ yz_go9 (by kernel_rfl) (c_dice_Dice_Between (F := N0) (O := N0)  (Cx.refl _) _ h_r_4) ?_
 rintro e_ w_6 ⟨rfl, k_12⟩
 have k_13 := k_11.call k_12
 refine ⟨.tup [.v (.float .f64 0), I 7], rfl, ?_⟩
 refine WLs 5 [] (.n 16 (.v (.float .f64 0)) (.n 17 (I 7) (.ss .a))) qe (by kernel_rfl) ?_
 refine WL_nil <| At_go <| W_seq <| W_seq <| W_reg <| WLs 15 [58, 62, 66] (.n 70 (.b false) (.kkkk (.ssss .a))) qe (by kernel_rfl) ?_
 refine WLs 1 [70] (.n 71 (.v (.float .f64 0)) (.kkk (.s .a))) qe (by kernel_rfl) ?_
 refine WL_op ?_
 obtain ⟨r_5, h_r_5, hm⟩ := ob hm
 refine Op_call [70] 72 _ yz_go10 (by kernel_rfl) (c_l25_equal (F := N0) (O := N0)  (Cx.refl _) _ h_r_5) ?_
 rintro e_ w_7 ⟨rfl, k_14⟩
 have k_15 := k_13.call k_14
 refine ⟨.b r_5, rfl, ?_⟩
 refine WLs 7 [70] (.n 79 (.b ((!r_5) || false)) (.sss (.kk (.s .a)))) qe (by kernel_rfl) ?_
 refine WL_sp 79 ((!r_5) || false) (.s .a) (by kernel_rfl) (fun hg => ?_) (fun hg => ?_)
 · rw [if_pos hg] at hm
   refine WLs 8 [79, 84] (.n 87 (.b true) (.sss .a)) qe (by kernel_rfl) ?_
   refine WL_nil <| At_go <| W_cond true (by kernel_rfl) (fun _ => ?_) (fun h => by cases h)
   refine W_seq <| W_q [] (.n 6 (.b false) .z) qe (by kernel_rfl) ?_
   refine At_go <| W_ret (At_tr (At_ir (At_tr (At_tr (At_ir (At_tr ?_))))))
   obtain rfl := Option.some.inj hm
   refine At_rt [.b false] qe (by kernel_rfl) ?_
   have k_16 := k_15.sel .z
   exact ⟨rfl, k_16⟩
 · rw [if_neg (by rw [hg]; decide)] at hm
   refine WLs 1 [79] (.n 80 (.v (.float .f64 0)) (.k (.s .a))) qe (by kernel_rfl) ?_
   refine WL_op ?_
   have k_17 := k_15.sel (.kk .e)
   obtain ⟨r_6, h_r_6, hm⟩ := ob hm
   refine Op_call [79] 81 _ yz_go10 (by kernel_rfl) (c_l25_equal (F := N0) (O := N0)  (Cx.refl _) _ h_r_6) ?_
   rintro e_ w_8 ⟨rfl, k_18⟩
   have k_19 := k_17.call k_18
   refine ⟨.b r_6, rfl, ?_⟩
   refine WLs 6 [79] (.n 87 (.b ((!r_6) || false)) (.ssss .a)) qe (by kernel_rfl) ?_
   refine WL_nil <| At_go <| W_cond ((!r_6) || false) (by kernel_rfl) (fun hc1 => ?_) (fun hc1 => ?_)
   · rw [if_pos hc1] at hm
     refine W_seq <| W_q [] (.n 6 (.b false) .z) qe (by kernel_rfl) ?_
     refine At_go <| W_ret (At_tr (At_ir (At_tr (At_tr (At_ir (At_tr ?_))))))
     obtain rfl := Option.some.inj hm
     refine At_rt [.b false] qe (by kernel_rfl) ?_
     have k_20 := k_19.sel .z
     exact ⟨rfl, k_20⟩
   rw [if_neg (by rw [hc1]; decide)] at hm
   refine W_skip <| At_go <| W_seq <| W_reg <| WLs 1 [] (.n 89 (.v (.pointer none)) (.s .a)) qe (by kernel_rfl) ?_
   refine WL_op ?_
   obtain ⟨r_7, h_r_7, hm⟩ := ob hm
   refine Op_call [] 90 _ yz_go11 (by kernel_rfl) (c_dice_Dice_Bell (F := N0) (O := N0)  (Cx.refl _) _ h_r_7) ?_
   rintro e_ w_9 ⟨rfl, k_21⟩
   have k_22 := k_19.call k_21
   refine ⟨.tup [.v (.float .f64 0), I 7], rfl, ?_⟩
   refine WLs 5 [] (.n 11 (I 7) (.n 18 (.v (.float .f64 0)) (.ss .a))) qe (by kernel_rfl) ?_
   refine WL_nil <| At_go <| W_seq <| W_reg <| WLs 2 [] (.n 94 (.v (.pointer none)) (.n 95 (sl A_l n_l c_l) .a)) qe (by kernel_rfl) ?_
   refine WL_op ?_
   obtain ⟨r_8, h_r_8, hm⟩ := ob hm
   refine Op_call [] 96 _ yz_go12 (by kernel_rfl) (c_dice_Dice_Pick_s4 (F := N0) (O := N0) A_l n_l c_l (Cx.refl _) _ h_r_8) ?_
   rintro e_ w_10 ⟨rfl, k_23⟩
   have k_24 := k_22.call k_23
   refine ⟨.tup [I 0, I 7], rfl, ?_⟩
   refine WLs 5 [] (.n 13 (I 7) (.n 19 (I 0) (.sss .a))) qe (by kernel_rfl) ?_
   refine WL_nil <| At_go <| W_seq <| W_reg <| WLs 2 [] (.n 100 (.v (.pointer none)) (.n 101 (I k_) .a)) qe (by kernel_rfl) ?_
   refine WL_op ?_
   obtain ⟨r_9, h_r_9, hm⟩ := ob hm
   refine Op_call [] 102 _ yz_go13 (by kernel_rfl) (c_dice_Dice_Order (F := N0) (O := N0) _ (Cx.refl _) _ h_r_9) ?_
   rintro e_ w_11 ⟨A1, _, c, rfl, rfl, k_25⟩
   have k_26 := k_24.call k_25
   refine ⟨.tup [sl A1 r_9.length c, I 7], rfl, ?_⟩
   refine WLs 5 [] (.n 15 (I 7) (.n 20 (sl A1 r_9.length c) (.sss .a))) qe (by kernel_rfl) ?_
   refine WL_nil <| At_go <| W_seq <| W_reg <| WLs 3 [] (.n 106 (.v (.pointer none)) (.n 107 (I k_) (.n 108 (I k_) .a))) qe (by kernel_rfl) ?_
   refine WL_op ?_
   have k_27 := k_26.sel (.kk (.k .e))
   obtain ⟨r_10, h_r_10, hm⟩ := ob hm
   refine Op_call [] 109 _ yz_go14 (by kernel_rfl) (c_dice_Dice_Choose (F := N0) (O := N0) _ _ (Cx.refl _) _ h_r_10) ?_
   rintro e_ w_12 ⟨A2, _, c1, rfl, rfl, k_28⟩
   have k_29 := k_27.call k_28
   refine ⟨.tup [sl A2 r_10.length c1, I 7], rfl, ?_⟩
   refine WLs 5 [] (.n 17 (I 7) (.n 21 (sl A2 r_10.length c1) (.ssss .a))) qe (by kernel_rfl) ?_
   refine WL_nil <| At_go <| W_seq <| W_reg <| WLs 1 [] (.n 113 (.v (.pointer none)) .a) qe (by kernel_rfl) ?_
   refine WL_op ?_
   obtain ⟨r_11, h_r_11, hm⟩ := ob hm
   refine Op_call [] 114 _ yz_go15 (by kernel_rfl) (c_dice_Dice_Fork (F := N0) (O := N0) _ _ _ _ (Ro.nilE e8) rfl (Nat.le_refl 0) (Cx.refl _) _ h_r_11) ?_
   rintro e_ w_13 ⟨rfl, k_30⟩
   have k_31 := k_29.call k_30
   refine ⟨.tup [.v (.pointer none), I 7], rfl, ?_⟩
   refine WLs 5 [] (.n 22 (.v (.pointer none)) (.n 23 (I 7) (.ss .a))) qe (by kernel_rfl) ?_
   refine WL_nil <| At_go <| W_seq <| W_seq <| W_reg <| WLs 1 [] (.n 117 (.v (.float .f64 0)) (.kkkk (.kkkk (.k (.s .a))))) qe (by kernel_rfl) ?_
   refine WL_op ?_
   obtain ⟨r_12, h_r_12, hm⟩ := ob hm
   refine Op_call [] 118 _ yz_go10 (by kernel_rfl) (c_l25_equal (F := N0) (O := N0)  (Cx.refl _) _ h_r_12) ?_
   rintro e_ w_14 ⟨rfl, k_32⟩
   have k_33 := k_31.call k_32
   refine ⟨.b r_12, rfl, ?_⟩
   refine WLs 39 [] (.n 157 (.b ((((((((((!r_12) || false) || false) || false) || (decide (((r_9.length : Nat) : Int) ≠ 0))) || false) || (decide (((r_10.length : Nat) : Int) ≠ 0))) || false) || false) || false)) (.ssss (.ssss (.sss .a)))) qe (by kernel_rfl) ?_
   refine WL_nil <| At_go <| W_cond ((((((((((!r_12) || false) || false) || false) || (decide (((r_9.length : Nat) : Int) ≠ 0))) || false) || (decide (((r_10.length : Nat) : Int) ≠ 0))) || false) || false) || false) (by kernel_rfl) (fun hc2 => ?_) (fun hc2 => ?_)
   · rw [if_pos hc2] at hm
     refine W_seq <| W_q [] (.n 6 (.b false) .z) qe (by kernel_rfl) ?_
     refine At_go <| W_ret (At_tr (At_ir (At_tr (At_tr (At_ir (At_tr ?_))))))
     obtain rfl := Option.some.inj hm
     refine At_rt [.b false] qe (by kernel_rfl) ?_
     have k_34 := k_33.sel .z
     exact ⟨rfl, k_34⟩
   rw [if_neg (by rw [hc2]; decide)] at hm
   refine W_skip <| At_go <| W_seq <| W_reg <| WLs 2 [] (.n 158 (.v (.pointer none)) (.n 159 (.u64 n) (.s .a))) qe (by kernel_rfl) ?_
   refine WL_op ?_
   obtain ⟨r_13, h_r_13, hm⟩ := ob hm
   refine Op_call [] 160 _ yz_go16 (by kernel_rfl) (c_dice_Dice_Skip (F := N0) (O := N0) _ (Cx.refl _) _ h_r_13) ?_
   rintro e_ w_15 ⟨rfl, k_35⟩
   have k_36 := k_33.call k_35
   refine ⟨I 7, rfl, ?_⟩
   have k_37 := k_36.sel (.kk .z)
   refine WLs 2 [] (.n 162 (.b false) (.sss .a)) qe (by kernel_rfl) ?_
   refine WLs 1 [162] (.n 163 (.v (.pointer none)) (.k (.s .a))) qe (by kernel_rfl) ?_
   refine WL_op ?_
   have k_38 := k_37.sel (.kk .e)
   obtain ⟨r_14, h_r_14, hm⟩ := ob hm
   refine Op_call [162] 164 _ yz_go17 (by kernel_rfl) (c_dice_Dice_At (F := N0) (O := N0)  (Cx.refl _) _ h_r_14) ?_
   rintro e_ w_16 ⟨rfl, k_39⟩
   have k_40 := k_38.call k_39
   refine ⟨.u64 0, rfl, ?_⟩
   refine WLs 2 [162] (.n 166 (.b false) (.sss .a)) qe (by kernel_rfl) ?_
   refine WL_nil <| At_go <| W_cond false (by kernel_rfl) (fun h => by cases h) (fun _ => ?_)
   refine W_skip <| At_in <| At_go <| W_q [] (.n 31 (I 1) (.s (.kk (.s .a)))) qe (by kernel_rfl) ?_
   refine At_un ?_
   refine W_seq <| W_q [] (.n 32 (.b true) .a) qe (by kernel_rfl) ?_
   refine At_go <| W_seq <| W_cond true (by kernel_rfl) (fun _ => ?_) (fun h => by cases h)
   refine W_skip <| At_go <| W_seq <| W_block <| W_seq ?_
   have h1 : geti ([(Option.none : Option Addr), (some ⟨g, 0, Option.none⟩ : Option Addr)] : List (Option Addr)) (1 : Int) = some (some ⟨g, 0, Option.none⟩ : Option Addr) := rfl
   refine W_q [] (.n 9 (pt g 0) (.s .a)) (qJ (E := eQ) (k_40.rd 1 rfl) h1 (k_40.len 1 rfl) <| qC (pt g 0) (Rd.el (E := eQ) (k := 0) (k_40.rd 1 rfl) h1 (Pt.ix1 A (1 : Int) 1) rfl) <| qe) (by kernel_rfl) ?_
   refine At_go <| W_seq <| W_reg <| WLs 1 [] (.n 36 (pt g 0) .a) qe (by kernel_rfl) ?_
   refine WL_op ?_
   have k_41 := k_40.nil e8
   obtain ⟨r_15, h_r_15, hm⟩ := ob hm
   obtain ⟨F1, O1, kin, hO, hre, hF, hb⟩ := k_41.go (.i (.r (.i .e)))
   refine Op_call [] 37 _ yz_go6 (by kernel_rfl) (c_dice_Dice_Word_s1 (F := F1) (O := O1) _ _ _ _ _ kin _ h_r_15) ?_
   rintro e_ w_17 ⟨A3, _, c2, rfl, rfl, k_42⟩
   have k_43 := hb w_17 _ _ k_42 (.c (.c .n))
   refine ⟨.tup [.u64 0, I 7], rfl, ?_⟩
   refine WLs 5 [] (.n 10 (.u64 0) (.n 11 (I 7) (.ss .a))) qe (by kernel_rfl) ?_
   refine WL_nil <| At_go <| W_seq <| W_reg <| WLs 2 [] (.n 41 (pt g 0) (.n 42 (.u64 n) .a)) qe (by kernel_rfl) ?_
   refine WL_op ?_
   obtain ⟨r_16, h_r_16, hm⟩ := ob hm
   obtain ⟨F11, O11, kin1, hO1, hre1, hF1, hb1⟩ := k_43.go (.i (.i (.r .e)))
   refine Op_call [] 43 _ yz_go7 (by kernel_rfl) (c_dice_Dice_Below_s1 (F := F11) (O := O11) _ _ _ _ _ _ kin1 _ h_r_16) ?_
   rintro e_ w_18 ⟨A4, _, c3, rfl, rfl, k_44⟩
   have k_45 := hb1 w_18 _ _ k_44 (.c (.c .n))
   refine ⟨.tup [.u64 0, I 7], rfl, ?_⟩
   refine WLs 5 [] (.n 12 (.u64 0) (.n 13 (I 7) (.sss .a))) qe (by kernel_rfl) ?_
   refine WL_nil <| At_go <| W_seq <| W_reg <| WLs 1 [] (.n 47 (pt g 0) .a) qe (by kernel_rfl) ?_
   refine WL_op ?_
   obtain ⟨r_17, h_r_17, hm⟩ := ob hm
   obtain ⟨F12, O12, kin2, hO2, hre2, hF2, hb2⟩ := k_45.go (.i (.i (.r .e)))
   refine Op_call [] 48 _ yz_go8 (by kernel_rfl) (c_dice_Dice_Share_s1 (F := F12) (O := O12) _ _ _ _ _ kin2 _ h_r_17) ?_
   rintro e_ w_19 ⟨A5, _, c4, rfl, rfl, k_46⟩
   have k_47 := hb2 w_19 _ _ k_46 (.c (.c .n))
   refine ⟨.tup [.v (.float .f64 0), I 7], rfl, ?_⟩
   refine WLs 5 [] (.n 14 (.v (.float .f64 0)) (.n 15 (I 7) (.ss .a))) qe (by kernel_rfl) ?_
   refine WL_nil <| At_go <| W_seq <| W_reg <| WLs 1 [] (.n 52 (pt g 0) .a) qe (by kernel_rfl) ?_
   refine WL_op ?_
   have k_48 := k_47.sel (.kk (.k .e))
   obtain ⟨r_18, h_r_18, hm⟩ := ob hm
   obtain ⟨F13, O13, kin3, hO3, hre3, hF3, hb3⟩ := k_48.go (.i (.i (.r .e)))
   refine Op_call [] 53 _ yz_go9 (by kernel_rfl) (c_dice_Dice_Between_s1 (F := F13) (O := O13) _ _ _ _ _ kin3 _ h_r_18) ?_
   rintro e_ w_20 ⟨A6, _, c5, rfl, rfl, k_49⟩
   have k_50 := hb3 w_20 _ _ k_49 (.c (.c .n))
   refine ⟨.tup [.v (.float .f64 0), I 7], rfl, ?_⟩
   refine WLs 5 [] (.n 16 (.v (.float .f64 0)) (.n 17 (I 7) (.ss .a))) qe (by kernel_rfl) ?_
   refine WL_nil <| At_go <| W_seq <| W_seq <| W_reg <| WLs 15 [58, 62, 66] (.n 70 (.b false) (.kkkk (.ssss .a))) qe (by kernel_rfl) ?_
   refine WLs 1 [70] (.n 71 (.v (.float .f64 0)) (.kkk (.s .a))) qe (by kernel_rfl) ?_
   refine WL_op ?_
   obtain ⟨r_19, h_r_19, hm⟩ := ob hm
   refine Op_call [70] 72 _ yz_go10 (by kernel_rfl) (c_l25_equal (F := N0) (O := N0)  (Cx.refl _) _ h_r_19) ?_
   rintro e_ w_21 ⟨rfl, k_51⟩
   have k_52 := k_50.call k_51
   refine ⟨.b r_19, rfl, ?_⟩
   refine WLs 7 [70] (.n 79 (.b ((!r_19) || false)) (.sss (.kk (.s .a)))) qe (by kernel_rfl) ?_
   refine WL_sp 79 ((!r_19) || false) (.s .a) (by kernel_rfl) (fun hg1 => ?_) (fun hg1 => ?_)
   · rw [if_pos hg1] at hm
     refine WLs 8 [79, 84] (.n 87 (.b true) (.sss .a)) qe (by kernel_rfl) ?_
     refine WL_nil <| At_go <| W_cond true (by kernel_rfl) (fun _ => ?_) (fun h => by cases h)
     refine W_seq <| W_q [] (.n 6 (.b false) .z) qe (by kernel_rfl) ?_
     refine At_go <| W_ret (At_tr (At_ir (At_tr (At_tr (At_ir (At_tr ?_))))))
     obtain rfl := Option.some.inj hm
     refine At_rt [.b false] qe (by kernel_rfl) ?_
     have k_53 := k_52.sel .z
     exact ⟨rfl, k_53⟩
   · rw [if_neg (by rw [hg1]; decide)] at hm
     refine WLs 1 [79] (.n 80 (.v (.float .f64 0)) (.k (.s .a))) qe (by kernel_rfl) ?_
     refine WL_op ?_
     obtain ⟨r_20, h_r_20, hm⟩ := ob hm
     refine Op_call [79] 81 _ yz_go10 (by kernel_rfl) (c_l25_equal (F := N0) (O := N0)  (Cx.refl _) _ h_r_20) ?_
     rintro e_ w_22 ⟨rfl, k_54⟩
     have k_55 := k_52.call k_54
     refine ⟨.b r_20, rfl, ?_⟩
     refine WLs 6 [79] (.n 87 (.b ((!r_20) || false)) (.ssss .a)) qe (by kernel_rfl) ?_
     refine WL_nil <| At_go <| W_cond ((!r_20) || false) (by kernel_rfl) (fun hc3 => ?_) (fun hc3 => ?_)
     · rw [if_pos hc3] at hm
       refine W_seq <| W_q [] (.n 6 (.b false) .z) qe (by kernel_rfl) ?_
       refine At_go <| W_ret (At_tr (At_ir (At_tr (At_tr (At_ir (At_tr ?_))))))
       obtain rfl := Option.some.inj hm
       refine At_rt [.b false] qe (by kernel_rfl) ?_
       have k_56 := k_55.sel .z
       exact ⟨rfl, k_56⟩
     rw [if_neg (by rw [hc3]; decide)] at hm
     refine W_skip <| At_go <| W_seq <| W_reg <| WLs 1 [] (.n 89 (pt g 0) (.s .a)) qe (by kernel_rfl) ?_
     refine WL_op ?_
     obtain ⟨r_21, h_r_21, hm⟩ := ob hm
     obtain ⟨F14, O14, kin4, hO4, hre4, hF4, hb4⟩ := k_55.go (.i (.i (.r .e)))
     refine Op_call [] 90 _ yz_go11 (by kernel_rfl) (c_dice_Dice_Bell_s1 (F := F14) (O := O14) _ _ _ _ _ kin4 _ h_r_21) ?_
     rintro e_ w_23 ⟨A7, _, c6, rfl, rfl, k_57⟩
     have k_58 := hb4 w_23 _ _ k_57 (.c (.c .n))
     refine ⟨.tup [.v (.float .f64 0), I 7], rfl, ?_⟩
     refine WLs 5 [] (.n 11 (I 7) (.n 18 (.v (.float .f64 0)) (.ss .a))) qe (by kernel_rfl) ?_
     refine WL_nil <| At_go <| W_seq <| W_reg <| WLs 2 [] (.n 94 (pt g 0) (.n 95 (sl A_l n_l c_l) .a)) qe (by kernel_rfl) ?_
     refine WL_op ?_
     have k_59 := k_58.sel (.kk (.k .e))
     obtain ⟨r_22, h_r_22, hm⟩ := ob hm
     obtain ⟨F15, O15, kin5, hO5, hre5, hF5, hb5⟩ := k_59.go (.i (.i (.r .e)))
     refine Op_call [] 96 _ yz_go12 (by kernel_rfl) (c_dice_Dice_Pick_s5 (F := F15) (O := O15) _ _ _ _ _ A_l n_l c_l kin5 _ h_r_22) ?_
     rintro e_ w_24 ⟨A8, _, c7, rfl, rfl, k_60⟩
     have k_61 := hb5 w_24 _ _ k_60 (.c (.c .n))
     refine ⟨.tup [I 0, I 7], rfl, ?_⟩
     refine WLs 5 [] (.n 13 (I 7) (.n 19 (I 0) (.sss .a))) qe (by kernel_rfl) ?_
     refine WL_nil <| At_go <| W_seq <| W_reg <| WLs 2 [] (.n 100 (pt g 0) (.n 101 (I k_) .a)) qe (by kernel_rfl) ?_
     refine WL_op ?_
     obtain ⟨r_23, h_r_23, hm⟩ := ob hm
     obtain ⟨F16, O16, kin6, hO6, hre6, hF6, hb6⟩ := k_61.go (.i (.i (.r .e)))
     refine Op_call [] 102 _ yz_go13 (by kernel_rfl) (c_dice_Dice_Order_s1 (F := F16) (O := O16) _ _ _ _ _ _ kin6 _ h_r_23) ?_
     rintro e_ w_25 ⟨A9, _, c8, A10, _, c9, rfl, rfl, rfl, k_62⟩
     have k_63 := hb6 w_25 _ _ k_62 (.c (.c (.c .n)))
     refine ⟨.tup [sl A9 r_23.1.length c8, I 7], rfl, ?_⟩
     refine WLs 5 [] (.n 15 (I 7) (.n 20 (sl A9 r_23.1.length c8) (.sss .a))) qe (by kernel_rfl) ?_
     refine WL_nil <| At_go <| W_seq <| W_reg <| WLs 3 [] (.n 106 (pt g 0) (.n 107 (I k_) (.n 108 (I k_) .a))) qe (by kernel_rfl) ?_
     refine WL_op ?_
     obtain ⟨r_24, h_r_24, hm⟩ := ob hm
     obtain ⟨F17, O17, kin7, hO7, hre7, hF7, hb7⟩ := k_63.go (.r (.i (.i (.r .e))))
     refine Op_call [] 109 _ yz_go14 (by kernel_rfl) (c_dice_Dice_Choose_s1 (F := F17) (O := O17) _ _ _ _ _ _ _ kin7 _ h_r_24) ?_
     rintro e_ w_26 ⟨A11, _, c10, A12, _, c11, rfl, rfl, rfl, k_64⟩
     have k_65 := hb7 w_26 _ _ k_64 (.c (.c (.c .n)))
     refine ⟨.tup [sl A11 r_24.1.length c10, I 7], rfl, ?_⟩
     refine WLs 5 [] (.n 17 (I 7) (.n 21 (sl A11 r_24.1.length c10) (.ssss .a))) qe (by kernel_rfl) ?_
     refine WL_nil <| At_go <| W_seq <| W_reg <| WLs 1 [] (.n 113 (pt g 0) .a) qe (by kernel_rfl) ?_
     refine WL_op ?_
     obtain ⟨r_25, h_r_25, hm⟩ := ob hm
     obtain ⟨F18, O18, kin8, hO8, hre8, hF8, hb8⟩ := k_65.go (.r (.i (.i (.r (.r .e)))))
     refine Op_call [] 114 _ yz_go15 (by kernel_rfl) (c_dice_Dice_Fork_s1 (F := F18) (O := O18) _ _ _ _ _ _ _ _ _ (Ro.nilE e8) rfl (Nat.le_refl 0) kin8 _ h_r_25) ?_
     rintro e_ w_27 ⟨A13, _, c12, rfl, rfl, k_66⟩
     have k_67 := hb8 w_27 _ _ k_66 (.c (.c .n))
     refine ⟨.tup [.v (.pointer none), I 7], rfl, ?_⟩
     refine WLs 5 [] (.n 22 (.v (.pointer none)) (.n 23 (I 7) (.ss .a))) qe (by kernel_rfl) ?_
     refine WL_nil <| At_go <| W_seq <| W_seq <| W_reg <| WLs 1 [] (.n 117 (.v (.float .f64 0)) (.kkkk (.kkkk (.k (.s .a))))) qe (by kernel_rfl) ?_
     refine WL_op ?_
     have k_68 := k_67.sel (.kkkk (.k .e))
     obtain ⟨r_26, h_r_26, hm⟩ := ob hm
     refine Op_call [] 118 _ yz_go10 (by kernel_rfl) (c_l25_equal (F := N0) (O := N0)  (Cx.refl _) _ h_r_26) ?_
     rintro e_ w_28 ⟨rfl, k_69⟩
     have k_70 := k_68.call k_69
     refine ⟨.b r_26, rfl, ?_⟩
     refine WLs 39 [] (.n 157 (.b ((((((((((!r_26) || false) || false) || false) || (decide (((r_23.1.length : Nat) : Int) ≠ 0))) || false) || (decide (((r_24.1.length : Nat) : Int) ≠ 0))) || false) || false) || false)) (.ssss (.ssss (.sss .a)))) qe (by kernel_rfl) ?_
     refine WL_nil <| At_go <| W_cond ((((((((((!r_26) || false) || false) || false) || (decide (((r_23.1.length : Nat) : Int) ≠ 0))) || false) || (decide (((r_24.1.length : Nat) : Int) ≠ 0))) || false) || false) || false) (by kernel_rfl) (fun hc4 => ?_) (fun hc4 => ?_)
     · rw [if_pos hc4] at hm
       refine W_seq <| W_q [] (.n 6 (.b false) .z) qe (by kernel_rfl) ?_
       refine At_go <| W_ret (At_tr (At_ir (At_tr (At_tr (At_ir (At_tr ?_))))))
       obtain rfl := Option.some.inj hm
       refine At_rt [.b false] qe (by kernel_rfl) ?_
       have k_71 := k_70.sel .z
       exact ⟨rfl, k_71⟩
     rw [if_neg (by rw [hc4]; decide)] at hm
     refine W_skip <| At_go <| W_seq <| W_reg <| WLs 2 [] (.n 158 (pt g 0) (.n 159 (.u64 n) (.s .a))) qe (by kernel_rfl) ?_
     refine WL_op ?_
     obtain ⟨r_27, h_r_27, hm⟩ := ob hm
     obtain ⟨F19, O19, kin9, hO9, hre9, hF9, hb9⟩ := k_70.go (.i (.i (.r (.r (.r .e)))))
     refine Op_call [] 160 _ yz_go16 (by kernel_rfl) (c_dice_Dice_Skip_s1 (F := F19) (O := O19) _ _ _ _ _ _ kin9 _ h_r_27) ?_
     rintro e_ w_29 ⟨A14, _, c13, rfl, rfl, k_72⟩
     have k_73 := hb9 w_29 _ _ k_72 (.c (.c .n))
     refine ⟨I 7, rfl, ?_⟩
     have k_74 := k_73.sel (.kk (.ss (.k .e)))
     refine WLs 2 [] (.n 162 (.b false) (.sss .a)) qe (by kernel_rfl) ?_
     refine WLs 1 [162] (.n 163 (pt g 0) (.k (.s .a))) qe (by kernel_rfl) ?_
     refine WL_op ?_
     obtain ⟨r_28, h_r_28, hm⟩ := ob hm
     obtain ⟨F110, O110, kin10, hO10, hre10, hF10, hb10⟩ := k_74.go (.i (.i (.r .e)))
     refine Op_call [162] 164 _ yz_go17 (by kernel_rfl) (c_dice_Dice_At_s1 (F := F110) (O := O110) _ _ _ _ _ kin10 _ h_r_28) ?_
     rintro e_ w_30 ⟨A15, _, c14, rfl, rfl, k_75⟩
     have k_76 := hb10 w_30 _ _ k_75 (.c (.c .n))
     refine ⟨.u64 0, rfl, ?_⟩
     refine WLs 2 [162] (.n 166 (.b false) (.sss .a)) qe (by kernel_rfl) ?_
     refine WL_nil <| At_go <| W_cond false (by kernel_rfl) (fun h => by cases h) (fun _ => ?_)
     refine W_skip <| At_in <| At_go <| W_q [] (.n 31 (I 2) (.ss .a)) qe (by kernel_rfl) ?_
     refine At_un ?_
     refine W_seq <| W_q [] (.n 32 (.b false) .a) qe (by kernel_rfl) ?_
     refine At_go <| W_seq <| W_cond false (by kernel_rfl) (fun h => by cases h) (fun _ => ?_)
     refine W_exit (At_te (At_te (At_ie ?_)))
     refine At_go <| W_seq <| W_q [] (.n 6 (.b true) .z) qe (by kernel_rfl) ?_
     refine At_go <| W_ret ?_
     obtain rfl := Option.some.inj hm
     refine At_rt [.b true] qe (by kernel_rfl) ?_
     have k_77 := k_76.sel .z
     exact ⟨rfl, k_77⟩

-- quern/depot.Chunks
theorem c_depot_Chunks {F O : Nat → Prop} {w : World} (data : List UInt8) (A_data : Option Addr) (n_data : Nat) (c_data : Nat) (h_data : Ro F w A_data (e8.all data)) (hn_data : data.length = n_data) (hc_data : n_data ≤ c_data) (k : Cx F O w w []) (r : (List (List UInt8) × Int)) (hm : m_depot_Chunks data = some r) :
    Calls Tryz.prog 47 (vals [sl A_data n_data c_data]) w (fun e w' => ∃ A n c hd, r.1.length = n ∧ e = .returned (SV.val (.tup [sl A n c, I r.2])) ∧ Cx F O w w' [O2 e8 A n c hd r.1]) := by
 unfold m_depot_Chunks at hm
 subst hn_data
 refine calls [sl A_data data.length c_data] Tryz.func47 rfl (of_decide_eq_true (by kernel_rfl)) ?_
 refine W_seq <| W_q [] .a qe (by kernel_rfl) ?_
 refine At_go <| W_seq <| W_seq <| W_q [] (.n 12 (.b (decide (1048576 < ((data.length : Nat) : Int)))) .a) qe (by kernel_rfl) ?_
 refine At_go <| W_condp (1048576 < ((data.length : Nat) : Int)) (by kernel_rfl) (fun hc => ?_) (fun hc => ?_)
 · rw [if_pos hc] at hm
   refine W_seq <| W_q [] (.n 2 (sl none 0 0) (.n 3 (I 2) .z)) qe (by kernel_rfl) ?_
   refine At_go <| W_ret (At_tr ?_)
   have k_ := k.nil2 e8
   obtain rfl := Option.some.inj hm
   refine At_rt [sl none 0 0, I 2] qe (by kernel_rfl) ?_
   exact ⟨none, 0, 0, ([] : List Hd), k_.len2 0 rfl, rfl, k_⟩
 rw [if_neg hc] at hm
 refine W_skip <| At_go <| W_seq <| W_q [] (.n 4 (sl none 0 0) (.s .a)) qe (by kernel_rfl) ?_
 refine At_go <| W_seq <| W_q [] (.n 5 (I 0) (.n 6 (.u64 0) .a)) qe (by kernel_rfl) ?_
 refine At_go <| W_seq <| W_seq <| W_q [] (.n 13 (sl A_data data.length c_data) (.n 14 (I ((data.length : Nat) : Int)) (.n 15 (I 0) .a))) qe (by kernel_rfl) ?_
 refine At_go <| W_block ?_
 have k_2 := k.nil2 e8
 refine W_lp (m_depot_Chunks_l0 data) (fun s L wr => ∃ (l : List (List UInt8)) (from_ : Int) (sum : UInt64) (x_0 : Int) (A0 : Option Addr) (n0 : Nat) (c0 : Nat) (hd0 : List Hd), (l, from_, sum, x_0) = s ∧ L = [(0, sl A_data data.length c_data), (4, sl A0 n0 c0), (5, I from_), (6, .u64 sum), (13, sl A_data data.length c_data), (14, I ((data.length : Nat) : Int)), (15, I x_0)] ∧ l.length = n0 ∧ Cx F O w wr [O2 e8 A0 n0 c0 hd0 l]) (([] : List (List UInt8)), (0 : Int), (0 : UInt64), (0 : Int)) r hm ⟨([] : List (List UInt8)), (0 : Int), (0 : UInt64), (0 : Int), none, 0, 0, ([] : List Hd), rfl, rfl, k_2.len2 0 rfl, k_2⟩ (by kernel_rfl) ?_
 intro s0_ L_ w_ y0 hrel hstep hr0
 obtain ⟨l, from_, sum, x_0, A0, _, c0, hd0, rfl, rfl, rfl, k_1⟩ := hrel
 have hm := hstep; simp only [m_depot_Chunks_l0] at hm
 clear hstep
 refine W_seq <| W_q [] (.n 16 (.b (decide (x_0 < ((data.length : Nat) : Int)))) .a) qe (by kernel_rfl) ?_
 refine At_go <| W_seq <| W_condp (x_0 < ((data.length : Nat) : Int)) (by kernel_rfl) (fun hc1 => ?_) (fun hc1 => ?_)
 · rw [if_pos hc1] at hm
   refine W_skip <| At_go <| W_cut (fun L wr => ∃ (l1 : List (List UInt8)) (from_1 : Int) (sum1 : UInt64) (A1 : Option Addr) (n1 : Nat) (c1 : Nat) (hd1 : List Hd), m_depot_Chunks_j0 x_0 l1 from_1 sum1 = some y0 ∧ L = [(0, sl A_data data.length c_data), (4, sl A1 n1 c1), (5, I from_1), (6, .u64 sum1), (13, sl A_data data.length c_data), (14, I ((data.length : Nat) : Int)), (15, I x_0)] ∧ l1.length = n1 ∧ Cx F O w wr [O2 e8 A1 n1 c1 hd1 l1]) ?_ ?_
   ·
    refine W_block <| W_seq ?_
    obtain ⟨x_2, h_x_2, hm⟩ := ob hm
    refine W_q [] (.n 7 (I x_0) (.n 8 (.u8 x_2) (.s .a))) (qW (h_data.cx k_1) h_x_2 rfl (.u8 x_2) rfl <| qe) (by kernel_rfl) ?_
    refine At_go <| W_seq <| W_q [] (.n 6 (.u64 ((shl64 sum ((1 : UInt64).toNat)) + (((UInt64.ofNat x_2.toNat) + 1) * 11400714819323198485))) (.k (.s (.kkk (.s .a))))) qe (by kernel_rfl) ?_
    refine At_go <| W_seq <| W_q [] (.n 9 (I (w64 ((w64 (x_0 + 1)) - from_))) .a) qe (by kernel_rfl) ?_
    refine At_go <| W_seq <| W_q [] (.n 48 (.b (((decide ((w64 ((w64 (x_0 + 1)) - from_)) = 1024)) || ((decide (64 ≤ (w64 ((w64 (x_0 + 1)) - from_)))) && (decide ((shr64 ((shl64 sum ((1 : UInt64).toNat)) + (((UInt64.ofNat x_2.toNat) + 1) * 11400714819323198485)) ((58 : UInt64).toNat)) = 0)))) || (decide (x_0 = (w64 (((data.length : Nat) : Int) - 1)))))) (.s .a)) qe (by kernel_rfl) ?_
    refine At_go <| W_cond (((decide ((w64 ((w64 (x_0 + 1)) - from_)) = 1024)) || ((decide (64 ≤ (w64 ((w64 (x_0 + 1)) - from_)))) && (decide ((shr64 ((shl64 sum ((1 : UInt64).toNat)) + (((UInt64.ofNat x_2.toNat) + 1) * 11400714819323198485)) ((58 : UInt64).toNat)) = 0)))) || (decide (x_0 = (w64 (((data.length : Nat) : Int) - 1))))) (by kernel_rfl) (fun hc2 => ?_) (fun hc2 => ?_)
    · rw [if_pos hc2] at hm
      refine W_seq <| W_reg ?_
      obtain ⟨b, h_b, hm⟩ := ob hm
      have hs := slc_some h_b
      have hl := slc_len h_b
      have hn : data.length = data.length := rfl
      have hc3 : data.length ≤ c_data := hc_data
      obtain ⟨A2, c2, e_, hc4, hA, hc5⟩ := slx A_data (Int.toNat from_) c_data 1 (Int.toNat (w64 (x_0 + 1)) - Int.toNat from_) b.length (by omega) (by omega)
      refine WLs 6 [] (.n 49 (sl A0 l.length c0) (.n 54 (sl A2 b.length c2) (.ss (.kkk (.s .a))))) (qp (0 ≤ w64 (x_0 + 1) ∧ w64 (x_0 + 1) ≤ ((c_data : Nat) : Int)) (by omega) <| qp (0 ≤ from_ ∧ from_ ≤ ((Int.toNat (w64 (x_0 + 1)) : Nat) : Int)) (by omega) <| qo (.v (.slice A2 b.length c2)) <| qp (Value.slice (slA A_data (Int.toNat from_) c_data 1) (Int.toNat (w64 (x_0 + 1)) - Int.toNat from_) (c_data - Int.toNat from_) = .slice A2 b.length c2) e_ <| qe) (by kernel_rfl) ?_
      refine WL_op ?_
      have k_3 := k_1.nil e8
      obtain ⟨b1, h_b1, hm⟩ := ob hm
      obtain ⟨hz, hl1⟩ := app_some h_b1
      refine Op_append (E := e8) (v := sl A2 b.length c2) (ys := b) yz_tf26 [] 55 1 (by kernel_rfl) k_3 rfl (Src.sl (Rd.cut (h_data.cx k_3) h_b rfl (by rfl) hA (by omega)) rfl (by rfl)) rfl (by have := k_3.len 1 rfl; have := hm; omega) ?_
      intro A3 c3 w_1 k_4
      rw [← hl1] at k_4
      refine WL_op ?_
      have k_5 := (k_4.pk .h).pk (.t .h)
      refine Op_mk2 (rest := [O2 e8 A0 l.length c0 hd0 l]) yz_tf70 e8 [] 56 ([(A3, 0 + b.length, c3)] : List Hd) ([b1] : List (List UInt8)) [(0, sl A3 (0 + b.length) c3)] [sl A3 (0 + b.length) c3] (by kernel_rfl) (by kernel_rfl) (by kernel_rfl) rfl k_5 ?_
      intro A4 w_2 k_6
      refine WL_op ?_
      have k_7 := (k_6.pk .h).pk (.t .h)
      obtain ⟨l2, h_l2, hm⟩ := ob hm
      obtain ⟨hz1, hl2⟩ := app_some h_l2
      refine Op_append2 yz_tf70 [] 57 (by kernel_rfl) k_7 (by have := k_7.len2 0 rfl; have := k_7.len2 1 rfl; omega) ?_
      intro A5 c4 w_3 k_8
      rw [← hl2] at k_8
      refine WLs 1 [] (.n 4 (sl A5 (l.length + 1) c4) (.ssss (.s (.kk (.s .a))))) qe (by kernel_rfl) ?_
      refine WL_nil <| At_go <| W_q [] (.n 5 (I (w64 (x_0 + 1))) (.n 6 (.u64 0) (.k (.s .a)))) qe (by kernel_rfl) ?_
      refine At_in ?_
      exact At_c ⟨l2, w64 (x_0 + 1), (0 : UInt64), A5, l.length + 1, c4, hd0 ++ ([(A3, 0 + b.length, c3)] : List Hd), hm, rfl, k_8.len2 0 rfl, k_8⟩ (by kernel_rfl)
    rw [if_neg (by rw [hc2]; decide)] at hm
    refine W_skip <| At_in ?_
    exact At_c ⟨l, from_, (shl64 sum ((1 : UInt64).toNat)) + (((UInt64.ofNat x_2.toNat) + 1) * 11400714819323198485), A0, l.length, c0, hd0, hm, rfl, k_1.len2 0 rfl, k_1⟩ (by kernel_rfl)
   rintro L_ w_4 ⟨l1, from_1, sum1, A1, _, c1, hd1, hm, rfl, rfl, k_9⟩
   simp only [m_depot_Chunks_j0] at hm
   refine W_q [] (.n 15 (I (w64 (x_0 + 1))) (.kkkk (.kk .z))) qe (by kernel_rfl) ?_
   exact At_rd (l1, from_1, sum1, w64 (x_0 + 1)) (Option.some.inj hm).symm ⟨l1, from_1, sum1, w64 (x_0 + 1), A1, l1.length, c1, hd1, rfl, rfl, k_9.len2 0 rfl, k_9⟩ (by kernel_rfl)
 rw [if_neg hc1] at hm
 refine W_exit (At_te (At_te (At_ie ?_)))
 have hm := exit_of hm hr0
 refine At_go <| W_seq <| W_q [] (.n 2 (sl A0 l.length c0) (.n 3 (I 0) .z)) qe (by kernel_rfl) ?_
 refine At_go <| W_ret ?_
 obtain rfl := Option.some.inj hm
 refine At_rt [sl A0 l.length c0, I 0] qe (by kernel_rfl) ?_
 exact ⟨A0, l.length, c0, hd0, k_1.len2 0 rfl, rfl, k_1⟩

-- quern/quernref01.Same
theorem c_r01_Same {F O : Nat → Prop} {w : World} (a_ : List UInt8) (b : List UInt8) (A_a_ : Option Addr) (n_a_ : Nat) (c_a_ : Nat) (A_b : Option Addr) (n_b : Nat) (c_b : Nat) (h_a_ : Ro F w A_a_ (e8.all a_)) (hn_a_ : a_.length = n_a_) (hc_a_ : n_a_ ≤ c_a_) (h_b : Ro F w A_b (e8.all b)) (hn_b : b.length = n_b) (hc_b : n_b ≤ c_b) (k : Cx F O w w []) (r : Bool) (hm : m_r01_Same a_ b = some r) :
    Calls Tryz.prog 73 (vals [sl A_a_ n_a_ c_a_, sl A_b n_b c_b]) w (fun e w' => e = .returned (SV.val (.b r)) ∧ Cx F O w w' []) := by
 unfold m_r01_Same at hm
 subst hn_a_
 subst hn_b
 refine calls [sl A_a_ a_.length c_a_, sl A_b b.length c_b] Tryz.func73 rfl (of_decide_eq_true (by kernel_rfl)) ?_
 refine W_seq <| W_q [] .a qe (by kernel_rfl) ?_
 refine At_go <| W_seq <| W_seq <| W_q [] (.n 10 (.b (decide (((a_.length : Nat) : Int) ≠ ((b.length : Nat) : Int)))) .a) qe (by kernel_rfl) ?_
 refine At_go <| W_condp (((a_.length : Nat) : Int) ≠ ((b.length : Nat) : Int)) (by kernel_rfl) (fun hc => ?_) (fun hc => ?_)
 · rw [if_pos hc] at hm
   refine W_seq <| W_q [] (.n 4 (.b false) .z) qe (by kernel_rfl) ?_
   refine At_go <| W_ret (At_tr ?_)
   obtain rfl := Option.some.inj hm
   refine At_rt [.b false] qe (by kernel_rfl) ?_
   exact ⟨rfl, k⟩
 rw [if_neg hc] at hm
 refine W_skip <| At_go <| W_seq <| W_seq <| W_q [] (.n 5 (I 0) (.s .a)) qe (by kernel_rfl) ?_
 refine At_go <| W_block <| W_lp (m_r01_Same_l0 a_ b) (fun s L wr => ∃ (i : Int), i = s ∧ L = [(0, sl A_a_ a_.length c_a_), (1, sl A_b b.length c_b), (5, I i)] ∧ Cx F O w wr []) (0 : Int) r hm ⟨(0 : Int), rfl, rfl, k⟩ (by kernel_rfl) ?_
 intro s0_ L_ w_ y0 hrel hstep hr0
 obtain ⟨i, rfl, rfl, k_⟩ := hrel
 have hm := hstep; simp only [m_r01_Same_l0] at hm
 clear hstep
 refine W_seq <| W_seq <| W_q [] (.n 14 (.b (decide (i < ((a_.length : Nat) : Int)))) .a) qe (by kernel_rfl) ?_
 refine At_go <| W_condp (i < ((a_.length : Nat) : Int)) (by kernel_rfl) (fun hc1 => ?_) (fun hc1 => ?_)
 · rw [if_pos hc1] at hm
   refine W_skip <| At_go <| W_seq <| W_block <| W_seq ?_
   obtain ⟨x_0, h_x_0, hm⟩ := ob hm
   obtain ⟨x_1, h_x_1, hm⟩ := ob hm
   refine W_d yz_mixed (by kernel_rfl) (.n 25 (.b (decide (x_0 ≠ x_1))) (.s .a)) (fun m => qW (h_a_.cx (k_.drew m)) h_x_0 rfl (.u8 x_0) rfl <| qW (h_b.cx (k_.drew m)) h_x_1 rfl (.u8 x_1) rfl <| qe) (by kernel_rfl) (fun m_ => ?_)
   have k_1 := k_.drew m_
   refine At_go <| W_condp (x_0 ≠ x_1) (by kernel_rfl) (fun hc2 => ?_) (fun hc2 => ?_)
   · rw [if_pos hc2] at hm
     refine W_seq <| W_q [] (.n 4 (.b false) .z) qe (by kernel_rfl) ?_
     refine At_go <| W_ret (At_ir (At_tr (At_tr (At_ir (At_tr ?_)))))
     have hm := exit_of hm hr0
     obtain rfl := Option.some.inj hm
     refine At_rt [.b false] qe (by kernel_rfl) ?_
     exact ⟨rfl, k_1⟩
   rw [if_neg hc2] at hm
   refine W_skip <| At_in <| At_go <| W_q [] (.n 5 (I (w64 (i + 1))) (.s (.kk .z))) qe (by kernel_rfl) ?_
   exact At_rd (w64 (i + 1)) (Option.some.inj hm).symm ⟨w64 (i + 1), rfl, rfl, k_1⟩ (by kernel_rfl)
 rw [if_neg hc1] at hm
 refine W_exit (At_te (At_te (At_ie ?_)))
 have hm := exit_of hm hr0
 refine At_go <| W_seq <| W_q [] (.n 4 (.b true) .z) qe (by kernel_rfl) ?_
 refine At_go <| W_ret ?_
 obtain rfl := Option.some.inj hm
 refine At_rt [.b true] qe (by kernel_rfl) ?_
 exact ⟨rfl, k_⟩

-- quern/quernlaw27.same
theorem c_l27_same {F O : Nat → Prop} {w : World} (a_ : List UInt8) (b : List UInt8) (A_a_ : Option Addr) (n_a_ : Nat) (c_a_ : Nat) (A_b : Option Addr) (n_b : Nat) (c_b : Nat) (h_a_ : Ro F w A_a_ (e8.all a_)) (hn_a_ : a_.length = n_a_) (hc_a_ : n_a_ ≤ c_a_) (h_b : Ro F w A_b (e8.all b)) (hn_b : b.length = n_b) (hc_b : n_b ≤ c_b) (k : Cx F O w w []) (r : Bool) (hm : m_l27_same a_ b = some r) :
    Calls Tryz.prog 48 (vals [sl A_a_ n_a_ c_a_, sl A_b n_b c_b]) w (fun e w' => e = .returned (SV.val (.b r)) ∧ Cx F O w w' []) := by
 unfold m_l27_same at hm
 subst hn_a_
 subst hn_b
 refine calls [sl A_a_ a_.length c_a_, sl A_b b.length c_b] Tryz.func48 rfl (of_decide_eq_true (by kernel_rfl)) ?_
 refine W_seq <| W_q [] .a qe (by kernel_rfl) ?_
 refine At_go <| W_seq <| W_reg <| WLs 2 [] (.n 5 (sl A_a_ a_.length c_a_) (.n 6 (sl A_b b.length c_b) .z)) qe (by kernel_rfl) ?_
 refine WL_op ?_
 obtain ⟨r_, h_r_, hm⟩ := ob hm
 refine Op_call [] 7 _ yz_go73 (by kernel_rfl) (c_r01_Same (F := N0) (O := N0) _ _ _ _ _ _ _ _ (Ro.n0 (h_a_.cx k)) rfl hc_a_ (Ro.n0 (h_b.cx k)) rfl hc_b (Cx.refl _) _ h_r_) ?_
 rintro e_ w_ ⟨rfl, k_⟩
 have k_1 := k.call k_
 refine ⟨.b r_, rfl, ?_⟩
 refine WLs 1 [] (.n 4 (.b r_) .z) qe (by kernel_rfl) ?_
 refine WL_nil <| At_go <| W_ret ?_
 obtain rfl := Option.some.inj hm
 refine At_rt [.b r_] qe (by kernel_rfl) ?_
 exact ⟨rfl, k_1⟩

-- quern/quernlaw27.awake
theorem c_l27_awake {F O : Nat → Prop} {w : World} (k : Cx F O w w []) (r : Bool) (hm : m_l27_awake = some r) :
    Calls Tryz.prog 18 (vals []) w (fun e w' => e = .returned (SV.val (.b r)) ∧ Cx F O w w' []) := by
 unfold m_l27_awake at hm
 refine calls [] Tryz.func18 rfl (of_decide_eq_true (by kernel_rfl)) ?_
 refine W_seq <| W_q [] .a qe (by kernel_rfl) ?_
 refine At_go <| W_seq <| W_reg <| WL_op <| Op_mk yz_tf26 e8 [] 4 ([(97 : UInt8), (98 : UInt8), (99 : UInt8)] : List UInt8) [(0, .u8 97), (1, .u8 98), (2, .u8 99)] [.u8 97, .u8 98, .u8 99] (by kernel_rfl) (by kernel_rfl) (by kernel_rfl) k ?_
 intro A w_ k_
 refine WL_op <| Op_cb 5 [] 5 0 (by kernel_rfl) k_ rfl (by omega) ?_
 intro w_1 k_1
 refine WL_op ?_
 obtain ⟨r_, h_r_, hm⟩ := ob hm
 refine Op_call [] 6 _ yz_go47 (by kernel_rfl) (c_depot_Chunks (F := N0) (O := N0) _ _ _ _ (Ro.n0 (k_1.rd 0 rfl)) (k_1.len 0 rfl) (k_1.lec 0 rfl) (Cx.refl _) _ h_r_) ?_
 rintro e_ w_2 ⟨A1, _, c, hd, rfl, rfl, k_2⟩
 have k_3 := k_1.call k_2
 refine ⟨.tup [sl A1 r_.1.length c, I r_.2], rfl, ?_⟩
 have k_4 := k_3.sel (.s (.k .e))
 refine WLs 5 [] (.n 1 (sl A1 r_.1.length c) (.n 2 (I r_.2) .z)) qe (by kernel_rfl) ?_
 refine WL_nil <| At_go <| W_seq <| W_reg <| WLs 8 [] (.n 16 (.b ((decide (r_.2 = 0)) && (decide (((r_.1.length : Nat) : Int) = 1)))) (.k .z)) qe (by kernel_rfl) ?_
 refine WL_sp 16 ((decide (r_.2 = 0)) && (decide (((r_.1.length : Nat) : Int) = 1))) (.s .a) (by kernel_rfl) (fun hg => ?_) (fun hg => ?_)
 · rw [if_pos hg] at hm
   obtain ⟨b, h_b, hm⟩ := ob hm
   obtain ⟨A_b, c_b, hh, hle⟩ := k_4.at2 0 rfl h_b
   refine WLs 3 [16] (.n 19 (sl A_b b.length c_b) (.k .z)) (qJ (k_4.hd2 0 rfl) hh (k_4.hlen2 0 rfl) <| qC (sl A_b b.length c_b) (Rd.el (k := 0) (k_4.hd2 0 rfl) hh (Pt.ix1 A1 (0 : Int) 1) rfl) <| qe) (by kernel_rfl) ?_
   refine WL_op <| Op_mk yz_tf26 e8 [16] 20 ([(97 : UInt8), (98 : UInt8), (99 : UInt8)] : List UInt8) [(0, .u8 97), (1, .u8 98), (2, .u8 99)] [.u8 97, .u8 98, .u8 99] (by kernel_rfl) (by kernel_rfl) (by kernel_rfl) k_4 ?_
   intro A2 w_3 k_5
   refine WL_op ?_
   have k_6 := k_5.sel (.kk .e)
   refine Op_cb 5 [16] 21 1 (by kernel_rfl) k_6 rfl (by omega) ?_
   intro w_4 k_7
   refine WL_op ?_
   obtain ⟨r_1, h_r_1, hm⟩ := ob hm
   refine Op_call [16] 22 _ yz_go48 (by kernel_rfl) (c_l27_same (F := N0) (O := N0) _ _ _ _ _ _ _ _ (Ro.n0 (k_7.in2 0 rfl h_b hh)) rfl hle (Ro.n0 (k_7.rd 1 rfl)) (k_7.len 1 rfl) (k_7.lec 1 rfl) (Cx.refl _) _ h_r_1) ?_
   rintro e_ w_5 ⟨rfl, k_8⟩
   have k_9 := k_7.call k_8
   refine ⟨.b r_1, rfl, ?_⟩
   have k_10 := k_9.sel .z
   refine WLs 2 [16] (.n 0 (.b r_1) .z) qe (by kernel_rfl) ?_
   refine WL_nil <| At_go <| W_ret ?_
   obtain rfl := Option.some.inj hm
   refine At_rt [.b r_1] qe (by kernel_rfl) ?_
   exact ⟨rfl, k_10⟩
 · rw [if_neg (by rw [hg]; decide)] at hm
   refine WLs 8 [16] (.n 0 (.b false) .z) qe (by kernel_rfl) ?_
   refine WL_nil <| At_go <| W_ret ?_
   obtain rfl := Option.some.inj hm
   refine At_rt [.b false] qe (by kernel_rfl) ?_
   have k_11 := k_4.sel .z
   exact ⟨rfl, k_11⟩

-- (*quern/depot.Depot).none
theorem c_depot_Depot_none {F O : Nat → Prop} {w : World} (k : Cx F O w w []) (r : Unit) (hm : m_depot_Depot_none = some r) :
    Calls Tryz.prog 49 (vals [.v (.pointer none)]) w (fun e w' => e = .returned (SV.val (.b true)) ∧ Cx F O w w' []) := by
 unfold m_depot_Depot_none at hm
 refine calls [.v (.pointer none)] Tryz.func49 rfl (of_decide_eq_true (by kernel_rfl)) ?_
 refine W_seq <| W_q [] .a qe (by kernel_rfl) ?_
 refine At_go <| W_seq <| W_q [5] (.n 2 (.b true) .z) qe (by kernel_rfl) ?_
 refine At_go <| W_ret ?_
 obtain rfl := Option.some.inj hm
 refine At_rt [.b true] qe (by kernel_rfl) ?_
 exact ⟨rfl, k⟩

-- (*quern/depot.Depot).Get
theorem c_depot_Depot_Get {F O : Nat → Prop} {w : World} (snap : List UInt8) (name : List UInt8) (k : Cx F O w w []) (r : (List UInt8)) (hm : m_depot_Depot_Get snap name = some r) :
    Calls Tryz.prog 19 (vals [.v (.pointer none), .s snap, .s name]) w (fun e w' => ∃ A n c, r.length = n ∧ e = .returned (SV.val (.tup [sl A n c, I 7])) ∧ Cx F O w w' [Ow e8 A n c r]) := by
 unfold m_depot_Depot_Get at hm
 refine calls [.v (.pointer none), .s snap, .s name] Tryz.func19 rfl (of_decide_eq_true (by kernel_rfl)) ?_
 refine W_seq <| W_q [] .a qe (by kernel_rfl) ?_
 refine At_go <| W_seq <| W_seq <| W_reg <| WLs 1 [] (.n 16 (.v (.pointer none)) .a) qe (by kernel_rfl) ?_
 refine WL_op ?_
 obtain ⟨r_, h_r_, hm⟩ := ob hm
 refine Op_call [] 17 _ yz_go49 (by kernel_rfl) (c_depot_Depot_none (F := N0) (O := N0)  (Cx.refl _) _ h_r_) ?_
 rintro e_ w_ ⟨rfl, k_⟩
 have k_1 := k.call k_
 refine ⟨.b true, rfl, ?_⟩
 refine WL_nil <| At_go <| W_cond true (by kernel_rfl) (fun _ => ?_) (fun h => by cases h)
 refine W_seq <| W_q [] (.n 6 (sl none 0 0) (.n 7 (I 7) .z)) qe (by kernel_rfl) ?_
 refine At_go <| W_ret (At_tr ?_)
 have k_2 := k_1.nil e8
 obtain rfl := Option.some.inj hm
 refine At_rt [sl none 0 0, I 7] qe (by kernel_rfl) ?_
 exact ⟨none, 0, 0, k_2.len 0 rfl, rfl, k_2⟩

-- (*quern/depot.Depot).List
theorem c_depot_Depot_List {F O : Nat → Prop} {w : World} (snap : List UInt8) (k : Cx F O w w []) (r : Unit) (hm : m_depot_Depot_List snap = some r) :
    Calls Tryz.prog 20 (vals [.v (.pointer none), .s snap]) w (fun e w' => e = .returned (SV.val (.tup [sl none 0 0, I 7])) ∧ Cx F O w w' []) := by
 unfold m_depot_Depot_List at hm
 refine calls [.v (.pointer none), .s snap] Tryz.func20 rfl (of_decide_eq_true (by kernel_rfl)) ?_
 refine W_seq <| W_q [] .a qe (by kernel_rfl) ?_
 refine At_go <| W_seq <| W_seq <| W_reg <| WLs 1 [] (.n 14 (.v (.pointer none)) .a) qe (by kernel_rfl) ?_
 refine WL_op ?_
 obtain ⟨r_, h_r_, hm⟩ := ob hm
 refine Op_call [] 15 _ yz_go49 (by kernel_rfl) (c_depot_Depot_none (F := N0) (O := N0)  (Cx.refl _) _ h_r_) ?_
 rintro e_ w_ ⟨rfl, k_⟩
 have k_1 := k.call k_
 refine ⟨.b true, rfl, ?_⟩
 refine WL_nil <| At_go <| W_cond true (by kernel_rfl) (fun _ => ?_) (fun h => by cases h)
 refine W_seq <| W_q [] (.n 4 (sl none 0 0) (.n 5 (I 7) .z)) qe (by kernel_rfl) ?_
 refine At_go <| W_ret (At_tr ?_)
 obtain rfl := Option.some.inj hm
 refine At_rt [sl none 0 0, I 7] qe (by kernel_rfl) ?_
 exact ⟨rfl, k_1⟩

-- (*quern/depot.Depot).Turned
theorem c_depot_Depot_Turned {F O : Nat → Prop} {w : World} (from_ : List UInt8) (to : List UInt8) (k : Cx F O w w []) (r : (List (List UInt8))) (hm : m_depot_Depot_Turned from_ to = some r) :
    Calls Tryz.prog 21 (vals [.v (.pointer none), .s from_, .s to]) w (fun e w' => ∃ A n c, r.length = n ∧ e = .returned (SV.val (.tup [sl A n c, I 7])) ∧ Cx F O w w' [Ow eS A n c r]) := by
 unfold m_depot_Depot_Turned at hm
 refine calls [.v (.pointer none), .s from_, .s to] Tryz.func21 rfl (of_decide_eq_true (by kernel_rfl)) ?_
 refine W_seq <| W_q [] .a qe (by kernel_rfl) ?_
 refine At_go <| W_seq <| W_seq <| W_reg <| WLs 1 [] (.n 18 (.v (.pointer none)) .a) qe (by kernel_rfl) ?_
 refine WL_op ?_
 obtain ⟨r_, h_r_, hm⟩ := ob hm
 refine Op_call [] 19 _ yz_go49 (by kernel_rfl) (c_depot_Depot_none (F := N0) (O := N0)  (Cx.refl _) _ h_r_) ?_
 rintro e_ w_ ⟨rfl, k_⟩
 have k_1 := k.call k_
 refine ⟨.b true, rfl, ?_⟩
 refine WL_nil <| At_go <| W_cond true (by kernel_rfl) (fun _ => ?_) (fun h => by cases h)
 refine W_seq <| W_q [] (.n 6 (sl none 0 0) (.n 7 (I 7) .z)) qe (by kernel_rfl) ?_
 refine At_go <| W_ret (At_tr ?_)
 have k_2 := k_1.nil eS
 obtain rfl := Option.some.inj hm
 refine At_rt [sl none 0 0, I 7] qe (by kernel_rfl) ?_
 exact ⟨none, 0, 0, k_2.len 0 rfl, rfl, k_2⟩

-- (*quern/depot.Depot).Put
theorem c_depot_Depot_Put {F O : Nat → Prop} {w : World} (snap : List UInt8) (k : Cx F O w w []) (r : Unit) (hm : m_depot_Depot_Put snap = some r) :
    Calls Tryz.prog 22 (vals [.v (.pointer none), .s snap, sl none 0 0]) w (fun e w' => e = .returned (SV.val (I 7)) ∧ Cx F O w w' []) := by
 unfold m_depot_Depot_Put at hm
 refine calls [.v (.pointer none), .s snap, sl none 0 0] Tryz.func22 rfl (of_decide_eq_true (by kernel_rfl)) ?_
 refine W_seq <| W_q [] .a qe (by kernel_rfl) ?_
 refine At_go <| W_seq <| W_seq <| W_reg <| WLs 1 [] (.n 28 (.v (.pointer none)) .a) qe (by kernel_rfl) ?_
 refine WL_op ?_
 obtain ⟨r_, h_r_, hm⟩ := ob hm
 refine Op_call [] 29 _ yz_go49 (by kernel_rfl) (c_depot_Depot_none (F := N0) (O := N0)  (Cx.refl _) _ h_r_) ?_
 rintro e_ w_ ⟨rfl, k_⟩
 have k_1 := k.call k_
 refine ⟨.b true, rfl, ?_⟩
 refine WL_nil <| At_go <| W_cond true (by kernel_rfl) (fun _ => ?_) (fun h => by cases h)
 refine W_seq <| W_q [] (.n 6 (I 7) .z) qe (by kernel_rfl) ?_
 refine At_go <| W_ret (At_tr ?_)
 obtain rfl := Option.some.inj hm
 refine At_rt [I 7] qe (by kernel_rfl) ?_
 exact ⟨rfl, k_1⟩

-- (*quern/depot.Depot).Drop
theorem c_depot_Depot_Drop {F O : Nat → Prop} {w : World} (snap : List UInt8) (k : Cx F O w w []) (r : Unit) (hm : m_depot_Depot_Drop snap = some r) :
    Calls Tryz.prog 23 (vals [.v (.pointer none), .s snap]) w (fun e w' => e = .returned (SV.val (I 7)) ∧ Cx F O w w' []) := by
 unfold m_depot_Depot_Drop at hm
 refine calls [.v (.pointer none), .s snap] Tryz.func23 rfl (of_decide_eq_true (by kernel_rfl)) ?_
 refine W_seq <| W_q [] .a qe (by kernel_rfl) ?_
 refine At_go <| W_seq <| W_seq <| W_reg <| WLs 1 [] (.n 7 (.v (.pointer none)) .a) qe (by kernel_rfl) ?_
 refine WL_op ?_
 obtain ⟨r_, h_r_, hm⟩ := ob hm
 refine Op_call [] 8 _ yz_go49 (by kernel_rfl) (c_depot_Depot_none (F := N0) (O := N0)  (Cx.refl _) _ h_r_) ?_
 rintro e_ w_ ⟨rfl, k_⟩
 have k_1 := k.call k_
 refine ⟨.b true, rfl, ?_⟩
 refine WL_nil <| At_go <| W_cond true (by kernel_rfl) (fun _ => ?_) (fun h => by cases h)
 refine W_seq <| W_q [] (.n 4 (I 7) .z) qe (by kernel_rfl) ?_
 refine At_go <| W_ret (At_tr ?_)
 obtain rfl := Option.some.inj hm
 refine At_rt [I 7] qe (by kernel_rfl) ?_
 exact ⟨rfl, k_1⟩

-- (*quern/depot.Depot).Lose
theorem c_depot_Depot_Lose {F O : Nat → Prop} {w : World} (digest : List UInt8) (A_digest : Option Addr) (n_digest : Nat) (c_digest : Nat) (h_digest : Ro F w A_digest (e8.all digest)) (hn_digest : digest.length = n_digest) (hc_digest : n_digest ≤ c_digest) (k : Cx F O w w []) (r : Unit) (hm : m_depot_Depot_Lose digest = some r) :
    Calls Tryz.prog 24 (vals [.v (.pointer none), sl A_digest n_digest c_digest]) w (fun e w' => e = .returned (SV.val (I 7)) ∧ Cx F O w w' []) := by
 unfold m_depot_Depot_Lose at hm
 subst hn_digest
 refine calls [.v (.pointer none), sl A_digest digest.length c_digest] Tryz.func24 rfl (of_decide_eq_true (by kernel_rfl)) ?_
 refine W_seq <| W_q [] .a qe (by kernel_rfl) ?_
 refine At_go <| W_seq <| W_seq <| W_reg <| WLs 1 [] (.n 7 (.v (.pointer none)) .a) qe (by kernel_rfl) ?_
 refine WL_op ?_
 obtain ⟨r_, h_r_, hm⟩ := ob hm
 refine Op_call [] 8 _ yz_go49 (by kernel_rfl) (c_depot_Depot_none (F := N0) (O := N0)  (Cx.refl _) _ h_r_) ?_
 rintro e_ w_ ⟨rfl, k_⟩
 have k_1 := k.call k_
 refine ⟨.b true, rfl, ?_⟩
 refine WL_nil <| At_go <| W_cond true (by kernel_rfl) (fun _ => ?_) (fun h => by cases h)
 refine W_seq <| W_q [] (.n 4 (I 7) .z) qe (by kernel_rfl) ?_
 refine At_go <| W_ret (At_tr ?_)
 obtain rfl := Option.some.inj hm
 refine At_rt [I 7] qe (by kernel_rfl) ?_
 exact ⟨rfl, k_1⟩

-- (*quern/depot.Depot).Sweep
theorem c_depot_Depot_Sweep {F O : Nat → Prop} {w : World} (k : Cx F O w w []) (r : Unit) (hm : m_depot_Depot_Sweep = some r) :
    Calls Tryz.prog 25 (vals [.v (.pointer none)]) w (fun e w' => e = .returned (SV.val (I 0)) ∧ Cx F O w w' []) := by
 unfold m_depot_Depot_Sweep at hm
 refine calls [.v (.pointer none)] Tryz.func25 rfl (of_decide_eq_true (by kernel_rfl)) ?_
 refine W_seq <| W_q [] .a qe (by kernel_rfl) ?_
 refine At_go <| W_seq <| W_seq <| W_reg <| WLs 1 [] (.n 6 (.v (.pointer none)) .a) qe (by kernel_rfl) ?_
 refine WL_op ?_
 obtain ⟨r_, h_r_, hm⟩ := ob hm
 refine Op_call [] 7 _ yz_go49 (by kernel_rfl) (c_depot_Depot_none (F := N0) (O := N0)  (Cx.refl _) _ h_r_) ?_
 rintro e_ w_ ⟨rfl, k_⟩
 have k_1 := k.call k_
 refine ⟨.b true, rfl, ?_⟩
 refine WL_nil <| At_go <| W_cond true (by kernel_rfl) (fun _ => ?_) (fun h => by cases h)
 refine W_seq <| W_q [] (.n 2 (I 0) .z) qe (by kernel_rfl) ?_
 refine At_go <| W_ret (At_tr ?_)
 obtain rfl := Option.some.inj hm
 refine At_rt [I 0] qe (by kernel_rfl) ?_
 exact ⟨rfl, k_1⟩

-- (*quern/depot.Depot).Snaps
theorem c_depot_Depot_Snaps {F O : Nat → Prop} {w : World} (k : Cx F O w w []) (r : (List (List UInt8))) (hm : m_depot_Depot_Snaps = some r) :
    Calls Tryz.prog 26 (vals [.v (.pointer none)]) w (fun e w' => ∃ A n c, r.length = n ∧ e = .returned (SV.val (sl A n c)) ∧ Cx F O w w' [Ow eS A n c r]) := by
 unfold m_depot_Depot_Snaps at hm
 refine calls [.v (.pointer none)] Tryz.func26 rfl (of_decide_eq_true (by kernel_rfl)) ?_
 refine W_seq <| W_q [] .a qe (by kernel_rfl) ?_
 refine At_go <| W_seq <| W_seq <| W_reg <| WLs 1 [] (.n 3 (.v (.pointer none)) .a) qe (by kernel_rfl) ?_
 refine WL_op ?_
 obtain ⟨r_, h_r_, hm⟩ := ob hm
 refine Op_call [] 4 _ yz_go49 (by kernel_rfl) (c_depot_Depot_none (F := N0) (O := N0)  (Cx.refl _) _ h_r_) ?_
 rintro e_ w_ ⟨rfl, k_⟩
 have k_1 := k.call k_
 refine ⟨.b true, rfl, ?_⟩
 refine WL_nil <| At_go <| W_cond true (by kernel_rfl) (fun _ => ?_) (fun h => by cases h)
 refine W_seq <| W_q [] (.n 2 (sl none 0 0) .z) qe (by kernel_rfl) ?_
 refine At_go <| W_ret (At_tr ?_)
 have k_2 := k_1.nil eS
 obtain rfl := Option.some.inj hm
 refine At_rt [sl none 0 0] qe (by kernel_rfl) ?_
 exact ⟨none, 0, 0, k_2.len 0 rfl, rfl, k_2⟩

-- (*quern/depot.Depot).Missing
theorem c_depot_Depot_Missing {F O : Nat → Prop} {w : World} (k : Cx F O w w []) (r : (List (List UInt8))) (hm : m_depot_Depot_Missing = some r) :
    Calls Tryz.prog 27 (vals [.v (.pointer none)]) w (fun e w' => ∃ A n c hd, r.length = n ∧ e = .returned (SV.val (sl A n c)) ∧ Cx F O w w' [O2 e8 A n c hd r]) := by
 unfold m_depot_Depot_Missing at hm
 refine calls [.v (.pointer none)] Tryz.func27 rfl (of_decide_eq_true (by kernel_rfl)) ?_
 refine W_seq <| W_q [] .a qe (by kernel_rfl) ?_
 refine At_go <| W_seq <| W_seq <| W_reg <| WLs 1 [] (.n 8 (.v (.pointer none)) .a) qe (by kernel_rfl) ?_
 refine WL_op ?_
 obtain ⟨r_, h_r_, hm⟩ := ob hm
 refine Op_call [] 9 _ yz_go49 (by kernel_rfl) (c_depot_Depot_none (F := N0) (O := N0)  (Cx.refl _) _ h_r_) ?_
 rintro e_ w_ ⟨rfl, k_⟩
 have k_1 := k.call k_
 refine ⟨.b true, rfl, ?_⟩
 refine WL_nil <| At_go <| W_cond true (by kernel_rfl) (fun _ => ?_) (fun h => by cases h)
 refine W_seq <| W_q [] (.n 2 (sl none 0 0) .z) qe (by kernel_rfl) ?_
 refine At_go <| W_ret (At_tr ?_)
 have k_2 := k_1.nil2 e8
 obtain rfl := Option.some.inj hm
 refine At_rt [sl none 0 0] qe (by kernel_rfl) ?_
 exact ⟨none, 0, 0, ([] : List Hd), k_2.len2 0 rfl, rfl, k_2⟩

-- (*quern/depot.Depot).Save
theorem c_depot_Depot_Save {F O : Nat → Prop} {w : World} (k : Cx F O w w []) (r : (List UInt8)) (hm : m_depot_Depot_Save = some r) :
    Calls Tryz.prog 28 (vals [.v (.pointer none)]) w (fun e w' => ∃ A n c, r.length = n ∧ e = .returned (SV.val (sl A n c)) ∧ Cx F O w w' [Ow e8 A n c r]) := by
 unfold m_depot_Depot_Save at hm
 refine calls [.v (.pointer none)] Tryz.func28 rfl (of_decide_eq_true (by kernel_rfl)) ?_
 refine W_seq <| W_q [] .a qe (by kernel_rfl) ?_
 refine At_go <| W_seq <| W_seq <| W_reg <| WLs 1 [] (.n 12 (.v (.pointer none)) .a) qe (by kernel_rfl) ?_
 refine WL_op ?_
 obtain ⟨r_, h_r_, hm⟩ := ob hm
 refine Op_call [] 13 _ yz_go49 (by kernel_rfl) (c_depot_Depot_none (F := N0) (O := N0)  (Cx.refl _) _ h_r_) ?_
 rintro e_ w_ ⟨rfl, k_⟩
 have k_1 := k.call k_
 refine ⟨.b true, rfl, ?_⟩
 refine WL_nil <| At_go <| W_cond true (by kernel_rfl) (fun _ => ?_) (fun h => by cases h)
 refine W_seq <| W_q [] (.n 2 (sl none 0 0) .z) qe (by kernel_rfl) ?_
 refine At_go <| W_ret (At_tr ?_)
 have k_2 := k_1.nil e8
 obtain rfl := Option.some.inj hm
 refine At_rt [sl none 0 0] qe (by kernel_rfl) ?_
 exact ⟨none, 0, 0, k_2.len 0 rfl, rfl, k_2⟩

-- (*quern/depot.Depot).Rates
theorem c_depot_Depot_Rates {F O : Nat → Prop} {w : World} (k : Cx F O w w []) (r : Unit) (hm : m_depot_Depot_Rates = some r) :
    Calls Tryz.prog 30 (vals [.v (.pointer none)]) w (fun e w' => e = .returned (SV.val (.agg [I 0, I 0, I 0, .v (.float .f64 0), .v (.float .f64 0), .v (.float .f64 0)])) ∧ Cx F O w w' []) := by
 unfold m_depot_Depot_Rates at hm
 refine calls [.v (.pointer none)] Tryz.func30 rfl (of_decide_eq_true (by kernel_rfl)) ?_
 refine W_seq <| W_reg <| WL_op <| Op_alloc [] 2 [I 0, I 0, I 0, .v (.float .f64 0), .v (.float .f64 0), .v (.float .f64 0)] (by kernel_rfl) k ?_
 intro g w_ k_
 refine WL_nil <| At_go <| W_seq <| W_reg <| WL_op <| Op_alloc [] 3 [I 0, I 0, I 0, .v (.float .f64 0), .v (.float .f64 0), .v (.float .f64 0)] (by kernel_rfl) k_ ?_
 intro g1 w_1 k_1
 refine WL_nil <| At_go <| W_seq <| W_seq <| W_reg <| WLs 1 [] (.n 14 (.v (.pointer none)) .a) qe (by kernel_rfl) ?_
 refine WL_op ?_
 obtain ⟨r_, h_r_, hm⟩ := ob hm
 refine Op_call [] 15 _ yz_go49 (by kernel_rfl) (c_depot_Depot_none (F := N0) (O := N0)  (Cx.refl _) _ h_r_) ?_
 rintro e_ w_2 ⟨rfl, k_2⟩
 have k_3 := k_1.call k_2
 refine ⟨.b true, rfl, ?_⟩
 refine WL_nil <| At_go <| W_cond true (by kernel_rfl) (fun _ => ?_) (fun h => by cases h)
 refine W_seq <| W_reg <| WLs 1 [] (.n 16 (.agg [I 0, I 0, I 0, .v (.float .f64 0), .v (.float .f64 0), .v (.float .f64 0)]) (.sss (.k .z))) (qT k_3 1 rfl 0 6 [I 0, I 0, I 0, .v (.float .f64 0), .v (.float .f64 0), .v (.float .f64 0)] (by kernel_rfl) (by decide) <| qe) (by kernel_rfl) ?_
 refine WL_op <| Op_b [] 0 (.agg [I 0, I 0, I 0, .v (.float .f64 0), .v (.float .f64 0), .v (.float .f64 0)]) [I 0, I 0, I 0, .v (.float .f64 0), .v (.float .f64 0), .v (.float .f64 0)] (Pt.at g 0) k_3 rfl .all (by kernel_rfl) (by kernel_rfl) ?_
 intro w_3 k_4
 have k_5 := k_4.sel (.k .z)
 refine WL_nil <| At_go <| W_ret (At_tr ?_)
 obtain rfl := Option.some.inj hm
 refine At_rt [.agg [I 0, I 0, I 0, .v (.float .f64 0), .v (.float .f64 0), .v (.float .f64 0)]] (qo (.agg [I 0, I 0, I 0, .v (.float .f64 0), .v (.float .f64 0), .v (.float .f64 0)]) <| qc (fun w => Rd w (some ⟨g, 0, none⟩) (SV.cl [I 0, I 0, I 0, .v (.float .f64 0), .v (.float .f64 0), .v (.float .f64 0)])) (k_5.brd 0 rfl) <| qe) (by kernel_rfl) ?_
 have k_6 := k_5.sel .z
 exact ⟨rfl, k_6⟩

-- quern/quernlaw27.rates
theorem c_l27_rates {F O : Nat → Prop} {w : World} (a_Chunks : Int) (a_Bytes : Int) (a_Told : Int) (b_Chunks : Int) (b_Bytes : Int) (b_Told : Int) (k : Cx F O w w []) (r : Bool) (hm : m_l27_rates a_Chunks a_Bytes a_Told b_Chunks b_Bytes b_Told = some r) :
    Calls Tryz.prog 29 (vals [.agg [I a_Chunks, I a_Bytes, I a_Told, .v (.float .f64 0), .v (.float .f64 0), .v (.float .f64 0)], .agg [I b_Chunks, I b_Bytes, I b_Told, .v (.float .f64 0), .v (.float .f64 0), .v (.float .f64 0)]]) w (fun e w' => e = .returned (SV.val (.b r)) ∧ Cx F O w w' []) := by
 unfold m_l27_rates at hm
 refine calls [.agg [I a_Chunks, I a_Bytes, I a_Told, .v (.float .f64 0), .v (.float .f64 0), .v (.float .f64 0)], .agg [I b_Chunks, I b_Bytes, I b_Told, .v (.float .f64 0), .v (.float .f64 0), .v (.float .f64 0)]] Tryz.func29 rfl (of_decide_eq_true (by kernel_rfl)) ?_
 refine W_seq <| W_reg <| WL_op <| Op_box [] 2 (.agg [I a_Chunks, I a_Bytes, I a_Told, .v (.float .f64 0), .v (.float .f64 0), .v (.float .f64 0)]) [I a_Chunks, I a_Bytes, I a_Told, .v (.float .f64 0), .v (.float .f64 0), .v (.float .f64 0)] (by kernel_rfl) k ?_
 intro g w_ k_
 refine WL_op <| Op_box [] 3 (.agg [I b_Chunks, I b_Bytes, I b_Told, .v (.float .f64 0), .v (.float .f64 0), .v (.float .f64 0)]) [I b_Chunks, I b_Bytes, I b_Told, .v (.float .f64 0), .v (.float .f64 0), .v (.float .f64 0)] (by kernel_rfl) k_ ?_
 intro g1 w_1 k_1
 refine WLs 1 [] (.kk .z) qe (by kernel_rfl) ?_
 refine WL_nil <| At_go <| W_seq ?_
 have k_2 := k_1.drew 1
 refine W_m yz_mixed (.q 0 6 (.q 1 6 (.q 2 6 (.q 3 6 (.q 4 6 (.q 5 6 (.q 6 6 (.q 7 6 (.q 8 6 (.q 9 6 (.q 10 6 (.q 11 6 (.q 12 6 (.q 13 6 (.q 14 6 (.q 15 6 (.q 16 6 (.q 17 6 (.q 18 6 (.q 19 4 (.q 20 6 (.q 21 5 (.q 23 6 (.q 24 5 (.op 22 (.op 25 (.q 26 6 (.q 27 6 (.q 28 4 (.q 29 6 (.q 30 5 (.q 32 6 (.q 33 5 (.op 31 (.op 34 (.q 35 6 (.q 36 6 (.q 37 4 (.q 38 6 (.q 39 5 (.q 41 6 (.q 42 5 (.op 40 (.op 43 (.q 44 6 (.q 45 6 (.q 46 6 .nil))))))))))))))))))))))))))))))))))))))))))))))) [22, 25, 31, 34, 40, 43] k_2 (.c (.kk .e) (.c (.kk .e) (.c (.kk .e) (.c (.kk .e) (.c (.kk .e) (.c (.kk .e) .l)))))) (by kernel_rfl) (fun _ => ?_)
 refine MXq 19 6 [] (.n 23 (.b (((decide (a_Chunks = b_Chunks)) && (decide (a_Bytes = b_Bytes))) && (decide (a_Told = b_Told)))) .a) (fun x hx => qs g 0 <| qB hx 0 rfl 0 (I a_Chunks) (by kernel_rfl) <| qs g1 0 <| qB hx 1 rfl 0 (I b_Chunks) (by kernel_rfl) <| qp ((decide (a_Chunks = b_Chunks)) = true → (some ⟨g, 0, none⟩ : Option Addr).isSome = true) (fun hg0 => rfl) <| qo (I a_Bytes) <| qc (fun w => (decide (a_Chunks = b_Chunks)) = true → ∃ a, (some ⟨g, 1, none⟩ : Option Addr) = some a ∧ w.cell? a = some (SV.val (I a_Bytes))) (fun hg0 => hx.bld 0 rfl 1 (I a_Bytes) (by kernel_rfl)) <| qp ((decide (a_Chunks = b_Chunks)) = true → (some ⟨g1, 0, none⟩ : Option Addr).isSome = true) (fun hg0 => rfl) <| qo (I b_Bytes) <| qc (fun w => (decide (a_Chunks = b_Chunks)) = true → ∃ a, (some ⟨g1, 1, none⟩ : Option Addr) = some a ∧ w.cell? a = some (SV.val (I b_Bytes))) (fun hg0 => hx.bld 1 rfl 1 (I b_Bytes) (by kernel_rfl)) <| qp (((decide (a_Chunks = b_Chunks)) && (decide (a_Bytes = b_Bytes))) = true → (some ⟨g, 0, none⟩ : Option Addr).isSome = true) (fun hg0 => rfl) <| qo (I a_Told) <| qc (fun w => ((decide (a_Chunks = b_Chunks)) && (decide (a_Bytes = b_Bytes))) = true → ∃ a, (some ⟨g, 2, none⟩ : Option Addr) = some a ∧ w.cell? a = some (SV.val (I a_Told))) (fun hg0 => hx.bld 0 rfl 2 (I a_Told) (by kernel_rfl)) <| qp (((decide (a_Chunks = b_Chunks)) && (decide (a_Bytes = b_Bytes))) = true → (some ⟨g1, 0, none⟩ : Option Addr).isSome = true) (fun hg0 => rfl) <| qo (I b_Told) <| qc (fun w => ((decide (a_Chunks = b_Chunks)) && (decide (a_Bytes = b_Bytes))) = true → ∃ a, (some ⟨g1, 2, none⟩ : Option Addr) = some a ∧ w.cell? a = some (SV.val (I b_Told))) (fun hg0 => hx.bld 1 rfl 2 (I b_Told) (by kernel_rfl)) <| qe) (by kernel_rfl) (fun _ => ?_)
 refine MXq 1 4 [] (.n 24 (.b (((decide (a_Chunks = b_Chunks)) && (decide (a_Bytes = b_Bytes))) && (decide (a_Told = b_Told)))) (.s .a)) (fun x hx => qe) (by kernel_rfl) (fun _ => ?_)
 refine MX_sp 24 (((decide (a_Chunks = b_Chunks)) && (decide (a_Bytes = b_Bytes))) && (decide (a_Told = b_Told))) (.s .a) (by kernel_rfl) (fun hg _ => ?_) (fun hg _ => ?_)
 · rw [if_pos hg] at hm
   refine MXq 1 6 [24] (.n 25 (pt g 3) .a) (fun x hx => qs g 0 <| qe) (by kernel_rfl) (fun _ => ?_)
   refine MXq 1 5 [24] (.n 26 (.v (.float .f64 0)) (.s .a)) (fun x hx => qB hx 0 rfl 3 (.v (.float .f64 0)) (by kernel_rfl) <| qe) (by kernel_rfl) (fun _ => ?_)
   refine MXq 1 6 [24] (.n 28 (pt g1 3) .a) (fun x hx => qs g1 0 <| qe) (by kernel_rfl) (fun _ => ?_)
   refine MXq 1 5 [24] (.n 29 (.v (.float .f64 0)) (.s .a)) (fun x hx => qB hx 1 rfl 3 (.v (.float .f64 0)) (by kernel_rfl) <| qe) (by kernel_rfl) (fun _ => ?_)
   refine MX_op (by kernel_rfl) rfl ?_
   obtain ⟨r_, h_r_, hm⟩ := ob hm
   refine Op_call [24] 27 _ yz_go39 (by kernel_rfl) (c_r22_One (F := N0) (O := N0)  (Cx.refl _) _ h_r_) ?_
   rintro e_ w_2 ⟨rfl, k_3⟩
   have k_4 := k_2.call k_3
   refine ⟨.u64 0, rfl, ?_⟩
   refine ⟨k_4, fun _ => ?_⟩
   refine MX_op (by kernel_rfl) rfl ?_
   obtain ⟨r_1, h_r_1, hm⟩ := ob hm
   refine Op_call [24] 30 _ yz_go39 (by kernel_rfl) (c_r22_One (F := N0) (O := N0)  (Cx.refl _) _ h_r_1) ?_
   rintro e_ w_3 ⟨rfl, k_5⟩
   have k_6 := k_4.call k_5
   refine ⟨.u64 0, rfl, ?_⟩
   refine ⟨k_6, fun _ => ?_⟩
   refine MXq 2 6 [24] (.n 32 (.b (decide ((0 : UInt64) = 0))) (.ssss (.s .a))) (fun x hx => qe) (by kernel_rfl) (fun _ => ?_)
   refine MXq 1 4 [] (.n 33 (.b (decide ((0 : UInt64) = 0))) (.s .a)) (fun x hx => qe) (by kernel_rfl) (fun _ => ?_)
   refine MX_sp 33 (decide ((0 : UInt64) = 0)) (.s .a) (by kernel_rfl) (fun hg1 _ => ?_) (fun hg1 _ => ?_)
   · rw [if_pos (of_decide_eq_true hg1)] at hm
     refine MXq 1 6 [33] (.n 34 (pt g 4) .a) (fun x hx => qs g 0 <| qe) (by kernel_rfl) (fun _ => ?_)
     refine MXq 1 5 [33] (.n 35 (.v (.float .f64 0)) (.s .a)) (fun x hx => qB hx 0 rfl 4 (.v (.float .f64 0)) (by kernel_rfl) <| qe) (by kernel_rfl) (fun _ => ?_)
     refine MXq 1 6 [33] (.n 37 (pt g1 4) .a) (fun x hx => qs g1 0 <| qe) (by kernel_rfl) (fun _ => ?_)
     refine MXq 1 5 [33] (.n 38 (.v (.float .f64 0)) (.s .a)) (fun x hx => qB hx 1 rfl 4 (.v (.float .f64 0)) (by kernel_rfl) <| qe) (by kernel_rfl) (fun _ => ?_)
     refine MX_op (by kernel_rfl) rfl ?_
     have k_7 := k_6.sel (.kk .e)
     obtain ⟨r_2, h_r_2, hm⟩ := ob hm
     refine Op_call [33] 36 _ yz_go39 (by kernel_rfl) (c_r22_One (F := N0) (O := N0)  (Cx.refl _) _ h_r_2) ?_
     rintro e_ w_4 ⟨rfl, k_8⟩
     have k_9 := k_7.call k_8
     refine ⟨.u64 0, rfl, ?_⟩
     refine ⟨k_9, fun _ => ?_⟩
     refine MX_op (by kernel_rfl) rfl ?_
     obtain ⟨r_3, h_r_3, hm⟩ := ob hm
     refine Op_call [33] 39 _ yz_go39 (by kernel_rfl) (c_r22_One (F := N0) (O := N0)  (Cx.refl _) _ h_r_3) ?_
     rintro e_ w_5 ⟨rfl, k_10⟩
     have k_11 := k_9.call k_10
     refine ⟨.u64 0, rfl, ?_⟩
     refine ⟨k_11, fun _ => ?_⟩
     refine MXq 2 6 [33] (.n 41 (.b (decide ((0 : UInt64) = 0))) (.ssss (.s .a))) (fun x hx => qe) (by kernel_rfl) (fun _ => ?_)
     refine MXq 1 4 [] (.n 42 (.b (decide ((0 : UInt64) = 0))) (.s .a)) (fun x hx => qe) (by kernel_rfl) (fun _ => ?_)
     refine MX_sp 42 (decide ((0 : UInt64) = 0)) (.s .a) (by kernel_rfl) (fun hg2 _ => ?_) (fun hg2 _ => ?_)
     · rw [if_pos (of_decide_eq_true hg2)] at hm
       refine MXq 1 6 [42] (.n 43 (pt g 5) (.kk .z)) (fun x hx => qs g 0 <| qe) (by kernel_rfl) (fun _ => ?_)
       refine MXq 1 5 [42] (.n 44 (.v (.float .f64 0)) (.s .a)) (fun x hx => qB hx 0 rfl 5 (.v (.float .f64 0)) (by kernel_rfl) <| qe) (by kernel_rfl) (fun _ => ?_)
       refine MXq 1 6 [42] (.n 46 (pt g1 5) (.kk .z)) (fun x hx => qs g1 0 <| qe) (by kernel_rfl) (fun _ => ?_)
       refine MXq 1 5 [42] (.n 47 (.v (.float .f64 0)) (.s .a)) (fun x hx => qB hx 1 rfl 5 (.v (.float .f64 0)) (by kernel_rfl) <| qe) (by kernel_rfl) (fun _ => ?_)
       refine MX_op (by kernel_rfl) rfl ?_
       obtain ⟨r_4, h_r_4, hm⟩ := ob hm
       refine Op_call [42] 45 _ yz_go39 (by kernel_rfl) (c_r22_One (F := N0) (O := N0)  (Cx.refl _) _ h_r_4) ?_
       rintro e_ w_6 ⟨rfl, k_12⟩
       have k_13 := k_11.call k_12
       refine ⟨.u64 0, rfl, ?_⟩
       refine ⟨k_13, fun _ => ?_⟩
       refine MX_op (by kernel_rfl) rfl ?_
       obtain ⟨r_5, h_r_5, hm⟩ := ob hm
       refine Op_call [42] 48 _ yz_go39 (by kernel_rfl) (c_r22_One (F := N0) (O := N0)  (Cx.refl _) _ h_r_5) ?_
       rintro e_ w_7 ⟨rfl, k_14⟩
       have k_15 := k_13.call k_14
       refine ⟨.u64 0, rfl, ?_⟩
       refine ⟨k_15, fun _ => ?_⟩
       refine MXq 3 6 [42] (.n 4 (.b (decide ((0 : UInt64) = 0))) .z) (fun x hx => qe) (by kernel_rfl) (fun _ => ?_)
       refine MX_nil <| At_go <| W_ret ?_
       obtain rfl := Option.some.inj hm
       refine At_rt [.b (decide ((0 : UInt64) = 0))] qe (by kernel_rfl) ?_
       have k_16 := k_15.sel .z
       exact ⟨rfl, k_16⟩
     · rw [if_neg (of_decide_eq_false hg2)] at hm
       refine MXq 1 6 [42] (.n 43 (.tup []) (.kk .z)) (fun x hx => qe) (by kernel_rfl) (fun _ => ?_)
       refine MXq 1 5 [42] (.n 44 (.tup []) (.s .a)) (fun x hx => qe) (by kernel_rfl) (fun _ => ?_)
       refine MXq 1 6 [42] (.n 46 (.tup []) (.kk .z)) (fun x hx => qe) (by kernel_rfl) (fun _ => ?_)
       refine MXq 1 5 [42] (.n 47 (.tup []) (.s .a)) (fun x hx => qe) (by kernel_rfl) (fun _ => ?_)
       refine MX_off 45 [42] (by kernel_rfl) rfl (by kernel_rfl) (fun _ => ?_)
       refine MX_off 48 [42] (by kernel_rfl) rfl (by kernel_rfl) (fun _ => ?_)
       refine MXq 3 6 [42] (.n 4 (.b false) .z) (fun x hx => qe) (by kernel_rfl) (fun _ => ?_)
       refine MX_nil <| At_go <| W_ret ?_
       obtain rfl := Option.some.inj hm
       refine At_rt [.b false] qe (by kernel_rfl) ?_
       have k_17 := k_11.sel .z
       exact ⟨rfl, k_17⟩
   · rw [if_neg (of_decide_eq_false hg1)] at hm
     refine MXq 1 6 [33] (.n 34 (.tup []) .a) (fun x hx => qe) (by kernel_rfl) (fun _ => ?_)
     refine MXq 1 5 [33] (.n 35 (.tup []) (.s .a)) (fun x hx => qe) (by kernel_rfl) (fun _ => ?_)
     refine MXq 1 6 [33] (.n 37 (.tup []) .a) (fun x hx => qe) (by kernel_rfl) (fun _ => ?_)
     refine MXq 1 5 [33] (.n 38 (.tup []) (.s .a)) (fun x hx => qe) (by kernel_rfl) (fun _ => ?_)
     refine MX_off 36 [33] (by kernel_rfl) rfl (by kernel_rfl) (fun _ => ?_)
     refine MX_off 39 [33] (by kernel_rfl) rfl (by kernel_rfl) (fun _ => ?_)
     refine MXq 2 6 [33] (.n 41 (.b false) (.ssss (.s .a))) (fun x hx => qe) (by kernel_rfl) (fun _ => ?_)
     refine MXq 1 4 [] (.n 42 (.b false) (.s .a)) (fun x hx => qe) (by kernel_rfl) (fun _ => ?_)
     refine MXq 1 6 [42] (.n 43 (.tup []) (.kk .z)) (fun x hx => qe) (by kernel_rfl) (fun _ => ?_)
     refine MXq 1 5 [42] (.n 44 (.tup []) (.s .a)) (fun x hx => qe) (by kernel_rfl) (fun _ => ?_)
     refine MXq 1 6 [42] (.n 46 (.tup []) (.kk .z)) (fun x hx => qe) (by kernel_rfl) (fun _ => ?_)
     refine MXq 1 5 [42] (.n 47 (.tup []) (.s .a)) (fun x hx => qe) (by kernel_rfl) (fun _ => ?_)
     refine MX_off 45 [42] (by kernel_rfl) rfl (by kernel_rfl) (fun _ => ?_)
     refine MX_off 48 [42] (by kernel_rfl) rfl (by kernel_rfl) (fun _ => ?_)
     refine MXq 3 6 [42] (.n 4 (.b false) .z) (fun x hx => qe) (by kernel_rfl) (fun _ => ?_)
     refine MX_nil <| At_go <| W_ret ?_
     obtain rfl := Option.some.inj hm
     refine At_rt [.b false] qe (by kernel_rfl) ?_
     have k_18 := k_6.sel .z
     exact ⟨rfl, k_18⟩
 · rw [if_neg (by rw [hg]; decide)] at hm
   refine MXq 1 6 [24] (.n 25 (.tup []) .a) (fun x hx => qe) (by kernel_rfl) (fun _ => ?_)
   refine MXq 1 5 [24] (.n 26 (.tup []) (.s .a)) (fun x hx => qe) (by kernel_rfl) (fun _ => ?_)
   refine MXq 1 6 [24] (.n 28 (.tup []) .a) (fun x hx => qe) (by kernel_rfl) (fun _ => ?_)
   refine MXq 1 5 [24] (.n 29 (.tup []) (.s .a)) (fun x hx => qe) (by kernel_rfl) (fun _ => ?_)
   refine MX_off 27 [24] (by kernel_rfl) rfl (by kernel_rfl) (fun _ => ?_)
   refine MX_off 30 [24] (by kernel_rfl) rfl (by kernel_rfl) (fun _ => ?_)
   refine MXq 2 6 [24] (.n 32 (.b false) (.ssss (.s .a))) (fun x hx => qe) (by kernel_rfl) (fun _ => ?_)
   refine MXq 1 4 [] (.n 33 (.b false) (.s .a)) (fun x hx => qe) (by kernel_rfl) (fun _ => ?_)
   refine MXq 1 6 [33] (.n 34 (.tup []) .a) (fun x hx => qe) (by kernel_rfl) (fun _ => ?_)
   refine MXq 1 5 [33] (.n 35 (.tup []) (.s .a)) (fun x hx => qe) (by kernel_rfl) (fun _ => ?_)
   refine MXq 1 6 [33] (.n 37 (.tup []) .a) (fun x hx => qe) (by kernel_rfl) (fun _ => ?_)
   refine MXq 1 5 [33] (.n 38 (.tup []) (.s .a)) (fun x hx => qe) (by kernel_rfl) (fun _ => ?_)
   refine MX_off 36 [33] (by kernel_rfl) rfl (by kernel_rfl) (fun _ => ?_)
   refine MX_off 39 [33] (by kernel_rfl) rfl (by kernel_rfl) (fun _ => ?_)
   refine MXq 2 6 [33] (.n 41 (.b false) (.ssss (.s .a))) (fun x hx => qe) (by kernel_rfl) (fun _ => ?_)
   refine MXq 1 4 [] (.n 42 (.b false) (.s .a)) (fun x hx => qe) (by kernel_rfl) (fun _ => ?_)
   refine MXq 1 6 [42] (.n 43 (.tup []) (.kk .z)) (fun x hx => qe) (by kernel_rfl) (fun _ => ?_)
   refine MXq 1 5 [42] (.n 44 (.tup []) (.s .a)) (fun x hx => qe) (by kernel_rfl) (fun _ => ?_)
   refine MXq 1 6 [42] (.n 46 (.tup []) (.kk .z)) (fun x hx => qe) (by kernel_rfl) (fun _ => ?_)
   refine MXq 1 5 [42] (.n 47 (.tup []) (.s .a)) (fun x hx => qe) (by kernel_rfl) (fun _ => ?_)
   refine MX_off 45 [42] (by kernel_rfl) rfl (by kernel_rfl) (fun _ => ?_)
   refine MX_off 48 [42] (by kernel_rfl) rfl (by kernel_rfl) (fun _ => ?_)
   refine MXq 3 6 [42] (.n 4 (.b false) .z) (fun x hx => qe) (by kernel_rfl) (fun _ => ?_)
   refine MX_nil <| At_go <| W_ret ?_
   obtain rfl := Option.some.inj hm
   refine At_rt [.b false] qe (by kernel_rfl) ?_
   have k_19 := k_2.sel .z
   exact ⟨rfl, k_19⟩

-- (*quern/depot.Depot).none
theorem c_depot_Depot_none_s1 {F O : Nat → Prop} {w : World} (d_size : Int) (g_d : Nat) (k : Cx F O w w [Bx 55 g_d [I d_size, .v (.map none), .v (.map none)]]) (r : Int) (hm : m_depot_Depot_none_s1 d_size = some r) :
    Calls Tryz.prog 49 (vals [pt g_d 0]) w (fun e w' => e = .returned (SV.val (.b true)) ∧ Cx F O w w' [Bx 55 g_d [I r, .v (.map none), .v (.map none)]]) := by
 unfold m_depot_Depot_none_s1 at hm
 refine calls [pt g_d 0] Tryz.func49 rfl (of_decide_eq_true (by kernel_rfl)) ?_
 refine W_seq <| W_q [] .a qe (by kernel_rfl) ?_
 refine At_go <| W_seq <| W_q [5] (.n 2 (.b true) .z) (qs g_d 0 <| qs g_d 0 <| qB k 0 rfl 1 (.v (.map none)) (by kernel_rfl) <| qe) (by kernel_rfl) ?_
 refine At_go <| W_ret ?_
 obtain rfl := Option.some.inj hm
 refine At_rt [.b true] qe (by kernel_rfl) ?_
 exact ⟨rfl, k⟩
end Go.Sx
