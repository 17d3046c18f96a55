import Derived.Test.YtmknbdnofogmdaaGreatW1
namespace Go.Sx
open Go.RowKit Go.Proofs
set_option linter.unusedVariables false
set_option linter.unusedSimpArgs false
set_option maxRecDepth 20000

-- (*quern/node.half[uint32]).write
theorem c_node_half_uint32_write {F O : Nat → Prop} {w : World} (x_h : Vec UInt32 8) (x_count_Lo : UInt64) (x_count_Hi : UInt64) (x_held : List UInt8) (x_block : Int) (b : List UInt8) (g_x : Nat) (A_x_held : Option Addr) (n_x_held : Nat) (c_x_held : Nat) (A_b : Option Addr) (n_b : Nat) (c_b : Nat) (h_b : Ro F w A_b (e8.all b)) (hn_b : b.length = n_b) (hc_b : n_b ≤ c_b) (k : Cx F O w w [Bx 213 g_x [.ar e32 x_h, .u64 x_count_Lo, .u64 x_count_Hi, sl A_x_held n_x_held c_x_held, I x_block, .v (.func (.func 135) ⟨SV.vals []⟩ ⟨SV.vals []⟩), .v (.func (.func 136) ⟨SV.vals []⟩ ⟨SV.vals []⟩)], Ow e8 A_x_held n_x_held c_x_held x_held]) (r : (Vec UInt32 8 × UInt64 × UInt64 × List UInt8 × Int)) (hm : m_node_half_uint32_write x_h x_count_Lo x_count_Hi x_held x_block b = some r) :
    Calls Tryz.prog 192 (vals [pt g_x 0, sl A_b n_b c_b]) w (fun e w' => ∃ A n c, r.2.2.2.1.length = n ∧ e = .returned (SV.val (.tup [])) ∧ Cx F O w w' [Bx 213 g_x [.ar e32 r.1, .u64 r.2.1, .u64 r.2.2.1, sl A n c, I r.2.2.2.2, .v (.func (.func 135) ⟨SV.vals []⟩ ⟨SV.vals []⟩), .v (.func (.func 136) ⟨SV.vals []⟩ ⟨SV.vals []⟩)], Ow e8 A n c r.2.2.2.1]) := by
 unfold m_node_half_uint32_write at hm
 obtain rfl := k.len 1 rfl
 subst hn_b
 refine calls [pt g_x 0, sl A_b b.length c_b] Tryz.func192 rfl (of_decide_eq_true (by kernel_rfl)) ?_
 refine W_block <| W_lp (m_node_half_uint32_write_l0 x_block) (fun s L wr => ∃ (x_0 : Vec UInt32 8) (x_5 : UInt64) (x_6 : UInt64) (x_7 : List UInt8) (b1 : List UInt8) (A0 : Option Addr) (n0 : Nat) (c0 : Nat) (A1 : Option Addr) (c1 : Nat), (x_0, x_5, x_6, x_7, b1) = s ∧ L = [(0, pt g_x 0), (1, sl A1 b1.length c1)] ∧ x_7.length = n0 ∧ Ro F w A1 (e8.all b1) ∧ b1.length ≤ c1 ∧ Cx F O w wr [Bx 213 g_x [.ar e32 x_0, .u64 x_5, .u64 x_6, sl A0 n0 c0, I x_block, .v (.func (.func 135) ⟨SV.vals []⟩ ⟨SV.vals []⟩), .v (.func (.func 136) ⟨SV.vals []⟩ ⟨SV.vals []⟩)], Ow e8 A0 n0 c0 x_7]) (x_h, x_count_Lo, x_count_Hi, x_held, b) r hm ⟨x_h, x_count_Lo, x_count_Hi, x_held, b, A_x_held, x_held.length, c_x_held, A_b, c_b, rfl, rfl, k.len 1 rfl, h_b, hc_b, k⟩ (by kernel_rfl) ?_
 intro s0_ L_ w_ y0 hrel hstep hr0
 obtain ⟨x_0, x_5, x_6, x_7, b1, A0, _, c0, A1, c1, rfl, rfl, rfl, h, hc, k_⟩ := hrel
 have hm := hstep; simp only [m_node_half_uint32_write_l0] at hm
 clear hstep
 refine W_seq <| W_seq <| W_q [] (.n 7 (.b (decide (0 < ((b1.length : Nat) : Int)))) .a) qe (by kernel_rfl) ?_
 refine At_go <| W_condp (0 < ((b1.length : Nat) : Int)) (by kernel_rfl) (fun hc1 => ?_) (fun hc1 => ?_)
 · rw [if_pos hc1] at hm
   refine W_skip <| At_go <| W_block <| W_cut (fun L wr => ∃ (x_8 : Vec UInt32 8) (x_9 : UInt64) (x_10 : UInt64) (x_11 : List UInt8) (A2 : Option Addr) (n1 : Nat) (c2 : Nat), m_node_half_uint32_write_j0 x_block b1 x_8 x_9 x_10 x_11 = some y0 ∧ L = [(0, pt g_x 0), (1, sl A1 b1.length c1)] ∧ x_11.length = n1 ∧ Cx F O w wr [Bx 213 g_x [.ar e32 x_8, .u64 x_9, .u64 x_10, sl A2 n1 c2, I x_block, .v (.func (.func 135) ⟨SV.vals []⟩ ⟨SV.vals []⟩), .v (.func (.func 136) ⟨SV.vals []⟩ ⟨SV.vals []⟩)], Ow e8 A2 n1 c2 x_11]) ?_ ?_
   ·
    refine W_seq <| W_d yz_mixed (by kernel_rfl) (.n 17 (.b (decide (((x_7.length : Nat) : Int) = x_block))) (.s .a)) (fun m => qs g_x 0 <| qs g_x 0 <| qB (k_.drew m) 0 rfl 10 (sl A0 x_7.length c0) (by kernel_rfl) <| qs g_x 0 <| qs g_x 0 <| qB (k_.drew m) 0 rfl 11 (I x_block) (by kernel_rfl) <| qe) (by kernel_rfl) (fun m_ => ?_)
    have k_1 := k_.drew m_
    refine At_go <| W_condp (((x_7.length : Nat) : Int) = x_block) (by kernel_rfl) (fun hc2 => ?_) (fun hc2 => ?_)
    · rw [if_pos hc2] at hm
      refine W_seq ?_
      have k_2 := k_1.drew 1
      refine W_m yz_mixed (.q 0 1 (.q 1 1 (.q 2 1 (.q 3 1 (.q 4 0 (.q 5 1 (.q 6 1 (.q 7 1 (.q 8 1 (.q 9 0 (.op 10 (.q 11 1 (.q 12 1 (.q 13 2 (.q 14 2 (.q 15 1 (.op 16 .nil))))))))))))))))) [10, 16] k_2 (.c (.kk .e) (.c (.s (.k .e)) .l)) (by kernel_rfl) (fun _ => ?_)
      refine MXq 4 1 [] (.n 19 (pt g_x 0) (.n 22 (pt g_x 8) (.s .a))) (fun x hx => qs g_x 0 <| qs g_x 0 <| qe) (by kernel_rfl) (fun _ => ?_)
      refine MXq 1 0 [] (.n 23 (.agg [.u64 x_5, .u64 x_6]) (.k (.s .a))) (fun x hx => qT hx 0 rfl 8 2 [.u64 x_5, .u64 x_6] (by kernel_rfl) (by decide) <| qe) (by kernel_rfl) (fun _ => ?_)
      refine MXq 4 1 [] (.n 27 (I x_block) .a) (fun x hx => qs g_x 0 <| qs g_x 0 <| qB hx 0 rfl 11 (I x_block) (by kernel_rfl) <| qe) (by kernel_rfl) (fun _ => ?_)
      refine MXq 1 0 [] (.n 28 (.u64 (UInt64.ofInt x_block)) (.s .a)) (fun x hx => qe) (by kernel_rfl) (fun _ => ?_)
      refine MX_op (by kernel_rfl) rfl ?_
      obtain ⟨r_, h_r_, hm⟩ := ob hm
      refine Op_call [] 29 _ yz_go187 (by kernel_rfl) (c_word_Add (F := N0) (O := N0) _ _ _ (Cx.refl _) _ h_r_) ?_
      rintro e_ w_1 ⟨rfl, k_3⟩
      have k_4 := k_2.call k_3
      refine ⟨.tup [.agg [.u64 r_.1, .u64 r_.2.1], .b r_.2.2], rfl, ?_⟩
      refine ⟨k_4, fun _ => ?_⟩
      refine MXq 2 1 [] (.n 18 (.tup [.agg [.u64 r_.1, .u64 r_.2.1], .b r_.2.2]) (.n 30 (.agg [.u64 r_.1, .u64 r_.2.1]) (.sss .a))) (fun x hx => qe) (by kernel_rfl) (fun _ => ?_)
      refine MXq 2 2 [] (.n 32 (pt g_x 0) (.s (.k (.s .a)))) (fun x hx => qs g_x 0 <| qe) (by kernel_rfl) (fun _ => ?_)
      refine MXq 1 1 [] (.n 33 (pt g_x 8) (.s .a)) (fun x hx => qs g_x 0 <| qe) (by kernel_rfl) (fun _ => ?_)
      refine MX_op (by kernel_rfl) rfl <| Op_b [] 0 (.agg [.u64 r_.1, .u64 r_.2.1]) [.u64 r_.1, .u64 r_.2.1] (Pt.at g_x 8) k_4 rfl (.k .h2) (by kernel_rfl) (by kernel_rfl) ?_
      intro w_2 k_5
      refine ⟨(k_5.sel (.s (.k .e))), fun _ => ?_⟩
      refine MX_nil <| At_go <| W_seq ?_
      have k_6 := k_5.drew 1
      refine W_m yz_mixed (.q 0 1 (.q 1 1 (.q 2 1 (.q 3 1 (.q 4 0 (.q 5 1 (.q 6 1 (.q 7 1 (.q 8 0 (.q 9 1 (.q 10 1 (.q 11 1 (.q 12 0 (.q 13 1 (.q 14 1 (.q 15 1 (.q 16 0 (.op 17 (.q 18 2 (.q 19 1 (.op 20 .nil))))))))))))))))))))) [17, 20] k_6 (.c (.kk .e) (.c (.s (.k .e)) .l)) (by kernel_rfl) (fun _ => ?_)
      refine MXq 4 1 [] (.n 34 (pt g_x 0) (.n 37 (pt g_x 12) (.ss .a))) (fun x hx => qs g_x 0 <| qs g_x 0 <| qe) (by kernel_rfl) (fun _ => ?_)
      refine MXq 1 0 [] (.n 38 (.v (.func (.func 135) ⟨SV.vals []⟩ ⟨SV.vals []⟩)) (.k (.s .a))) (fun x hx => qB hx 0 rfl 12 (.v (.func (.func 135) ⟨SV.vals []⟩ ⟨SV.vals []⟩)) (by kernel_rfl) <| qe) (by kernel_rfl) (fun _ => ?_)
      refine MXq 3 1 [] (.n 41 (pt g_x 0) .a) (fun x hx => qs g_x 0 <| qs g_x 0 <| qe) (by kernel_rfl) (fun _ => ?_)
      refine MXq 1 0 [] (.n 42 (.agg [.ar e32 x_0]) (.s .a)) (fun x hx => qT hx 0 rfl 0 8 [.ar e32 x_0] (by kernel_rfl) (by decide) <| qe) (by kernel_rfl) (fun _ => ?_)
      refine MXq 3 1 [] (.n 45 (pt g_x 10) .a) (fun x hx => qs g_x 0 <| qs g_x 0 <| qe) (by kernel_rfl) (fun _ => ?_)
      refine MXq 1 0 [] (.n 46 (sl A0 x_7.length c0) (.s .a)) (fun x hx => qB hx 0 rfl 10 (sl A0 x_7.length c0) (by kernel_rfl) <| qe) (by kernel_rfl) (fun _ => ?_)
      refine MXq 3 1 [] (.n 49 (pt g_x 8) .a) (fun x hx => qs g_x 0 <| qs g_x 0 <| qe) (by kernel_rfl) (fun _ => ?_)
      refine MXq 1 0 [] (.n 50 (.agg [.u64 r_.1, .u64 r_.2.1]) (.s .a)) (fun x hx => qT hx 0 rfl 8 2 [.u64 r_.1, .u64 r_.2.1] (by kernel_rfl) (by decide) <| qe) (by kernel_rfl) (fun _ => ?_)
      refine MX_op (by kernel_rfl) rfl ?_
      obtain ⟨r_1, h_r_1, hm⟩ := ob hm
      refine Op_callv [] 51 [] [.agg [.ar e32 x_0], sl A0 x_7.length c0, .agg [.u64 r_.1, .u64 r_.2.1], .b false, .b false] [] yz_go135 (by kernel_rfl) (c_node_mixSmall (F := N0) (O := N0) _ _ _ _ _ _ _ _ _ (Ro.n0 (k_6.rd 1 rfl)) (k_6.len 1 rfl) (k_6.lec 1 rfl) (Cx.refl _) _ h_r_1) ?_
      rintro e_ w_3 ⟨rfl, k_7⟩
      have k_8 := k_6.call k_7
      refine ⟨.agg [.ar e32 r_1], rfl, ?_⟩
      refine ⟨k_8, fun _ => ?_⟩
      refine MXq 1 2 [] (.n 52 (pt g_x 0) (.k (.ssss (.s .a)))) (fun x hx => qs g_x 0 <| qe) (by kernel_rfl) (fun _ => ?_)
      refine MXq 1 1 [] (.n 53 (pt g_x 0) (.s .a)) (fun x hx => qs g_x 0 <| qe) (by kernel_rfl) (fun _ => ?_)
      refine MX_op (by kernel_rfl) rfl <| Op_b [] 0 (.agg [.ar e32 r_1]) [.ar e32 r_1] (Pt.at g_x 0) k_8 rfl .h (by kernel_rfl) (by kernel_rfl) ?_
      intro w_4 k_9
      refine ⟨(k_9.sel (.s (.k .e))), fun _ => ?_⟩
      refine MX_nil <| At_go <| W_reg ?_
      obtain ⟨b2, h_b2, hm⟩ := ob hm
      have hs := slc_some h_b2
      have hl := slc_len h_b2
      have hn : x_7.length = x_7.length := (k_9.len 1 rfl)
      have hc3 : x_7.length ≤ c0 := (k_9.lec 1 rfl)
      have hc4 : b2.length ≤ c0 := by omega
      refine WLs 8 [] (.n 59 (sl A0 b2.length c0) (.n 61 (pt g_x 10) (.ss .a))) (qs g_x 0 <| qs g_x 0 <| qB k_9 0 rfl 10 (sl A0 x_7.length c0) (by kernel_rfl) <| qp (0 ≤ (0 : Int) ∧ (0 : Int) ≤ ((c0 : Nat) : Int)) (by omega) <| qo (.v (.slice A0 b2.length c0)) <| qp (Value.slice (slA A0 0 c0 1) (Int.toNat (0 : Int) - 0) (c0 - 0) = .slice A0 b2.length c0) (slx0 _ _ _ _ _ (by omega)) <| qs g_x 0 <| qs g_x 0 <| qe) (by kernel_rfl) ?_
      refine WL_op ?_
      have k_10 := k_9.sel (.kk .e)
      refine Op_b [] 0 (sl A0 b2.length c0) [sl A0 b2.length c0] (Pt.at g_x 10) k_10 rfl (.kk (.k .h)) (by kernel_rfl) (by kernel_rfl) ?_
      intro w_5 k_11
      refine WL_nil ?_
      have k_12 := k_11.pre 1 rfl b2.length c0 b2 (by omega) (by omega) (by omega) (slc_pre h_b2 rfl)
      exact At_c ⟨r_1, r_.1, r_.2.1, b2, A0, b2.length, c0, hm, rfl, k_12.len 1 rfl, k_12⟩ (by kernel_rfl)
    rw [if_neg hc2] at hm
    refine W_skip ?_
    exact At_c ⟨x_0, x_5, x_6, x_7, A0, x_7.length, c0, hm, rfl, k_1.len 1 rfl, k_1⟩ (by kernel_rfl)
   rintro L_ w_6 ⟨x_8, x_9, x_10, x_11, A2, _, c2, hm, rfl, rfl, k_13⟩
   simp only [m_node_half_uint32_write_j0] at hm
   refine W_seq <| W_d yz_mixed (by kernel_rfl) (.n 4 (I (if w64 (x_block - ((x_11.length : Nat) : Int)) < ((b1.length : Nat) : Int) then w64 (x_block - ((x_11.length : Nat) : Int)) else ((b1.length : Nat) : Int))) .a) (fun m => qs g_x 0 <| qs g_x 0 <| qB (k_13.drew m) 0 rfl 11 (I x_block) (by kernel_rfl) <| qs g_x 0 <| qs g_x 0 <| qB (k_13.drew m) 0 rfl 10 (sl A2 x_11.length c2) (by kernel_rfl) <| qe) (by kernel_rfl) (fun m_1 => ?_)
   have k_14 := k_13.drew m_1
   refine At_go <| W_seq ?_
   have k_15 := k_14.drew 1
   refine W_m yz_mixed (.q 0 1 (.q 1 1 (.q 2 1 (.q 3 1 (.q 4 0 (.q 5 1 (.q 6 1 (.q 7 0 (.op 8 (.q 9 2 (.q 10 1 (.op 11 .nil)))))))))))) [8, 11] k_15 (.c (.k .z) (.c (.z) .l)) (by kernel_rfl) (fun _ => ?_)
   refine MXq 4 1 [] (.n 75 (pt g_x 0) (.n 78 (pt g_x 10) .a)) (fun x hx => qs g_x 0 <| qs g_x 0 <| qe) (by kernel_rfl) (fun _ => ?_)
   refine MXq 1 0 [] (.n 79 (sl A2 x_11.length c2) (.k (.s .a))) (fun x hx => qB hx 0 rfl 10 (sl A2 x_11.length c2) (by kernel_rfl) <| qe) (by kernel_rfl) (fun _ => ?_)
   refine MXq 2 1 [] (.n 80 (sl A1 b1.length c1) (.n 81 (I (if w64 (x_block - ((x_11.length : Nat) : Int)) < ((b1.length : Nat) : Int) then w64 (x_block - ((x_11.length : Nat) : Int)) else ((b1.length : Nat) : Int))) .a)) (fun x hx => qe) (by kernel_rfl) (fun _ => ?_)
   obtain ⟨b3, h_b3, hm⟩ := ob hm
   have hs1 := slc_some h_b3
   have hl1 := slc_len h_b3
   have hn1 : b1.length = b1.length := rfl
   have hc5 : b1.length ≤ c1 := hc
   have hc6 : b3.length ≤ c1 := by omega
   refine MXq 1 0 [] (.n 82 (sl A1 b3.length c1) (.ss .a)) (fun x hx => qp (0 ≤ (if w64 (x_block - ((x_11.length : Nat) : Int)) < ((b1.length : Nat) : Int) then w64 (x_block - ((x_11.length : Nat) : Int)) else ((b1.length : Nat) : Int)) ∧ (if w64 (x_block - ((x_11.length : Nat) : Int)) < ((b1.length : Nat) : Int) then w64 (x_block - ((x_11.length : Nat) : Int)) else ((b1.length : Nat) : Int)) ≤ ((c1 : Nat) : Int)) (by omega) <| qo (.v (.slice A1 b3.length c1)) <| qp (Value.slice (slA A1 0 c1 1) (Int.toNat (if w64 (x_block - ((x_11.length : Nat) : Int)) < ((b1.length : Nat) : Int) then w64 (x_block - ((x_11.length : Nat) : Int)) else ((b1.length : Nat) : Int)) - 0) (c1 - 0) = .slice A1 b3.length c1) (slx0 _ _ _ _ _ (by omega)) <| qe) (by kernel_rfl) (fun _ => ?_)
   refine MX_op (by kernel_rfl) rfl ?_
   obtain ⟨b4, h_b4, hm⟩ := ob hm
   obtain ⟨hz, hl2⟩ := app_some h_b4
   refine Op_append (E := e8) (v := sl A1 b3.length c1) (ys := b3) yz_tf22 [] 83 1 (by kernel_rfl) k_15 rfl (Src.sl (Rd.pre (h.cx k_15) h_b3 rfl) rfl (by rfl)) rfl (by have := k_15.len 1 rfl; have := hm; omega) ?_
   intro A3 c3 w_7 k_16
   rw [← hl2] at k_16
   refine ⟨(k_16.sel (.k .z)), fun _ => ?_⟩
   refine MXq 1 2 [] (.n 84 (pt g_x 0) (.k (.sss .a))) (fun x hx => qs g_x 0 <| qe) (by kernel_rfl) (fun _ => ?_)
   refine MXq 1 1 [] (.n 85 (pt g_x 10) (.s .a)) (fun x hx => qs g_x 0 <| qe) (by kernel_rfl) (fun _ => ?_)
   refine MX_op (by kernel_rfl) rfl <| Op_b [] 0 (sl A3 (x_11.length + b3.length) c3) [sl A3 (x_11.length + b3.length) c3] (Pt.at g_x 10) k_16 rfl (.kk (.k .h)) (by kernel_rfl) (by kernel_rfl) ?_
   intro w_8 k_17
   refine ⟨(k_17.sel .z), fun _ => ?_⟩
   refine MX_nil <| At_go ?_
   obtain ⟨b5, h_b5, hm⟩ := ob hm
   have hs2 := slc_some h_b5
   have hl3 := slc_len h_b5
   have hn2 : b1.length = b1.length := rfl
   have hc7 : b1.length ≤ c1 := hc
   obtain ⟨A4, c4, e_, hc8, hA, hc9⟩ := slx A1 (Int.toNat (if w64 (x_block - ((x_11.length : Nat) : Int)) < ((b1.length : Nat) : Int) then w64 (x_block - ((x_11.length : Nat) : Int)) else ((b1.length : Nat) : Int))) c1 1 (b1.length - Int.toNat (if w64 (x_block - ((x_11.length : Nat) : Int)) < ((b1.length : Nat) : Int) then w64 (x_block - ((x_11.length : Nat) : Int)) else ((b1.length : Nat) : Int))) b5.length (by omega) (by omega)
   refine W_q [] (.n 1 (sl A4 b5.length c4) (.sss (.k .z))) (qp (0 ≤ (if w64 (x_block - ((x_11.length : Nat) : Int)) < ((b1.length : Nat) : Int) then w64 (x_block - ((x_11.length : Nat) : Int)) else ((b1.length : Nat) : Int)) ∧ (if w64 (x_block - ((x_11.length : Nat) : Int)) < ((b1.length : Nat) : Int) then w64 (x_block - ((x_11.length : Nat) : Int)) else ((b1.length : Nat) : Int)) ≤ ((b1.length : Nat) : Int)) (by omega) <| qo (.v (.slice A4 b5.length c4)) <| qp (Value.slice (slA A1 (Int.toNat (if w64 (x_block - ((x_11.length : Nat) : Int)) < ((b1.length : Nat) : Int) then w64 (x_block - ((x_11.length : Nat) : Int)) else ((b1.length : Nat) : Int))) c1 1) (b1.length - Int.toNat (if w64 (x_block - ((x_11.length : Nat) : Int)) < ((b1.length : Nat) : Int) then w64 (x_block - ((x_11.length : Nat) : Int)) else ((b1.length : Nat) : Int))) (c1 - Int.toNat (if w64 (x_block - ((x_11.length : Nat) : Int)) < ((b1.length : Nat) : Int) then w64 (x_block - ((x_11.length : Nat) : Int)) else ((b1.length : Nat) : Int))) = .slice A4 b5.length c4) e_ <| qe) (by kernel_rfl) ?_
   refine At_in ?_
   exact At_rd (x_8, x_9, x_10, b4, b5) (Option.some.inj hm).symm ⟨x_8, x_9, x_10, b4, b5, A3, x_11.length + b3.length, c3, A4, c4, rfl, rfl, k_17.len 1 rfl, (Ro.cut h h_b5 rfl (by rfl) hA (by omega)), hc8, k_17⟩ (by kernel_rfl)
 rw [if_neg hc1] at hm
 refine W_exit (At_te (At_te (At_ie ?_)))
 have hm := exit_of hm hr0
 obtain rfl := Option.some.inj hm
 refine At_en [] qe (by kernel_rfl) ?_
 exact ⟨A0, x_7.length, c0, k_.len 1 rfl, rfl, k_⟩

-- (*quern/node.Node).begin
theorem c_node_Node_begin {F O : Nat → Prop} {w : World} (n_kind : Int) (n_digest : Int) (n_block : List UInt8) (n_key : List UInt8) (n_last : Bool) (n_written : UInt64) (g_n : Nat) (A_n_block : Option Addr) (n_n_block : Nat) (c_n_block : Nat) (A_n_key : Option Addr) (n_n_key : Nat) (c_n_key : Nat) (k : Cx F O w w [Bx 125 g_n [I n_kind, I n_digest, sl A_n_block n_n_block c_n_block, sl A_n_key n_n_key c_n_key, .b n_last, .u64 n_written, .v .nilIface], Ow e8 A_n_block n_n_block c_n_block n_block, Ow e8 A_n_key n_n_key c_n_key n_key]) (r : (Int × Int × List UInt8 × List UInt8 × Vec UInt64 8 × UInt64 × UInt64 × List UInt8 × Int) ⊕ (Int × Int × List UInt8 × List UInt8 × Vec UInt32 8 × UInt64 × UInt64 × List UInt8 × Int)) (hm : m_node_Node_begin n_kind n_digest n_block n_key n_last n_written = some r) :
    Calls Tryz.prog 107 (vals [pt g_n 0]) w (fun e w' => match r with | .inl r0 => ∃ A n c A1 n1 c1 g A2 n2 c2, r0.2.2.1.length = n ∧ r0.2.2.2.1.length = n1 ∧ r0.2.2.2.2.2.2.2.1.length = n2 ∧ e = .returned (SV.val (.tup [])) ∧ Cx F O w w' [Bx 125 g_n [I r0.1, I r0.2.1, sl A n c, sl A1 n1 c1, .b false, .u64 0, .v (.iface 200 (SV.val (pt g 0)))], Ow e8 A n c r0.2.2.1, Ow e8 A1 n1 c1 r0.2.2.2.1, Bx 206 g [.ar e64 r0.2.2.2.2.1, .u64 r0.2.2.2.2.2.1, .u64 r0.2.2.2.2.2.2.1, sl A2 n2 c2, I r0.2.2.2.2.2.2.2.2, .v (.func (.func 132) ⟨SV.vals []⟩ ⟨SV.vals []⟩), .v (.func (.func 133) ⟨SV.vals []⟩ ⟨SV.vals []⟩)], Ow e8 A2 n2 c2 r0.2.2.2.2.2.2.2.1] | .inr r1 => ∃ A3 n3 c3 A4 n4 c4 g1 A5 n5 c5, r1.2.2.1.length = n3 ∧ r1.2.2.2.1.length = n4 ∧ r1.2.2.2.2.2.2.2.1.length = n5 ∧ e = .returned (SV.val (.tup [])) ∧ Cx F O w w' [Bx 125 g_n [I r1.1, I r1.2.1, sl A3 n3 c3, sl A4 n4 c4, .b false, .u64 0, .v (.iface 209 (SV.val (pt g1 0)))], Ow e8 A3 n3 c3 r1.2.2.1, Ow e8 A4 n4 c4 r1.2.2.2.1, Bx 213 g1 [.ar e32 r1.2.2.2.2.1, .u64 r1.2.2.2.2.2.1, .u64 r1.2.2.2.2.2.2.1, sl A5 n5 c5, I r1.2.2.2.2.2.2.2.2, .v (.func (.func 135) ⟨SV.vals []⟩ ⟨SV.vals []⟩), .v (.func (.func 136) ⟨SV.vals []⟩ ⟨SV.vals []⟩)], Ow e8 A5 n5 c5 r1.2.2.2.2.2.2.2.1]) := by
 unfold m_node_Node_begin at hm
 obtain rfl := k.len 1 rfl
 obtain rfl := k.len 2 rfl
 refine calls [pt g_n 0] Tryz.func107 rfl (of_decide_eq_true (by kernel_rfl)) ?_
 refine W_seq ?_
 have k_ := k.drew 1
 refine W_m yz_mixed (.q 0 1 (.q 1 1 (.q 2 1 (.q 3 1 (.q 4 0 (.q 5 1 (.q 6 1 (.q 7 1 (.q 8 0 (.op 9 (.q 10 2 (.q 11 1 (.op 12 .nil))))))))))))) [9, 12] k_ (.c (.kk (.k .e)) (.c (.s (.kk .e)) .l)) (by kernel_rfl) (fun _ => ?_)
 refine MXq 4 1 [] (.n 2 (pt g_n 0) (.n 5 (pt g_n 0) .a)) (fun x hx => qs g_n 0 <| qs g_n 0 <| qe) (by kernel_rfl) (fun _ => ?_)
 refine MXq 1 0 [] (.n 6 (I n_kind) (.k (.s .a))) (fun x hx => qB hx 0 rfl 0 (I n_kind) (by kernel_rfl) <| qe) (by kernel_rfl) (fun _ => ?_)
 refine MXq 3 1 [] (.n 9 (pt g_n 2) .a) (fun x hx => qs g_n 0 <| qs g_n 0 <| qe) (by kernel_rfl) (fun _ => ?_)
 refine MXq 1 0 [] (.n 10 (sl A_n_block n_block.length c_n_block) (.s .a)) (fun x hx => qB hx 0 rfl 2 (sl A_n_block n_block.length c_n_block) (by kernel_rfl) <| qe) (by kernel_rfl) (fun _ => ?_)
 refine MX_op (by kernel_rfl) rfl ?_
 obtain ⟨r_, h_r_, hm⟩ := ob hm
 refine Op_call [] 11 _ yz_go119 (by kernel_rfl) (c_node_begun (F := N0) (O := N0) _ _ _ _ _ (Ro.n0 (k_.rd 1 rfl)) (k_.len 1 rfl) (k_.lec 1 rfl) (Cx.refl _) _ h_r_) ?_
 rcases r_ with r_1 | r_2
 · simp only [Sum.elim_inl, Sum.elim_inr] at hm
   rintro e_ w_ ⟨g0, A0, _, c0, rfl, rfl, k_1⟩
   have k_2 := k_.call k_1
   refine ⟨.v (.iface 200 (SV.val (pt g0 0))), rfl, ?_⟩
   refine ⟨(k_2.sel (.kk (.k .z))), fun _ => ?_⟩
   refine MXq 1 2 [] (.n 12 (pt g_n 0) (.k (.sss .a))) (fun x hx => qs g_n 0 <| qe) (by kernel_rfl) (fun _ => ?_)
   refine MXq 1 1 [] (.n 13 (pt g_n 6) (.s .a)) (fun x hx => qs g_n 0 <| qe) (by kernel_rfl) (fun _ => ?_)
   refine MX_op (by kernel_rfl) rfl <| Op_b [] 0 (.v (.iface 200 (SV.val (pt g0 0)))) [.v (.iface 200 (SV.val (pt g0 0)))] (Pt.at g_n 6) k_2 rfl (.kkkk (.kk .h)) (by kernel_rfl) (by kernel_rfl) ?_
   intro w_1 k_3
   refine ⟨(k_3.sel (.s (.kk .z))), fun _ => ?_⟩
   refine MX_nil <| At_go <| W_seq <| W_reg <| WLs 3 [] (.n 16 (pt g_n 4) (.ss .a)) (qs g_n 0 <| qs g_n 0 <| qe) (by kernel_rfl) ?_
   refine WL_op <| Op_b [] 0 (.b false) [.b false] (Pt.at g_n 4) k_3 rfl (.kkkk .h) (by kernel_rfl) (by kernel_rfl) ?_
   intro w_2 k_4
   refine WL_nil <| At_go <| W_seq <| W_reg <| WLs 3 [] (.n 19 (pt g_n 5) (.s .a)) (qs g_n 0 <| qs g_n 0 <| qe) (by kernel_rfl) ?_
   refine WL_op <| Op_b [] 0 (.u64 0) [.u64 0] (Pt.at g_n 5) k_4 rfl (.kkkk (.k .h)) (by kernel_rfl) (by kernel_rfl) ?_
   intro w_3 k_5
   refine WL_nil <| At_go <| W_seq <| W_q [] (.n 25 (.b (decide (0 < ((n_key.length : Nat) : Int)))) (.s .a)) (qs g_n 0 <| qs g_n 0 <| qB k_5 0 rfl 3 (sl A_n_key n_key.length c_n_key) (by kernel_rfl) <| qe) (by kernel_rfl) ?_
   refine At_go <| W_condp (0 < ((n_key.length : Nat) : Int)) (by kernel_rfl) (fun hc => ?_) (fun hc => ?_)
   · rw [if_pos hc] at hm
     have k_6 := k_5.drew 1
     refine W_m yz_mixed (.q 0 3 (.q 1 3 (.q 2 3 (.q 3 3 (.q 4 3 (.q 5 3 (.q 6 3 (.q 7 2 (.q 8 3 (.q 9 3 (.q 10 3 (.q 11 2 (.q 14 3 (.q 15 2 (.op 12 (.op 13 (.op 16 .nil))))))))))))))))) [12, 13, 16] k_6 (.c (.kkkk (.k .e)) (.c (.kkkk (.k .e)) (.c (.kk (.k .z)) .l))) (by kernel_rfl) (fun _ => ?_)
     refine MXq 7 3 [] (.n 29 (.v (.iface 200 (SV.val (pt g0 0)))) (.n 32 (pt g_n 3) (.s .a))) (fun x hx => qs g_n 0 <| qs g_n 0 <| qB hx 0 rfl 6 (.v (.iface 200 (SV.val (pt g0 0)))) (by kernel_rfl) <| qs g_n 0 <| qs g_n 0 <| qe) (by kernel_rfl) (fun _ => ?_)
     refine MXq 1 2 [] (.n 33 (sl A_n_key n_key.length c_n_key) (.k (.s .a))) (fun x hx => qB hx 0 rfl 3 (sl A_n_key n_key.length c_n_key) (by kernel_rfl) <| qe) (by kernel_rfl) (fun _ => ?_)
     refine MXq 3 3 [] (.n 36 (pt g_n 0) (.kk .z)) (fun x hx => qs g_n 0 <| qs g_n 0 <| qe) (by kernel_rfl) (fun _ => ?_)
     refine MXq 1 2 [] (.n 37 (I n_kind) (.s .a)) (fun x hx => qB hx 0 rfl 0 (I n_kind) (by kernel_rfl) <| qe) (by kernel_rfl) (fun _ => ?_)
     refine MXq 1 3 [] .a (fun x hx => qe) (by kernel_rfl) (fun _ => ?_)
     refine MXq 1 2 [] (.n 41 (.v (.iface 200 (SV.val (pt g0 0)))) (.kk .z)) (fun x hx => qe) (by kernel_rfl) (fun _ => ?_)
     refine MX_op (by kernel_rfl) rfl ?_
     have k_7 := k_6.sel (.kkkk (.k .e))
     obtain ⟨r_3, h_r_3, hm⟩ := ob hm
     refine Op_call [] 38 _ yz_go92 (by kernel_rfl) (c_node_blockOf (F := N0) (O := N0) _ (Cx.refl _) _ h_r_3) ?_
     rintro e_ w_4 ⟨rfl, k_8⟩
     have k_9 := k_7.call k_8
     refine ⟨I r_3, rfl, ?_⟩
     refine ⟨k_9, fun _ => ?_⟩
     refine MX_op (by kernel_rfl) rfl ?_
     obtain ⟨r_4, h_r_4, hm⟩ := ob hm
     refine Op_call [] 39 _ yz_go120 (by kernel_rfl) (c_node_padded (F := N0) (O := N0) _ _ _ _ _ (Ro.n0 (k_9.rd 2 rfl)) (k_9.len 2 rfl) (k_9.lec 2 rfl) (Cx.refl _) _ h_r_4) ?_
     rintro e_ w_5 ⟨A6, _, c6, rfl, rfl, k_10⟩
     have k_11 := k_9.call k_10
     refine ⟨sl A6 r_4.length c6, rfl, ?_⟩
     refine ⟨(k_11.sel (.kkkk (.k .z))), fun _ => ?_⟩
     refine MX_op (by kernel_rfl) rfl ?_
     obtain ⟨r_5, h_r_5, hm⟩ := ob hm
     obtain ⟨F1, O1, kin, hO, hre, hF, hb⟩ := k_11.go (.r (.r (.r (.i (.i (.r .e))))))
     refine Op_invoke [] 42 200 (pt g0 0) [sl A6 r_4.length c6] yz_inv200_node_write rfl (by kernel_rfl) (c_node_half_uint64_write (F := F1) (O := O1) _ _ _ _ _ _ _ _ _ _ _ _ _ (Ro.of_rest hre 3 rfl) (k_11.len 5 rfl) (k_11.lec 5 rfl) kin _ h_r_5) ?_
     rintro e_ w_6 ⟨A7, _, c7, rfl, rfl, k_12⟩
     have k_13 := hb w_6 _ _ k_12 (.c (.c .n))
     refine ⟨.tup [], rfl, ?_⟩
     have k_14 := k_13.sel (.kkkk (.k .z))
     refine ⟨(k_14.sel (.ss (.kk (.k .e)))), fun _ => ?_⟩
     refine MX_nil ?_
     obtain rfl := Option.some.inj hm
     refine At_en [] qe (by kernel_rfl) ?_
     have k_15 := ((((k_14.pk (.t .h)).pk (.t .h)).pk (.t (.t (.t (.t .h))))).pk (.t (.t (.t (.t .h))))).pk (.t (.t (.t (.t .h))))
     exact ⟨A_n_block, n_block.length, c_n_block, A_n_key, n_key.length, c_n_key, g0, A7, r_5.2.2.2.1.length, c7, k_15.len 1 rfl, k_15.len 2 rfl, k_15.len 4 rfl, rfl, k_15⟩
   rw [if_neg hc] at hm
   refine W_skip ?_
   obtain rfl := Option.some.inj hm
   refine At_en [] qe (by kernel_rfl) ?_
   exact ⟨A_n_block, n_block.length, c_n_block, A_n_key, n_key.length, c_n_key, g0, A0, r_1.2.length, c0, k_5.len 1 rfl, k_5.len 2 rfl, k_5.len 4 rfl, rfl, k_5⟩
 · simp only [Sum.elim_inl, Sum.elim_inr] at hm
   rintro e_ w_0 ⟨g2, A8, _, c8, rfl, rfl, k_16⟩
   have k_17 := k_.call k_16
   refine ⟨.v (.iface 209 (SV.val (pt g2 0))), rfl, ?_⟩
   refine ⟨(k_17.sel (.kk (.k .z))), fun _ => ?_⟩
   refine MXq 1 2 [] (.n 12 (pt g_n 0) (.k (.sss .a))) (fun x hx => qs g_n 0 <| qe) (by kernel_rfl) (fun _ => ?_)
   refine MXq 1 1 [] (.n 13 (pt g_n 6) (.s .a)) (fun x hx => qs g_n 0 <| qe) (by kernel_rfl) (fun _ => ?_)
   refine MX_op (by kernel_rfl) rfl <| Op_b [] 0 (.v (.iface 209 (SV.val (pt g2 0)))) [.v (.iface 209 (SV.val (pt g2 0)))] (Pt.at g_n 6) k_17 rfl (.kkkk (.kk .h)) (by kernel_rfl) (by kernel_rfl) ?_
   intro w_7 k_18
   refine ⟨(k_18.sel (.s (.kk .z))), fun _ => ?_⟩
   refine MX_nil <| At_go <| W_seq <| W_reg <| WLs 3 [] (.n 16 (pt g_n 4) (.ss .a)) (qs g_n 0 <| qs g_n 0 <| qe) (by kernel_rfl) ?_
   refine WL_op <| Op_b [] 0 (.b false) [.b false] (Pt.at g_n 4) k_18 rfl (.kkkk .h) (by kernel_rfl) (by kernel_rfl) ?_
   intro w_8 k_19
   refine WL_nil <| At_go <| W_seq <| W_reg <| WLs 3 [] (.n 19 (pt g_n 5) (.s .a)) (qs g_n 0 <| qs g_n 0 <| qe) (by kernel_rfl) ?_
   refine WL_op <| Op_b [] 0 (.u64 0) [.u64 0] (Pt.at g_n 5) k_19 rfl (.kkkk (.k .h)) (by kernel_rfl) (by kernel_rfl) ?_
   intro w_9 k_20
   refine WL_nil <| At_go <| W_seq <| W_q [] (.n 25 (.b (decide (0 < ((n_key.length : Nat) : Int)))) (.s .a)) (qs g_n 0 <| qs g_n 0 <| qB k_20 0 rfl 3 (sl A_n_key n_key.length c_n_key) (by kernel_rfl) <| qe) (by kernel_rfl) ?_
   refine At_go <| W_condp (0 < ((n_key.length : Nat) : Int)) (by kernel_rfl) (fun hc0 => ?_) (fun hc0 => ?_)
   · rw [if_pos hc0] at hm
     have k_21 := k_20.drew 1
     refine W_m yz_mixed (.q 0 3 (.q 1 3 (.q 2 3 (.q 3 3 (.q 4 3 (.q 5 3 (.q 6 3 (.q 7 2 (.q 8 3 (.q 9 3 (.q 10 3 (.q 11 2 (.q 14 3 (.q 15 2 (.op 12 (.op 13 (.op 16 .nil))))))))))))))))) [12, 13, 16] k_21 (.c (.kkkk (.k .e)) (.c (.kkkk (.k .e)) (.c (.kk (.k .z)) .l))) (by kernel_rfl) (fun _ => ?_)
     refine MXq 7 3 [] (.n 29 (.v (.iface 209 (SV.val (pt g2 0)))) (.n 32 (pt g_n 3) (.s .a))) (fun x hx => qs g_n 0 <| qs g_n 0 <| qB hx 0 rfl 6 (.v (.iface 209 (SV.val (pt g2 0)))) (by kernel_rfl) <| qs g_n 0 <| qs g_n 0 <| qe) (by kernel_rfl) (fun _ => ?_)
     refine MXq 1 2 [] (.n 33 (sl A_n_key n_key.length c_n_key) (.k (.s .a))) (fun x hx => qB hx 0 rfl 3 (sl A_n_key n_key.length c_n_key) (by kernel_rfl) <| qe) (by kernel_rfl) (fun _ => ?_)
     refine MXq 3 3 [] (.n 36 (pt g_n 0) (.kk .z)) (fun x hx => qs g_n 0 <| qs g_n 0 <| qe) (by kernel_rfl) (fun _ => ?_)
     refine MXq 1 2 [] (.n 37 (I n_kind) (.s .a)) (fun x hx => qB hx 0 rfl 0 (I n_kind) (by kernel_rfl) <| qe) (by kernel_rfl) (fun _ => ?_)
     refine MXq 1 3 [] .a (fun x hx => qe) (by kernel_rfl) (fun _ => ?_)
     refine MXq 1 2 [] (.n 41 (.v (.iface 209 (SV.val (pt g2 0)))) (.kk .z)) (fun x hx => qe) (by kernel_rfl) (fun _ => ?_)
     refine MX_op (by kernel_rfl) rfl ?_
     have k_22 := k_21.sel (.kkkk (.k .e))
     obtain ⟨r_6, h_r_6, hm⟩ := ob hm
     refine Op_call [] 38 _ yz_go92 (by kernel_rfl) (c_node_blockOf (F := N0) (O := N0) _ (Cx.refl _) _ h_r_6) ?_
     rintro e_ w_10 ⟨rfl, k_23⟩
     have k_24 := k_22.call k_23
     refine ⟨I r_6, rfl, ?_⟩
     refine ⟨k_24, fun _ => ?_⟩
     refine MX_op (by kernel_rfl) rfl ?_
     obtain ⟨r_7, h_r_7, hm⟩ := ob hm
     refine Op_call [] 39 _ yz_go120 (by kernel_rfl) (c_node_padded (F := N0) (O := N0) _ _ _ _ _ (Ro.n0 (k_24.rd 2 rfl)) (k_24.len 2 rfl) (k_24.lec 2 rfl) (Cx.refl _) _ h_r_7) ?_
     rintro e_ w_11 ⟨A9, _, c9, rfl, rfl, k_25⟩
     have k_26 := k_24.call k_25
     refine ⟨sl A9 r_7.length c9, rfl, ?_⟩
     refine ⟨(k_26.sel (.kkkk (.k .z))), fun _ => ?_⟩
     refine MX_op (by kernel_rfl) rfl ?_
     obtain ⟨r_8, h_r_8, hm⟩ := ob hm
     obtain ⟨F10, O10, kin0, hO0, hre0, hF0, hb0⟩ := k_26.go (.r (.r (.r (.i (.i (.r .e))))))
     refine Op_invoke [] 42 209 (pt g2 0) [sl A9 r_7.length c9] yz_inv209_node_write rfl (by kernel_rfl) (c_node_half_uint32_write (F := F10) (O := O10) _ _ _ _ _ _ _ _ _ _ _ _ _ (Ro.of_rest hre0 3 rfl) (k_26.len 5 rfl) (k_26.lec 5 rfl) kin0 _ h_r_8) ?_
     rintro e_ w_12 ⟨A10, _, c10, rfl, rfl, k_27⟩
     have k_28 := hb0 w_12 _ _ k_27 (.c (.c .n))
     refine ⟨.tup [], rfl, ?_⟩
     have k_29 := k_28.sel (.kkkk (.k .z))
     refine ⟨(k_29.sel (.ss (.kk (.k .e)))), fun _ => ?_⟩
     refine MX_nil ?_
     obtain rfl := Option.some.inj hm
     refine At_en [] qe (by kernel_rfl) ?_
     have k_30 := ((((k_29.pk (.t .h)).pk (.t .h)).pk (.t (.t (.t (.t .h))))).pk (.t (.t (.t (.t .h))))).pk (.t (.t (.t (.t .h))))
     exact ⟨A_n_block, n_block.length, c_n_block, A_n_key, n_key.length, c_n_key, g2, A10, r_8.2.2.2.1.length, c10, k_30.len 1 rfl, k_30.len 2 rfl, k_30.len 4 rfl, rfl, k_30⟩
   rw [if_neg hc0] at hm
   refine W_skip ?_
   obtain rfl := Option.some.inj hm
   refine At_en [] qe (by kernel_rfl) ?_
   exact ⟨A_n_block, n_block.length, c_n_block, A_n_key, n_key.length, c_n_key, g2, A8, r_2.2.length, c8, k_20.len 1 rfl, k_20.len 2 rfl, k_20.len 4 rfl, rfl, k_20⟩

-- quern/node.made
theorem c_node_made {F O : Nat → Prop} {w : World} (k_ : Int) (block : List UInt8) (digest : Int) (key : List UInt8) (A_block : Option Addr) (n_block : Nat) (c_block : Nat) (A_key : Option Addr) (n_key : Nat) (c_key : Nat) (h_block : Ro F w A_block (e8.all block)) (hn_block : block.length = n_block) (hc_block : n_block ≤ c_block) (h_key : Ro F w A_key (e8.all key)) (hn_key : key.length = n_key) (hc_key : n_key ≤ c_key) (k : Cx F O w w []) (r : (Int × Int × List UInt8 × List UInt8 × Vec UInt64 8 × UInt64 × UInt64 × List UInt8 × Int) ⊕ (Int × Int × List UInt8 × List UInt8 × Vec UInt32 8 × UInt64 × UInt64 × List UInt8 × Int)) (hm : m_node_made k_ block digest key = some r) :
    Calls Tryz.prog 90 (vals [I k_, sl A_block n_block c_block, I digest, sl A_key n_key c_key]) w (fun e w' => match r with | .inl r0 => ∃ g A n c A1 n1 c1 g1 A2 n2 c2, r0.2.2.1.length = n ∧ r0.2.2.2.1.length = n1 ∧ r0.2.2.2.2.2.2.2.1.length = n2 ∧ e = .returned (SV.val (pt g 0)) ∧ Cx F O w w' [Bx 125 g [I r0.1, I r0.2.1, sl A n c, sl A1 n1 c1, .b false, .u64 0, .v (.iface 200 (SV.val (pt g1 0)))], Ow e8 A n c r0.2.2.1, Ow e8 A1 n1 c1 r0.2.2.2.1, Bx 206 g1 [.ar e64 r0.2.2.2.2.1, .u64 r0.2.2.2.2.2.1, .u64 r0.2.2.2.2.2.2.1, sl A2 n2 c2, I r0.2.2.2.2.2.2.2.2, .v (.func (.func 132) ⟨SV.vals []⟩ ⟨SV.vals []⟩), .v (.func (.func 133) ⟨SV.vals []⟩ ⟨SV.vals []⟩)], Ow e8 A2 n2 c2 r0.2.2.2.2.2.2.2.1] | .inr r1 => ∃ g2 A3 n3 c3 A4 n4 c4 g3 A5 n5 c5, r1.2.2.1.length = n3 ∧ r1.2.2.2.1.length = n4 ∧ r1.2.2.2.2.2.2.2.1.length = n5 ∧ e = .returned (SV.val (pt g2 0)) ∧ Cx F O w w' [Bx 125 g2 [I r1.1, I r1.2.1, sl A3 n3 c3, sl A4 n4 c4, .b false, .u64 0, .v (.iface 209 (SV.val (pt g3 0)))], Ow e8 A3 n3 c3 r1.2.2.1, Ow e8 A4 n4 c4 r1.2.2.2.1, Bx 213 g3 [.ar e32 r1.2.2.2.2.1, .u64 r1.2.2.2.2.2.1, .u64 r1.2.2.2.2.2.2.1, sl A5 n5 c5, I r1.2.2.2.2.2.2.2.2, .v (.func (.func 135) ⟨SV.vals []⟩ ⟨SV.vals []⟩), .v (.func (.func 136) ⟨SV.vals []⟩ ⟨SV.vals []⟩)], Ow e8 A5 n5 c5 r1.2.2.2.2.2.2.2.1]) := by
 unfold m_node_made at hm
 subst hn_block
 subst hn_key
 refine calls [I k_, sl A_block block.length c_block, I digest, sl A_key key.length c_key] Tryz.func90 rfl (of_decide_eq_true (by kernel_rfl)) ?_
 refine W_seq <| W_q [] .a qe (by kernel_rfl) ?_
 refine At_go <| W_seq <| W_reg <| WLs 3 [] (.n 10 (I k_) (.n 11 (I digest) (.n 12 (sl A_block block.length c_block) (.sss .a)))) qe (by kernel_rfl) ?_
 refine WL_op ?_
 have k_1 := k.nil e8
 obtain ⟨b, h_b, hm⟩ := ob hm
 obtain ⟨hz, hl⟩ := app_some h_b
 refine Op_append (E := e8) (v := sl A_block block.length c_block) (ys := block) yz_tf22 [] 13 0 (by kernel_rfl) k_1 rfl (Src.sl (h_block.cx k_1) rfl (by rfl)) rfl (by have := k_1.len 0 rfl; have := hm; omega) ?_
 intro A0 c0 w_ k_2
 rw [← hl] at k_2
 refine WLs 1 [] (.n 14 (sl A_key key.length c_key) (.kkk .z)) qe (by kernel_rfl) ?_
 refine WL_op ?_
 have k_3 := k_2.nil e8
 obtain ⟨b1, h_b1, hm⟩ := ob hm
 obtain ⟨hz1, hl1⟩ := app_some h_b1
 refine Op_append (E := e8) (v := sl A_key key.length c_key) (ys := key) yz_tf22 [] 15 1 (by kernel_rfl) k_3 rfl (Src.sl (h_key.cx k_3) rfl (by rfl)) rfl (by have := k_3.len 1 rfl; have := hm; omega) ?_
 intro A6 c6 w_1 k_4
 rw [← hl1] at k_4
 refine WLs 1 [] (.n 16 (.agg [I k_, I digest, sl A0 (0 + block.length) c0, sl A6 (0 + key.length) c6, .b false, .u64 0, .v .nilIface]) .z) qe (by kernel_rfl) ?_
 refine WL_op <| Op_box [] 17 (.agg [I k_, I digest, sl A0 (0 + block.length) c0, sl A6 (0 + key.length) c6, .b false, .u64 0, .v .nilIface]) [I k_, I digest, sl A0 (0 + block.length) c0, sl A6 (0 + key.length) c6, .b false, .u64 0, .v .nilIface] (by kernel_rfl) k_4 ?_
 intro g0 w_2 k_5
 refine WLs 1 [] (.n 9 (pt g0 0) .z) qe (by kernel_rfl) ?_
 refine WL_nil <| At_go <| W_seq <| W_reg <| WLs 1 [] (.n 18 (pt g0 0) .a) qe (by kernel_rfl) ?_
 refine WL_op ?_
 obtain ⟨r_, h_r_, hm⟩ := ob hm
 have k_6 := ((k_5.pk (.t .h)).pk (.t .h)).pk (.t (.t .h))
 obtain ⟨F1, O1, kin, hO, hre, hF, hb⟩ := k_6.go (.i (.i (.i .e)))
 refine Op_call [] 19 _ yz_go107 (by kernel_rfl) (c_node_Node_begin (F := F1) (O := O1) _ _ _ _ _ _ _ _ _ _ _ _ _ kin _ h_r_) ?_
 rcases r_ with r_1 | r_2
 · simp only [Sum.elim_inl, Sum.elim_inr] at hm
   rintro e_ w_3 ⟨A7, _, c7, A8, _, c8, g4, A9, _, c9, rfl, rfl, rfl, rfl, k_7⟩
   have k_8 := hb w_3 _ _ k_7 (.c (.c (.c (.c (.c .n)))))
   refine ⟨.tup [], rfl, ?_⟩
   refine WL_nil <| At_go <| W_seq <| W_q [] (.n 8 (pt g0 0) .z) qe (by kernel_rfl) ?_
   refine At_go <| W_ret ?_
   obtain rfl := Option.some.inj hm
   refine At_rt [pt g0 0] qe (by kernel_rfl) ?_
   exact ⟨g0, A7, r_1.2.2.1.length, c7, A8, r_1.2.2.2.1.length, c8, g4, A9, r_1.2.2.2.2.2.2.2.1.length, c9, k_8.len 1 rfl, k_8.len 2 rfl, k_8.len 4 rfl, rfl, k_8⟩
 · simp only [Sum.elim_inl, Sum.elim_inr] at hm
   rintro e_ w_4 ⟨A10, _, c10, A11, _, c11, g5, A12, _, c12, rfl, rfl, rfl, rfl, k_9⟩
   have k_10 := hb w_4 _ _ k_9 (.c (.c (.c (.c (.c .n)))))
   refine ⟨.tup [], rfl, ?_⟩
   refine WL_nil <| At_go <| W_seq <| W_q [] (.n 8 (pt g0 0) .z) qe (by kernel_rfl) ?_
   refine At_go <| W_ret ?_
   obtain rfl := Option.some.inj hm
   refine At_rt [pt g0 0] qe (by kernel_rfl) ?_
   exact ⟨g0, A10, r_2.2.2.1.length, c10, A11, r_2.2.2.2.1.length, c11, g5, A12, r_2.2.2.2.2.2.2.2.1.length, c12, k_10.len 1 rfl, k_10.len 2 rfl, k_10.len 4 rfl, rfl, k_10⟩

-- quern/node.New
theorem c_node_New {F O : Nat → Prop} {w : World} (k_ : Int) (p_Digest : Int) (p_Key : Int) (p_Fanout : Int) (p_Depth : Int) (p_Leaf : UInt32) (p_Offset : UInt64) (p_Xof : UInt32) (p_NodeDepth : Int) (p_Inner : Int) (p_Salt : List UInt8) (p_Personal : List UInt8) (key : List UInt8) (A_p_Salt : Option Addr) (n_p_Salt : Nat) (c_p_Salt : Nat) (A_p_Personal : Option Addr) (n_p_Personal : Nat) (c_p_Personal : Nat) (A_key : Option Addr) (n_key : Nat) (c_key : Nat) (h_p_Salt : Ro F w A_p_Salt (e8.all p_Salt)) (hn_p_Salt : p_Salt.length = n_p_Salt) (hc_p_Salt : n_p_Salt ≤ c_p_Salt) (h_p_Personal : Ro F w A_p_Personal (e8.all p_Personal)) (hn_p_Personal : p_Personal.length = n_p_Personal) (hc_p_Personal : n_p_Personal ≤ c_p_Personal) (h_key : Ro F w A_key (e8.all key)) (hn_key : key.length = n_key) (hc_key : n_key ≤ c_key) (k : Cx F O w w []) (r : Int ⊕ (Int × Int × List UInt8 × List UInt8 × Vec UInt64 8 × UInt64 × UInt64 × List UInt8 × Int) ⊕ (Int × Int × List UInt8 × List UInt8 × Vec UInt32 8 × UInt64 × UInt64 × List UInt8 × Int)) (hm : m_node_New k_ p_Digest p_Key p_Fanout p_Depth p_Leaf p_Offset p_Xof p_NodeDepth p_Inner p_Salt p_Personal key = some r) :
    Calls Tryz.prog 69 (vals [I k_, .agg [I p_Digest, I p_Key, I p_Fanout, I p_Depth, .u32 p_Leaf, .u64 p_Offset, .u32 p_Xof, I p_NodeDepth, I p_Inner, sl A_p_Salt n_p_Salt c_p_Salt, sl A_p_Personal n_p_Personal c_p_Personal], sl A_key n_key c_key]) w (fun e w' => match r with | .inl r0 => e = .returned (SV.val (.tup [.v (.pointer none), I r0])) ∧ Cx F O w w' [] | .inr (.inl r1) => ∃ g A n c A1 n1 c1 g1 A2 n2 c2, r1.2.2.1.length = n ∧ r1.2.2.2.1.length = n1 ∧ r1.2.2.2.2.2.2.2.1.length = n2 ∧ e = .returned (SV.val (.tup [pt g 0, I 0])) ∧ Cx F O w w' [Bx 125 g [I r1.1, I r1.2.1, sl A n c, sl A1 n1 c1, .b false, .u64 0, .v (.iface 200 (SV.val (pt g1 0)))], Ow e8 A n c r1.2.2.1, Ow e8 A1 n1 c1 r1.2.2.2.1, Bx 206 g1 [.ar e64 r1.2.2.2.2.1, .u64 r1.2.2.2.2.2.1, .u64 r1.2.2.2.2.2.2.1, sl A2 n2 c2, I r1.2.2.2.2.2.2.2.2, .v (.func (.func 132) ⟨SV.vals []⟩ ⟨SV.vals []⟩), .v (.func (.func 133) ⟨SV.vals []⟩ ⟨SV.vals []⟩)], Ow e8 A2 n2 c2 r1.2.2.2.2.2.2.2.1] | .inr (.inr r2) => ∃ g2 A3 n3 c3 A4 n4 c4 g3 A5 n5 c5, r2.2.2.1.length = n3 ∧ r2.2.2.2.1.length = n4 ∧ r2.2.2.2.2.2.2.2.1.length = n5 ∧ e = .returned (SV.val (.tup [pt g2 0, I 0])) ∧ Cx F O w w' [Bx 125 g2 [I r2.1, I r2.2.1, sl A3 n3 c3, sl A4 n4 c4, .b false, .u64 0, .v (.iface 209 (SV.val (pt g3 0)))], Ow e8 A3 n3 c3 r2.2.2.1, Ow e8 A4 n4 c4 r2.2.2.2.1, Bx 213 g3 [.ar e32 r2.2.2.2.2.1, .u64 r2.2.2.2.2.2.1, .u64 r2.2.2.2.2.2.2.1, sl A5 n5 c5, I r2.2.2.2.2.2.2.2.2, .v (.func (.func 135) ⟨SV.vals []⟩ ⟨SV.vals []⟩), .v (.func (.func 136) ⟨SV.vals []⟩ ⟨SV.vals []⟩)], Ow e8 A5 n5 c5 r2.2.2.2.2.2.2.2.1]) := by
 unfold m_node_New at hm
 subst hn_p_Salt
 subst hn_p_Personal
 subst hn_key
 refine calls [I k_, .agg [I p_Digest, I p_Key, I p_Fanout, I p_Depth, .u32 p_Leaf, .u64 p_Offset, .u32 p_Xof, I p_NodeDepth, I p_Inner, sl A_p_Salt p_Salt.length c_p_Salt, sl A_p_Personal p_Personal.length c_p_Personal], sl A_key key.length c_key] Tryz.func69 rfl (of_decide_eq_true (by kernel_rfl)) ?_
 refine W_seq <| W_reg <| WL_op <| Op_box [] 4 (.agg [I p_Digest, I p_Key, I p_Fanout, I p_Depth, .u32 p_Leaf, .u64 p_Offset, .u32 p_Xof, I p_NodeDepth, I p_Inner, sl A_p_Salt p_Salt.length c_p_Salt, sl A_p_Personal p_Personal.length c_p_Personal]) [I p_Digest, I p_Key, I p_Fanout, I p_Depth, .u32 p_Leaf, .u64 p_Offset, .u32 p_Xof, I p_NodeDepth, I p_Inner, sl A_p_Salt p_Salt.length c_p_Salt, sl A_p_Personal p_Personal.length c_p_Personal] (by kernel_rfl) k ?_
 intro g0 w_ k_1
 refine WLs 2 [] (.kk (.s .a)) qe (by kernel_rfl) ?_
 refine WL_nil <| At_go <| W_seq <| W_reg <| WLs 2 [] (.n 11 (I k_) (.n 12 (.agg [I p_Digest, I p_Key, I p_Fanout, I p_Depth, .u32 p_Leaf, .u64 p_Offset, .u32 p_Xof, I p_NodeDepth, I p_Inner, sl A_p_Salt p_Salt.length c_p_Salt, sl A_p_Personal p_Personal.length c_p_Personal]) .a)) (qT k_1 0 rfl 0 11 [I p_Digest, I p_Key, I p_Fanout, I p_Depth, .u32 p_Leaf, .u64 p_Offset, .u32 p_Xof, I p_NodeDepth, I p_Inner, sl A_p_Salt p_Salt.length c_p_Salt, sl A_p_Personal p_Personal.length c_p_Personal] (by kernel_rfl) (by decide) <| qe) (by kernel_rfl) ?_
 refine WL_op ?_
 obtain ⟨r_, h_r_, hm⟩ := ob hm
 refine Op_call [] 13 _ yz_go89 (by kernel_rfl) (c_param_Encode (F := N0) (O := N0) _ _ _ _ _ _ _ _ _ _ _ _ _ _ _ _ _ _ (Ro.n0 (h_p_Salt.cx k_1)) rfl hc_p_Salt (Ro.n0 (h_p_Personal.cx k_1)) rfl hc_p_Personal (Cx.refl _) _ h_r_) ?_
 rintro e_ w_1 ⟨A0, _, c0, rfl, rfl, k_2⟩
 have k_3 := k_1.call k_2
 refine ⟨.tup [sl A0 r_.1.length c0, I r_.2], rfl, ?_⟩
 refine WLs 5 [] (.n 8 (sl A0 r_.1.length c0) (.n 9 (I r_.2) (.sss .a))) qe (by kernel_rfl) ?_
 refine WL_nil <| At_go <| W_seq <| W_seq <| W_q [] (.n 17 (.b (decide (r_.2 ≠ 0))) .a) qe (by kernel_rfl) ?_
 refine At_go <| W_condp (r_.2 ≠ 0) (by kernel_rfl) (fun hc => ?_) (fun hc => ?_)
 · rw [if_pos hc] at hm
   refine W_seq <| W_q [] (.n 6 (.v (.pointer none)) (.n 7 (I r_.2) .z)) qe (by kernel_rfl) ?_
   refine At_go <| W_ret (At_tr ?_)
   obtain rfl := Option.some.inj hm
   refine At_rt [.v (.pointer none), I r_.2] qe (by kernel_rfl) ?_
   have k_4 := k_3.sel .z
   exact ⟨rfl, k_4⟩
 rw [if_neg hc] at hm
 refine W_skip <| At_go <| W_seq <| W_seq <| W_q [] (.n 28 (.b ((decide (((key.length : Nat) : Int) ≠ 0)) && (decide (((key.length : Nat) : Int) ≠ p_Key)))) (.s (.k (.s .a)))) (qp ((decide (((key.length : Nat) : Int) ≠ 0)) = true → (some ⟨g0, 0, none⟩ : Option Addr).isSome = true) (fun hg0 => rfl) <| qo (I p_Key) <| qc (fun w => (decide (((key.length : Nat) : Int) ≠ 0)) = true → ∃ a, (some ⟨g0, 1, none⟩ : Option Addr) = some a ∧ w.cell? a = some (SV.val (I p_Key))) (fun hg0 => k_3.bld 0 rfl 1 (I p_Key) (by kernel_rfl)) <| qe) (by kernel_rfl) ?_
 refine At_go <| W_cond ((decide (((key.length : Nat) : Int) ≠ 0)) && (decide (((key.length : Nat) : Int) ≠ p_Key))) (by kernel_rfl) (fun hc1 => ?_) (fun hc1 => ?_)
 · rw [if_pos hc1] at hm
   refine W_seq <| W_q [] (.n 6 (.v (.pointer none)) (.n 7 (I 8) .z)) qe (by kernel_rfl) ?_
   refine At_go <| W_ret (At_tr ?_)
   obtain rfl := Option.some.inj hm
   refine At_rt [.v (.pointer none), I 8] qe (by kernel_rfl) ?_
   have k_5 := k_3.sel .z
   exact ⟨rfl, k_5⟩
 rw [if_neg (by rw [hc1]; decide)] at hm
 refine W_skip <| At_go <| W_seq <| W_reg <| WLs 5 [] (.n 29 (I k_) (.n 30 (sl A0 r_.1.length c0) (.n 32 (I p_Digest) (.n 33 (sl A_key key.length c_key) .z)))) (qs g0 0 <| qB k_3 0 rfl 0 (I p_Digest) (by kernel_rfl) <| qe) (by kernel_rfl) ?_
 refine WL_op ?_
 obtain ⟨r_1, h_r_1, hm⟩ := ob hm
 refine Op_call [] 34 _ yz_go90 (by kernel_rfl) (c_node_made (F := N0) (O := N0) _ _ _ _ _ _ _ _ _ _ (Ro.n0 (k_3.rd 1 rfl)) (k_3.len 1 rfl) (k_3.lec 1 rfl) (Ro.n0 (h_key.cx k_3)) rfl hc_key (Cx.refl _) _ h_r_1) ?_
 rcases r_1 with r_2 | r_3
 · simp only [Sum.elim_inl, Sum.elim_inr] at hm
   rintro e_ w_2 ⟨g4, A6, _, c6, A7, _, c7, g5, A8, _, c8, rfl, rfl, rfl, rfl, k_6⟩
   have k_7 := k_3.call k_6
   refine ⟨pt g4 0, rfl, ?_⟩
   have k_8 := k_7.sel (.ss (.kkkk (.k .e)))
   refine WLs 2 [] (.n 6 (pt g4 0) (.n 7 (I 0) .z)) qe (by kernel_rfl) ?_
   refine WL_nil <| At_go <| W_ret ?_
   obtain rfl := Option.some.inj hm
   refine At_rt [pt g4 0, I 0] qe (by kernel_rfl) ?_
   exact ⟨g4, A6, r_2.2.2.1.length, c6, A7, r_2.2.2.2.1.length, c7, g5, A8, r_2.2.2.2.2.2.2.2.1.length, c8, k_8.len 1 rfl, k_8.len 2 rfl, k_8.len 4 rfl, rfl, k_8⟩
 · simp only [Sum.elim_inl, Sum.elim_inr] at hm
   rintro e_ w_3 ⟨g6, A9, _, c9, A10, _, c10, g7, A11, _, c11, rfl, rfl, rfl, rfl, k_9⟩
   have k_10 := k_3.call k_9
   refine ⟨pt g6 0, rfl, ?_⟩
   have k_11 := k_10.sel (.ss (.kkkk (.k .e)))
   refine WLs 2 [] (.n 6 (pt g6 0) (.n 7 (I 0) .z)) qe (by kernel_rfl) ?_
   refine WL_nil <| At_go <| W_ret ?_
   obtain rfl := Option.some.inj hm
   refine At_rt [pt g6 0, I 0] qe (by kernel_rfl) ?_
   exact ⟨g6, A9, r_3.2.2.1.length, c9, A10, r_3.2.2.2.1.length, c10, g7, A11, r_3.2.2.2.2.2.2.2.1.length, c11, k_11.len 1 rfl, k_11.len 2 rfl, k_11.len 4 rfl, rfl, k_11⟩

-- (*quern/node.Node).none
theorem c_node_Node_none {F O : Nat → Prop} {w : World} (n_kind : Int) (n_digest : Int) (n_block : List UInt8) (n_key : List UInt8) (n_last : Bool) (n_written : UInt64) (n_e_h : Vec UInt64 8) (n_e_count_Lo : UInt64) (n_e_count_Hi : UInt64) (n_e_held : List UInt8) (n_e_block : Int) (g_n : Nat) (A_n_block : Option Addr) (n_n_block : Nat) (c_n_block : Nat) (A_n_key : Option Addr) (n_n_key : Nat) (c_n_key : Nat) (g_n_e : Nat) (A_n_e_held : Option Addr) (n_n_e_held : Nat) (c_n_e_held : Nat) (k : Cx F O w w [Bx 125 g_n [I n_kind, I n_digest, sl A_n_block n_n_block c_n_block, sl A_n_key n_n_key c_n_key, .b n_last, .u64 n_written, .v (.iface 200 (SV.val (pt g_n_e 0)))], Ow e8 A_n_block n_n_block c_n_block n_block, Ow e8 A_n_key n_n_key c_n_key n_key, Bx 206 g_n_e [.ar e64 n_e_h, .u64 n_e_count_Lo, .u64 n_e_count_Hi, sl A_n_e_held n_n_e_held c_n_e_held, I n_e_block, .v (.func (.func 132) ⟨SV.vals []⟩ ⟨SV.vals []⟩), .v (.func (.func 133) ⟨SV.vals []⟩ ⟨SV.vals []⟩)], Ow e8 A_n_e_held n_n_e_held c_n_e_held n_e_held]) (r : (Vec UInt64 8 × UInt64 × UInt64 × List UInt8 × Int × Int × Int × List UInt8 × List UInt8 × Bool × UInt64)) (hm : m_node_Node_none n_kind n_digest n_block n_key n_last n_written n_e_h n_e_count_Lo n_e_count_Hi n_e_held n_e_block = some r) :
    Calls Tryz.prog 91 (vals [pt g_n 0]) w (fun e w' => ∃ A n c A1 n1 c1 A2 n2 c2, r.2.2.2.1.length = n ∧ r.2.2.2.2.2.2.2.1.length = n1 ∧ r.2.2.2.2.2.2.2.2.1.length = n2 ∧ e = .returned (SV.val (.b false)) ∧ Cx F O w w' [Bx 206 g_n_e [.ar e64 r.1, .u64 r.2.1, .u64 r.2.2.1, sl A n c, I r.2.2.2.2.1, .v (.func (.func 132) ⟨SV.vals []⟩ ⟨SV.vals []⟩), .v (.func (.func 133) ⟨SV.vals []⟩ ⟨SV.vals []⟩)], Ow e8 A n c r.2.2.2.1, Bx 125 g_n [I r.2.2.2.2.2.1, I r.2.2.2.2.2.2.1, sl A1 n1 c1, sl A2 n2 c2, .b r.2.2.2.2.2.2.2.2.2.1, .u64 r.2.2.2.2.2.2.2.2.2.2, .v (.iface 200 (SV.val (pt g_n_e 0)))], Ow e8 A1 n1 c1 r.2.2.2.2.2.2.2.1, Ow e8 A2 n2 c2 r.2.2.2.2.2.2.2.2.1]) := by
 unfold m_node_Node_none at hm
 obtain rfl := k.len 1 rfl
 obtain rfl := k.len 2 rfl
 obtain rfl := k.len 4 rfl
 refine calls [pt g_n 0] Tryz.func91 rfl (of_decide_eq_true (by kernel_rfl)) ?_
 refine W_seq <| W_q [] .a qe (by kernel_rfl) ?_
 refine At_go <| W_seq <| W_q [5] (.n 2 (.b false) .z) (qs g_n 0 <| qs g_n 0 <| qB k 0 rfl 6 (.v (.iface 200 (SV.val (pt g_n_e 0)))) (by kernel_rfl) <| qe) (by kernel_rfl) ?_
 refine At_go <| W_ret ?_
 obtain rfl := Option.some.inj hm
 refine At_rt [.b false] qe (by kernel_rfl) ?_
 have k_ := ((((k.pk (.t (.t .h))).pk (.t (.t .h))).pk (.t (.t .h))).pk (.t (.t (.t (.t .h))))).pk (.t (.t (.t (.t .h))))
 exact ⟨A_n_e_held, n_e_held.length, c_n_e_held, A_n_block, n_block.length, c_n_block, A_n_key, n_key.length, c_n_key, k_.len 1 rfl, k_.len 3 rfl, k_.len 4 rfl, rfl, k_⟩

-- quern/word.Store64
theorem c_word_Store64 {F O : Nat → Prop} {w : World} (w_ : UInt64) (k : Cx F O w w []) (r : (List UInt8)) (hm : m_word_Store64 w_ = some r) :
    Calls Tryz.prog 47 (vals [.u64 w_]) w (fun e w' => ∃ A n c, r.length = n ∧ e = .returned (SV.val (sl A n c)) ∧ Cx F O w w' [Ow e8 A n c r]) := by
 unfold m_word_Store64 at hm
 refine calls [.u64 w_] Tryz.func47 rfl (of_decide_eq_true (by kernel_rfl)) ?_
 refine W_seq <| W_q [] .a qe (by kernel_rfl) ?_
 refine At_go <| W_seq <| W_reg <| WL_op <| Op_make yz_tf22 e8 (0 : UInt8) rfl [] 5 (I 8) (I 8) (8 : Int) (8 : Int) (by kernel_rfl) (by omega) (by omega) (by omega) k ?_
 intro A0 w_1 k_
 refine WLs 1 [] (.n 3 (sl A0 (Int.toNat (8 : Int)) (Int.toNat (8 : Int))) (.s .a)) qe (by kernel_rfl) ?_
 refine WL_nil <| At_go <| W_seq <| W_seq <| W_q [] (.n 6 (I 0) .a) qe (by kernel_rfl) ?_
 refine At_go <| W_block <| W_lp (m_word_Store64_l0 w_) (fun s L wr => ∃ (b : List UInt8) (x_0 : Int), (b, x_0) = s ∧ L = [(0, .u64 w_), (3, sl A0 (Int.toNat (8 : Int)) (Int.toNat (8 : Int))), (6, I x_0)] ∧ Cx F O w wr [Ow e8 A0 (Int.toNat (8 : Int)) (Int.toNat (8 : Int)) b]) (List.replicate (Int.toNat (8 : Int)) (0 : UInt8), (0 : Int)) r hm ⟨List.replicate (Int.toNat (8 : Int)) (0 : UInt8), (0 : Int), rfl, rfl, k_⟩ (by kernel_rfl) ?_
 intro s0_ L_ w_2 y0 hrel hstep hr0
 obtain ⟨b, x_0, rfl, rfl, k_1⟩ := hrel
 have hm := hstep; simp only [m_word_Store64_l0] at hm
 clear hstep
 refine W_seq <| W_q [] (.n 7 (.b (decide (x_0 < 8))) .a) qe (by kernel_rfl) ?_
 refine At_go <| W_seq <| W_condp (x_0 < 8) (by kernel_rfl) (fun hc => ?_) (fun hc => ?_)
 · rw [if_pos hc] at hm
   refine W_skip <| At_go <| W_seq <| W_block <| W_seq <| W_q [] (.n 4 (I x_0) (.s .a)) qe (by kernel_rfl) ?_
   refine At_go <| W_reg ?_
   obtain ⟨u, h_u, hm⟩ := ob hm
   obtain ⟨x_1, h_x_1, hm⟩ := ob hm
   refine WLs 8 [] (.n 15 (.u8 (UInt8.ofNat (shr64 w_ (Int.toNat (w64 (8 * x_0)))).toNat)) (.n 16 (.v (.pointer (ixA A0 x_0 1))) (.s .a))) (qp (0 ≤ w64 (8 * x_0)) (need_some h_u) <| qJ (k_1.rd 0 rfl) h_x_1 (k_1.len 0 rfl) <| qe) (by kernel_rfl) ?_
   refine WL_op <| Op_ost (E := e8) (kk := 0) (sv := .u8 (UInt8.ofNat (shr64 w_ (Int.toNat (w64 (8 * x_0)))).toNat)) (svs := [.u8 (UInt8.ofNat (shr64 w_ (Int.toNat (w64 (8 * x_0)))).toNat)]) [] 0 (UInt8.ofNat (shr64 w_ (Int.toNat (w64 (8 * x_0)))).toNat) (by kernel_rfl) (Pt.ix1 A0 x_0 1) k_1 rfl (geti_some h_x_1).2 (E_ix (E := e8) (k_1.rd 0 rfl) (by decide) (geti_lt h_x_1).1 (geti_some h_x_1).2) rfl (Nat.le_of_ble_eq_true (by kernel_rfl)) ?_
   intro w_3 k_2
   refine WL_nil <| At_in <| At_go <| W_q [] (.n 6 (I (w64 (x_0 + 1))) (.ss (.kk .z))) qe (by kernel_rfl) ?_
   exact At_rd (b.set (Int.toNat x_0) (UInt8.ofNat (shr64 w_ (Int.toNat (w64 (8 * x_0)))).toNat), w64 (x_0 + 1)) (Option.some.inj hm).symm ⟨b.set (Int.toNat x_0) (UInt8.ofNat (shr64 w_ (Int.toNat (w64 (8 * x_0)))).toNat), w64 (x_0 + 1), rfl, rfl, k_2⟩ (by kernel_rfl)
 rw [if_neg hc] at hm
 refine W_exit (At_te (At_te (At_ie ?_)))
 have hm := exit_of hm hr0
 refine At_go <| W_seq <| W_q [] (.n 2 (sl A0 (Int.toNat (8 : Int)) (Int.toNat (8 : Int))) .z) qe (by kernel_rfl) ?_
 refine At_go <| W_ret ?_
 obtain rfl := Option.some.inj hm
 refine At_rt [sl A0 (Int.toNat (8 : Int)) (Int.toNat (8 : Int))] qe (by kernel_rfl) ?_
 exact ⟨A0, Int.toNat (8 : Int), Int.toNat (8 : Int), k_1.len 0 rfl, rfl, k_1⟩

-- quern/mixb.Bytes
theorem c_mixb_Bytes {F O : Nat → Prop} {w : World} (h : Vec UInt64 8) (k : Cx F O w w []) (r : (List UInt8)) (hm : m_mixb_Bytes h = some r) :
    Calls Tryz.prog 133 (vals [.agg [.ar e64 h]]) w (fun e w' => ∃ A n c, r.length = n ∧ e = .returned (SV.val (sl A n c)) ∧ Cx F O w w' [Ow e8 A n c r]) := by
 unfold m_mixb_Bytes at hm
 refine calls [.agg [.ar e64 h]] Tryz.func133 rfl (of_decide_eq_true (by kernel_rfl)) ?_
 refine W_seq <| W_reg <| WL_op <| Op_box [] 1 (.agg [.ar e64 h]) [.ar e64 h] (by kernel_rfl) k ?_
 intro g w_ k_
 refine WLs 1 [] (.k .z) qe (by kernel_rfl) ?_
 refine WL_nil <| At_go <| W_seq <| W_reg <| WL_op <| Op_make yz_tf22 e8 (0 : UInt8) rfl [] 6 (I 0) (I 64) (0 : Int) (64 : Int) (by kernel_rfl) (by omega) (by omega) (by omega) k_ ?_
 intro A0 w_1 k_1
 refine WLs 1 [] (.n 3 (sl A0 (Int.toNat (0 : Int)) (Int.toNat (64 : Int))) (.s .a)) qe (by kernel_rfl) ?_
 refine WL_nil <| At_go <| W_seq <| W_seq <| W_q [] (.n 7 (.agg [.ar e64 h]) (.n 8 (I 0) (.k .z))) (qT k_1 0 rfl 0 8 [.ar e64 h] (by kernel_rfl) (by decide) <| qe) (by kernel_rfl) ?_
 refine At_go <| W_block ?_
 have k_3 := k_1.sel (.s (.k .e))
 refine W_lp (m_mixb_Bytes_l0 h) (fun s L wr => ∃ (b : List UInt8) (x_0 : Int) (A1 : Option Addr) (n0 : Nat) (c0 : Nat), (b, x_0) = s ∧ L = [(3, sl A1 n0 c0), (7, .agg [.ar e64 h]), (8, I x_0)] ∧ b.length = n0 ∧ Cx F O w wr [Ow e8 A1 n0 c0 b]) (List.replicate (Int.toNat (0 : Int)) (0 : UInt8), (0 : Int)) r hm ⟨List.replicate (Int.toNat (0 : Int)) (0 : UInt8), (0 : Int), A0, Int.toNat (0 : Int), Int.toNat (64 : Int), rfl, rfl, k_3.len 0 rfl, k_3⟩ (by kernel_rfl) ?_
 intro s0_ L_ w_2 y0 hrel hstep hr0
 obtain ⟨b, x_0, A1, _, c0, rfl, rfl, rfl, k_2⟩ := hrel
 have hm := hstep; simp only [m_mixb_Bytes_l0] at hm
 clear hstep
 refine W_seq <| W_q [] (.n 9 (.b (decide (x_0 < 8))) .a) qe (by kernel_rfl) ?_
 refine At_go <| W_seq <| W_condp (x_0 < 8) (by kernel_rfl) (fun hc => ?_) (fun hc => ?_)
 · rw [if_pos hc] at hm
   refine W_skip <| At_go <| W_seq <| W_block <| W_seq ?_
   obtain ⟨x_1, h_x_1, hm⟩ := ob hm
   refine W_q [] (.n 5 (.u64 x_1) (.s .a)) (qo (.u64 x_1) <| qp ((0 ≤ x_0 ∧ x_0 < ((8 : Nat) : Int)) ∧ (SV.cl [.ar e64 h])[Int.toNat x_0 * 1]? = some (SV.val (.u64 x_1))) (ar_ix (E := e64) h_x_1 rfl) <| qe) (by kernel_rfl) ?_
   refine At_go <| W_reg <| WLs 2 [] (.n 11 (sl A1 b.length c0) (.n 12 (.u64 x_1) (.s .a))) qe (by kernel_rfl) ?_
   refine WL_op ?_
   obtain ⟨r_, h_r_, hm⟩ := ob hm
   refine Op_call [] 13 _ yz_go47 (by kernel_rfl) (c_word_Store64 (F := N0) (O := N0) _ (Cx.refl _) _ h_r_) ?_
   rintro e_ w_3 ⟨A2, _, c1, rfl, rfl, k_4⟩
   have k_5 := k_2.call k_4
   refine ⟨sl A2 r_.length c1, rfl, ?_⟩
   refine WL_op ?_
   obtain ⟨b1, h_b1, hm⟩ := ob hm
   obtain ⟨hz, hl⟩ := app_some h_b1
   refine Op_append (E := e8) (v := sl A2 r_.length c1) (ys := r_) yz_tf22 [] 14 0 (by kernel_rfl) k_5 rfl (Src.sl (k_5.rd 1 rfl) (k_5.len 1 rfl) (by rfl)) (k_5.len 1 rfl) (by have := k_5.len 0 rfl; have := (k_5.len 1 rfl); omega) ?_
   intro A3 c2 w_4 k_6
   rw [← hl] at k_6
   have k_7 := k_6.sel (.k .z)
   refine WLs 1 [] (.n 3 (sl A3 (b.length + r_.length) c2) (.ssss (.s .a))) qe (by kernel_rfl) ?_
   refine WL_nil <| At_in <| At_go <| W_q [] (.n 8 (I (w64 (x_0 + 1))) (.kk .z)) qe (by kernel_rfl) ?_
   exact At_rd (b1, w64 (x_0 + 1)) (Option.some.inj hm).symm ⟨b1, w64 (x_0 + 1), A3, b.length + r_.length, c2, rfl, rfl, k_7.len 0 rfl, k_7⟩ (by kernel_rfl)
 rw [if_neg hc] at hm
 refine W_exit (At_te (At_te (At_ie ?_)))
 have hm := exit_of hm hr0
 refine At_go <| W_seq <| W_q [] (.n 2 (sl A1 b.length c0) .z) qe (by kernel_rfl) ?_
 refine At_go <| W_ret ?_
 obtain rfl := Option.some.inj hm
 refine At_rt [sl A1 b.length c0] qe (by kernel_rfl) ?_
 exact ⟨A1, b.length, c0, k_2.len 0 rfl, rfl, k_2⟩

-- (*quern/node.half[uint64]).out
theorem c_node_half_uint64_out {F O : Nat → Prop} {w : World} (x_h : Vec UInt64 8) (x_count_Lo : UInt64) (x_count_Hi : UInt64) (x_held : List UInt8) (x_block : Int) (node : Bool) (g_x : Nat) (A_x_held : Option Addr) (n_x_held : Nat) (c_x_held : Nat) (k : Cx F O w w [Bx 206 g_x [.ar e64 x_h, .u64 x_count_Lo, .u64 x_count_Hi, sl A_x_held n_x_held c_x_held, I x_block, .v (.func (.func 132) ⟨SV.vals []⟩ ⟨SV.vals []⟩), .v (.func (.func 133) ⟨SV.vals []⟩ ⟨SV.vals []⟩)], Ow e8 A_x_held n_x_held c_x_held x_held]) (r : (List UInt8 × Vec UInt64 8 × UInt64 × UInt64 × List UInt8 × Int)) (hm : m_node_half_uint64_out x_h x_count_Lo x_count_Hi x_held x_block node = some r) :
    Calls Tryz.prog 184 (vals [pt g_x 0, .b node]) w (fun e w' => ∃ A n c A1 n1 c1, r.1.length = n ∧ r.2.2.2.2.1.length = n1 ∧ e = .returned (SV.val (sl A n c)) ∧ Cx F O w w' [Ow e8 A n c r.1, Bx 206 g_x [.ar e64 r.2.1, .u64 r.2.2.1, .u64 r.2.2.2.1, sl A1 n1 c1, I r.2.2.2.2.2, .v (.func (.func 132) ⟨SV.vals []⟩ ⟨SV.vals []⟩), .v (.func (.func 133) ⟨SV.vals []⟩ ⟨SV.vals []⟩)], Ow e8 A1 n1 c1 r.2.2.2.2.1]) := by
 unfold m_node_half_uint64_out at hm
 obtain rfl := k.len 1 rfl
 refine calls [pt g_x 0, .b node] Tryz.func184 rfl (of_decide_eq_true (by kernel_rfl)) ?_
 refine W_seq <| W_q [] .a qe (by kernel_rfl) ?_
 refine At_go <| W_seq <| W_cutr (fun L wr => ∃ (c0 : UInt64) (c2 : UInt64) (g : Nat), m_node_half_uint64_out_j0 x_h x_count_Lo x_count_Hi x_held x_block node c0 c2 = some r ∧ L = [(0, pt g_x 0), (1, .b node), (5, pt g 0)] ∧ Cx F O w wr [Bx 206 g_x [.ar e64 x_h, .u64 x_count_Lo, .u64 x_count_Hi, sl A_x_held x_held.length c_x_held, I x_block, .v (.func (.func 132) ⟨SV.vals []⟩ ⟨SV.vals []⟩), .v (.func (.func 133) ⟨SV.vals []⟩ ⟨SV.vals []⟩)], Ow e8 A_x_held x_held.length c_x_held x_held, Bx 204 g [.u64 c0, .u64 c2]]) ?_ ?_
 ·
  have k_ := k.drew 1
  refine W_m yz_mixed (.q 0 2 (.q 1 2 (.q 2 2 (.q 3 1 (.q 4 2 (.q 5 2 (.q 6 2 (.q 7 2 (.q 8 2 (.q 9 1 (.br 10 14 (.q 11 2 (.q 12 2 (.q 13 3 (.op 14 (.op 15 (.q 16 3 .nil)))))) (.op 10 (.q 11 2 (.q 12 2 (.q 13 3 (.op 15 (.q 16 3 .nil))))))))))))))))) [10, 14, 15] k_ (.c (.kk .e) (.c (.kk .e) (.c (.kk .e) .l))) (by kernel_rfl) (fun _ => ?_)
  refine MXq 3 2 [] (.n 10 (pt g_x 8) .a) (fun x hx => qs g_x 0 <| qs g_x 0 <| qe) (by kernel_rfl) (fun _ => ?_)
  refine MXq 1 1 [] (.n 11 (.agg [.u64 x_count_Lo, .u64 x_count_Hi]) (.s .a)) (fun x hx => qT hx 0 rfl 8 2 [.u64 x_count_Lo, .u64 x_count_Hi] (by kernel_rfl) (by decide) <| qe) (by kernel_rfl) (fun _ => ?_)
  refine MXq 5 2 [] (.n 16 (I ((x_held.length : Nat) : Int)) .a) (fun x hx => qs g_x 0 <| qs g_x 0 <| qB hx 0 rfl 10 (sl A_x_held x_held.length c_x_held) (by kernel_rfl) <| qe) (by kernel_rfl) (fun _ => ?_)
  refine MXq 1 1 [] (.n 17 (.u64 (UInt64.ofInt ((x_held.length : Nat) : Int))) (.s .a)) (fun x hx => qe) (by kernel_rfl) (fun _ => ?_)
  refine MX_br (by kernel_rfl) (by kernel_rfl) rfl rfl ?_ ?_
  ·
   obtain ⟨r_, h_r_, hm⟩ := ob hm
   refine Op_call [] 18 _ yz_go187 (by kernel_rfl) (c_word_Add (F := N0) (O := N0) _ _ _ (Cx.refl _) _ h_r_) ?_
   rintro e_ w_ ⟨rfl, k_1⟩
   have k_2 := k_.call k_1
   refine ⟨.tup [.agg [.u64 r_.1, .u64 r_.2.1], .b r_.2.2], rfl, ?_⟩
   refine ⟨k_2, fun _ => ?_⟩
   refine MXq 2 2 [] (.n 7 (.tup [.agg [.u64 r_.1, .u64 r_.2.1], .b r_.2.2]) (.n 19 (.agg [.u64 r_.1, .u64 r_.2.1]) (.sss .a))) (fun x hx => qe) (by kernel_rfl) (fun _ => ?_)
   refine MXq 1 3 [] (.n 20 (.b r_.2.2) (.s .a)) (fun x hx => qe) (by kernel_rfl) (fun _ => ?_)
   refine MX_op (by kernel_rfl) rfl <| Op_alloc [] 5 [.u64 0, .u64 0] (by kernel_rfl) k_2 ?_
   intro g1 w_1 k_3
   refine ⟨(k_3.sel (.kk .z)), fun _ => ?_⟩
   refine MX_op (by kernel_rfl) rfl <| Op_b [] 2 (.agg [.u64 r_.1, .u64 r_.2.1]) [.u64 r_.1, .u64 r_.2.1] (Pt.at g1 0) k_3 rfl .all (by kernel_rfl) (by kernel_rfl) ?_
   intro w_2 k_4
   refine ⟨(k_4.sel (.kk .z)), fun _ => ?_⟩
   refine MXq 1 3 [] (.k (.ss .a)) (fun x hx => qe) (by kernel_rfl) (fun _ => ?_)
   refine MX_nil ?_
   exact At_c ⟨r_.1, r_.2.1, g1, hm, rfl, k_4⟩ (by kernel_rfl)
  ·
   refine Op_alloc [] 5 [.u64 0, .u64 0] (by kernel_rfl) k_ ?_
   intro g1 w_ k_1
   refine ⟨(k_1.sel (.kk .z)), fun _ => ?_⟩
   refine MX_op (by kernel_rfl) rfl ?_
   obtain ⟨r_, h_r_, hm⟩ := ob hm
   refine Op_call [] 18 _ yz_go187 (by kernel_rfl) (c_word_Add (F := N0) (O := N0) _ _ _ (Cx.refl _) _ h_r_) ?_
   rintro e_ w_1 ⟨rfl, k_2⟩
   have k_3 := k_1.call k_2
   refine ⟨.tup [.agg [.u64 r_.1, .u64 r_.2.1], .b r_.2.2], rfl, ?_⟩
   refine ⟨(k_3.sel (.kk .z)), fun _ => ?_⟩
   refine MXq 2 2 [] (.n 7 (.tup [.agg [.u64 r_.1, .u64 r_.2.1], .b r_.2.2]) (.n 19 (.agg [.u64 r_.1, .u64 r_.2.1]) (.s (.k (.ss .a))))) (fun x hx => qe) (by kernel_rfl) (fun _ => ?_)
   refine MXq 1 3 [] (.n 20 (.b r_.2.2) (.s .a)) (fun x hx => qe) (by kernel_rfl) (fun _ => ?_)
   refine MX_op (by kernel_rfl) rfl <| Op_b [] 2 (.agg [.u64 r_.1, .u64 r_.2.1]) [.u64 r_.1, .u64 r_.2.1] (Pt.at g1 0) k_3 rfl .all (by kernel_rfl) (by kernel_rfl) ?_
   intro w_2 k_4
   refine ⟨(k_4.sel (.kk .z)), fun _ => ?_⟩
   refine MXq 1 3 [] (.ss .a) (fun x hx => qe) (by kernel_rfl) (fun _ => ?_)
   refine MX_nil ?_
   exact At_c ⟨r_.1, r_.2.1, g1, hm, rfl, k_4⟩ (by kernel_rfl)
 rintro L_ w_3 ⟨c0, c2, g, hm, rfl, k_5⟩
 simp only [m_node_half_uint64_out_j0] at hm
 refine At_go <| W_seq ?_
 have k_6 := k_5.drew 1
 refine W_m yz_mixed (.q 21 2 (.q 22 2 (.q 0 3 (.q 1 3 (.q 2 3 (.q 3 2 (.q 4 3 (.q 5 3 (.q 6 3 (.q 7 2 (.q 8 3 (.q 9 3 (.q 10 3 (.q 11 2 (.q 12 3 (.q 13 3 (.q 14 3 (.q 15 2 (.q 16 3 (.q 17 3 (.q 18 3 (.q 19 2 (.op 20 (.op 23 (.op 24 (.q 25 3 .nil)))))))))))))))))))))))))) [20, 23, 24] k_6 (.c (.kk (.k .e)) (.c (.kk (.k .e)) (.c (.kk (.k .e)) .l))) (by kernel_rfl) (fun _ => ?_)
 refine MXq 2 2 [] (.n 42 (.agg [.u64 c0, .u64 c2]) (.n 43 (.b node) (.k .z))) (fun x hx => qT hx 2 rfl 0 2 [.u64 c0, .u64 c2] (by kernel_rfl) (by decide) <| qe) (by kernel_rfl) (fun _ => ?_)
 refine MXq 3 3 [] (.n 23 (pt g_x 13) .a) (fun x hx => qs g_x 0 <| qs g_x 0 <| qe) (by kernel_rfl) (fun _ => ?_)
 refine MXq 1 2 [] (.n 24 (.v (.func (.func 133) ⟨SV.vals []⟩ ⟨SV.vals []⟩)) (.s .a)) (fun x hx => qB hx 0 rfl 13 (.v (.func (.func 133) ⟨SV.vals []⟩ ⟨SV.vals []⟩)) (by kernel_rfl) <| qe) (by kernel_rfl) (fun _ => ?_)
 refine MXq 3 3 [] (.n 27 (pt g_x 12) .a) (fun x hx => qs g_x 0 <| qs g_x 0 <| qe) (by kernel_rfl) (fun _ => ?_)
 refine MXq 1 2 [] (.n 28 (.v (.func (.func 132) ⟨SV.vals []⟩ ⟨SV.vals []⟩)) (.s .a)) (fun x hx => qB hx 0 rfl 12 (.v (.func (.func 132) ⟨SV.vals []⟩ ⟨SV.vals []⟩)) (by kernel_rfl) <| qe) (by kernel_rfl) (fun _ => ?_)
 refine MXq 3 3 [] (.n 31 (pt g_x 0) .a) (fun x hx => qs g_x 0 <| qs g_x 0 <| qe) (by kernel_rfl) (fun _ => ?_)
 refine MXq 1 2 [] (.n 32 (.agg [.ar e64 x_h]) (.s .a)) (fun x hx => qT hx 0 rfl 0 8 [.ar e64 x_h] (by kernel_rfl) (by decide) <| qe) (by kernel_rfl) (fun _ => ?_)
 refine MXq 3 3 [] (.n 35 (pt g_x 10) .a) (fun x hx => qs g_x 0 <| qs g_x 0 <| qe) (by kernel_rfl) (fun _ => ?_)
 refine MXq 1 2 [] (.n 36 (sl A_x_held x_held.length c_x_held) (.s .a)) (fun x hx => qB hx 0 rfl 10 (sl A_x_held x_held.length c_x_held) (by kernel_rfl) <| qe) (by kernel_rfl) (fun _ => ?_)
 refine MXq 3 3 [] (.n 39 (pt g_x 11) (.kkkk (.kk .z))) (fun x hx => qs g_x 0 <| qs g_x 0 <| qe) (by kernel_rfl) (fun _ => ?_)
 refine MXq 1 2 [] (.n 40 (I x_block) (.s .a)) (fun x hx => qB hx 0 rfl 11 (I x_block) (by kernel_rfl) <| qe) (by kernel_rfl) (fun _ => ?_)
 refine MX_op (by kernel_rfl) rfl ?_
 obtain ⟨r_1, h_r_1, hm⟩ := ob hm
 refine Op_call [] 41 _ yz_go120 (by kernel_rfl) (c_node_padded (F := N0) (O := N0) _ _ _ _ _ (Ro.n0 (k_6.rd 1 rfl)) (k_6.len 1 rfl) (k_6.lec 1 rfl) (Cx.refl _) _ h_r_1) ?_
 rintro e_ w_4 ⟨A0, _, c3, rfl, rfl, k_7⟩
 have k_8 := k_6.call k_7
 refine ⟨sl A0 r_1.length c3, rfl, ?_⟩
 refine ⟨(k_8.sel (.kk (.k .z))), fun _ => ?_⟩
 refine MX_op (by kernel_rfl) rfl ?_
 obtain ⟨r_2, h_r_2, hm⟩ := ob hm
 refine Op_callv [] 44 [] [.agg [.ar e64 x_h], sl A0 r_1.length c3, .agg [.u64 c0, .u64 c2], .b true, .b node] [] yz_go132 (by kernel_rfl) (c_node_mixBig (F := N0) (O := N0) _ _ _ _ _ _ _ _ _ (Ro.n0 (k_8.rd 3 rfl)) (k_8.len 3 rfl) (k_8.lec 3 rfl) (Cx.refl _) _ h_r_2) ?_
 rintro e_ w_5 ⟨rfl, k_9⟩
 have k_10 := k_8.call k_9
 refine ⟨.agg [.ar e64 r_2], rfl, ?_⟩
 have k_11 := k_10.sel (.kk (.k .z))
 refine ⟨k_11, fun _ => ?_⟩
 refine MX_op (by kernel_rfl) rfl ?_
 obtain ⟨r_3, h_r_3, hm⟩ := ob hm
 refine Op_callv [] 45 [] [.agg [.ar e64 r_2]] [] yz_go133 (by kernel_rfl) (c_mixb_Bytes (F := N0) (O := N0) _ (Cx.refl _) _ h_r_3) ?_
 rintro e_ w_6 ⟨A2, _, c4, rfl, rfl, k_12⟩
 have k_13 := k_11.call k_12
 refine ⟨sl A2 r_3.length c4, rfl, ?_⟩
 refine ⟨(k_13.sel (.kk (.k .z))), fun _ => ?_⟩
 refine MXq 1 3 [] (.n 4 (sl A2 r_3.length c4) .z) (fun x hx => qe) (by kernel_rfl) (fun _ => ?_)
 refine MX_nil <| At_go <| W_ret ?_
 obtain rfl := Option.some.inj hm
 refine At_rt [sl A2 r_3.length c4] qe (by kernel_rfl) ?_
 have k_14 := (((k_13.pk (.t .h)).pk (.t .h)).pk (.t (.t (.t .h)))).sel (.kk (.k .z))
 exact ⟨A2, r_3.length, c4, A_x_held, x_held.length, c_x_held, k_14.len 0 rfl, k_14.len 2 rfl, rfl, k_14⟩

-- (*quern/node.Node).Out
theorem c_node_Node_Out {F O : Nat → Prop} {w : World} (n_kind : Int) (n_digest : Int) (n_block : List UInt8) (n_key : List UInt8) (n_last : Bool) (n_written : UInt64) (n_e_h : Vec UInt64 8) (n_e_count_Lo : UInt64) (n_e_count_Hi : UInt64) (n_e_held : List UInt8) (n_e_block : Int) (most : Int) (g_n : Nat) (A_n_block : Option Addr) (n_n_block : Nat) (c_n_block : Nat) (A_n_key : Option Addr) (n_n_key : Nat) (c_n_key : Nat) (g_n_e : Nat) (A_n_e_held : Option Addr) (n_n_e_held : Nat) (c_n_e_held : Nat) (k : Cx F O w w [Bx 125 g_n [I n_kind, I n_digest, sl A_n_block n_n_block c_n_block, sl A_n_key n_n_key c_n_key, .b n_last, .u64 n_written, .v (.iface 200 (SV.val (pt g_n_e 0)))], Ow e8 A_n_block n_n_block c_n_block n_block, Ow e8 A_n_key n_n_key c_n_key n_key, Bx 206 g_n_e [.ar e64 n_e_h, .u64 n_e_count_Lo, .u64 n_e_count_Hi, sl A_n_e_held n_n_e_held c_n_e_held, I n_e_block, .v (.func (.func 132) ⟨SV.vals []⟩ ⟨SV.vals []⟩), .v (.func (.func 133) ⟨SV.vals []⟩ ⟨SV.vals []⟩)], Ow e8 A_n_e_held n_n_e_held c_n_e_held n_e_held]) (r : (List UInt8 × Int × Vec UInt64 8 × UInt64 × UInt64 × List UInt8 × Int × Int × Int × List UInt8 × List UInt8 × Bool × UInt64)) (hm : m_node_Node_Out n_kind n_digest n_block n_key n_last n_written n_e_h n_e_count_Lo n_e_count_Hi n_e_held n_e_block most = some r) :
    Calls Tryz.prog 70 (vals [pt g_n 0, I most]) w (fun e w' => ∃ A n c A1 n1 c1 A2 n2 c2 A3 n3 c3, r.1.length = n ∧ r.2.2.2.2.2.1.length = n1 ∧ r.2.2.2.2.2.2.2.2.2.1.length = n2 ∧ r.2.2.2.2.2.2.2.2.2.2.1.length = n3 ∧ e = .returned (SV.val (.tup [sl A n c, I r.2.1])) ∧ Cx F O w w' [Ow e8 A n c r.1, Bx 206 g_n_e [.ar e64 r.2.2.1, .u64 r.2.2.2.1, .u64 r.2.2.2.2.1, sl A1 n1 c1, I r.2.2.2.2.2.2.1, .v (.func (.func 132) ⟨SV.vals []⟩ ⟨SV.vals []⟩), .v (.func (.func 133) ⟨SV.vals []⟩ ⟨SV.vals []⟩)], Ow e8 A1 n1 c1 r.2.2.2.2.2.1, Bx 125 g_n [I r.2.2.2.2.2.2.2.1, I r.2.2.2.2.2.2.2.2.1, sl A2 n2 c2, sl A3 n3 c3, .b r.2.2.2.2.2.2.2.2.2.2.2.1, .u64 r.2.2.2.2.2.2.2.2.2.2.2.2, .v (.iface 200 (SV.val (pt g_n_e 0)))], Ow e8 A2 n2 c2 r.2.2.2.2.2.2.2.2.2.1, Ow e8 A3 n3 c3 r.2.2.2.2.2.2.2.2.2.2.1]) := by
 unfold m_node_Node_Out at hm
 obtain rfl := k.len 1 rfl
 obtain rfl := k.len 2 rfl
 obtain rfl := k.len 4 rfl
 refine calls [pt g_n 0, I most] Tryz.func70 rfl (of_decide_eq_true (by kernel_rfl)) ?_
 refine W_seq <| W_q [] .a qe (by kernel_rfl) ?_
 refine At_go <| W_seq <| W_seq <| W_reg <| WLs 1 [] (.n 6 (pt g_n 0) .a) qe (by kernel_rfl) ?_
 refine WL_op ?_
 obtain ⟨r_, h_r_, hm⟩ := ob hm
 obtain ⟨F1, O1, kin, hO, hre, hF, hb⟩ := k.go (.i (.i (.i (.i (.i .e)))))
 refine Op_call [] 7 _ yz_go91 (by kernel_rfl) (c_node_Node_none (F := F1) (O := O1) _ _ _ _ _ _ _ _ _ _ _ _ _ _ _ _ _ _ _ _ _ _ kin _ h_r_) ?_
 rintro e_ w_ ⟨A0, _, c0, A4, _, c4, A5, _, c5, rfl, rfl, rfl, rfl, k_⟩
 have k_1 := hb w_ _ _ k_ (.c (.c (.c (.c (.c .n)))))
 refine ⟨.b false, rfl, ?_⟩
 refine WL_nil <| At_go <| W_cond false (by kernel_rfl) (fun h => by cases h) (fun _ => ?_)
 refine W_skip <| At_go <| W_seq <| W_seq <| W_reg <| WLs 3 [] (.n 10 (.b (decide (most < 1))) (.ss .a)) qe (by kernel_rfl) ?_
 refine WL_sp 10 (decide (most < 1)) (.s .a) (by kernel_rfl) (fun hg => ?_) (fun hg => ?_)
 · rw [if_pos (of_decide_eq_true hg)] at hm
   refine WLs 9 [10] (.n 19 (.b true) (.s .a)) qe (by kernel_rfl) ?_
   refine WL_nil <| At_go <| W_cond true (by kernel_rfl) (fun _ => ?_) (fun h => by cases h)
   refine W_seq <| W_q [] (.n 4 (sl none 0 0) (.n 5 (I 1) .z)) qe (by kernel_rfl) ?_
   refine At_go <| W_ret (At_tr ?_)
   have k_2 := k_1.nil e8
   obtain rfl := Option.some.inj hm
   refine At_rt [sl none 0 0, I 1] qe (by kernel_rfl) ?_
   have k_3 := (((((k_2.pk (.t (.t (.t (.t .h))))).pk (.t (.t (.t (.t .h))))).pk (.t (.t (.t (.t .h))))).pk (.t (.t (.t (.t .h))))).pk (.t (.t (.t (.t .h))))).pk (.t (.t (.t (.t (.t .h)))))
   exact ⟨none, 0, 0, A0, r_.2.2.2.1.length, c0, A4, r_.2.2.2.2.2.2.2.1.length, c4, A5, r_.2.2.2.2.2.2.2.2.1.length, c5, k_3.len 0 rfl, k_3.len 2 rfl, k_3.len 4 rfl, k_3.len 5 rfl, rfl, k_3⟩
 · rw [if_neg (of_decide_eq_false hg)] at hm
   refine WLs 5 [10] (.n 11 (I most) (.n 15 (I r_.2.2.2.2.2.1) .a)) (qs g_n 0 <| qs g_n 0 <| qB k_1 2 rfl 0 (I r_.2.2.2.2.2.1) (by kernel_rfl) <| qe) (by kernel_rfl) ?_
   refine WL_op ?_
   obtain ⟨r_1, h_r_1, hm⟩ := ob hm
   refine Op_call [10] 16 _ yz_go92 (by kernel_rfl) (c_node_blockOf (F := N0) (O := N0) _ (Cx.refl _) _ h_r_1) ?_
   rintro e_ w_1 ⟨rfl, k_4⟩
   have k_5 := k_1.call k_4
   refine ⟨I r_1, rfl, ?_⟩
   refine WLs 3 [10] (.n 19 (.b (decide ((w64 (Int.tdiv r_1 2)) < most))) (.ssss .a)) (qp ((2 : Int) ≠ (0 : Int)) (by omega) <| qe) (by kernel_rfl) ?_
   refine WL_nil <| At_go <| W_condp ((w64 (Int.tdiv r_1 2)) < most) (by kernel_rfl) (fun hc => ?_) (fun hc => ?_)
   · rw [if_pos hc] at hm
     refine W_seq <| W_q [] (.n 4 (sl none 0 0) (.n 5 (I 1) .z)) qe (by kernel_rfl) ?_
     refine At_go <| W_ret (At_tr ?_)
     have k_6 := k_5.nil e8
     obtain rfl := Option.some.inj hm
     refine At_rt [sl none 0 0, I 1] qe (by kernel_rfl) ?_
     have k_7 := (((((k_6.pk (.t (.t (.t (.t .h))))).pk (.t (.t (.t (.t .h))))).pk (.t (.t (.t (.t .h))))).pk (.t (.t (.t (.t .h))))).pk (.t (.t (.t (.t .h))))).pk (.t (.t (.t (.t (.t .h)))))
     exact ⟨none, 0, 0, A0, r_.2.2.2.1.length, c0, A4, r_.2.2.2.2.2.2.2.1.length, c4, A5, r_.2.2.2.2.2.2.2.2.1.length, c5, k_7.len 0 rfl, k_7.len 2 rfl, k_7.len 4 rfl, k_7.len 5 rfl, rfl, k_7⟩
   rw [if_neg hc] at hm
   refine W_skip <| At_go <| W_seq ?_
   have k_8 := k_5.drew 1
   refine W_m yz_mixed (.q 0 1 (.q 1 1 (.q 2 1 (.q 3 1 (.q 4 1 (.q 5 1 (.q 6 1 (.q 7 0 (.q 8 1 (.q 9 0 (.q 11 1 (.q 12 1 (.op 10 (.q 13 1 (.q 14 1 (.q 15 1 .nil)))))))))))))))) [10] k_8 (.c (.ss (.kk (.k .e))) .l) (by kernel_rfl) (fun _ => ?_)
   refine MXq 7 1 [] (.n 23 (.v (.iface 200 (SV.val (pt g_n_e 0)))) (.n 26 (pt g_n 4) (.ss .a))) (fun x hx => qs g_n 0 <| qs g_n 0 <| qB hx 0 rfl 6 (.v (.iface 200 (SV.val (pt g_n_e 0)))) (by kernel_rfl) <| qs g_n 0 <| qs g_n 0 <| qe) (by kernel_rfl) (fun _ => ?_)
   refine MXq 1 0 [] (.n 27 (.b r_.2.2.2.2.2.2.2.2.2.1) (.k (.s .a))) (fun x hx => qB hx 2 rfl 4 (.b r_.2.2.2.2.2.2.2.2.2.1) (by kernel_rfl) <| qe) (by kernel_rfl) (fun _ => ?_)
   refine MXq 1 1 [] .a (fun x hx => qe) (by kernel_rfl) (fun _ => ?_)
   refine MXq 1 0 [] (.n 29 (.v (.iface 200 (SV.val (pt g_n_e 0)))) (.k (.s .a))) (fun x hx => qe) (by kernel_rfl) (fun _ => ?_)
   refine MXq 2 1 [] (.n 31 (I most) (.n 32 (I most) (.kk .z))) (fun x hx => qe) (by kernel_rfl) (fun _ => ?_)
   refine MX_op (by kernel_rfl) rfl ?_
   obtain ⟨r_2, h_r_2, hm⟩ := ob hm
   obtain ⟨F11, O11, kin1, hO1, hre1, hF1, hb1⟩ := k_8.go (.i (.i (.r (.r (.r .e)))))
   refine Op_invoke [] 30 200 (pt g_n_e 0) [.b r_.2.2.2.2.2.2.2.2.2.1] yz_inv200_node_out rfl (by kernel_rfl) (c_node_half_uint64_out (F := F11) (O := O11) _ _ _ _ _ _ _ _ _ _ kin1 _ h_r_2) ?_
   rintro e_ w_2 ⟨A6, _, c6, A7, _, c7, rfl, rfl, rfl, k_9⟩
   have k_10 := hb1 w_2 _ _ k_9 (.c (.c (.c .n)))
   refine ⟨sl A6 r_2.1.length c6, rfl, ?_⟩
   refine ⟨(k_10.sel (.ss (.s (.kk (.k .e))))), fun _ => ?_⟩
   obtain ⟨b, h_b, hm⟩ := ob hm
   have hs := slc_some h_b
   have hl := slc_len h_b
   have hn : r_2.1.length = r_2.1.length := (k_10.len 0 rfl)
   have hc1 : r_2.1.length ≤ c6 := (k_10.lec 0 rfl)
   obtain ⟨u, h_u, hm⟩ := ob hm
   have hq := need_some h_u
   have hc2 : b.length ≤ Int.toNat most := by omega
   refine MXq 3 1 [] (.n 4 (sl A6 b.length (Int.toNat most)) (.n 5 (I 0) .z)) (fun x hx => qp (0 ≤ most ∧ most ≤ ((c6 : Nat) : Int)) (by omega) <| qp (0 ≤ most ∧ most ≤ ((Int.toNat most : Nat) : Int)) (by omega) <| qo (.v (.slice A6 b.length (Int.toNat most))) <| qp (Value.slice (slA A6 0 (Int.toNat most) 1) (Int.toNat most - 0) (Int.toNat most - 0) = .slice A6 b.length (Int.toNat most)) (slx0 _ _ _ _ _ (by omega)) <| qe) (by kernel_rfl) (fun _ => ?_)
   refine MX_nil <| At_go <| W_ret ?_
   have k_11 := k_10.pre 0 rfl b.length (Int.toNat most) b (by omega) (by omega) (by omega) (slc_pre h_b rfl)
   obtain rfl := Option.some.inj hm
   refine At_rt [sl A6 b.length (Int.toNat most), I 0] qe (by kernel_rfl) ?_
   exact ⟨A6, b.length, Int.toNat most, A7, r_2.2.2.2.2.1.length, c7, A4, r_.2.2.2.2.2.2.2.1.length, c4, A5, r_.2.2.2.2.2.2.2.2.1.length, c5, k_11.len 0 rfl, k_11.len 2 rfl, k_11.len 4 rfl, k_11.len 5 rfl, rfl, k_11⟩

-- (*quern/node.Node).none
theorem c_node_Node_none_s1 {F O : Nat → Prop} {w : World} (n_kind : Int) (n_digest : Int) (n_block : List UInt8) (n_key : List UInt8) (n_last : Bool) (n_written : UInt64) (n_e_h : Vec UInt32 8) (n_e_count_Lo : UInt64) (n_e_count_Hi : UInt64) (n_e_held : List UInt8) (n_e_block : Int) (g_n : Nat) (A_n_block : Option Addr) (n_n_block : Nat) (c_n_block : Nat) (A_n_key : Option Addr) (n_n_key : Nat) (c_n_key : Nat) (g_n_e : Nat) (A_n_e_held : Option Addr) (n_n_e_held : Nat) (c_n_e_held : Nat) (k : Cx F O w w [Bx 125 g_n [I n_kind, I n_digest, sl A_n_block n_n_block c_n_block, sl A_n_key n_n_key c_n_key, .b n_last, .u64 n_written, .v (.iface 209 (SV.val (pt g_n_e 0)))], Ow e8 A_n_block n_n_block c_n_block n_block, Ow e8 A_n_key n_n_key c_n_key n_key, Bx 213 g_n_e [.ar e32 n_e_h, .u64 n_e_count_Lo, .u64 n_e_count_Hi, sl A_n_e_held n_n_e_held c_n_e_held, I n_e_block, .v (.func (.func 135) ⟨SV.vals []⟩ ⟨SV.vals []⟩), .v (.func (.func 136) ⟨SV.vals []⟩ ⟨SV.vals []⟩)], Ow e8 A_n_e_held n_n_e_held c_n_e_held n_e_held]) (r : (Vec UInt32 8 × UInt64 × UInt64 × List UInt8 × Int × Int × Int × List UInt8 × List UInt8 × Bool × UInt64)) (hm : m_node_Node_none_s1 n_kind n_digest n_block n_key n_last n_written n_e_h n_e_count_Lo n_e_count_Hi n_e_held n_e_block = some r) :
    Calls Tryz.prog 91 (vals [pt g_n 0]) w (fun e w' => ∃ A n c A1 n1 c1 A2 n2 c2, r.2.2.2.1.length = n ∧ r.2.2.2.2.2.2.2.1.length = n1 ∧ r.2.2.2.2.2.2.2.2.1.length = n2 ∧ e = .returned (SV.val (.b false)) ∧ Cx F O w w' [Bx 213 g_n_e [.ar e32 r.1, .u64 r.2.1, .u64 r.2.2.1, sl A n c, I r.2.2.2.2.1, .v (.func (.func 135) ⟨SV.vals []⟩ ⟨SV.vals []⟩), .v (.func (.func 136) ⟨SV.vals []⟩ ⟨SV.vals []⟩)], Ow e8 A n c r.2.2.2.1, Bx 125 g_n [I r.2.2.2.2.2.1, I r.2.2.2.2.2.2.1, sl A1 n1 c1, sl A2 n2 c2, .b r.2.2.2.2.2.2.2.2.2.1, .u64 r.2.2.2.2.2.2.2.2.2.2, .v (.iface 209 (SV.val (pt g_n_e 0)))], Ow e8 A1 n1 c1 r.2.2.2.2.2.2.2.1, Ow e8 A2 n2 c2 r.2.2.2.2.2.2.2.2.1]) := by
 unfold m_node_Node_none_s1 at hm
 obtain rfl := k.len 1 rfl
 obtain rfl := k.len 2 rfl
 obtain rfl := k.len 4 rfl
 refine calls [pt g_n 0] Tryz.func91 rfl (of_decide_eq_true (by kernel_rfl)) ?_
 refine W_seq <| W_q [] .a qe (by kernel_rfl) ?_
 refine At_go <| W_seq <| W_q [5] (.n 2 (.b false) .z) (qs g_n 0 <| qs g_n 0 <| qB k 0 rfl 6 (.v (.iface 209 (SV.val (pt g_n_e 0)))) (by kernel_rfl) <| qe) (by kernel_rfl) ?_
 refine At_go <| W_ret ?_
 obtain rfl := Option.some.inj hm
 refine At_rt [.b false] qe (by kernel_rfl) ?_
 have k_ := ((((k.pk (.t (.t .h))).pk (.t (.t .h))).pk (.t (.t .h))).pk (.t (.t (.t (.t .h))))).pk (.t (.t (.t (.t .h))))
 exact ⟨A_n_e_held, n_e_held.length, c_n_e_held, A_n_block, n_block.length, c_n_block, A_n_key, n_key.length, c_n_key, k_.len 1 rfl, k_.len 3 rfl, k_.len 4 rfl, rfl, k_⟩

-- quern/mixs.Bytes
theorem c_mixs_Bytes {F O : Nat → Prop} {w : World} (h : Vec UInt32 8) (k : Cx F O w w []) (r : (List UInt8)) (hm : m_mixs_Bytes h = some r) :
    Calls Tryz.prog 136 (vals [.agg [.ar e32 h]]) w (fun e w' => ∃ A n c, r.length = n ∧ e = .returned (SV.val (sl A n c)) ∧ Cx F O w w' [Ow e8 A n c r]) := by
 unfold m_mixs_Bytes at hm
 refine calls [.agg [.ar e32 h]] Tryz.func136 rfl (of_decide_eq_true (by kernel_rfl)) ?_
 refine W_seq <| W_reg <| WL_op <| Op_box [] 1 (.agg [.ar e32 h]) [.ar e32 h] (by kernel_rfl) k ?_
 intro g w_ k_
 refine WLs 1 [] (.k .z) qe (by kernel_rfl) ?_
 refine WL_nil <| At_go <| W_seq <| W_reg <| WL_op <| Op_make yz_tf22 e8 (0 : UInt8) rfl [] 6 (I 0) (I 32) (0 : Int) (32 : Int) (by kernel_rfl) (by omega) (by omega) (by omega) k_ ?_
 intro A0 w_1 k_1
 refine WLs 1 [] (.n 3 (sl A0 (Int.toNat (0 : Int)) (Int.toNat (32 : Int))) (.s .a)) qe (by kernel_rfl) ?_
 refine WL_nil <| At_go <| W_seq <| W_seq <| W_q [] (.n 7 (.agg [.ar e32 h]) (.n 8 (I 0) (.k .z))) (qT k_1 0 rfl 0 8 [.ar e32 h] (by kernel_rfl) (by decide) <| qe) (by kernel_rfl) ?_
 refine At_go <| W_block ?_
 have k_3 := k_1.sel (.s (.k .e))
 refine W_lp (m_mixs_Bytes_l0 h) (fun s L wr => ∃ (b : List UInt8) (x_0 : Int) (A1 : Option Addr) (n0 : Nat) (c0 : Nat), (b, x_0) = s ∧ L = [(3, sl A1 n0 c0), (7, .agg [.ar e32 h]), (8, I x_0)] ∧ b.length = n0 ∧ Cx F O w wr [Ow e8 A1 n0 c0 b]) (List.replicate (Int.toNat (0 : Int)) (0 : UInt8), (0 : Int)) r hm ⟨List.replicate (Int.toNat (0 : Int)) (0 : UInt8), (0 : Int), A0, Int.toNat (0 : Int), Int.toNat (32 : Int), rfl, rfl, k_3.len 0 rfl, k_3⟩ (by kernel_rfl) ?_
 intro s0_ L_ w_2 y0 hrel hstep hr0
 obtain ⟨b, x_0, A1, _, c0, rfl, rfl, rfl, k_2⟩ := hrel
 have hm := hstep; simp only [m_mixs_Bytes_l0] at hm
 clear hstep
 refine W_seq <| W_q [] (.n 9 (.b (decide (x_0 < 8))) .a) qe (by kernel_rfl) ?_
 refine At_go <| W_seq <| W_condp (x_0 < 8) (by kernel_rfl) (fun hc => ?_) (fun hc => ?_)
 · rw [if_pos hc] at hm
   refine W_skip <| At_go <| W_seq <| W_block <| W_seq ?_
   obtain ⟨x_1, h_x_1, hm⟩ := ob hm
   refine W_q [] (.n 5 (.u32 x_1) (.s .a)) (qo (.u32 x_1) <| qp ((0 ≤ x_0 ∧ x_0 < ((8 : Nat) : Int)) ∧ (SV.cl [.ar e32 h])[Int.toNat x_0 * 1]? = some (SV.val (.u32 x_1))) (ar_ix (E := e32) h_x_1 rfl) <| qe) (by kernel_rfl) ?_
   refine At_go <| W_reg <| WLs 12 [] (.n 11 (sl A1 b.length c0) (.n 13 (.u8 (UInt8.ofNat x_1.toNat)) (.n 16 (.u8 (UInt8.ofNat (shr32 x_1 ((8 : UInt64).toNat)).toNat)) (.n 19 (.u8 (UInt8.ofNat (shr32 x_1 ((16 : UInt64).toNat)).toNat)) (.n 22 (.u8 (UInt8.ofNat (shr32 x_1 ((24 : UInt64).toNat)).toNat)) (.s .a)))))) qe (by kernel_rfl) ?_
   refine WL_op <| Op_mk yz_tf22 e8 [] 23 ([UInt8.ofNat x_1.toNat, UInt8.ofNat (shr32 x_1 ((8 : UInt64).toNat)).toNat, UInt8.ofNat (shr32 x_1 ((16 : UInt64).toNat)).toNat, UInt8.ofNat (shr32 x_1 ((24 : UInt64).toNat)).toNat] : List UInt8) [(0, .u8 (UInt8.ofNat x_1.toNat)), (1, .u8 (UInt8.ofNat (shr32 x_1 ((8 : UInt64).toNat)).toNat)), (2, .u8 (UInt8.ofNat (shr32 x_1 ((16 : UInt64).toNat)).toNat)), (3, .u8 (UInt8.ofNat (shr32 x_1 ((24 : UInt64).toNat)).toNat))] [.u8 (UInt8.ofNat x_1.toNat), .u8 (UInt8.ofNat (shr32 x_1 ((8 : UInt64).toNat)).toNat), .u8 (UInt8.ofNat (shr32 x_1 ((16 : UInt64).toNat)).toNat), .u8 (UInt8.ofNat (shr32 x_1 ((24 : UInt64).toNat)).toNat)] (by kernel_rfl) (by kernel_rfl) (by kernel_rfl) k_2 ?_
   intro A2 w_3 k_4
   refine WL_op ?_
   obtain ⟨b1, h_b1, hm⟩ := ob hm
   obtain ⟨hz, hl⟩ := app_some h_b1
   refine Op_append (E := e8) (v := sl A2 4 4) (ys := ([UInt8.ofNat x_1.toNat, UInt8.ofNat (shr32 x_1 ((8 : UInt64).toNat)).toNat, UInt8.ofNat (shr32 x_1 ((16 : UInt64).toNat)).toNat, UInt8.ofNat (shr32 x_1 ((24 : UInt64).toNat)).toNat] : List UInt8)) yz_tf22 [] 24 0 (by kernel_rfl) k_4 rfl (Src.sl (k_4.rd 1 rfl) (k_4.len 1 rfl) (by rfl)) (k_4.len 1 rfl) (by have := k_4.len 0 rfl; have := (k_4.len 1 rfl); omega) ?_
   intro A3 c1 w_4 k_5
   rw [← hl] at k_5
   have k_6 := k_5.sel (.k .z)
   refine WLs 1 [] (.n 3 (sl A3 (b.length + 4) c1) (.ssss (.ssss .a))) qe (by kernel_rfl) ?_
   refine WL_nil <| At_in <| At_go <| W_q [] (.n 8 (I (w64 (x_0 + 1))) (.kk .z)) qe (by kernel_rfl) ?_
   exact At_rd (b1, w64 (x_0 + 1)) (Option.some.inj hm).symm ⟨b1, w64 (x_0 + 1), A3, b.length + 4, c1, rfl, rfl, k_6.len 0 rfl, k_6⟩ (by kernel_rfl)
 rw [if_neg hc] at hm
 refine W_exit (At_te (At_te (At_ie ?_)))
 have hm := exit_of hm hr0
 refine At_go <| W_seq <| W_q [] (.n 2 (sl A1 b.length c0) .z) qe (by kernel_rfl) ?_
 refine At_go <| W_ret ?_
 obtain rfl := Option.some.inj hm
 refine At_rt [sl A1 b.length c0] qe (by kernel_rfl) ?_
 exact ⟨A1, b.length, c0, k_2.len 0 rfl, rfl, k_2⟩

-- (*quern/node.half[uint32]).out
theorem c_node_half_uint32_out {F O : Nat → Prop} {w : World} (x_h : Vec UInt32 8) (x_count_Lo : UInt64) (x_count_Hi : UInt64) (x_held : List UInt8) (x_block : Int) (node : Bool) (g_x : Nat) (A_x_held : Option Addr) (n_x_held : Nat) (c_x_held : Nat) (k : Cx F O w w [Bx 213 g_x [.ar e32 x_h, .u64 x_count_Lo, .u64 x_count_Hi, sl A_x_held n_x_held c_x_held, I x_block, .v (.func (.func 135) ⟨SV.vals []⟩ ⟨SV.vals []⟩), .v (.func (.func 136) ⟨SV.vals []⟩ ⟨SV.vals []⟩)], Ow e8 A_x_held n_x_held c_x_held x_held]) (r : (List UInt8 × Vec UInt32 8 × UInt64 × UInt64 × List UInt8 × Int)) (hm : m_node_half_uint32_out x_h x_count_Lo x_count_Hi x_held x_block node = some r) :
    Calls Tryz.prog 190 (vals [pt g_x 0, .b node]) w (fun e w' => ∃ A n c A1 n1 c1, r.1.length = n ∧ r.2.2.2.2.1.length = n1 ∧ e = .returned (SV.val (sl A n c)) ∧ Cx F O w w' [Ow e8 A n c r.1, Bx 213 g_x [.ar e32 r.2.1, .u64 r.2.2.1, .u64 r.2.2.2.1, sl A1 n1 c1, I r.2.2.2.2.2, .v (.func (.func 135) ⟨SV.vals []⟩ ⟨SV.vals []⟩), .v (.func (.func 136) ⟨SV.vals []⟩ ⟨SV.vals []⟩)], Ow e8 A1 n1 c1 r.2.2.2.2.1]) := by
 unfold m_node_half_uint32_out at hm
 obtain rfl := k.len 1 rfl
 refine calls [pt g_x 0, .b node] Tryz.func190 rfl (of_decide_eq_true (by kernel_rfl)) ?_
 refine W_seq <| W_q [] .a qe (by kernel_rfl) ?_
 refine At_go <| W_seq <| W_cutr (fun L wr => ∃ (c0 : UInt64) (c2 : UInt64) (g : Nat), m_node_half_uint32_out_j0 x_h x_count_Lo x_count_Hi x_held x_block node c0 c2 = some r ∧ L = [(0, pt g_x 0), (1, .b node), (5, pt g 0)] ∧ Cx F O w wr [Bx 213 g_x [.ar e32 x_h, .u64 x_count_Lo, .u64 x_count_Hi, sl A_x_held x_held.length c_x_held, I x_block, .v (.func (.func 135) ⟨SV.vals []⟩ ⟨SV.vals []⟩), .v (.func (.func 136) ⟨SV.vals []⟩ ⟨SV.vals []⟩)], Ow e8 A_x_held x_held.length c_x_held x_held, Bx 204 g [.u64 c0, .u64 c2]]) ?_ ?_
 ·
  have k_ := k.drew 1
  refine W_m yz_mixed (.q 0 2 (.q 1 2 (.q 2 2 (.q 3 1 (.q 4 2 (.q 5 2 (.q 6 2 (.q 7 2 (.q 8 2 (.q 9 1 (.br 10 14 (.q 11 2 (.q 12 2 (.q 13 3 (.op 14 (.op 15 (.q 16 3 .nil)))))) (.op 10 (.q 11 2 (.q 12 2 (.q 13 3 (.op 15 (.q 16 3 .nil))))))))))))))))) [10, 14, 15] k_ (.c (.kk .e) (.c (.kk .e) (.c (.kk .e) .l))) (by kernel_rfl) (fun _ => ?_)
  refine MXq 3 2 [] (.n 10 (pt g_x 8) .a) (fun x hx => qs g_x 0 <| qs g_x 0 <| qe) (by kernel_rfl) (fun _ => ?_)
  refine MXq 1 1 [] (.n 11 (.agg [.u64 x_count_Lo, .u64 x_count_Hi]) (.s .a)) (fun x hx => qT hx 0 rfl 8 2 [.u64 x_count_Lo, .u64 x_count_Hi] (by kernel_rfl) (by decide) <| qe) (by kernel_rfl) (fun _ => ?_)
  refine MXq 5 2 [] (.n 16 (I ((x_held.length : Nat) : Int)) .a) (fun x hx => qs g_x 0 <| qs g_x 0 <| qB hx 0 rfl 10 (sl A_x_held x_held.length c_x_held) (by kernel_rfl) <| qe) (by kernel_rfl) (fun _ => ?_)
  refine MXq 1 1 [] (.n 17 (.u64 (UInt64.ofInt ((x_held.length : Nat) : Int))) (.s .a)) (fun x hx => qe) (by kernel_rfl) (fun _ => ?_)
  refine MX_br (by kernel_rfl) (by kernel_rfl) rfl rfl ?_ ?_
  ·
   obtain ⟨r_, h_r_, hm⟩ := ob hm
   refine Op_call [] 18 _ yz_go187 (by kernel_rfl) (c_word_Add (F := N0) (O := N0) _ _ _ (Cx.refl _) _ h_r_) ?_
   rintro e_ w_ ⟨rfl, k_1⟩
   have k_2 := k_.call k_1
   refine ⟨.tup [.agg [.u64 r_.1, .u64 r_.2.1], .b r_.2.2], rfl, ?_⟩
   refine ⟨k_2, fun _ => ?_⟩
   refine MXq 2 2 [] (.n 7 (.tup [.agg [.u64 r_.1, .u64 r_.2.1], .b r_.2.2]) (.n 19 (.agg [.u64 r_.1, .u64 r_.2.1]) (.sss .a))) (fun x hx => qe) (by kernel_rfl) (fun _ => ?_)
   refine MXq 1 3 [] (.n 20 (.b r_.2.2) (.s .a)) (fun x hx => qe) (by kernel_rfl) (fun _ => ?_)
   refine MX_op (by kernel_rfl) rfl <| Op_alloc [] 5 [.u64 0, .u64 0] (by kernel_rfl) k_2 ?_
   intro g1 w_1 k_3
   refine ⟨(k_3.sel (.kk .z)), fun _ => ?_⟩
   refine MX_op (by kernel_rfl) rfl <| Op_b [] 2 (.agg [.u64 r_.1, .u64 r_.2.1]) [.u64 r_.1, .u64 r_.2.1] (Pt.at g1 0) k_3 rfl .all (by kernel_rfl) (by kernel_rfl) ?_
   intro w_2 k_4
   refine ⟨(k_4.sel (.kk .z)), fun _ => ?_⟩
   refine MXq 1 3 [] (.k (.ss .a)) (fun x hx => qe) (by kernel_rfl) (fun _ => ?_)
   refine MX_nil ?_
   exact At_c ⟨r_.1, r_.2.1, g1, hm, rfl, k_4⟩ (by kernel_rfl)
  ·
   refine Op_alloc [] 5 [.u64 0, .u64 0] (by kernel_rfl) k_ ?_
   intro g1 w_ k_1
   refine ⟨(k_1.sel (.kk .z)), fun _ => ?_⟩
   refine MX_op (by kernel_rfl) rfl ?_
   obtain ⟨r_, h_r_, hm⟩ := ob hm
   refine Op_call [] 18 _ yz_go187 (by kernel_rfl) (c_word_Add (F := N0) (O := N0) _ _ _ (Cx.refl _) _ h_r_) ?_
   rintro e_ w_1 ⟨rfl, k_2⟩
   have k_3 := k_1.call k_2
   refine ⟨.tup [.agg [.u64 r_.1, .u64 r_.2.1], .b r_.2.2], rfl, ?_⟩
   refine ⟨(k_3.sel (.kk .z)), fun _ => ?_⟩
   refine MXq 2 2 [] (.n 7 (.tup [.agg [.u64 r_.1, .u64 r_.2.1], .b r_.2.2]) (.n 19 (.agg [.u64 r_.1, .u64 r_.2.1]) (.s (.k (.ss .a))))) (fun x hx => qe) (by kernel_rfl) (fun _ => ?_)
   refine MXq 1 3 [] (.n 20 (.b r_.2.2) (.s .a)) (fun x hx => qe) (by kernel_rfl) (fun _ => ?_)
   refine MX_op (by kernel_rfl) rfl <| Op_b [] 2 (.agg [.u64 r_.1, .u64 r_.2.1]) [.u64 r_.1, .u64 r_.2.1] (Pt.at g1 0) k_3 rfl .all (by kernel_rfl) (by kernel_rfl) ?_
   intro w_2 k_4
   refine ⟨(k_4.sel (.kk .z)), fun _ => ?_⟩
   refine MXq 1 3 [] (.ss .a) (fun x hx => qe) (by kernel_rfl) (fun _ => ?_)
   refine MX_nil ?_
   exact At_c ⟨r_.1, r_.2.1, g1, hm, rfl, k_4⟩ (by kernel_rfl)
 rintro L_ w_3 ⟨c0, c2, g, hm, rfl, k_5⟩
 simp only [m_node_half_uint32_out_j0] at hm
 refine At_go <| W_seq ?_
 have k_6 := k_5.drew 1
 refine W_m yz_mixed (.q 21 2 (.q 22 2 (.q 0 3 (.q 1 3 (.q 2 3 (.q 3 2 (.q 4 3 (.q 5 3 (.q 6 3 (.q 7 2 (.q 8 3 (.q 9 3 (.q 10 3 (.q 11 2 (.q 12 3 (.q 13 3 (.q 14 3 (.q 15 2 (.q 16 3 (.q 17 3 (.q 18 3 (.q 19 2 (.op 20 (.op 23 (.op 24 (.q 25 3 .nil)))))))))))))))))))))))))) [20, 23, 24] k_6 (.c (.kk (.k .e)) (.c (.kk (.k .e)) (.c (.kk (.k .e)) .l))) (by kernel_rfl) (fun _ => ?_)
 refine MXq 2 2 [] (.n 42 (.agg [.u64 c0, .u64 c2]) (.n 43 (.b node) (.k .z))) (fun x hx => qT hx 2 rfl 0 2 [.u64 c0, .u64 c2] (by kernel_rfl) (by decide) <| qe) (by kernel_rfl) (fun _ => ?_)
 refine MXq 3 3 [] (.n 23 (pt g_x 13) .a) (fun x hx => qs g_x 0 <| qs g_x 0 <| qe) (by kernel_rfl) (fun _ => ?_)
 refine MXq 1 2 [] (.n 24 (.v (.func (.func 136) ⟨SV.vals []⟩ ⟨SV.vals []⟩)) (.s .a)) (fun x hx => qB hx 0 rfl 13 (.v (.func (.func 136) ⟨SV.vals []⟩ ⟨SV.vals []⟩)) (by kernel_rfl) <| qe) (by kernel_rfl) (fun _ => ?_)
 refine MXq 3 3 [] (.n 27 (pt g_x 12) .a) (fun x hx => qs g_x 0 <| qs g_x 0 <| qe) (by kernel_rfl) (fun _ => ?_)
 refine MXq 1 2 [] (.n 28 (.v (.func (.func 135) ⟨SV.vals []⟩ ⟨SV.vals []⟩)) (.s .a)) (fun x hx => qB hx 0 rfl 12 (.v (.func (.func 135) ⟨SV.vals []⟩ ⟨SV.vals []⟩)) (by kernel_rfl) <| qe) (by kernel_rfl) (fun _ => ?_)
 refine MXq 3 3 [] (.n 31 (pt g_x 0) .a) (fun x hx => qs g_x 0 <| qs g_x 0 <| qe) (by kernel_rfl) (fun _ => ?_)
 refine MXq 1 2 [] (.n 32 (.agg [.ar e32 x_h]) (.s .a)) (fun x hx => qT hx 0 rfl 0 8 [.ar e32 x_h] (by kernel_rfl) (by decide) <| qe) (by kernel_rfl) (fun _ => ?_)
 refine MXq 3 3 [] (.n 35 (pt g_x 10) .a) (fun x hx => qs g_x 0 <| qs g_x 0 <| qe) (by kernel_rfl) (fun _ => ?_)
 refine MXq 1 2 [] (.n 36 (sl A_x_held x_held.length c_x_held) (.s .a)) (fun x hx => qB hx 0 rfl 10 (sl A_x_held x_held.length c_x_held) (by kernel_rfl) <| qe) (by kernel_rfl) (fun _ => ?_)
 refine MXq 3 3 [] (.n 39 (pt g_x 11) (.kkkk (.kk .z))) (fun x hx => qs g_x 0 <| qs g_x 0 <| qe) (by kernel_rfl) (fun _ => ?_)
 refine MXq 1 2 [] (.n 40 (I x_block) (.s .a)) (fun x hx => qB hx 0 rfl 11 (I x_block) (by kernel_rfl) <| qe) (by kernel_rfl) (fun _ => ?_)
 refine MX_op (by kernel_rfl) rfl ?_
 obtain ⟨r_1, h_r_1, hm⟩ := ob hm
 refine Op_call [] 41 _ yz_go120 (by kernel_rfl) (c_node_padded (F := N0) (O := N0) _ _ _ _ _ (Ro.n0 (k_6.rd 1 rfl)) (k_6.len 1 rfl) (k_6.lec 1 rfl) (Cx.refl _) _ h_r_1) ?_
 rintro e_ w_4 ⟨A0, _, c3, rfl, rfl, k_7⟩
 have k_8 := k_6.call k_7
 refine ⟨sl A0 r_1.length c3, rfl, ?_⟩
 refine ⟨(k_8.sel (.kk (.k .z))), fun _ => ?_⟩
 refine MX_op (by kernel_rfl) rfl ?_
 obtain ⟨r_2, h_r_2, hm⟩ := ob hm
 refine Op_callv [] 44 [] [.agg [.ar e32 x_h], sl A0 r_1.length c3, .agg [.u64 c0, .u64 c2], .b true, .b node] [] yz_go135 (by kernel_rfl) (c_node_mixSmall (F := N0) (O := N0) _ _ _ _ _ _ _ _ _ (Ro.n0 (k_8.rd 3 rfl)) (k_8.len 3 rfl) (k_8.lec 3 rfl) (Cx.refl _) _ h_r_2) ?_
 rintro e_ w_5 ⟨rfl, k_9⟩
 have k_10 := k_8.call k_9
 refine ⟨.agg [.ar e32 r_2], rfl, ?_⟩
 have k_11 := k_10.sel (.kk (.k .z))
 refine ⟨k_11, fun _ => ?_⟩
 refine MX_op (by kernel_rfl) rfl ?_
 obtain ⟨r_3, h_r_3, hm⟩ := ob hm
 refine Op_callv [] 45 [] [.agg [.ar e32 r_2]] [] yz_go136 (by kernel_rfl) (c_mixs_Bytes (F := N0) (O := N0) _ (Cx.refl _) _ h_r_3) ?_
 rintro e_ w_6 ⟨A2, _, c4, rfl, rfl, k_12⟩
 have k_13 := k_11.call k_12
 refine ⟨sl A2 r_3.length c4, rfl, ?_⟩
 refine ⟨(k_13.sel (.kk (.k .z))), fun _ => ?_⟩
 refine MXq 1 3 [] (.n 4 (sl A2 r_3.length c4) .z) (fun x hx => qe) (by kernel_rfl) (fun _ => ?_)
 refine MX_nil <| At_go <| W_ret ?_
 obtain rfl := Option.some.inj hm
 refine At_rt [sl A2 r_3.length c4] qe (by kernel_rfl) ?_
 have k_14 := (((k_13.pk (.t .h)).pk (.t .h)).pk (.t (.t (.t .h)))).sel (.kk (.k .z))
 exact ⟨A2, r_3.length, c4, A_x_held, x_held.length, c_x_held, k_14.len 0 rfl, k_14.len 2 rfl, rfl, k_14⟩

-- (*quern/node.Node).Out
theorem c_node_Node_Out_s1 {F O : Nat → Prop} {w : World} (n_kind : Int) (n_digest : Int) (n_block : List UInt8) (n_key : List UInt8) (n_last : Bool) (n_written : UInt64) (n_e_h : Vec UInt32 8) (n_e_count_Lo : UInt64) (n_e_count_Hi : UInt64) (n_e_held : List UInt8) (n_e_block : Int) (most : Int) (g_n : Nat) (A_n_block : Option Addr) (n_n_block : Nat) (c_n_block : Nat) (A_n_key : Option Addr) (n_n_key : Nat) (c_n_key : Nat) (g_n_e : Nat) (A_n_e_held : Option Addr) (n_n_e_held : Nat) (c_n_e_held : Nat) (k : Cx F O w w [Bx 125 g_n [I n_kind, I n_digest, sl A_n_block n_n_block c_n_block, sl A_n_key n_n_key c_n_key, .b n_last, .u64 n_written, .v (.iface 209 (SV.val (pt g_n_e 0)))], Ow e8 A_n_block n_n_block c_n_block n_block, Ow e8 A_n_key n_n_key c_n_key n_key, Bx 213 g_n_e [.ar e32 n_e_h, .u64 n_e_count_Lo, .u64 n_e_count_Hi, sl A_n_e_held n_n_e_held c_n_e_held, I n_e_block, .v (.func (.func 135) ⟨SV.vals []⟩ ⟨SV.vals []⟩), .v (.func (.func 136) ⟨SV.vals []⟩ ⟨SV.vals []⟩)], Ow e8 A_n_e_held n_n_e_held c_n_e_held n_e_held]) (r : (List UInt8 × Int × Vec UInt32 8 × UInt64 × UInt64 × List UInt8 × Int × Int × Int × List UInt8 × List UInt8 × Bool × UInt64)) (hm : m_node_Node_Out_s1 n_kind n_digest n_block n_key n_last n_written n_e_h n_e_count_Lo n_e_count_Hi n_e_held n_e_block most = some r) :
    Calls Tryz.prog 70 (vals [pt g_n 0, I most]) w (fun e w' => ∃ A n c A1 n1 c1 A2 n2 c2 A3 n3 c3, r.1.length = n ∧ r.2.2.2.2.2.1.length = n1 ∧ r.2.2.2.2.2.2.2.2.2.1.length = n2 ∧ r.2.2.2.2.2.2.2.2.2.2.1.length = n3 ∧ e = .returned (SV.val (.tup [sl A n c, I r.2.1])) ∧ Cx F O w w' [Ow e8 A n c r.1, Bx 213 g_n_e [.ar e32 r.2.2.1, .u64 r.2.2.2.1, .u64 r.2.2.2.2.1, sl A1 n1 c1, I r.2.2.2.2.2.2.1, .v (.func (.func 135) ⟨SV.vals []⟩ ⟨SV.vals []⟩), .v (.func (.func 136) ⟨SV.vals []⟩ ⟨SV.vals []⟩)], Ow e8 A1 n1 c1 r.2.2.2.2.2.1, Bx 125 g_n [I r.2.2.2.2.2.2.2.1, I r.2.2.2.2.2.2.2.2.1, sl A2 n2 c2, sl A3 n3 c3, .b r.2.2.2.2.2.2.2.2.2.2.2.1, .u64 r.2.2.2.2.2.2.2.2.2.2.2.2, .v (.iface 209 (SV.val (pt g_n_e 0)))], Ow e8 A2 n2 c2 r.2.2.2.2.2.2.2.2.2.1, Ow e8 A3 n3 c3 r.2.2.2.2.2.2.2.2.2.2.1]) := by
 unfold m_node_Node_Out_s1 at hm
 obtain rfl := k.len 1 rfl
 obtain rfl := k.len 2 rfl
 obtain rfl := k.len 4 rfl
 refine calls [pt g_n 0, I most] Tryz.func70 rfl (of_decide_eq_true (by kernel_rfl)) ?_
 refine W_seq <| W_q [] .a qe (by kernel_rfl) ?_
 refine At_go <| W_seq <| W_seq <| W_reg <| WLs 1 [] (.n 6 (pt g_n 0) .a) qe (by kernel_rfl) ?_
 refine WL_op ?_
 obtain ⟨r_, h_r_, hm⟩ := ob hm
 obtain ⟨F1, O1, kin, hO, hre, hF, hb⟩ := k.go (.i (.i (.i (.i (.i .e)))))
 refine Op_call [] 7 _ yz_go91 (by kernel_rfl) (c_node_Node_none_s1 (F := F1) (O := O1) _ _ _ _ _ _ _ _ _ _ _ _ _ _ _ _ _ _ _ _ _ _ kin _ h_r_) ?_
 rintro e_ w_ ⟨A0, _, c0, A4, _, c4, A5, _, c5, rfl, rfl, rfl, rfl, k_⟩
 have k_1 := hb w_ _ _ k_ (.c (.c (.c (.c (.c .n)))))
 refine ⟨.b false, rfl, ?_⟩
 refine WL_nil <| At_go <| W_cond false (by kernel_rfl) (fun h => by cases h) (fun _ => ?_)
 refine W_skip <| At_go <| W_seq <| W_seq <| W_reg <| WLs 3 [] (.n 10 (.b (decide (most < 1))) (.ss .a)) qe (by kernel_rfl) ?_
 refine WL_sp 10 (decide (most < 1)) (.s .a) (by kernel_rfl) (fun hg => ?_) (fun hg => ?_)
 · rw [if_pos (of_decide_eq_true hg)] at hm
   refine WLs 9 [10] (.n 19 (.b true) (.s .a)) qe (by kernel_rfl) ?_
   refine WL_nil <| At_go <| W_cond true (by kernel_rfl) (fun _ => ?_) (fun h => by cases h)
   refine W_seq <| W_q [] (.n 4 (sl none 0 0) (.n 5 (I 1) .z)) qe (by kernel_rfl) ?_
   refine At_go <| W_ret (At_tr ?_)
   have k_2 := k_1.nil e8
   obtain rfl := Option.some.inj hm
   refine At_rt [sl none 0 0, I 1] qe (by kernel_rfl) ?_
   have k_3 := (((((k_2.pk (.t (.t (.t (.t .h))))).pk (.t (.t (.t (.t .h))))).pk (.t (.t (.t (.t .h))))).pk (.t (.t (.t (.t .h))))).pk (.t (.t (.t (.t .h))))).pk (.t (.t (.t (.t (.t .h)))))
   exact ⟨none, 0, 0, A0, r_.2.2.2.1.length, c0, A4, r_.2.2.2.2.2.2.2.1.length, c4, A5, r_.2.2.2.2.2.2.2.2.1.length, c5, k_3.len 0 rfl, k_3.len 2 rfl, k_3.len 4 rfl, k_3.len 5 rfl, rfl, k_3⟩
 · rw [if_neg (of_decide_eq_false hg)] at hm
   refine WLs 5 [10] (.n 11 (I most) (.n 15 (I r_.2.2.2.2.2.1) .a)) (qs g_n 0 <| qs g_n 0 <| qB k_1 2 rfl 0 (I r_.2.2.2.2.2.1) (by kernel_rfl) <| qe) (by kernel_rfl) ?_
   refine WL_op ?_
   obtain ⟨r_1, h_r_1, hm⟩ := ob hm
   refine Op_call [10] 16 _ yz_go92 (by kernel_rfl) (c_node_blockOf (F := N0) (O := N0) _ (Cx.refl _) _ h_r_1) ?_
   rintro e_ w_1 ⟨rfl, k_4⟩
   have k_5 := k_1.call k_4
   refine ⟨I r_1, rfl, ?_⟩
   refine WLs 3 [10] (.n 19 (.b (decide ((w64 (Int.tdiv r_1 2)) < most))) (.ssss .a)) (qp ((2 : Int) ≠ (0 : Int)) (by omega) <| qe) (by kernel_rfl) ?_
   refine WL_nil <| At_go <| W_condp ((w64 (Int.tdiv r_1 2)) < most) (by kernel_rfl) (fun hc => ?_) (fun hc => ?_)
   · rw [if_pos hc] at hm
     refine W_seq <| W_q [] (.n 4 (sl none 0 0) (.n 5 (I 1) .z)) qe (by kernel_rfl) ?_
     refine At_go <| W_ret (At_tr ?_)
     have k_6 := k_5.nil e8
     obtain rfl := Option.some.inj hm
     refine At_rt [sl none 0 0, I 1] qe (by kernel_rfl) ?_
     have k_7 := (((((k_6.pk (.t (.t (.t (.t .h))))).pk (.t (.t (.t (.t .h))))).pk (.t (.t (.t (.t .h))))).pk (.t (.t (.t (.t .h))))).pk (.t (.t (.t (.t .h))))).pk (.t (.t (.t (.t (.t .h)))))
     exact ⟨none, 0, 0, A0, r_.2.2.2.1.length, c0, A4, r_.2.2.2.2.2.2.2.1.length, c4, A5, r_.2.2.2.2.2.2.2.2.1.length, c5, k_7.len 0 rfl, k_7.len 2 rfl, k_7.len 4 rfl, k_7.len 5 rfl, rfl, k_7⟩
   rw [if_neg hc] at hm
   refine W_skip <| At_go <| W_seq ?_
   have k_8 := k_5.drew 1
   refine W_m yz_mixed (.q 0 1 (.q 1 1 (.q 2 1 (.q 3 1 (.q 4 1 (.q 5 1 (.q 6 1 (.q 7 0 (.q 8 1 (.q 9 0 (.q 11 1 (.q 12 1 (.op 10 (.q 13 1 (.q 14 1 (.q 15 1 .nil)))))))))))))))) [10] k_8 (.c (.ss (.kk (.k .e))) .l) (by kernel_rfl) (fun _ => ?_)
   refine MXq 7 1 [] (.n 23 (.v (.iface 209 (SV.val (pt g_n_e 0)))) (.n 26 (pt g_n 4) (.ss .a))) (fun x hx => qs g_n 0 <| qs g_n 0 <| qB hx 0 rfl 6 (.v (.iface 209 (SV.val (pt g_n_e 0)))) (by kernel_rfl) <| qs g_n 0 <| qs g_n 0 <| qe) (by kernel_rfl) (fun _ => ?_)
   refine MXq 1 0 [] (.n 27 (.b r_.2.2.2.2.2.2.2.2.2.1) (.k (.s .a))) (fun x hx => qB hx 2 rfl 4 (.b r_.2.2.2.2.2.2.2.2.2.1) (by kernel_rfl) <| qe) (by kernel_rfl) (fun _ => ?_)
   refine MXq 1 1 [] .a (fun x hx => qe) (by kernel_rfl) (fun _ => ?_)
   refine MXq 1 0 [] (.n 29 (.v (.iface 209 (SV.val (pt g_n_e 0)))) (.k (.s .a))) (fun x hx => qe) (by kernel_rfl) (fun _ => ?_)
   refine MXq 2 1 [] (.n 31 (I most) (.n 32 (I most) (.kk .z))) (fun x hx => qe) (by kernel_rfl) (fun _ => ?_)
   refine MX_op (by kernel_rfl) rfl ?_
   obtain ⟨r_2, h_r_2, hm⟩ := ob hm
   obtain ⟨F11, O11, kin1, hO1, hre1, hF1, hb1⟩ := k_8.go (.i (.i (.r (.r (.r .e)))))
   refine Op_invoke [] 30 209 (pt g_n_e 0) [.b r_.2.2.2.2.2.2.2.2.2.1] yz_inv209_node_out rfl (by kernel_rfl) (c_node_half_uint32_out (F := F11) (O := O11) _ _ _ _ _ _ _ _ _ _ kin1 _ h_r_2) ?_
   rintro e_ w_2 ⟨A6, _, c6, A7, _, c7, rfl, rfl, rfl, k_9⟩
   have k_10 := hb1 w_2 _ _ k_9 (.c (.c (.c .n)))
   refine ⟨sl A6 r_2.1.length c6, rfl, ?_⟩
   refine ⟨(k_10.sel (.ss (.s (.kk (.k .e))))), fun _ => ?_⟩
   obtain ⟨b, h_b, hm⟩ := ob hm
   have hs := slc_some h_b
   have hl := slc_len h_b
   have hn : r_2.1.length = r_2.1.length := (k_10.len 0 rfl)
   have hc1 : r_2.1.length ≤ c6 := (k_10.lec 0 rfl)
   obtain ⟨u, h_u, hm⟩ := ob hm
   have hq := need_some h_u
   have hc2 : b.length ≤ Int.toNat most := by omega
   refine MXq 3 1 [] (.n 4 (sl A6 b.length (Int.toNat most)) (.n 5 (I 0) .z)) (fun x hx => qp (0 ≤ most ∧ most ≤ ((c6 : Nat) : Int)) (by omega) <| qp (0 ≤ most ∧ most ≤ ((Int.toNat most : Nat) : Int)) (by omega) <| qo (.v (.slice A6 b.length (Int.toNat most))) <| qp (Value.slice (slA A6 0 (Int.toNat most) 1) (Int.toNat most - 0) (Int.toNat most - 0) = .slice A6 b.length (Int.toNat most)) (slx0 _ _ _ _ _ (by omega)) <| qe) (by kernel_rfl) (fun _ => ?_)
   refine MX_nil <| At_go <| W_ret ?_
   have k_11 := k_10.pre 0 rfl b.length (Int.toNat most) b (by omega) (by omega) (by omega) (slc_pre h_b rfl)
   obtain rfl := Option.some.inj hm
   refine At_rt [sl A6 b.length (Int.toNat most), I 0] qe (by kernel_rfl) ?_
   exact ⟨A6, b.length, Int.toNat most, A7, r_2.2.2.2.2.1.length, c7, A4, r_.2.2.2.2.2.2.2.1.length, c4, A5, r_.2.2.2.2.2.2.2.2.1.length, c5, k_11.len 0 rfl, k_11.len 2 rfl, k_11.len 4 rfl, k_11.len 5 rfl, rfl, k_11⟩

-- quern/node.Hash
theorem c_node_Hash {F O : Nat → Prop} {w : World} (k_ : Int) (p_Digest : Int) (p_Key : Int) (p_Fanout : Int) (p_Depth : Int) (p_Leaf : UInt32) (p_Offset : UInt64) (p_Xof : UInt32) (p_NodeDepth : Int) (p_Inner : Int) (p_Salt : List UInt8) (p_Personal : List UInt8) (key : List UInt8) (last : Bool) (out : Int) (data : List UInt8) (A_p_Salt : Option Addr) (n_p_Salt : Nat) (c_p_Salt : Nat) (A_p_Personal : Option Addr) (n_p_Personal : Nat) (c_p_Personal : Nat) (A_key : Option Addr) (n_key : Nat) (c_key : Nat) (A_data : Option Addr) (n_data : Nat) (c_data : Nat) (h_p_Salt : Ro F w A_p_Salt (e8.all p_Salt)) (hn_p_Salt : p_Salt.length = n_p_Salt) (hc_p_Salt : n_p_Salt ≤ c_p_Salt) (h_p_Personal : Ro F w A_p_Personal (e8.all p_Personal)) (hn_p_Personal : p_Personal.length = n_p_Personal) (hc_p_Personal : n_p_Personal ≤ c_p_Personal) (h_key : Ro F w A_key (e8.all key)) (hn_key : key.length = n_key) (hc_key : n_key ≤ c_key) (h_data : Ro F w A_data (e8.all data)) (hn_data : data.length = n_data) (hc_data : n_data ≤ c_data) (k : Cx F O w w []) (r : (List UInt8 × Int)) (hm : m_node_Hash k_ p_Digest p_Key p_Fanout p_Depth p_Leaf p_Offset p_Xof p_NodeDepth p_Inner p_Salt p_Personal key last out data = some r) :
    Calls Tryz.prog 58 (vals [I k_, .agg [I p_Digest, I p_Key, I p_Fanout, I p_Depth, .u32 p_Leaf, .u64 p_Offset, .u32 p_Xof, I p_NodeDepth, I p_Inner, sl A_p_Salt n_p_Salt c_p_Salt, sl A_p_Personal n_p_Personal c_p_Personal], sl A_key n_key c_key, .b last, I out, sl A_data n_data c_data]) w (fun e w' => ∃ A n c, r.1.length = n ∧ e = .returned (SV.val (.tup [sl A n c, I r.2])) ∧ Cx F O w w' [Ow e8 A n c r.1]) := by
 unfold m_node_Hash at hm
 subst hn_p_Salt
 subst hn_p_Personal
 subst hn_key
 subst hn_data
 refine calls [I k_, .agg [I p_Digest, I p_Key, I p_Fanout, I p_Depth, .u32 p_Leaf, .u64 p_Offset, .u32 p_Xof, I p_NodeDepth, I p_Inner, sl A_p_Salt p_Salt.length c_p_Salt, sl A_p_Personal p_Personal.length c_p_Personal], sl A_key key.length c_key, .b last, I out, sl A_data data.length c_data] Tryz.func58 rfl (of_decide_eq_true (by kernel_rfl)) ?_
 refine W_seq <| W_reg <| WL_op <| Op_box [] 7 (.agg [I p_Digest, I p_Key, I p_Fanout, I p_Depth, .u32 p_Leaf, .u64 p_Offset, .u32 p_Xof, I p_NodeDepth, I p_Inner, sl A_p_Salt p_Salt.length c_p_Salt, sl A_p_Personal p_Personal.length c_p_Personal]) [I p_Digest, I p_Key, I p_Fanout, I p_Depth, .u32 p_Leaf, .u64 p_Offset, .u32 p_Xof, I p_NodeDepth, I p_Inner, sl A_p_Salt p_Salt.length c_p_Salt, sl A_p_Personal p_Personal.length c_p_Personal] (by kernel_rfl) k ?_
 intro g w_ k_1
 refine WLs 2 [] (.kk (.s .a)) qe (by kernel_rfl) ?_
 refine WL_nil <| At_go <| W_seq <| W_reg <| WLs 3 [] (.n 17 (I k_) (.n 18 (.agg [I p_Digest, I p_Key, I p_Fanout, I p_Depth, .u32 p_Leaf, .u64 p_Offset, .u32 p_Xof, I p_NodeDepth, I p_Inner, sl A_p_Salt p_Salt.length c_p_Salt, sl A_p_Personal p_Personal.length c_p_Personal]) (.n 19 (sl A_key key.length c_key) (.sss .a)))) (qT k_1 0 rfl 0 11 [I p_Digest, I p_Key, I p_Fanout, I p_Depth, .u32 p_Leaf, .u64 p_Offset, .u32 p_Xof, I p_NodeDepth, I p_Inner, sl A_p_Salt p_Salt.length c_p_Salt, sl A_p_Personal p_Personal.length c_p_Personal] (by kernel_rfl) (by decide) <| qe) (by kernel_rfl) ?_
 refine WL_op ?_
 obtain ⟨r_, h_r_, hm⟩ := ob hm
 refine Op_call [] 20 _ yz_go69 (by kernel_rfl) (c_node_New (F := N0) (O := N0) _ _ _ _ _ _ _ _ _ _ _ _ _ _ _ _ _ _ _ _ _ _ (Ro.n0 (h_p_Salt.cx k_1)) rfl hc_p_Salt (Ro.n0 (h_p_Personal.cx k_1)) rfl hc_p_Personal (Ro.n0 (h_key.cx k_1)) rfl hc_key (Cx.refl _) _ h_r_) ?_
 rcases r_ with r_1 | r_2 | r_3
 · simp only [Sum.elim_inl, Sum.elim_inr] at hm
   rintro e_ w_1 ⟨rfl, k_2⟩
   have k_3 := k_1.call k_2
   refine ⟨.tup [.v (.pointer none), I r_1], rfl, ?_⟩
   have k_4 := k_3.sel .z
   refine WLs 5 [] (.n 14 (.v (.pointer none)) (.n 15 (I r_1) (.ssss .a))) qe (by kernel_rfl) ?_
   refine WL_nil <| At_go <| W_seq <| W_seq <| W_q [] (.n 24 (.b (decide (r_1 ≠ 0))) .a) qe (by kernel_rfl) ?_
   refine At_go <| W_condp (r_1 ≠ 0) (by kernel_rfl) (fun hc => ?_) (fun hc => ?_)
   · rw [if_pos hc] at hm
     refine W_seq <| W_q [] (.n 12 (sl none 0 0) (.n 13 (I r_1) .z)) qe (by kernel_rfl) ?_
     refine At_go <| W_ret (At_tr ?_)
     have k_5 := k_4.nil e8
     obtain rfl := Option.some.inj hm
     refine At_rt [sl none 0 0, I r_1] qe (by kernel_rfl) ?_
     exact ⟨none, 0, 0, k_5.len 0 rfl, rfl, k_5⟩
   rw [if_neg hc] at hm
   cases hm
 · simp only [Sum.elim_inl, Sum.elim_inr] at hm
   rintro e_ w_2 ⟨g1, A0, _, c0, A1, _, c1, g2, A2, _, c2, rfl, rfl, rfl, rfl, k_6⟩
   have k_7 := k_1.call k_6
   refine ⟨.tup [pt g1 0, I 0], rfl, ?_⟩
   have k_8 := k_7.sel (.s (.kkkk (.k .e)))
   refine WLs 5 [] (.n 14 (pt g1 0) (.n 15 (I 0) (.ssss .a))) qe (by kernel_rfl) ?_
   refine WL_nil <| At_go <| W_seq <| W_seq <| W_q [] (.n 24 (.b (decide (0 ≠ 0))) .a) qe (by kernel_rfl) ?_
   refine At_go <| W_condp (0 ≠ 0) (by kernel_rfl) (fun hc0 => ?_) (fun hc0 => ?_)
   · rw [if_pos hc0] at hm
     refine W_seq <| W_q [] (.n 12 (sl none 0 0) (.n 13 (I 0) .z)) qe (by kernel_rfl) ?_
     refine At_go <| W_ret (At_tr ?_)
     have k_9 := k_8.nil e8
     obtain rfl := Option.some.inj hm
     refine At_rt [sl none 0 0, I 0] qe (by kernel_rfl) ?_
     have k_10 := k_9.sel (.ssss (.s (.k .e)))
     exact ⟨none, 0, 0, k_10.len 0 rfl, rfl, k_10⟩
   rw [if_neg hc0] at hm
   refine W_skip <| At_go <| W_seq <| W_reg <| WLs 4 [] (.n 27 (.b last) (.n 29 (pt g1 4) (.s (.k (.ss .a))))) (qs g1 0 <| qs g1 0 <| qe) (by kernel_rfl) ?_
   refine WL_op <| Op_b [] 0 (.b last) [.b last] (Pt.at g1 4) k_8 rfl (.kkkk .h) (by kernel_rfl) (by kernel_rfl) ?_
   intro w_3 k_11
   refine WL_nil <| At_go <| W_seq <| W_reg <| WLs 5 [] (.n 33 (.v (.iface 200 (SV.val (pt g2 0)))) (.n 34 (sl A_data data.length c_data) (.ss (.kk .z)))) (qs g1 0 <| qs g1 0 <| qB k_11 0 rfl 6 (.v (.iface 200 (SV.val (pt g2 0)))) (by kernel_rfl) <| qe) (by kernel_rfl) ?_
   refine WL_op ?_
   obtain ⟨r_4, h_r_4, hm⟩ := ob hm
   obtain ⟨F1, O1, kin, hO, hre, hF, hb⟩ := k_11.go (.r (.r (.r (.i (.i .e)))))
   refine Op_invoke [] 35 200 (pt g2 0) [sl A_data data.length c_data] yz_inv200_node_write rfl (by kernel_rfl) (c_node_half_uint64_write (F := F1) (O := O1) _ _ _ _ _ _ _ _ _ _ _ _ _ (Ro.of_old h_data k_11 hF) rfl hc_data kin _ h_r_4) ?_
   rintro e_ w_4 ⟨A3, _, c3, rfl, rfl, k_12⟩
   have k_13 := hb w_4 _ _ k_12 (.c (.c .n))
   refine ⟨.tup [], rfl, ?_⟩
   refine WL_nil <| At_go <| W_seq <| W_reg <| WLs 2 [] (.n 36 (pt g1 0) (.n 37 (I out) .z)) qe (by kernel_rfl) ?_
   refine WL_op ?_
   have k_14 := k_13.sel (.kkkk (.k .e))
   obtain ⟨r_5, h_r_5, hm⟩ := ob hm
   have k_15 := ((((k_14.pk (.t .h)).pk (.t .h)).pk (.t (.t (.t (.t .h))))).pk (.t (.t (.t (.t .h))))).pk (.t (.t (.t (.t .h))))
   obtain ⟨F11, O11, kin1, hO1, hre1, hF1, hb1⟩ := k_15.go (.i (.i (.i (.i (.i .e)))))
   refine Op_call [] 38 _ yz_go70 (by kernel_rfl) (c_node_Node_Out (F := F11) (O := O11) _ _ _ _ _ _ _ _ _ _ _ _ _ _ _ _ _ _ _ _ _ _ _ kin1 _ h_r_5) ?_
   rintro e_ w_5 ⟨A4, _, c4, A5, _, c5, A6, _, c6, A7, _, c7, rfl, rfl, rfl, rfl, rfl, k_16⟩
   have k_17 := hb1 w_5 _ _ k_16 (.c (.c (.c (.c (.c (.c .n))))))
   refine ⟨.tup [sl A4 r_5.1.length c4, I r_5.2.1], rfl, ?_⟩
   have k_18 := k_17.sel (.k .z)
   refine WLs 4 [] (.n 12 (sl A4 r_5.1.length c4) (.n 13 (I r_5.2.1) .z)) qe (by kernel_rfl) ?_
   refine WL_nil <| At_go <| W_ret ?_
   obtain rfl := Option.some.inj hm
   refine At_rt [sl A4 r_5.1.length c4, I r_5.2.1] qe (by kernel_rfl) ?_
   exact ⟨A4, r_5.1.length, c4, k_18.len 0 rfl, rfl, k_18⟩
 · simp only [Sum.elim_inl, Sum.elim_inr] at hm
   rintro e_ w_6 ⟨g3, A8, _, c8, A9, _, c9, g4, A10, _, c10, rfl, rfl, rfl, rfl, k_19⟩
   have k_20 := k_1.call k_19
   refine ⟨.tup [pt g3 0, I 0], rfl, ?_⟩
   have k_21 := k_20.sel (.s (.kkkk (.k .e)))
   refine WLs 5 [] (.n 14 (pt g3 0) (.n 15 (I 0) (.ssss .a))) qe (by kernel_rfl) ?_
   refine WL_nil <| At_go <| W_seq <| W_seq <| W_q [] (.n 24 (.b (decide (0 ≠ 0))) .a) qe (by kernel_rfl) ?_
   refine At_go <| W_condp (0 ≠ 0) (by kernel_rfl) (fun hc1 => ?_) (fun hc1 => ?_)
   · rw [if_pos hc1] at hm
     refine W_seq <| W_q [] (.n 12 (sl none 0 0) (.n 13 (I 0) .z)) qe (by kernel_rfl) ?_
     refine At_go <| W_ret (At_tr ?_)
     have k_22 := k_21.nil e8
     obtain rfl := Option.some.inj hm
     refine At_rt [sl none 0 0, I 0] qe (by kernel_rfl) ?_
     have k_23 := k_22.sel (.ssss (.s (.k .e)))
     exact ⟨none, 0, 0, k_23.len 0 rfl, rfl, k_23⟩
   rw [if_neg hc1] at hm
   refine W_skip <| At_go <| W_seq <| W_reg <| WLs 4 [] (.n 27 (.b last) (.n 29 (pt g3 4) (.s (.k (.ss .a))))) (qs g3 0 <| qs g3 0 <| qe) (by kernel_rfl) ?_
   refine WL_op <| Op_b [] 0 (.b last) [.b last] (Pt.at g3 4) k_21 rfl (.kkkk .h) (by kernel_rfl) (by kernel_rfl) ?_
   intro w_7 k_24
   refine WL_nil <| At_go <| W_seq <| W_reg <| WLs 5 [] (.n 33 (.v (.iface 209 (SV.val (pt g4 0)))) (.n 34 (sl A_data data.length c_data) (.ss (.kk .z)))) (qs g3 0 <| qs g3 0 <| qB k_24 0 rfl 6 (.v (.iface 209 (SV.val (pt g4 0)))) (by kernel_rfl) <| qe) (by kernel_rfl) ?_
   refine WL_op ?_
   obtain ⟨r_6, h_r_6, hm⟩ := ob hm
   obtain ⟨F10, O10, kin0, hO0, hre0, hF0, hb0⟩ := k_24.go (.r (.r (.r (.i (.i .e)))))
   refine Op_invoke [] 35 209 (pt g4 0) [sl A_data data.length c_data] yz_inv209_node_write rfl (by kernel_rfl) (c_node_half_uint32_write (F := F10) (O := O10) _ _ _ _ _ _ _ _ _ _ _ _ _ (Ro.of_old h_data k_24 hF0) rfl hc_data kin0 _ h_r_6) ?_
   rintro e_ w_8 ⟨A11, _, c11, rfl, rfl, k_25⟩
   have k_26 := hb0 w_8 _ _ k_25 (.c (.c .n))
   refine ⟨.tup [], rfl, ?_⟩
   refine WL_nil <| At_go <| W_seq <| W_reg <| WLs 2 [] (.n 36 (pt g3 0) (.n 37 (I out) .z)) qe (by kernel_rfl) ?_
   refine WL_op ?_
   have k_27 := k_26.sel (.kkkk (.k .e))
   obtain ⟨r_7, h_r_7, hm⟩ := ob hm
   have k_28 := ((((k_27.pk (.t .h)).pk (.t .h)).pk (.t (.t (.t (.t .h))))).pk (.t (.t (.t (.t .h))))).pk (.t (.t (.t (.t .h))))
   obtain ⟨F12, O12, kin2, hO2, hre2, hF2, hb2⟩ := k_28.go (.i (.i (.i (.i (.i .e)))))
   refine Op_call [] 38 _ yz_go70 (by kernel_rfl) (c_node_Node_Out_s1 (F := F12) (O := O12) _ _ _ _ _ _ _ _ _ _ _ _ _ _ _ _ _ _ _ _ _ _ _ kin2 _ h_r_7) ?_
   rintro e_ w_9 ⟨A12, _, c12, A13, _, c13, A14, _, c14, A15, _, c15, rfl, rfl, rfl, rfl, rfl, k_29⟩
   have k_30 := hb2 w_9 _ _ k_29 (.c (.c (.c (.c (.c (.c .n))))))
   refine ⟨.tup [sl A12 r_7.1.length c12, I r_7.2.1], rfl, ?_⟩
   have k_31 := k_30.sel (.k .z)
   refine WLs 4 [] (.n 12 (sl A12 r_7.1.length c12) (.n 13 (I r_7.2.1) .z)) qe (by kernel_rfl) ?_
   refine WL_nil <| At_go <| W_ret ?_
   obtain rfl := Option.some.inj hm
   refine At_rt [sl A12 r_7.1.length c12, I r_7.2.1] qe (by kernel_rfl) ?_
   exact ⟨A12, r_7.1.length, c12, k_31.len 0 rfl, rfl, k_31⟩

-- quern/mac.digest
theorem c_mac_digest {F O : Nat → Prop} {w : World} (k_ : Int) (n : Int) (key : List UInt8) (salt : List UInt8) (personal : List UInt8) (data : List UInt8) (A_key : Option Addr) (n_key : Nat) (c_key : Nat) (A_salt : Option Addr) (n_salt : Nat) (c_salt : Nat) (A_personal : Option Addr) (n_personal : Nat) (c_personal : Nat) (A_data : Option Addr) (n_data : Nat) (c_data : Nat) (h_key : Ro F w A_key (e8.all key)) (hn_key : key.length = n_key) (hc_key : n_key ≤ c_key) (h_salt : Ro F w A_salt (e8.all salt)) (hn_salt : salt.length = n_salt) (hc_salt : n_salt ≤ c_salt) (h_personal : Ro F w A_personal (e8.all personal)) (hn_personal : personal.length = n_personal) (hc_personal : n_personal ≤ c_personal) (h_data : Ro F w A_data (e8.all data)) (hn_data : data.length = n_data) (hc_data : n_data ≤ c_data) (k : Cx F O w w []) (r : (List UInt8 × Int)) (hm : m_mac_digest k_ n key salt personal data = some r) :
    Calls Tryz.prog 41 (vals [I k_, I n, sl A_key n_key c_key, sl A_salt n_salt c_salt, sl A_personal n_personal c_personal, sl A_data n_data c_data]) w (fun e w' => ∃ A n1 c, r.1.length = n1 ∧ e = .returned (SV.val (.tup [sl A n1 c, I r.2])) ∧ Cx F O w w' [Ow e8 A n1 c r.1]) := by
 unfold m_mac_digest at hm
 subst hn_key
 subst hn_salt
 subst hn_personal
 subst hn_data
 refine calls [I k_, I n, sl A_key key.length c_key, sl A_salt salt.length c_salt, sl A_personal personal.length c_personal, sl A_data data.length c_data] Tryz.func41 rfl (of_decide_eq_true (by kernel_rfl)) ?_
 refine W_seq <| W_q [] .a qe (by kernel_rfl) ?_
 refine At_go <| W_seq <| W_seq <| W_reg <| WLs 1 [] (.n 19 (I k_) .a) qe (by kernel_rfl) ?_
 refine WL_op ?_
 obtain ⟨r_, h_r_, hm⟩ := ob hm
 refine Op_call [] 20 _ yz_go56 (by kernel_rfl) (c_param_Size (F := N0) (O := N0) _ (Cx.refl _) _ h_r_) ?_
 rintro e_ w_ ⟨rfl, k_1⟩
 have k_2 := k.call k_1
 refine ⟨.tup [I r_.1, I r_.2], rfl, ?_⟩
 refine WLs 5 [] (.n 15 (I r_.2) (.ss .a)) qe (by kernel_rfl) ?_
 refine WL_nil <| At_go <| W_seq <| W_q [] (.n 24 (.b (decide (r_.2 ≠ 0))) (.s .a)) qe (by kernel_rfl) ?_
 refine At_go <| W_condp (r_.2 ≠ 0) (by kernel_rfl) (fun hc => ?_) (fun hc => ?_)
 · rw [if_pos hc] at hm
   refine W_seq <| W_q [] (.n 12 (sl none 0 0) (.n 13 (I 1) .z)) qe (by kernel_rfl) ?_
   refine At_go <| W_ret (At_tr ?_)
   have k_3 := k_2.nil e8
   obtain rfl := Option.some.inj hm
   refine At_rt [sl none 0 0, I 1] qe (by kernel_rfl) ?_
   exact ⟨none, 0, 0, k_3.len 0 rfl, rfl, k_3⟩
 rw [if_neg hc] at hm
 refine W_skip <| At_go <| W_seq <| W_reg <| WLs 6 [] (.n 30 (.agg [I n, I ((key.length : Nat) : Int), I 1, I 1, .u32 0, .u64 0, .u32 0, I 0, I 0, sl A_salt salt.length c_salt, sl A_personal personal.length c_personal]) (.s (.kkk (.ss .a)))) qe (by kernel_rfl) ?_
 refine WL_op <| Op_alloc [] 16 [I 0, I 0, I 0, I 0, .u32 0, .u64 0, .u32 0, I 0, I 0, sl none 0 0, sl none 0 0] (by kernel_rfl) k_2 ?_
 intro g w_1 k_4
 refine WL_op <| Op_b [] 0 (.agg [I n, I ((key.length : Nat) : Int), I 1, I 1, .u32 0, .u64 0, .u32 0, I 0, I 0, sl A_salt salt.length c_salt, sl A_personal personal.length c_personal]) [I n, I ((key.length : Nat) : Int), I 1, I 1, .u32 0, .u64 0, .u32 0, I 0, I 0, sl A_salt salt.length c_salt, sl A_personal personal.length c_personal] (Pt.at g 0) k_4 rfl .all (by kernel_rfl) (by kernel_rfl) ?_
 intro w_2 k_5
 refine WL_nil <| At_go <| W_seq <| W_seq <| W_reg <| WLs 2 [] (.n 31 (I k_) (.n 32 (.agg [I n, I ((key.length : Nat) : Int), I 1, I 1, .u32 0, .u64 0, .u32 0, I 0, I 0, sl A_salt salt.length c_salt, sl A_personal personal.length c_personal]) (.k (.s .a)))) (qT k_5 0 rfl 0 11 [I n, I ((key.length : Nat) : Int), I 1, I 1, .u32 0, .u64 0, .u32 0, I 0, I 0, sl A_salt salt.length c_salt, sl A_personal personal.length c_personal] (by kernel_rfl) (by decide) <| qe) (by kernel_rfl) ?_
 refine WL_op ?_
 obtain ⟨r_1, h_r_1, hm⟩ := ob hm
 refine Op_call [] 33 _ yz_go57 (by kernel_rfl) (c_param_Check (F := N0) (O := N0) _ _ _ _ _ _ _ _ _ _ _ _ _ _ _ _ _ _ (Ro.n0 (h_salt.cx k_5)) rfl hc_salt (Ro.n0 (h_personal.cx k_5)) rfl hc_personal (Cx.refl _) _ h_r_1) ?_
 rintro e_ w_3 ⟨rfl, k_6⟩
 have k_7 := k_5.call k_6
 refine ⟨I r_1, rfl, ?_⟩
 refine WLs 1 [] (.n 17 (I r_1) (.sss .a)) qe (by kernel_rfl) ?_
 refine WL_nil <| At_go <| W_seq <| W_q [] (.n 35 (.b (decide (r_1 ≠ 0))) .a) qe (by kernel_rfl) ?_
 refine At_go <| W_condp (r_1 ≠ 0) (by kernel_rfl) (fun hc1 => ?_) (fun hc1 => ?_)
 · rw [if_pos hc1] at hm
   refine W_seq <| W_q [] (.n 12 (sl none 0 0) (.n 13 (I r_1) .z)) qe (by kernel_rfl) ?_
   refine At_go <| W_ret (At_tr ?_)
   have k_8 := k_7.nil e8
   obtain rfl := Option.some.inj hm
   refine At_rt [sl none 0 0, I r_1] qe (by kernel_rfl) ?_
   have k_9 := k_8.sel (.s (.k .e))
   exact ⟨none, 0, 0, k_9.len 0 rfl, rfl, k_9⟩
 rw [if_neg hc1] at hm
 refine W_skip <| At_go <| W_seq <| W_reg <| WLs 5 [] (.n 37 (I k_) (.n 38 (.agg [I n, I ((key.length : Nat) : Int), I 1, I 1, .u32 0, .u64 0, .u32 0, I 0, I 0, sl A_salt salt.length c_salt, sl A_personal personal.length c_personal]) (.n 39 (sl A_key key.length c_key) (.n 40 (I n) (.n 41 (sl A_data data.length c_data) .z))))) (qT k_7 0 rfl 0 11 [I n, I ((key.length : Nat) : Int), I 1, I 1, .u32 0, .u64 0, .u32 0, I 0, I 0, sl A_salt salt.length c_salt, sl A_personal personal.length c_personal] (by kernel_rfl) (by decide) <| qe) (by kernel_rfl) ?_
 refine WL_op ?_
 have k_10 := k_7.sel (.k .e)
 obtain ⟨r_2, h_r_2, hm⟩ := ob hm
 refine Op_call [] 42 _ yz_go58 (by kernel_rfl) (c_node_Hash (F := N0) (O := N0) _ _ _ _ _ _ _ _ _ _ _ _ _ _ _ _ _ _ _ _ _ _ _ _ _ _ _ _ (Ro.n0 (h_salt.cx k_10)) rfl hc_salt (Ro.n0 (h_personal.cx k_10)) rfl hc_personal (Ro.n0 (h_key.cx k_10)) rfl hc_key (Ro.n0 (h_data.cx k_10)) rfl hc_data (Cx.refl _) _ h_r_2) ?_
 rintro e_ w_4 ⟨A0, _, c0, rfl, rfl, k_11⟩
 have k_12 := k_10.call k_11
 refine ⟨.tup [sl A0 r_2.1.length c0, I r_2.2], rfl, ?_⟩
 have k_13 := k_12.sel (.s (.k .e))
 refine WLs 4 [] (.n 12 (sl A0 r_2.1.length c0) (.n 13 (I r_2.2) .z)) qe (by kernel_rfl) ?_
 refine WL_nil <| At_go <| W_ret ?_
 obtain rfl := Option.some.inj hm
 refine At_rt [sl A0 r_2.1.length c0, I r_2.2] qe (by kernel_rfl) ?_
 exact ⟨A0, r_2.1.length, c0, k_13.len 0 rfl, rfl, k_13⟩

-- quern/mac.Parts
theorem c_mac_Parts {F O : Nat → Prop} {w : World} (k_ : Int) (n : Int) (key : List UInt8) (parts : List (List UInt8)) (A_key : Option Addr) (n_key : Nat) (c_key : Nat) (A_parts : Option Addr) (n_parts : Nat) (c_parts : Nat) (hd_parts : List Hd) (h_key : Ro F w A_key (e8.all key)) (hn_key : key.length = n_key) (hc_key : n_key ≤ c_key) (h_parts : Ro2 F w e8 A_parts hd_parts parts) (hn_parts : parts.length = n_parts) (hc_parts : n_parts ≤ c_parts) (k : Cx F O w w []) (r : (List UInt8 × Int)) (hm : m_mac_Parts k_ n key parts = some r) :
    Calls Tryz.prog 20 (vals [I k_, I n, sl A_key n_key c_key, sl A_parts n_parts c_parts]) w (fun e w' => ∃ A n1 c, r.1.length = n1 ∧ e = .returned (SV.val (.tup [sl A n1 c, I r.2])) ∧ Cx F O w w' [Ow e8 A n1 c r.1]) := by
 unfold m_mac_Parts at hm
 subst hn_key
 subst hn_parts
 refine calls [I k_, I n, sl A_key key.length c_key, sl A_parts parts.length c_parts] Tryz.func20 rfl (of_decide_eq_true (by kernel_rfl)) ?_
 refine W_seq <| W_q [] .a qe (by kernel_rfl) ?_
 refine At_go <| W_seq <| W_reg <| WLs 4 [] (.n 10 (I k_) (.n 11 (I n) (.n 12 (sl A_key key.length c_key) (.n 13 (sl A_parts parts.length c_parts) .z)))) qe (by kernel_rfl) ?_
 refine WL_op ?_
 obtain ⟨r_, h_r_, hm⟩ := ob hm
 refine Op_call [] 14 _ yz_go50 (by kernel_rfl) (c_slices_Concat_byte_byte (F := N0) (O := N0) _ _ _ _ _ (Ro2.n0 h_parts k) rfl hc_parts (Cx.refl _) _ h_r_) ?_
 rintro e_ w_ ⟨A0, _, c0, rfl, rfl, k_1⟩
 have k_2 := k.call k_1
 refine ⟨sl A0 r_.length c0, rfl, ?_⟩
 refine WL_op ?_
 obtain ⟨r_1, h_r_1, hm⟩ := ob hm
 refine Op_call [] 15 _ yz_go41 (by kernel_rfl) (c_mac_digest (F := N0) (O := N0) _ _ _ _ _ _ _ _ _ _ _ _ _ _ _ _ _ _ (Ro.n0 (h_key.cx k_2)) rfl hc_key (Ro.nilE e8) rfl (Nat.le_refl 0) (Ro.nilE e8) rfl (Nat.le_refl 0) (Ro.n0 (k_2.rd 0 rfl)) (k_2.len 0 rfl) (k_2.lec 0 rfl) (Cx.refl _) _ h_r_1) ?_
 rintro e_ w_1 ⟨A1, _, c1, rfl, rfl, k_3⟩
 have k_4 := k_2.call k_3
 refine ⟨.tup [sl A1 r_1.1.length c1, I r_1.2], rfl, ?_⟩
 have k_5 := k_4.sel (.s (.k .e))
 refine WLs 4 [] (.n 8 (sl A1 r_1.1.length c1) (.n 9 (I r_1.2) .z)) qe (by kernel_rfl) ?_
 refine WL_nil <| At_go <| W_ret ?_
 obtain rfl := Option.some.inj hm
 refine At_rt [sl A1 r_1.1.length c1, I r_1.2] qe (by kernel_rfl) ?_
 exact ⟨A1, r_1.1.length, c1, k_5.len 0 rfl, rfl, k_5⟩

-- quern/quernref02.Most
theorem c_r02_Most {F O : Nat → Prop} {w : World} (kind : Int) (k : Cx F O w w []) (r : Int) (hm : m_r02_Most kind = some r) :
    Calls Tryz.prog 45 (vals [I kind]) w (fun e w' => e = .returned (SV.val (I r)) ∧ Cx F O w w' []) := by
 unfold m_r02_Most at hm
 refine calls [I kind] Tryz.func45 rfl (of_decide_eq_true (by kernel_rfl)) ?_
 refine W_seq <| W_q [] .a qe (by kernel_rfl) ?_
 refine At_go <| W_seq <| W_seq <| W_q [] (.n 3 (I kind) .z) qe (by kernel_rfl) ?_
 refine At_go <| W_block <| W_seq <| W_q [] (.n 4 (.b (decide (kind = 1))) .a) qe (by kernel_rfl) ?_
 refine At_go <| W_condp (kind = 1) (by kernel_rfl) (fun hc => ?_) (fun hc => ?_)
 · rw [if_pos hc] at hm
   refine W_seq <| W_q [] (.n 2 (I 64) .z) qe (by kernel_rfl) ?_
   refine At_go <| W_ret (At_ir (At_tr ?_))
   obtain rfl := Option.some.inj hm
   refine At_rt [I 64] qe (by kernel_rfl) ?_
   exact ⟨rfl, k⟩
 rw [if_neg hc] at hm
 refine W_seq <| W_q [] (.n 6 (.b (decide (kind = 2))) .z) qe (by kernel_rfl) ?_
 refine At_go <| W_condp (kind = 2) (by kernel_rfl) (fun hc1 => ?_) (fun hc1 => ?_)
 · rw [if_pos hc1] at hm
   refine W_seq <| W_q [] (.n 2 (I 32) .z) qe (by kernel_rfl) ?_
   refine At_go <| W_ret (At_ir (At_tr ?_))
   obtain rfl := Option.some.inj hm
   refine At_rt [I 32] qe (by kernel_rfl) ?_
   exact ⟨rfl, k⟩
 rw [if_neg hc1] at hm
 refine W_skip <| At_in <| At_go <| W_seq <| W_q [] (.n 2 (I 0) .z) qe (by kernel_rfl) ?_
 refine At_go <| W_ret ?_
 obtain rfl := Option.some.inj hm
 refine At_rt [I 0] qe (by kernel_rfl) ?_
 exact ⟨rfl, k⟩

-- quern/quernref02.Check
theorem c_r02_Check {F O : Nat → Prop} {w : World} (kind : Int) (p_Digest : Int) (p_Key : Int) (p_Fanout : Int) (p_Depth : Int) (p_Leaf : UInt32) (p_Offset : UInt64) (p_Xof : UInt32) (p_NodeDepth : Int) (p_Inner : Int) (p_Salt : List UInt8) (p_Personal : List UInt8) (A_p_Salt : Option Addr) (n_p_Salt : Nat) (c_p_Salt : Nat) (A_p_Personal : Option Addr) (n_p_Personal : Nat) (c_p_Personal : Nat) (h_p_Salt : Ro F w A_p_Salt (e8.all p_Salt)) (hn_p_Salt : p_Salt.length = n_p_Salt) (hc_p_Salt : n_p_Salt ≤ c_p_Salt) (h_p_Personal : Ro F w A_p_Personal (e8.all p_Personal)) (hn_p_Personal : p_Personal.length = n_p_Personal) (hc_p_Personal : n_p_Personal ≤ c_p_Personal) (k : Cx F O w w []) (r : Int) (hm : m_r02_Check kind p_Digest p_Key p_Fanout p_Depth p_Leaf p_Offset p_Xof p_NodeDepth p_Inner p_Salt p_Personal = some r) :
    Calls Tryz.prog 42 (vals [I kind, .agg [I p_Digest, I p_Key, I p_Fanout, I p_Depth, .u32 p_Leaf, .u64 p_Offset, .u32 p_Xof, I p_NodeDepth, I p_Inner, sl A_p_Salt n_p_Salt c_p_Salt, sl A_p_Personal n_p_Personal c_p_Personal]]) w (fun e w' => e = .returned (SV.val (I r)) ∧ Cx F O w w' []) := by
 unfold m_r02_Check at hm
 subst hn_p_Salt
 subst hn_p_Personal
 refine calls [I kind, .agg [I p_Digest, I p_Key, I p_Fanout, I p_Depth, .u32 p_Leaf, .u64 p_Offset, .u32 p_Xof, I p_NodeDepth, I p_Inner, sl A_p_Salt p_Salt.length c_p_Salt, sl A_p_Personal p_Personal.length c_p_Personal]] Tryz.func42 rfl (of_decide_eq_true (by kernel_rfl)) ?_
 refine W_seq <| W_reg <| WL_op <| Op_box [] 3 (.agg [I p_Digest, I p_Key, I p_Fanout, I p_Depth, .u32 p_Leaf, .u64 p_Offset, .u32 p_Xof, I p_NodeDepth, I p_Inner, sl A_p_Salt p_Salt.length c_p_Salt, sl A_p_Personal p_Personal.length c_p_Personal]) [I p_Digest, I p_Key, I p_Fanout, I p_Depth, .u32 p_Leaf, .u64 p_Offset, .u32 p_Xof, I p_NodeDepth, I p_Inner, sl A_p_Salt p_Salt.length c_p_Salt, sl A_p_Personal p_Personal.length c_p_Personal] (by kernel_rfl) k ?_
 intro g w_ k_
 refine WLs 1 [] (.kk .z) qe (by kernel_rfl) ?_
 refine WL_nil <| At_go <| W_seq <| W_reg <| WLs 1 [] (.n 6 (I kind) .a) qe (by kernel_rfl) ?_
 refine WL_op ?_
 obtain ⟨r_, h_r_, hm⟩ := ob hm
 refine Op_call [] 7 _ yz_go45 (by kernel_rfl) (c_r02_Most (F := N0) (O := N0) _ (Cx.refl _) _ h_r_) ?_
 rintro e_ w_1 ⟨rfl, k_1⟩
 have k_2 := k_.call k_1
 refine ⟨I r_, rfl, ?_⟩
 refine WLs 1 [] (.n 5 (I r_) (.ss .a)) qe (by kernel_rfl) ?_
 refine WL_nil <| At_go <| W_seq <| W_block <| W_seq <| W_q [] (.n 8 (.b (decide (r_ = 0))) .a) qe (by kernel_rfl) ?_
 refine At_go <| W_condp (r_ = 0) (by kernel_rfl) (fun hc => ?_) (fun hc => ?_)
 · rw [if_pos hc] at hm
   refine W_seq <| W_q [] (.n 4 (I 1) .z) qe (by kernel_rfl) ?_
   refine At_go <| W_ret (At_ir (At_tr ?_))
   obtain rfl := Option.some.inj hm
   refine At_rt [I 1] qe (by kernel_rfl) ?_
   have k_3 := k_2.sel .z
   exact ⟨rfl, k_3⟩
 rw [if_neg hc] at hm
 refine W_seq <| W_q [] (.n 11 (.b ((decide (p_Digest < 1)) || (decide (r_ < p_Digest)))) (.s .a)) (qs g 0 <| qB k_2 0 rfl 0 (I p_Digest) (by kernel_rfl) <| qp ((decide (p_Digest < 1)) = false → (some ⟨g, 0, none⟩ : Option Addr).isSome = true) (fun hg0 => rfl) <| qo (I p_Digest) <| qc (fun w => (decide (p_Digest < 1)) = false → ∃ a, (some ⟨g, 0, none⟩ : Option Addr) = some a ∧ w.cell? a = some (SV.val (I p_Digest))) (fun hg0 => k_2.bld 0 rfl 0 (I p_Digest) (by kernel_rfl)) <| qe) (by kernel_rfl) ?_
 refine At_go <| W_cond ((decide (p_Digest < 1)) || (decide (r_ < p_Digest))) (by kernel_rfl) (fun hc1 => ?_) (fun hc1 => ?_)
 · rw [if_pos hc1] at hm
   refine W_seq <| W_q [] (.n 4 (I 20) .z) qe (by kernel_rfl) ?_
   refine At_go <| W_ret (At_ir (At_tr ?_))
   obtain rfl := Option.some.inj hm
   refine At_rt [I 20] qe (by kernel_rfl) ?_
   have k_4 := k_2.sel .z
   exact ⟨rfl, k_4⟩
 rw [if_neg (by rw [hc1]; decide)] at hm
 refine W_seq <| W_q [] (.n 21 (.b ((decide (p_Key < 0)) || (decide (r_ < p_Key)))) (.s .a)) (qs g 0 <| qB k_2 0 rfl 1 (I p_Key) (by kernel_rfl) <| qp ((decide (p_Key < 0)) = false → (some ⟨g, 0, none⟩ : Option Addr).isSome = true) (fun hg0 => rfl) <| qo (I p_Key) <| qc (fun w => (decide (p_Key < 0)) = false → ∃ a, (some ⟨g, 1, none⟩ : Option Addr) = some a ∧ w.cell? a = some (SV.val (I p_Key))) (fun hg0 => k_2.bld 0 rfl 1 (I p_Key) (by kernel_rfl)) <| qe) (by kernel_rfl) ?_
 refine At_go <| W_cond ((decide (p_Key < 0)) || (decide (r_ < p_Key))) (by kernel_rfl) (fun hc2 => ?_) (fun hc2 => ?_)
 · rw [if_pos hc2] at hm
   refine W_seq <| W_q [] (.n 4 (I 8) .z) qe (by kernel_rfl) ?_
   refine At_go <| W_ret (At_ir (At_tr ?_))
   obtain rfl := Option.some.inj hm
   refine At_rt [I 8] qe (by kernel_rfl) ?_
   have k_5 := k_2.sel .z
   exact ⟨rfl, k_5⟩
 rw [if_neg (by rw [hc2]; decide)] at hm
 refine W_seq <| W_q [] (.n 31 (.b ((decide (p_Fanout < 0)) || (decide (255 < p_Fanout)))) (.s .a)) (qs g 0 <| qB k_2 0 rfl 2 (I p_Fanout) (by kernel_rfl) <| qp ((decide (p_Fanout < 0)) = false → (some ⟨g, 0, none⟩ : Option Addr).isSome = true) (fun hg0 => rfl) <| qo (I p_Fanout) <| qc (fun w => (decide (p_Fanout < 0)) = false → ∃ a, (some ⟨g, 2, none⟩ : Option Addr) = some a ∧ w.cell? a = some (SV.val (I p_Fanout))) (fun hg0 => k_2.bld 0 rfl 2 (I p_Fanout) (by kernel_rfl)) <| qe) (by kernel_rfl) ?_
 refine At_go <| W_cond ((decide (p_Fanout < 0)) || (decide (255 < p_Fanout))) (by kernel_rfl) (fun hc3 => ?_) (fun hc3 => ?_)
 · rw [if_pos hc3] at hm
   refine W_seq <| W_q [] (.n 4 (I 21) .z) qe (by kernel_rfl) ?_
   refine At_go <| W_ret (At_ir (At_tr ?_))
   obtain rfl := Option.some.inj hm
   refine At_rt [I 21] qe (by kernel_rfl) ?_
   have k_6 := k_2.sel .z
   exact ⟨rfl, k_6⟩
 rw [if_neg (by rw [hc3]; decide)] at hm
 refine W_seq <| W_q [] (.n 40 (.b (((decide (p_Depth < 0)) || (decide (255 < p_Depth))) || ((decide (p_Depth = 0)) && (decide (p_Xof = 0))))) (.s .a)) (qs g 0 <| qB k_2 0 rfl 3 (I p_Depth) (by kernel_rfl) <| qp ((decide (p_Depth < 0)) = false → (some ⟨g, 0, none⟩ : Option Addr).isSome = true) (fun hg0 => rfl) <| qo (I p_Depth) <| qc (fun w => (decide (p_Depth < 0)) = false → ∃ a, (some ⟨g, 3, none⟩ : Option Addr) = some a ∧ w.cell? a = some (SV.val (I p_Depth))) (fun hg0 => k_2.bld 0 rfl 3 (I p_Depth) (by kernel_rfl)) <| qp (((decide (p_Depth < 0)) || (decide (255 < p_Depth))) = false → (some ⟨g, 0, none⟩ : Option Addr).isSome = true) (fun hg0 => rfl) <| qo (I p_Depth) <| qc (fun w => ((decide (p_Depth < 0)) || (decide (255 < p_Depth))) = false → ∃ a, (some ⟨g, 3, none⟩ : Option Addr) = some a ∧ w.cell? a = some (SV.val (I p_Depth))) (fun hg0 => k_2.bld 0 rfl 3 (I p_Depth) (by kernel_rfl)) <| qp (((decide (p_Depth < 0)) || (decide (255 < p_Depth))) = false → (decide (p_Depth = 0)) = true → (some ⟨g, 0, none⟩ : Option Addr).isSome = true) (fun hg1 => fun hg0 => rfl) <| qo (.u32 p_Xof) <| qc (fun w => ((decide (p_Depth < 0)) || (decide (255 < p_Depth))) = false → (decide (p_Depth = 0)) = true → ∃ a, (some ⟨g, 6, none⟩ : Option Addr) = some a ∧ w.cell? a = some (SV.val (.u32 p_Xof))) (fun hg1 => fun hg0 => k_2.bld 0 rfl 6 (.u32 p_Xof) (by kernel_rfl)) <| qe) (by kernel_rfl) ?_
 refine At_go <| W_cond (((decide (p_Depth < 0)) || (decide (255 < p_Depth))) || ((decide (p_Depth = 0)) && (decide (p_Xof = 0)))) (by kernel_rfl) (fun hc4 => ?_) (fun hc4 => ?_)
 · rw [if_pos hc4] at hm
   refine W_seq <| W_q [] (.n 4 (I 22) .z) qe (by kernel_rfl) ?_
   refine At_go <| W_ret (At_ir (At_tr ?_))
   obtain rfl := Option.some.inj hm
   refine At_rt [I 22] qe (by kernel_rfl) ?_
   have k_7 := k_2.sel .z
   exact ⟨rfl, k_7⟩
 rw [if_neg (by rw [hc4]; decide)] at hm
 refine W_seq <| W_q [] (.n 59 (.b (((decide (p_Xof ≠ 0)) && (decide ((4294967295 : UInt64) < p_Offset))) || (((decide (p_Xof = 0)) && (decide (kind = 2))) && (decide ((281474976710655 : UInt64) < p_Offset))))) (.s .a)) (qs g 0 <| qB k_2 0 rfl 6 (.u32 p_Xof) (by kernel_rfl) <| qp ((decide (p_Xof ≠ 0)) = true → (some ⟨g, 0, none⟩ : Option Addr).isSome = true) (fun hg0 => rfl) <| qo (.u64 p_Offset) <| qc (fun w => (decide (p_Xof ≠ 0)) = true → ∃ a, (some ⟨g, 5, none⟩ : Option Addr) = some a ∧ w.cell? a = some (SV.val (.u64 p_Offset))) (fun hg0 => k_2.bld 0 rfl 5 (.u64 p_Offset) (by kernel_rfl)) <| qp (((decide (p_Xof ≠ 0)) && (decide ((4294967295 : UInt64) < p_Offset))) = false → (some ⟨g, 0, none⟩ : Option Addr).isSome = true) (fun hg0 => rfl) <| qo (.u32 p_Xof) <| qc (fun w => ((decide (p_Xof ≠ 0)) && (decide ((4294967295 : UInt64) < p_Offset))) = false → ∃ a, (some ⟨g, 6, none⟩ : Option Addr) = some a ∧ w.cell? a = some (SV.val (.u32 p_Xof))) (fun hg0 => k_2.bld 0 rfl 6 (.u32 p_Xof) (by kernel_rfl)) <| qp (((decide (p_Xof ≠ 0)) && (decide ((4294967295 : UInt64) < p_Offset))) = false → ((decide (p_Xof = 0)) && (decide (kind = 2))) = true → (some ⟨g, 0, none⟩ : Option Addr).isSome = true) (fun hg1 => fun hg0 => rfl) <| qo (.u64 p_Offset) <| qc (fun w => ((decide (p_Xof ≠ 0)) && (decide ((4294967295 : UInt64) < p_Offset))) = false → ((decide (p_Xof = 0)) && (decide (kind = 2))) = true → ∃ a, (some ⟨g, 5, none⟩ : Option Addr) = some a ∧ w.cell? a = some (SV.val (.u64 p_Offset))) (fun hg1 => fun hg0 => k_2.bld 0 rfl 5 (.u64 p_Offset) (by kernel_rfl)) <| qe) (by kernel_rfl) ?_
 refine At_go <| W_cond (((decide (p_Xof ≠ 0)) && (decide ((4294967295 : UInt64) < p_Offset))) || (((decide (p_Xof = 0)) && (decide (kind = 2))) && (decide ((281474976710655 : UInt64) < p_Offset)))) (by kernel_rfl) (fun hc5 => ?_) (fun hc5 => ?_)
 · rw [if_pos hc5] at hm
   refine W_seq <| W_q [] (.n 4 (I 23) .z) qe (by kernel_rfl) ?_
   refine At_go <| W_ret (At_ir (At_tr ?_))
   obtain rfl := Option.some.inj hm
   refine At_rt [I 23] qe (by kernel_rfl) ?_
   have k_8 := k_2.sel .z
   exact ⟨rfl, k_8⟩
 rw [if_neg (by rw [hc5]; decide)] at hm
 refine W_seq <| W_q [] (.n 82 (.b ((decide (kind = 2)) && (decide ((65535 : UInt32) < p_Xof)))) (.s (.kk .z))) (qp ((decide (kind = 2)) = true → (some ⟨g, 0, none⟩ : Option Addr).isSome = true) (fun hg0 => rfl) <| qo (.u32 p_Xof) <| qc (fun w => (decide (kind = 2)) = true → ∃ a, (some ⟨g, 6, none⟩ : Option Addr) = some a ∧ w.cell? a = some (SV.val (.u32 p_Xof))) (fun hg0 => k_2.bld 0 rfl 6 (.u32 p_Xof) (by kernel_rfl)) <| qe) (by kernel_rfl) ?_
 refine At_go <| W_cond ((decide (kind = 2)) && (decide ((65535 : UInt32) < p_Xof))) (by kernel_rfl) (fun hc6 => ?_) (fun hc6 => ?_)
 · rw [if_pos hc6] at hm
   refine W_seq <| W_q [] (.n 4 (I 24) .z) qe (by kernel_rfl) ?_
   refine At_go <| W_ret (At_ir (At_tr ?_))
   obtain rfl := Option.some.inj hm
   refine At_rt [I 24] qe (by kernel_rfl) ?_
   have k_9 := k_2.sel .z
   exact ⟨rfl, k_9⟩
 rw [if_neg (by rw [hc6]; decide)] at hm
 refine W_seq <| W_q [] (.n 90 (.b ((decide (p_NodeDepth < 0)) || (decide (255 < p_NodeDepth)))) (.s .a)) (qs g 0 <| qB k_2 0 rfl 7 (I p_NodeDepth) (by kernel_rfl) <| qp ((decide (p_NodeDepth < 0)) = false → (some ⟨g, 0, none⟩ : Option Addr).isSome = true) (fun hg0 => rfl) <| qo (I p_NodeDepth) <| qc (fun w => (decide (p_NodeDepth < 0)) = false → ∃ a, (some ⟨g, 7, none⟩ : Option Addr) = some a ∧ w.cell? a = some (SV.val (I p_NodeDepth))) (fun hg0 => k_2.bld 0 rfl 7 (I p_NodeDepth) (by kernel_rfl)) <| qe) (by kernel_rfl) ?_
 refine At_go <| W_cond ((decide (p_NodeDepth < 0)) || (decide (255 < p_NodeDepth))) (by kernel_rfl) (fun hc7 => ?_) (fun hc7 => ?_)
 · rw [if_pos hc7] at hm
   refine W_seq <| W_q [] (.n 4 (I 25) .z) qe (by kernel_rfl) ?_
   refine At_go <| W_ret (At_ir (At_tr ?_))
   obtain rfl := Option.some.inj hm
   refine At_rt [I 25] qe (by kernel_rfl) ?_
   have k_10 := k_2.sel .z
   exact ⟨rfl, k_10⟩
 rw [if_neg (by rw [hc7]; decide)] at hm
 refine W_seq <| W_q [] (.n 99 (.b ((decide (p_Inner < 0)) || (decide (r_ < p_Inner)))) (.s .a)) (qs g 0 <| qB k_2 0 rfl 8 (I p_Inner) (by kernel_rfl) <| qp ((decide (p_Inner < 0)) = false → (some ⟨g, 0, none⟩ : Option Addr).isSome = true) (fun hg0 => rfl) <| qo (I p_Inner) <| qc (fun w => (decide (p_Inner < 0)) = false → ∃ a, (some ⟨g, 8, none⟩ : Option Addr) = some a ∧ w.cell? a = some (SV.val (I p_Inner))) (fun hg0 => k_2.bld 0 rfl 8 (I p_Inner) (by kernel_rfl)) <| qe) (by kernel_rfl) ?_
 refine At_go <| W_cond ((decide (p_Inner < 0)) || (decide (r_ < p_Inner))) (by kernel_rfl) (fun hc8 => ?_) (fun hc8 => ?_)
 · rw [if_pos hc8] at hm
   refine W_seq <| W_q [] (.n 4 (I 26) .z) qe (by kernel_rfl) ?_
   refine At_go <| W_ret (At_ir (At_tr ?_))
   obtain rfl := Option.some.inj hm
   refine At_rt [I 26] qe (by kernel_rfl) ?_
   have k_11 := k_2.sel .z
   exact ⟨rfl, k_11⟩
 rw [if_neg (by rw [hc8]; decide)] at hm
 refine W_seq <| W_q [] (.n 109 (.b (decide ((w64 (Int.tdiv r_ 4)) < ((p_Salt.length : Nat) : Int)))) (.s .a)) (qs g 0 <| qB k_2 0 rfl 9 (sl A_p_Salt p_Salt.length c_p_Salt) (by kernel_rfl) <| qp ((4 : Int) ≠ (0 : Int)) (by omega) <| qe) (by kernel_rfl) ?_
 refine At_go <| W_condp ((w64 (Int.tdiv r_ 4)) < ((p_Salt.length : Nat) : Int)) (by kernel_rfl) (fun hc9 => ?_) (fun hc9 => ?_)
 · rw [if_pos hc9] at hm
   refine W_seq <| W_q [] (.n 4 (I 27) .z) qe (by kernel_rfl) ?_
   refine At_go <| W_ret (At_ir (At_tr ?_))
   obtain rfl := Option.some.inj hm
   refine At_rt [I 27] qe (by kernel_rfl) ?_
   have k_12 := k_2.sel .z
   exact ⟨rfl, k_12⟩
 rw [if_neg hc9] at hm
 refine W_seq <| W_q [] (.n 116 (.b (decide ((w64 (Int.tdiv r_ 4)) < ((p_Personal.length : Nat) : Int)))) .z) (qs g 0 <| qB k_2 0 rfl 10 (sl A_p_Personal p_Personal.length c_p_Personal) (by kernel_rfl) <| qp ((4 : Int) ≠ (0 : Int)) (by omega) <| qe) (by kernel_rfl) ?_
 refine At_go <| W_condp ((w64 (Int.tdiv r_ 4)) < ((p_Personal.length : Nat) : Int)) (by kernel_rfl) (fun hc10 => ?_) (fun hc10 => ?_)
 · rw [if_pos hc10] at hm
   refine W_seq <| W_q [] (.n 4 (I 28) .z) qe (by kernel_rfl) ?_
   refine At_go <| W_ret (At_ir (At_tr ?_))
   obtain rfl := Option.some.inj hm
   refine At_rt [I 28] qe (by kernel_rfl) ?_
   have k_13 := k_2.sel .z
   exact ⟨rfl, k_13⟩
 rw [if_neg hc10] at hm
 refine W_skip <| At_in <| At_go <| W_seq <| W_q [] (.n 4 (I 0) .z) qe (by kernel_rfl) ?_
 refine At_go <| W_ret ?_
 obtain rfl := Option.some.inj hm
 refine At_rt [I 0] qe (by kernel_rfl) ?_
 have k_14 := k_2.sel .z
 exact ⟨rfl, k_14⟩

-- quern/quernref05.Block
theorem c_r05_Block {F O : Nat → Prop} {w : World} (kind : Int) (k : Cx F O w w []) (r : Int) (hm : m_r05_Block kind = some r) :
    Calls Tryz.prog 77 (vals [I kind]) w (fun e w' => e = .returned (SV.val (I r)) ∧ Cx F O w w' []) := by
 unfold m_r05_Block at hm
 refine calls [I kind] Tryz.func77 rfl (of_decide_eq_true (by kernel_rfl)) ?_
 refine W_seq <| W_q [] .a qe (by kernel_rfl) ?_
 refine At_go <| W_seq <| W_seq <| W_q [] (.n 4 (.b (decide (kind = 1))) .z) qe (by kernel_rfl) ?_
 refine At_go <| W_condp (kind = 1) (by kernel_rfl) (fun hc => ?_) (fun hc => ?_)
 · rw [if_pos hc] at hm
   refine W_seq <| W_q [] (.n 2 (I 128) .z) qe (by kernel_rfl) ?_
   refine At_go <| W_ret (At_tr ?_)
   obtain rfl := Option.some.inj hm
   refine At_rt [I 128] qe (by kernel_rfl) ?_
   exact ⟨rfl, k⟩
 rw [if_neg hc] at hm
 refine W_skip <| At_go <| W_seq <| W_q [] (.n 2 (I 64) .z) qe (by kernel_rfl) ?_
 refine At_go <| W_ret ?_
 obtain rfl := Option.some.inj hm
 refine At_rt [I 64] qe (by kernel_rfl) ?_
 exact ⟨rfl, k⟩

-- quern/quernref05.keyed
theorem c_r05_keyed {F O : Nat → Prop} {w : World} (kind : Int) (key : List UInt8) (A_key : Option Addr) (n_key : Nat) (c_key : Nat) (h_key : Ro F w A_key (e8.all key)) (hn_key : key.length = n_key) (hc_key : n_key ≤ c_key) (k : Cx F O w w []) (r : (List UInt8)) (hm : m_r05_keyed kind key = some r) :
    Calls Tryz.prog 71 (vals [I kind, sl A_key n_key c_key]) w (fun e w' => ∃ A n c, r.length = n ∧ e = .returned (SV.val (sl A n c)) ∧ Cx F O w w' [Ow e8 A n c r]) := by
 unfold m_r05_keyed at hm
 subst hn_key
 refine calls [I kind, sl A_key key.length c_key] Tryz.func71 rfl (of_decide_eq_true (by kernel_rfl)) ?_
 refine W_seq <| W_q [] .a qe (by kernel_rfl) ?_
 refine At_go <| W_seq <| W_q [] (.n 5 (sl none 0 0) .a) qe (by kernel_rfl) ?_
 refine At_go <| W_seq <| W_seq <| W_q [] (.n 10 (.b (decide (((key.length : Nat) : Int) = 0))) .a) qe (by kernel_rfl) ?_
 refine At_go <| W_condp (((key.length : Nat) : Int) = 0) (by kernel_rfl) (fun hc => ?_) (fun hc => ?_)
 · rw [if_pos hc] at hm
   refine W_seq <| W_q [] (.n 4 (sl none 0 0) .z) qe (by kernel_rfl) ?_
   refine At_go <| W_ret (At_tr ?_)
   have k_ := k.nil e8
   obtain rfl := Option.some.inj hm
   refine At_rt [sl none 0 0] qe (by kernel_rfl) ?_
   exact ⟨none, 0, 0, k_.len 0 rfl, rfl, k_⟩
 rw [if_neg hc] at hm
 refine W_skip <| At_go <| W_seq <| W_seq <| W_q [] (.n 6 (I 0) (.s .a)) qe (by kernel_rfl) ?_
 refine At_go <| W_block ?_
 have k_2 := k.nil e8
 refine W_lp (m_r05_keyed_l0 kind key) (fun s L wr => ∃ (b : List UInt8) (i : Int) (A0 : Option Addr) (n0 : Nat) (c0 : Nat), (b, i) = s ∧ L = [(0, I kind), (1, sl A_key key.length c_key), (5, sl A0 n0 c0), (6, I i)] ∧ b.length = n0 ∧ Cx F O w wr [Ow e8 A0 n0 c0 b]) (([] : List UInt8), (0 : Int)) r hm ⟨([] : List UInt8), (0 : Int), none, 0, 0, rfl, rfl, k_2.len 0 rfl, k_2⟩ (by kernel_rfl) ?_
 intro s0_ L_ w_ y0 hrel hstep hr0
 obtain ⟨b, i, A0, _, c0, rfl, rfl, rfl, k_1⟩ := hrel
 have hm := hstep; simp only [m_r05_keyed_l0] at hm
 clear hstep
 refine W_seq <| W_seq <| W_reg <| WLs 2 [] (.n 11 (I i) (.n 12 (I kind) .a)) qe (by kernel_rfl) ?_
 refine WL_op ?_
 obtain ⟨r_, h_r_, hm⟩ := ob hm
 refine Op_call [] 13 _ yz_go77 (by kernel_rfl) (c_r05_Block (F := N0) (O := N0) _ (Cx.refl _) _ h_r_) ?_
 rintro e_ w_1 ⟨rfl, k_3⟩
 have k_4 := k_1.call k_3
 refine ⟨I r_, rfl, ?_⟩
 refine WLs 1 [] (.n 14 (.b (decide (i < r_))) (.sss .a)) qe (by kernel_rfl) ?_
 refine WL_nil <| At_go <| W_condp (i < r_) (by kernel_rfl) (fun hc1 => ?_) (fun hc1 => ?_)
 · rw [if_pos hc1] at hm
   refine W_skip <| At_go <| W_cut (fun L wr => ∃ (b1 : List UInt8) (A1 : Option Addr) (n1 : Nat) (c1 : Nat), m_r05_keyed_j0 i b1 = some y0 ∧ L = [(0, I kind), (1, sl A_key key.length c_key), (5, sl A1 n1 c1), (6, I i)] ∧ b1.length = n1 ∧ Cx F O w wr [Ow e8 A1 n1 c1 b1]) ?_ ?_
   ·
    refine W_block <| W_seq <| W_q [] (.n 7 (.u8 0) (.s .a)) qe (by kernel_rfl) ?_
    refine At_go <| W_cut (fun L wr => ∃ (c2 : UInt8), m_r05_keyed_j1 b i c2 = some y0 ∧ L = [(0, I kind), (1, sl A_key key.length c_key), (5, sl A0 b.length c0), (6, I i), (7, .u8 c2)] ∧ Cx F O w wr [Ow e8 A0 b.length c0 b]) ?_ ?_
    ·
     refine W_seq <| W_q [] (.n 20 (.b (decide (i < ((key.length : Nat) : Int)))) .a) qe (by kernel_rfl) ?_
     refine At_go <| W_condp (i < ((key.length : Nat) : Int)) (by kernel_rfl) (fun hc2 => ?_) (fun hc2 => ?_)
     · rw [if_pos hc2] at hm
       obtain ⟨x_0, h_x_0, hm⟩ := ob hm
       refine W_q [] (.n 7 (.u8 x_0) (.ss .a)) (qW (h_key.cx k_4) h_x_0 rfl (.u8 x_0) rfl <| qe) (by kernel_rfl) ?_
       exact At_c ⟨x_0, hm, rfl, k_4⟩ (by kernel_rfl)
     rw [if_neg hc2] at hm
     refine W_skip ?_
     exact At_c ⟨(0 : UInt8), hm, rfl, k_4⟩ (by kernel_rfl)
    rintro L_ w_2 ⟨c2, hm, rfl, k_5⟩
    simp only [m_r05_keyed_j1] at hm
    refine W_reg <| WLs 2 [] (.n 25 (sl A0 b.length c0) (.n 26 (.u8 c2) (.kkkk .z))) qe (by kernel_rfl) ?_
    refine WL_op <| Op_mk yz_tf22 e8 [] 27 ([c2] : List UInt8) [(0, .u8 c2)] [.u8 c2] (by kernel_rfl) (by kernel_rfl) (by kernel_rfl) k_5 ?_
    intro A2 w_3 k_6
    refine WL_op ?_
    obtain ⟨b2, h_b2, hm⟩ := ob hm
    obtain ⟨hz, hl⟩ := app_some h_b2
    refine Op_append (E := e8) (v := sl A2 1 1) (ys := ([c2] : List UInt8)) yz_tf22 [] 28 0 (by kernel_rfl) k_6 rfl (Src.sl (k_6.rd 1 rfl) (k_6.len 1 rfl) (by rfl)) (k_6.len 1 rfl) (by have := k_6.len 0 rfl; have := (k_6.len 1 rfl); omega) ?_
    intro A3 c3 w_4 k_7
    rw [← hl] at k_7
    have k_8 := k_7.sel (.k .z)
    refine WLs 1 [] (.n 5 (sl A3 (b.length + 1) c3) (.ssss (.kk (.s .a)))) qe (by kernel_rfl) ?_
    refine WL_nil <| At_in ?_
    exact At_c ⟨b2, A3, b.length + 1, c3, hm, rfl, k_8.len 0 rfl, k_8⟩ (by kernel_rfl)
   rintro L_ w_5 ⟨b1, A1, _, c1, hm, rfl, rfl, k_9⟩
   simp only [m_r05_keyed_j0] at hm
   refine W_q [] (.n 6 (I (w64 (i + 1))) (.kkk .z)) qe (by kernel_rfl) ?_
   exact At_rd (b1, w64 (i + 1)) (Option.some.inj hm).symm ⟨b1, w64 (i + 1), A1, b1.length, c1, rfl, rfl, k_9.len 0 rfl, k_9⟩ (by kernel_rfl)
 rw [if_neg hc1] at hm
 refine W_exit (At_te (At_te (At_ie ?_)))
 have hm := exit_of hm hr0
 refine At_go <| W_seq <| W_q [] (.n 4 (sl A0 b.length c0) .z) qe (by kernel_rfl) ?_
 refine At_go <| W_ret ?_
 obtain rfl := Option.some.inj hm
 refine At_rt [sl A0 b.length c0] qe (by kernel_rfl) ?_
 exact ⟨A0, b.length, c0, k_4.len 0 rfl, rfl, k_4⟩

-- quern/quernref05.New
theorem c_r05_New {F O : Nat → Prop} {w : World} (kind : Int) (p_Digest : Int) (p_Key : Int) (p_Fanout : Int) (p_Depth : Int) (p_Leaf : UInt32) (p_Offset : UInt64) (p_Xof : UInt32) (p_NodeDepth : Int) (p_Inner : Int) (p_Salt : List UInt8) (p_Personal : List UInt8) (key : List UInt8) (A_p_Salt : Option Addr) (n_p_Salt : Nat) (c_p_Salt : Nat) (A_p_Personal : Option Addr) (n_p_Personal : Nat) (c_p_Personal : Nat) (A_key : Option Addr) (n_key : Nat) (c_key : Nat) (h_p_Salt : Ro F w A_p_Salt (e8.all p_Salt)) (hn_p_Salt : p_Salt.length = n_p_Salt) (hc_p_Salt : n_p_Salt ≤ c_p_Salt) (h_p_Personal : Ro F w A_p_Personal (e8.all p_Personal)) (hn_p_Personal : p_Personal.length = n_p_Personal) (hc_p_Personal : n_p_Personal ≤ c_p_Personal) (h_key : Ro F w A_key (e8.all key)) (hn_key : key.length = n_key) (hc_key : n_key ≤ c_key) (k : Cx F O w w []) (r : Int ⊕ (Int × Int × Int × Int × Int × UInt32 × UInt64 × UInt32 × Int × Int × Vec UInt64 16 × List UInt8)) (hm : m_r05_New kind p_Digest p_Key p_Fanout p_Depth p_Leaf p_Offset p_Xof p_NodeDepth p_Inner p_Salt p_Personal key = some r) :
    Calls Tryz.prog 59 (vals [I kind, .agg [I p_Digest, I p_Key, I p_Fanout, I p_Depth, .u32 p_Leaf, .u64 p_Offset, .u32 p_Xof, I p_NodeDepth, I p_Inner, sl A_p_Salt n_p_Salt c_p_Salt, sl A_p_Personal n_p_Personal c_p_Personal], sl A_key n_key c_key]) w (fun e w' => match r with | .inl r0 => e = .returned (SV.val (.tup [.v (.pointer none), I r0])) ∧ Cx F O w w' [] | .inr r1 => ∃ g A n c, r1.2.2.2.2.2.2.2.2.2.2.2.length = n ∧ e = .returned (SV.val (.tup [pt g 0, I 0])) ∧ Cx F O w w' [Bx 110 g [I r1.1, I r1.2.1, I r1.2.2.1, I r1.2.2.2.1, I r1.2.2.2.2.1, .u32 r1.2.2.2.2.2.1, .u64 r1.2.2.2.2.2.2.1, .u32 r1.2.2.2.2.2.2.2.1, I r1.2.2.2.2.2.2.2.2.1, I r1.2.2.2.2.2.2.2.2.2.1, sl A_p_Salt n_p_Salt c_p_Salt, sl A_p_Personal n_p_Personal c_p_Personal, sl A_key n_key c_key, .b false, .ar e64 r1.2.2.2.2.2.2.2.2.2.2.1, .b false, .u64 0, .u64 0, sl A n c, .u64 0], Ow e8 A n c r1.2.2.2.2.2.2.2.2.2.2.2]) := by
 unfold m_r05_New at hm
 subst hn_p_Salt
 subst hn_p_Personal
 subst hn_key
 refine calls [I kind, .agg [I p_Digest, I p_Key, I p_Fanout, I p_Depth, .u32 p_Leaf, .u64 p_Offset, .u32 p_Xof, I p_NodeDepth, I p_Inner, sl A_p_Salt p_Salt.length c_p_Salt, sl A_p_Personal p_Personal.length c_p_Personal], sl A_key key.length c_key] Tryz.func59 rfl (of_decide_eq_true (by kernel_rfl)) ?_
 refine W_seq <| W_reg <| WL_op <| Op_box [] 4 (.agg [I p_Digest, I p_Key, I p_Fanout, I p_Depth, .u32 p_Leaf, .u64 p_Offset, .u32 p_Xof, I p_NodeDepth, I p_Inner, sl A_p_Salt p_Salt.length c_p_Salt, sl A_p_Personal p_Personal.length c_p_Personal]) [I p_Digest, I p_Key, I p_Fanout, I p_Depth, .u32 p_Leaf, .u64 p_Offset, .u32 p_Xof, I p_NodeDepth, I p_Inner, sl A_p_Salt p_Salt.length c_p_Salt, sl A_p_Personal p_Personal.length c_p_Personal] (by kernel_rfl) k ?_
 intro g0 w_ k_
 refine WLs 2 [] (.kk (.s .a)) qe (by kernel_rfl) ?_
 refine WL_nil <| At_go <| W_seq <| W_reg <| WLs 2 [] (.n 10 (I kind) (.n 11 (.agg [I p_Digest, I p_Key, I p_Fanout, I p_Depth, .u32 p_Leaf, .u64 p_Offset, .u32 p_Xof, I p_NodeDepth, I p_Inner, sl A_p_Salt p_Salt.length c_p_Salt, sl A_p_Personal p_Personal.length c_p_Personal]) .a)) (qT k_ 0 rfl 0 11 [I p_Digest, I p_Key, I p_Fanout, I p_Depth, .u32 p_Leaf, .u64 p_Offset, .u32 p_Xof, I p_NodeDepth, I p_Inner, sl A_p_Salt p_Salt.length c_p_Salt, sl A_p_Personal p_Personal.length c_p_Personal] (by kernel_rfl) (by decide) <| qe) (by kernel_rfl) ?_
 refine WL_op ?_
 obtain ⟨r_, h_r_, hm⟩ := ob hm
 refine Op_call [] 12 _ yz_go42 (by kernel_rfl) (c_r02_Check (F := N0) (O := N0) _ _ _ _ _ _ _ _ _ _ _ _ _ _ _ _ _ _ (Ro.n0 (h_p_Salt.cx k_)) rfl hc_p_Salt (Ro.n0 (h_p_Personal.cx k_)) rfl hc_p_Personal (Cx.refl _) _ h_r_) ?_
 rintro e_ w_1 ⟨rfl, k_1⟩
 have k_2 := k_.call k_1
 refine ⟨I r_, rfl, ?_⟩
 refine WLs 1 [] (.n 8 (I r_) (.sss .a)) qe (by kernel_rfl) ?_
 refine WL_nil <| At_go <| W_seq <| W_seq <| W_q [] (.n 14 (.b (decide (r_ ≠ 0))) .a) qe (by kernel_rfl) ?_
 refine At_go <| W_condp (r_ ≠ 0) (by kernel_rfl) (fun hc => ?_) (fun hc => ?_)
 · rw [if_pos hc] at hm
   refine W_seq <| W_q [] (.n 6 (.v (.pointer none)) (.n 7 (I r_) .z)) qe (by kernel_rfl) ?_
   refine At_go <| W_ret (At_tr ?_)
   obtain rfl := Option.some.inj hm
   refine At_rt [.v (.pointer none), I r_] qe (by kernel_rfl) ?_
   have k_3 := k_2.sel .z
   exact ⟨rfl, k_3⟩
 rw [if_neg hc] at hm
 refine W_skip <| At_go <| W_seq <| W_seq <| W_q [] (.n 25 (.b ((decide (((key.length : Nat) : Int) ≠ 0)) && (decide (((key.length : Nat) : Int) ≠ p_Key)))) (.ss .a)) (qp ((decide (((key.length : Nat) : Int) ≠ 0)) = true → (some ⟨g0, 0, none⟩ : Option Addr).isSome = true) (fun hg0 => rfl) <| qo (I p_Key) <| qc (fun w => (decide (((key.length : Nat) : Int) ≠ 0)) = true → ∃ a, (some ⟨g0, 1, none⟩ : Option Addr) = some a ∧ w.cell? a = some (SV.val (I p_Key))) (fun hg0 => k_2.bld 0 rfl 1 (I p_Key) (by kernel_rfl)) <| qe) (by kernel_rfl) ?_
 refine At_go <| W_cond ((decide (((key.length : Nat) : Int) ≠ 0)) && (decide (((key.length : Nat) : Int) ≠ p_Key))) (by kernel_rfl) (fun hc1 => ?_) (fun hc1 => ?_)
 · rw [if_pos hc1] at hm
   refine W_seq <| W_q [] (.n 6 (.v (.pointer none)) (.n 7 (I 8) .z)) qe (by kernel_rfl) ?_
   refine At_go <| W_ret (At_tr ?_)
   obtain rfl := Option.some.inj hm
   refine At_rt [.v (.pointer none), I 8] qe (by kernel_rfl) ?_
   have k_4 := k_2.sel .z
   exact ⟨rfl, k_4⟩
 rw [if_neg (by rw [hc1]; decide)] at hm
 refine W_skip <| At_go <| W_seq <| W_reg <| WLs 4 [] (.n 29 (.agg [I kind, I p_Digest, I p_Key, I p_Fanout, I p_Depth, .u32 p_Leaf, .u64 p_Offset, .u32 p_Xof, I p_NodeDepth, I p_Inner, sl A_p_Salt p_Salt.length c_p_Salt, sl A_p_Personal p_Personal.length c_p_Personal, sl A_key key.length c_key, .b false, .ar e64 (Vec.rep 16 (0 : UInt64)), .b false, .u64 0, .u64 0, sl none 0 0, .u64 0]) (.ss .a)) (qT k_2 0 rfl 0 11 [I p_Digest, I p_Key, I p_Fanout, I p_Depth, .u32 p_Leaf, .u64 p_Offset, .u32 p_Xof, I p_NodeDepth, I p_Inner, sl A_p_Salt p_Salt.length c_p_Salt, sl A_p_Personal p_Personal.length c_p_Personal] (by kernel_rfl) (by decide) <| qe) (by kernel_rfl) ?_
 refine WL_op <| Op_box [] 30 (.agg [I kind, I p_Digest, I p_Key, I p_Fanout, I p_Depth, .u32 p_Leaf, .u64 p_Offset, .u32 p_Xof, I p_NodeDepth, I p_Inner, sl A_p_Salt p_Salt.length c_p_Salt, sl A_p_Personal p_Personal.length c_p_Personal, sl A_key key.length c_key, .b false, .ar e64 (Vec.rep 16 (0 : UInt64)), .b false, .u64 0, .u64 0, sl none 0 0, .u64 0]) [I kind, I p_Digest, I p_Key, I p_Fanout, I p_Depth, .u32 p_Leaf, .u64 p_Offset, .u32 p_Xof, I p_NodeDepth, I p_Inner, sl A_p_Salt p_Salt.length c_p_Salt, sl A_p_Personal p_Personal.length c_p_Personal, sl A_key key.length c_key, .b false, .ar e64 (Vec.rep 16 (0 : UInt64)), .b false, .u64 0, .u64 0, sl none 0 0, .u64 0] (by kernel_rfl) k_2 ?_
 intro g1 w_2 k_5
 refine WLs 1 [] (.n 9 (pt g1 0) (.ss .a)) qe (by kernel_rfl) ?_
 refine WL_nil <| At_go <| W_seq <| W_reg <| WLs 3 [] (.n 31 (pt g1 0) (.n 32 (I kind) (.n 33 (sl A_key key.length c_key) (.k .z)))) qe (by kernel_rfl) ?_
 refine WL_op ?_
 obtain ⟨r_1, h_r_1, hm⟩ := ob hm
 refine Op_call [] 34 _ yz_go71 (by kernel_rfl) (c_r05_keyed (F := N0) (O := N0) _ _ _ _ _ (Ro.n0 (h_key.cx k_5)) rfl hc_key (Cx.refl _) _ h_r_1) ?_
 rintro e_ w_3 ⟨A0, _, c0, rfl, rfl, k_6⟩
 have k_7 := k_5.call k_6
 refine ⟨sl A0 r_1.length c0, rfl, ?_⟩
 have k_8 := k_7.sel (.s (.kk .e))
 refine WLs 2 [] (.n 36 (pt g1 33) (.k (.sss .a))) (qs g1 0 <| qs g1 0 <| qe) (by kernel_rfl) ?_
 refine WL_op ?_
 have k_9 := k_8.sel (.kk .e)
 refine Op_b [] 0 (sl A0 r_1.length c0) [sl A0 r_1.length c0] (Pt.at g1 33) k_9 rfl (.kkkk (.kkkk (.kkkk (.kkkk (.kk .h))))) (by kernel_rfl) (by kernel_rfl) ?_
 intro w_4 k_10
 refine WL_nil <| At_go <| W_seq <| W_q [] (.n 6 (pt g1 0) (.n 7 (I 0) .z)) qe (by kernel_rfl) ?_
 refine At_go <| W_ret ?_
 obtain rfl := Option.some.inj hm
 refine At_rt [pt g1 0, I 0] qe (by kernel_rfl) ?_
 exact ⟨g1, A0, r_1.length, c0, k_10.len 1 rfl, rfl, k_10⟩

-- quern/quernref05.Full
theorem c_r05_Full {F O : Nat → Prop} {w : World} (kind : Int) (k : Cx F O w w []) (r : Int) (hm : m_r05_Full kind = some r) :
    Calls Tryz.prog 60 (vals [I kind]) w (fun e w' => e = .returned (SV.val (I r)) ∧ Cx F O w w' []) := by
 unfold m_r05_Full at hm
 refine calls [I kind] Tryz.func60 rfl (of_decide_eq_true (by kernel_rfl)) ?_
 refine W_seq <| W_q [] .a qe (by kernel_rfl) ?_
 refine At_go <| W_seq <| W_seq <| W_q [] (.n 4 (.b (decide (kind = 1))) .z) qe (by kernel_rfl) ?_
 refine At_go <| W_condp (kind = 1) (by kernel_rfl) (fun hc => ?_) (fun hc => ?_)
 · rw [if_pos hc] at hm
   refine W_seq <| W_q [] (.n 2 (I 64) .z) qe (by kernel_rfl) ?_
   refine At_go <| W_ret (At_tr ?_)
   obtain rfl := Option.some.inj hm
   refine At_rt [I 64] qe (by kernel_rfl) ?_
   exact ⟨rfl, k⟩
 rw [if_neg hc] at hm
 refine W_skip <| At_go <| W_seq <| W_q [] (.n 2 (I 32) .z) qe (by kernel_rfl) ?_
 refine At_go <| W_ret ?_
 obtain rfl := Option.some.inj hm
 refine At_rt [I 32] qe (by kernel_rfl) ?_
 exact ⟨rfl, k⟩

-- (*quern/quernref05.Node).Write
theorem c_r05_Node_Write {F O : Nat → Prop} {w : World} (n_Kind : Int) (n_P_Digest : Int) (n_P_Key : Int) (n_P_Fanout : Int) (n_P_Depth : Int) (n_P_Leaf : UInt32) (n_P_Offset : UInt64) (n_P_Xof : UInt32) (n_P_NodeDepth : Int) (n_P_Inner : Int) (n_P_Salt : List UInt8) (n_P_Personal : List UInt8) (n_Key : List UInt8) (n_Last : Bool) (n_From : Vec UInt64 16) (n_Old : Bool) (n_Lo : UInt64) (n_Hi : UInt64) (n_Msg : List UInt8) (n_Count : UInt64) (b : List UInt8) (g_n : Nat) (A_n_P_Salt : Option Addr) (n_n_P_Salt : Nat) (c_n_P_Salt : Nat) (A_n_P_Personal : Option Addr) (n_n_P_Personal : Nat) (c_n_P_Personal : Nat) (A_n_Key : Option Addr) (n_n_Key : Nat) (c_n_Key : Nat) (A_n_Msg : Option Addr) (n_n_Msg : Nat) (c_n_Msg : Nat) (A_b : Option Addr) (n_b : Nat) (c_b : Nat) (h_n_P_Salt : Ro F w A_n_P_Salt (e8.all n_P_Salt)) (hn_n_P_Salt : n_P_Salt.length = n_n_P_Salt) (hc_n_P_Salt : n_n_P_Salt ≤ c_n_P_Salt) (h_n_P_Personal : Ro F w A_n_P_Personal (e8.all n_P_Personal)) (hn_n_P_Personal : n_P_Personal.length = n_n_P_Personal) (hc_n_P_Personal : n_n_P_Personal ≤ c_n_P_Personal) (h_n_Key : Ro F w A_n_Key (e8.all n_Key)) (hn_n_Key : n_Key.length = n_n_Key) (hc_n_Key : n_n_Key ≤ c_n_Key) (h_b : Ro F w A_b (e8.all b)) (hn_b : b.length = n_b) (hc_b : n_b ≤ c_b) (k : Cx F O w w [Bx 110 g_n [I n_Kind, I n_P_Digest, I n_P_Key, I n_P_Fanout, I n_P_Depth, .u32 n_P_Leaf, .u64 n_P_Offset, .u32 n_P_Xof, I n_P_NodeDepth, I n_P_Inner, sl A_n_P_Salt n_n_P_Salt c_n_P_Salt, sl A_n_P_Personal n_n_P_Personal c_n_P_Personal, sl A_n_Key n_n_Key c_n_Key, .b n_Last, .ar e64 n_From, .b n_Old, .u64 n_Lo, .u64 n_Hi, sl A_n_Msg n_n_Msg c_n_Msg, .u64 n_Count], Ow e8 A_n_Msg n_n_Msg c_n_Msg n_Msg]) (r : (Int × Int × Int × Int × Int × UInt32 × UInt64 × UInt32 × Int × Int × Bool × Vec UInt64 16 × Bool × UInt64 × UInt64 × List UInt8 × UInt64)) (hm : m_r05_Node_Write n_Kind n_P_Digest n_P_Key n_P_Fanout n_P_Depth n_P_Leaf n_P_Offset n_P_Xof n_P_NodeDepth n_P_Inner n_P_Salt n_P_Personal n_Key n_Last n_From n_Old n_Lo n_Hi n_Msg n_Count b = some r) :
    Calls Tryz.prog 61 (vals [pt g_n 0, sl A_b n_b c_b]) w (fun e w' => ∃ A n c, r.2.2.2.2.2.2.2.2.2.2.2.2.2.2.2.1.length = n ∧ e = .returned (SV.val (.tup [])) ∧ Cx F O w w' [Bx 110 g_n [I r.1, I r.2.1, I r.2.2.1, I r.2.2.2.1, I r.2.2.2.2.1, .u32 r.2.2.2.2.2.1, .u64 r.2.2.2.2.2.2.1, .u32 r.2.2.2.2.2.2.2.1, I r.2.2.2.2.2.2.2.2.1, I r.2.2.2.2.2.2.2.2.2.1, sl A_n_P_Salt n_n_P_Salt c_n_P_Salt, sl A_n_P_Personal n_n_P_Personal c_n_P_Personal, sl A_n_Key n_n_Key c_n_Key, .b r.2.2.2.2.2.2.2.2.2.2.1, .ar e64 r.2.2.2.2.2.2.2.2.2.2.2.1, .b r.2.2.2.2.2.2.2.2.2.2.2.2.1, .u64 r.2.2.2.2.2.2.2.2.2.2.2.2.2.1, .u64 r.2.2.2.2.2.2.2.2.2.2.2.2.2.2.1, sl A n c, .u64 r.2.2.2.2.2.2.2.2.2.2.2.2.2.2.2.2], Ow e8 A n c r.2.2.2.2.2.2.2.2.2.2.2.2.2.2.2.1]) := by
 unfold m_r05_Node_Write at hm
 subst hn_n_P_Salt
 subst hn_n_P_Personal
 subst hn_n_Key
 obtain rfl := k.len 1 rfl
 subst hn_b
 refine calls [pt g_n 0, sl A_b b.length c_b] Tryz.func61 rfl (of_decide_eq_true (by kernel_rfl)) ?_
 refine W_seq <| W_seq <| W_q [] (.n 4 (I 0) .a) qe (by kernel_rfl) ?_
 refine At_go <| W_block <| W_lp (m_r05_Node_Write_l0 n_Kind n_P_Digest n_P_Key n_P_Fanout n_P_Depth n_P_Leaf n_P_Offset n_P_Xof n_P_NodeDepth n_P_Inner n_Last n_From n_Old n_Lo n_Hi n_Count b) (fun s L wr => ∃ (n0 : List UInt8) (i : Int) (A0 : Option Addr) (n1 : Nat) (c0 : Nat), (n0, i) = s ∧ L = [(0, pt g_n 0), (1, sl A_b b.length c_b), (4, I i)] ∧ n0.length = n1 ∧ Cx F O w wr [Bx 110 g_n [I n_Kind, I n_P_Digest, I n_P_Key, I n_P_Fanout, I n_P_Depth, .u32 n_P_Leaf, .u64 n_P_Offset, .u32 n_P_Xof, I n_P_NodeDepth, I n_P_Inner, sl A_n_P_Salt n_P_Salt.length c_n_P_Salt, sl A_n_P_Personal n_P_Personal.length c_n_P_Personal, sl A_n_Key n_Key.length c_n_Key, .b n_Last, .ar e64 n_From, .b n_Old, .u64 n_Lo, .u64 n_Hi, sl A0 n1 c0, .u64 n_Count], Ow e8 A0 n1 c0 n0]) (n_Msg, (0 : Int)) r hm ⟨n_Msg, (0 : Int), A_n_Msg, n_Msg.length, c_n_Msg, rfl, rfl, k.len 1 rfl, k⟩ (by kernel_rfl) ?_
 intro s0_ L_ w_ y0 hrel hstep hr0
 obtain ⟨n0, i, A0, _, c0, rfl, rfl, rfl, k_⟩ := hrel
 have hm := hstep; simp only [m_r05_Node_Write_l0] at hm
 clear hstep
 refine W_seq <| W_seq <| W_q [] (.n 8 (.b (decide (i < ((b.length : Nat) : Int)))) .a) qe (by kernel_rfl) ?_
 refine At_go <| W_condp (i < ((b.length : Nat) : Int)) (by kernel_rfl) (fun hc => ?_) (fun hc => ?_)
 · rw [if_pos hc] at hm
   refine W_skip <| At_go <| W_seq <| W_block ?_
   have k_1 := k_.drew 1
   refine W_m yz_mixed (.q 0 2 (.q 1 2 (.q 2 2 (.q 3 2 (.q 4 1 (.q 5 2 (.q 6 2 (.q 7 2 (.q 8 1 (.op 9 (.op 10 (.q 11 3 (.q 12 2 (.op 13 .nil)))))))))))))) [9, 10, 13] k_1 (.c (.kk .e) (.c (.k .z) (.c (.z) .l))) (by kernel_rfl) (fun _ => ?_)
   refine MXq 4 2 [] (.n 11 (pt g_n 0) (.n 14 (pt g_n 33) (.s .a))) (fun x hx => qs g_n 0 <| qs g_n 0 <| qe) (by kernel_rfl) (fun _ => ?_)
   refine MXq 1 1 [] (.n 15 (sl A0 n0.length c0) (.k (.s .a))) (fun x hx => qB hx 0 rfl 33 (sl A0 n0.length c0) (by kernel_rfl) <| qe) (by kernel_rfl) (fun _ => ?_)
   obtain ⟨x_0, h_x_0, hm⟩ := ob hm
   refine MXq 3 2 [] (.n 18 (.v (.pointer (ixA A_b i 1))) .a) (fun x hx => qJ (h_b.cx hx) h_x_0 rfl <| qe) (by kernel_rfl) (fun _ => ?_)
   refine MXq 1 1 [] (.n 19 (.u8 x_0) (.s .a)) (fun x hx => qC (.u8 x_0) (Rd.el (k := 0) (h_b.cx hx) h_x_0 (Pt.ix1 A_b i 1) rfl) <| qe) (by kernel_rfl) (fun _ => ?_)
   refine MX_op (by kernel_rfl) rfl <| Op_mk yz_tf22 e8 [] 20 ([x_0] : List UInt8) [(0, .u8 x_0)] [.u8 x_0] (by kernel_rfl) (by kernel_rfl) (by kernel_rfl) k_1 ?_
   intro A1 w_1 k_2
   refine ⟨(k_2.sel (.kk .z)), fun _ => ?_⟩
   refine MX_op (by kernel_rfl) rfl ?_
   obtain ⟨b1, h_b1, hm⟩ := ob hm
   obtain ⟨hz, hl⟩ := app_some h_b1
   refine Op_append (E := e8) (v := sl A1 1 1) (ys := ([x_0] : List UInt8)) yz_tf22 [] 21 1 (by kernel_rfl) k_2 rfl (Src.sl (k_2.rd 2 rfl) (k_2.len 2 rfl) (by rfl)) (k_2.len 2 rfl) (by have := k_2.len 1 rfl; have := (k_2.len 2 rfl); omega) ?_
   intro A2 c1 w_2 k_3
   rw [← hl] at k_3
   have k_4 := k_3.sel (.kk .z)
   refine ⟨(k_4.sel (.k .z)), fun _ => ?_⟩
   refine MXq 1 3 [] (.n 22 (pt g_n 0) (.k (.ssss .a))) (fun x hx => qs g_n 0 <| qe) (by kernel_rfl) (fun _ => ?_)
   refine MXq 1 2 [] (.n 23 (pt g_n 33) (.s .a)) (fun x hx => qs g_n 0 <| qe) (by kernel_rfl) (fun _ => ?_)
   refine MX_op (by kernel_rfl) rfl <| Op_b [] 0 (sl A2 (n0.length + 1) c1) [sl A2 (n0.length + 1) c1] (Pt.at g_n 33) k_4 rfl (.kkkk (.kkkk (.kkkk (.kkkk (.kk .h))))) (by kernel_rfl) (by kernel_rfl) ?_
   intro w_3 k_5
   refine ⟨(k_5.sel .z), fun _ => ?_⟩
   refine MX_nil <| At_in <| At_go <| W_q [] (.n 4 (I (w64 (i + 1))) (.ss (.kk .z))) qe (by kernel_rfl) ?_
   exact At_rd (b1, w64 (i + 1)) (Option.some.inj hm).symm ⟨b1, w64 (i + 1), A2, n0.length + 1, c1, rfl, rfl, k_5.len 1 rfl, k_5⟩ (by kernel_rfl)
 rw [if_neg hc] at hm
 refine W_exit (At_te (At_te (At_ie ?_)))
 have hm := exit_of hm hr0
 refine At_go <| W_reg <| WLs 11 [] (.n 32 (.u64 (n_Count + (UInt64.ofInt ((b.length : Nat) : Int)))) (.n 34 (pt g_n 34) .z)) (qs g_n 0 <| qs g_n 0 <| qB k_ 0 rfl 34 (.u64 n_Count) (by kernel_rfl) <| qs g_n 0 <| qs g_n 0 <| qe) (by kernel_rfl) ?_
 refine WL_op <| Op_b [] 0 (.u64 (n_Count + (UInt64.ofInt ((b.length : Nat) : Int)))) [.u64 (n_Count + (UInt64.ofInt ((b.length : Nat) : Int)))] (Pt.at g_n 34) k_ rfl (.kkkk (.kkkk (.kkkk (.kkkk (.kk (.k .h)))))) (by kernel_rfl) (by kernel_rfl) ?_
 intro w_4 k_6
 refine WL_nil ?_
 obtain rfl := Option.some.inj hm
 refine At_en [] qe (by kernel_rfl) ?_
 exact ⟨A0, n0.length, c0, k_6.len 1 rfl, rfl, k_6⟩

-- quern/quernref02.Size
theorem c_r02_Size {F O : Nat → Prop} {w : World} (kind : Int) (k : Cx F O w w []) (r : Int) (hm : m_r02_Size kind = some r) :
    Calls Tryz.prog 121 (vals [I kind]) w (fun e w' => e = .returned (SV.val (I r)) ∧ Cx F O w w' []) := by
 unfold m_r02_Size at hm
 refine calls [I kind] Tryz.func121 rfl (of_decide_eq_true (by kernel_rfl)) ?_
 refine W_seq <| W_q [] .a qe (by kernel_rfl) ?_
 refine At_go <| W_seq <| W_reg <| WLs 1 [] (.n 3 (I kind) .z) qe (by kernel_rfl) ?_
 refine WL_op ?_
 obtain ⟨r_, h_r_, hm⟩ := ob hm
 refine Op_call [] 4 _ yz_go45 (by kernel_rfl) (c_r02_Most (F := N0) (O := N0) _ (Cx.refl _) _ h_r_) ?_
 rintro e_ w_ ⟨rfl, k_⟩
 have k_1 := k.call k_
 refine ⟨I r_, rfl, ?_⟩
 refine WLs 1 [] (.n 2 (I r_) .z) qe (by kernel_rfl) ?_
 refine WL_nil <| At_go <| W_ret ?_
 obtain rfl := Option.some.inj hm
 refine At_rt [I r_] qe (by kernel_rfl) ?_
 exact ⟨rfl, k_1⟩

-- quern/quernref02.place
theorem c_r02_place {F O : Nat → Prop} {w : World} (kind : Int) (field : Int) (k : Cx F O w w []) (r : (Int × Int)) (hm : m_r02_place kind field = some r) :
    Calls Tryz.prog 122 (vals [I kind, I field]) w (fun e w' => e = .returned (SV.val (.tup [I r.1, I r.2])) ∧ Cx F O w w' []) := by
 unfold m_r02_place at hm
 refine calls [I kind, I field] Tryz.func122 rfl (of_decide_eq_true (by kernel_rfl)) ?_
 refine W_seq <| W_q [] .a qe (by kernel_rfl) ?_
 refine At_go <| W_seq <| W_q [] (.n 6 (.b (decide (kind = 1))) (.s .a)) qe (by kernel_rfl) ?_
 refine At_go <| W_seq <| W_block <| W_seq <| W_q [] (.n 9 (.b ((decide (1 ≤ field)) && (decide (field ≤ 4)))) .a) qe (by kernel_rfl) ?_
 refine At_go <| W_cond ((decide (1 ≤ field)) && (decide (field ≤ 4))) (by kernel_rfl) (fun hc => ?_) (fun hc => ?_)
 · rw [if_pos hc] at hm
   refine W_seq <| W_q [] (.n 4 (I (w64 (field - 1))) (.n 5 (I 1) .z)) qe (by kernel_rfl) ?_
   refine At_go <| W_ret (At_ir (At_tr ?_))
   obtain rfl := Option.some.inj hm
   refine At_rt [I (w64 (field - 1)), I 1] qe (by kernel_rfl) ?_
   exact ⟨rfl, k⟩
 rw [if_neg (by rw [hc]; decide)] at hm
 refine W_seq <| W_q [] (.n 18 (.b (decide (field = 5))) (.s .a)) qe (by kernel_rfl) ?_
 refine At_go <| W_condp (field = 5) (by kernel_rfl) (fun hc1 => ?_) (fun hc1 => ?_)
 · rw [if_pos hc1] at hm
   refine W_seq <| W_q [] (.n 4 (I 4) (.n 5 (I 4) .z)) qe (by kernel_rfl) ?_
   refine At_go <| W_ret (At_ir (At_tr ?_))
   obtain rfl := Option.some.inj hm
   refine At_rt [I 4, I 4] qe (by kernel_rfl) ?_
   exact ⟨rfl, k⟩
 rw [if_neg hc1] at hm
 refine W_seq <| W_q [] (.n 21 (.b ((decide (field = 6)) && (decide (kind = 1)))) (.s .a)) qe (by kernel_rfl) ?_
 refine At_go <| W_cond ((decide (field = 6)) && (decide (kind = 1))) (by kernel_rfl) (fun hc2 => ?_) (fun hc2 => ?_)
 · rw [if_pos hc2] at hm
   refine W_seq <| W_q [] (.n 4 (I 8) (.n 5 (I 8) .z)) qe (by kernel_rfl) ?_
   refine At_go <| W_ret (At_ir (At_tr ?_))
   obtain rfl := Option.some.inj hm
   refine At_rt [I 8, I 8] qe (by kernel_rfl) ?_
   exact ⟨rfl, k⟩
 rw [if_neg (by rw [hc2]; decide)] at hm
 refine W_seq <| W_q [] (.n 27 (.b (decide (field = 6))) (.s .a)) qe (by kernel_rfl) ?_
 refine At_go <| W_condp (field = 6) (by kernel_rfl) (fun hc3 => ?_) (fun hc3 => ?_)
 · rw [if_pos hc3] at hm
   refine W_seq <| W_q [] (.n 4 (I 8) (.n 5 (I 6) .z)) qe (by kernel_rfl) ?_
   refine At_go <| W_ret (At_ir (At_tr ?_))
   obtain rfl := Option.some.inj hm
   refine At_rt [I 8, I 6] qe (by kernel_rfl) ?_
   exact ⟨rfl, k⟩
 rw [if_neg hc3] at hm
 refine W_seq <| W_q [] (.n 30 (.b ((decide (field = 7)) && (decide (kind = 1)))) (.s .a)) qe (by kernel_rfl) ?_
 refine At_go <| W_cond ((decide (field = 7)) && (decide (kind = 1))) (by kernel_rfl) (fun hc4 => ?_) (fun hc4 => ?_)
 · rw [if_pos hc4] at hm
   refine W_seq <| W_q [] (.n 4 (I 12) (.n 5 (I 4) .z)) qe (by kernel_rfl) ?_
   refine At_go <| W_ret (At_ir (At_tr ?_))
   obtain rfl := Option.some.inj hm
   refine At_rt [I 12, I 4] qe (by kernel_rfl) ?_
   exact ⟨rfl, k⟩
 rw [if_neg (by rw [hc4]; decide)] at hm
 refine W_seq <| W_q [] (.n 36 (.b (decide (field = 7))) (.s .a)) qe (by kernel_rfl) ?_
 refine At_go <| W_condp (field = 7) (by kernel_rfl) (fun hc5 => ?_) (fun hc5 => ?_)
 · rw [if_pos hc5] at hm
   refine W_seq <| W_q [] (.n 4 (I 12) (.n 5 (I 2) .z)) qe (by kernel_rfl) ?_
   refine At_go <| W_ret (At_ir (At_tr ?_))
   obtain rfl := Option.some.inj hm
   refine At_rt [I 12, I 2] qe (by kernel_rfl) ?_
   exact ⟨rfl, k⟩
 rw [if_neg hc5] at hm
 refine W_seq <| W_q [] (.n 39 (.b ((decide (field = 8)) && (decide (kind = 1)))) (.s .a)) qe (by kernel_rfl) ?_
 refine At_go <| W_cond ((decide (field = 8)) && (decide (kind = 1))) (by kernel_rfl) (fun hc6 => ?_) (fun hc6 => ?_)
 · rw [if_pos hc6] at hm
   refine W_seq <| W_q [] (.n 4 (I 16) (.n 5 (I 1) .z)) qe (by kernel_rfl) ?_
   refine At_go <| W_ret (At_ir (At_tr ?_))
   obtain rfl := Option.some.inj hm
   refine At_rt [I 16, I 1] qe (by kernel_rfl) ?_
   exact ⟨rfl, k⟩
 rw [if_neg (by rw [hc6]; decide)] at hm
 refine W_seq <| W_q [] (.n 45 (.b (decide (field = 8))) (.s .a)) qe (by kernel_rfl) ?_
 refine At_go <| W_condp (field = 8) (by kernel_rfl) (fun hc7 => ?_) (fun hc7 => ?_)
 · rw [if_pos hc7] at hm
   refine W_seq <| W_q [] (.n 4 (I 14) (.n 5 (I 1) .z)) qe (by kernel_rfl) ?_
   refine At_go <| W_ret (At_ir (At_tr ?_))
   obtain rfl := Option.some.inj hm
   refine At_rt [I 14, I 1] qe (by kernel_rfl) ?_
   exact ⟨rfl, k⟩
 rw [if_neg hc7] at hm
 refine W_seq <| W_q [] (.n 48 (.b ((decide (field = 9)) && (decide (kind = 1)))) (.ss .a)) qe (by kernel_rfl) ?_
 refine At_go <| W_cond ((decide (field = 9)) && (decide (kind = 1))) (by kernel_rfl) (fun hc8 => ?_) (fun hc8 => ?_)
 · rw [if_pos hc8] at hm
   refine W_seq <| W_q [] (.n 4 (I 17) (.n 5 (I 1) .z)) qe (by kernel_rfl) ?_
   refine At_go <| W_ret (At_ir (At_tr ?_))
   obtain rfl := Option.some.inj hm
   refine At_rt [I 17, I 1] qe (by kernel_rfl) ?_
   exact ⟨rfl, k⟩
 rw [if_neg (by rw [hc8]; decide)] at hm
 refine W_seq <| W_q [] (.n 54 (.b (decide (field = 9))) .z) qe (by kernel_rfl) ?_
 refine At_go <| W_condp (field = 9) (by kernel_rfl) (fun hc9 => ?_) (fun hc9 => ?_)
 · rw [if_pos hc9] at hm
   refine W_seq <| W_q [] (.n 4 (I 15) (.n 5 (I 1) .z)) qe (by kernel_rfl) ?_
   refine At_go <| W_ret (At_ir (At_tr ?_))
   obtain rfl := Option.some.inj hm
   refine At_rt [I 15, I 1] qe (by kernel_rfl) ?_
   exact ⟨rfl, k⟩
 rw [if_neg hc9] at hm
 refine W_skip <| At_in <| At_go <| W_seq <| W_q [] (.n 4 (I 0) (.n 5 (I 0) .z)) qe (by kernel_rfl) ?_
 refine At_go <| W_ret ?_
 obtain rfl := Option.some.inj hm
 refine At_rt [I 0, I 0] qe (by kernel_rfl) ?_
 exact ⟨rfl, k⟩

-- quern/quernref02.lay
theorem c_r02_lay {F O : Nat → Prop} {w : World} (b : List UInt8) (at_ : Int) (n : Int) (v : UInt64) (A_b : Option Addr) (n_b : Nat) (c_b : Nat) (G_b : Win) (hc_b : n_b ≤ c_b) (k : Cx F O w w [Mw e8 A_b n_b b G_b]) (r : (List UInt8)) (hm : m_r02_lay b at_ n v = some r) :
    Calls Tryz.prog 123 (vals [sl A_b n_b c_b, I at_, I n, .u64 v]) w (fun e w' => e = .returned (SV.val (.tup [])) ∧ Cx F O w w' [Mw e8 A_b n_b r G_b]) := by
 unfold m_r02_lay at hm
 obtain rfl := k.mlen 0 rfl
 refine calls [sl A_b b.length c_b, I at_, I n, .u64 v] Tryz.func123 rfl (of_decide_eq_true (by kernel_rfl)) ?_
 refine W_seq <| W_q [] (.n 8 (I 0) .a) qe (by kernel_rfl) ?_
 refine At_go <| W_block <| W_lp (m_r02_lay_l0 at_ n v) (fun s L wr => ∃ (b1 : List UInt8) (i : Int), (b1, i) = s ∧ L = [(0, sl A_b b.length c_b), (1, I at_), (2, I n), (3, .u64 v), (8, I i)] ∧ Cx F O w wr [Mw e8 A_b b.length b1 G_b]) (b, (0 : Int)) r hm ⟨b, (0 : Int), rfl, rfl, k⟩ (by kernel_rfl) ?_
 intro s0_ L_ w_ y0 hrel hstep hr0
 obtain ⟨b1, i, rfl, rfl, k_⟩ := hrel
 have hm := hstep; simp only [m_r02_lay_l0] at hm
 clear hstep
 refine W_seq <| W_seq <| W_q [] (.n 11 (.b (decide (i < n))) .a) qe (by kernel_rfl) ?_
 refine At_go <| W_condp (i < n) (by kernel_rfl) (fun hc => ?_) (fun hc => ?_)
 · rw [if_pos hc] at hm
   refine W_skip <| At_go <| W_seq <| W_block <| W_reg ?_
   obtain ⟨x_0, h_x_0, hm⟩ := ob hm
   refine WLs 11 [] (.n 23 (.u8 (UInt8.ofNat (shr64 v (((8 : UInt64) * (UInt64.ofInt i)).toNat)).toNat)) (.n 24 (.v (.pointer (ixA A_b (w64 (at_ + i)) 1))) (.s .a))) (qJ (k_.mrd 0 rfl) h_x_0 (k_.mlen 0 rfl) <| qe) (by kernel_rfl) ?_
   refine WL_op <| Op_mst (E := e8) (kk := 0) (sv := .u8 (UInt8.ofNat (shr64 v (((8 : UInt64) * (UInt64.ofInt i)).toNat)).toNat)) (svs := [.u8 (UInt8.ofNat (shr64 v (((8 : UInt64) * (UInt64.ofInt i)).toNat)).toNat)]) [] 0 (UInt8.ofNat (shr64 v (((8 : UInt64) * (UInt64.ofInt i)).toNat)).toNat) (by kernel_rfl) (Pt.ix1 A_b (w64 (at_ + i)) 1) k_ rfl (geti_some h_x_0).2 (E_ix (E := e8) (k_.mrd 0 rfl) (by decide) (geti_lt h_x_0).1 (geti_some h_x_0).2) rfl (Nat.le_of_ble_eq_true (by kernel_rfl)) ?_
   intro w_1 k_1
   refine WL_nil <| At_in <| At_go <| W_q [] (.n 8 (I (w64 (i + 1))) (.ss (.kkkk .z))) qe (by kernel_rfl) ?_
   exact At_rd (b1.set (Int.toNat (w64 (at_ + i))) (UInt8.ofNat (shr64 v (((8 : UInt64) * (UInt64.ofInt i)).toNat)).toNat), w64 (i + 1)) (Option.some.inj hm).symm ⟨b1.set (Int.toNat (w64 (at_ + i))) (UInt8.ofNat (shr64 v (((8 : UInt64) * (UInt64.ofInt i)).toNat)).toNat), w64 (i + 1), rfl, rfl, k_1⟩ (by kernel_rfl)
 rw [if_neg hc] at hm
 refine W_exit (At_te (At_te (At_ie ?_)))
 have hm := exit_of hm hr0
 obtain rfl := Option.some.inj hm
 refine At_en [] qe (by kernel_rfl) ?_
 exact ⟨rfl, k_⟩

-- quern/quernref02.Encode
theorem c_r02_Encode {F O : Nat → Prop} {w : World} (kind : Int) (p_Digest : Int) (p_Key : Int) (p_Fanout : Int) (p_Depth : Int) (p_Leaf : UInt32) (p_Offset : UInt64) (p_Xof : UInt32) (p_NodeDepth : Int) (p_Inner : Int) (p_Salt : List UInt8) (p_Personal : List UInt8) (A_p_Salt : Option Addr) (n_p_Salt : Nat) (c_p_Salt : Nat) (A_p_Personal : Option Addr) (n_p_Personal : Nat) (c_p_Personal : Nat) (h_p_Salt : Ro F w A_p_Salt (e8.all p_Salt)) (hn_p_Salt : p_Salt.length = n_p_Salt) (hc_p_Salt : n_p_Salt ≤ c_p_Salt) (h_p_Personal : Ro F w A_p_Personal (e8.all p_Personal)) (hn_p_Personal : p_Personal.length = n_p_Personal) (hc_p_Personal : n_p_Personal ≤ c_p_Personal) (k : Cx F O w w []) (r : (List UInt8 × Int)) (hm : m_r02_Encode kind p_Digest p_Key p_Fanout p_Depth p_Leaf p_Offset p_Xof p_NodeDepth p_Inner p_Salt p_Personal = some r) :
    Calls Tryz.prog 108 (vals [I kind, .agg [I p_Digest, I p_Key, I p_Fanout, I p_Depth, .u32 p_Leaf, .u64 p_Offset, .u32 p_Xof, I p_NodeDepth, I p_Inner, sl A_p_Salt n_p_Salt c_p_Salt, sl A_p_Personal n_p_Personal c_p_Personal]]) w (fun e w' => ∃ A n c, r.1.length = n ∧ e = .returned (SV.val (.tup [sl A n c, I r.2])) ∧ Cx F O w w' [Ow e8 A n c r.1]) := by
 unfold m_r02_Encode at hm
 subst hn_p_Salt
 subst hn_p_Personal
 refine calls [I kind, .agg [I p_Digest, I p_Key, I p_Fanout, I p_Depth, .u32 p_Leaf, .u64 p_Offset, .u32 p_Xof, I p_NodeDepth, I p_Inner, sl A_p_Salt p_Salt.length c_p_Salt, sl A_p_Personal p_Personal.length c_p_Personal]] Tryz.func108 rfl (of_decide_eq_true (by kernel_rfl)) ?_
 refine W_seq <| W_reg <| WL_op <| Op_box [] 3 (.agg [I p_Digest, I p_Key, I p_Fanout, I p_Depth, .u32 p_Leaf, .u64 p_Offset, .u32 p_Xof, I p_NodeDepth, I p_Inner, sl A_p_Salt p_Salt.length c_p_Salt, sl A_p_Personal p_Personal.length c_p_Personal]) [I p_Digest, I p_Key, I p_Fanout, I p_Depth, .u32 p_Leaf, .u64 p_Offset, .u32 p_Xof, I p_NodeDepth, I p_Inner, sl A_p_Salt p_Salt.length c_p_Salt, sl A_p_Personal p_Personal.length c_p_Personal] (by kernel_rfl) k ?_
 intro g w_ k_
 refine WLs 2 [] (.kk .z) qe (by kernel_rfl) ?_
 refine WL_nil <| At_go <| W_seq <| W_reg <| WLs 2 [] (.n 15 (I kind) (.n 16 (.agg [I p_Digest, I p_Key, I p_Fanout, I p_Depth, .u32 p_Leaf, .u64 p_Offset, .u32 p_Xof, I p_NodeDepth, I p_Inner, sl A_p_Salt p_Salt.length c_p_Salt, sl A_p_Personal p_Personal.length c_p_Personal]) .a)) (qT k_ 0 rfl 0 11 [I p_Digest, I p_Key, I p_Fanout, I p_Depth, .u32 p_Leaf, .u64 p_Offset, .u32 p_Xof, I p_NodeDepth, I p_Inner, sl A_p_Salt p_Salt.length c_p_Salt, sl A_p_Personal p_Personal.length c_p_Personal] (by kernel_rfl) (by decide) <| qe) (by kernel_rfl) ?_
 refine WL_op ?_
 obtain ⟨r_, h_r_, hm⟩ := ob hm
 refine Op_call [] 17 _ yz_go42 (by kernel_rfl) (c_r02_Check (F := N0) (O := N0) _ _ _ _ _ _ _ _ _ _ _ _ _ _ _ _ _ _ (Ro.n0 (h_p_Salt.cx k_)) rfl hc_p_Salt (Ro.n0 (h_p_Personal.cx k_)) rfl hc_p_Personal (Cx.refl _) _ h_r_) ?_
 rintro e_ w_1 ⟨rfl, k_1⟩
 have k_2 := k_.call k_1
 refine ⟨I r_, rfl, ?_⟩
 refine WLs 1 [] (.n 6 (I r_) (.sss .a)) qe (by kernel_rfl) ?_
 refine WL_nil <| At_go <| W_seq <| W_seq <| W_q [] (.n 19 (.b (decide (r_ ≠ 0))) .a) qe (by kernel_rfl) ?_
 refine At_go <| W_condp (r_ ≠ 0) (by kernel_rfl) (fun hc => ?_) (fun hc => ?_)
 · rw [if_pos hc] at hm
   refine W_seq <| W_q [] (.n 4 (sl none 0 0) (.n 5 (I r_) .z)) qe (by kernel_rfl) ?_
   refine At_go <| W_ret (At_tr ?_)
   have k_3 := k_2.nil e8
   obtain rfl := Option.some.inj hm
   refine At_rt [sl none 0 0, I r_] qe (by kernel_rfl) ?_
   have k_4 := k_3.sel (.s (.k .e))
   exact ⟨none, 0, 0, k_4.len 0 rfl, rfl, k_4⟩
 rw [if_neg hc] at hm
 refine W_skip <| At_go <| W_seq <| W_reg <| WLs 1 [] (.n 21 (I kind) (.ss .a)) qe (by kernel_rfl) ?_
 refine WL_op ?_
 obtain ⟨r_1, h_r_1, hm⟩ := ob hm
 refine Op_call [] 22 _ yz_go121 (by kernel_rfl) (c_r02_Size (F := N0) (O := N0) _ (Cx.refl _) _ h_r_1) ?_
 rintro e_ w_2 ⟨rfl, k_5⟩
 have k_6 := k_2.call k_5
 refine ⟨I r_1, rfl, ?_⟩
 refine WL_op ?_
 obtain ⟨u, h_u, hm⟩ := ob hm
 refine Op_make yz_tf22 e8 (0 : UInt8) rfl [] 23 (I r_1) (I r_1) r_1 r_1 (by kernel_rfl) (need_some h_u).1 (need_some h_u).2.1 (need_some h_u).2.2 k_6 ?_
 intro A0 w_3 k_7
 refine WLs 1 [] (.n 7 (sl A0 (Int.toNat r_1) (Int.toNat r_1)) (.sss .a)) qe (by kernel_rfl) ?_
 refine WL_nil <| At_go <| W_seq <| W_reg <| WLs 26 [] (.n 26 (.u64 (UInt64.ofInt p_Digest)) (.n 29 (.u64 (UInt64.ofInt p_Key)) (.n 32 (.u64 (UInt64.ofInt p_Fanout)) (.n 35 (.u64 (UInt64.ofInt p_Depth)) (.n 38 (.u64 (UInt64.ofNat p_Leaf.toNat)) (.n 40 (.u64 p_Offset) (.n 43 (.u64 (UInt64.ofNat p_Xof.toNat)) (.n 46 (.u64 (UInt64.ofInt p_NodeDepth)) (.n 49 (.u64 (UInt64.ofInt p_Inner)) .a))))))))) (qs g 0 <| qB k_7 0 rfl 0 (I p_Digest) (by kernel_rfl) <| qs g 0 <| qB k_7 0 rfl 1 (I p_Key) (by kernel_rfl) <| qs g 0 <| qB k_7 0 rfl 2 (I p_Fanout) (by kernel_rfl) <| qs g 0 <| qB k_7 0 rfl 3 (I p_Depth) (by kernel_rfl) <| qs g 0 <| qB k_7 0 rfl 4 (.u32 p_Leaf) (by kernel_rfl) <| qs g 0 <| qB k_7 0 rfl 5 (.u64 p_Offset) (by kernel_rfl) <| qs g 0 <| qB k_7 0 rfl 6 (.u32 p_Xof) (by kernel_rfl) <| qs g 0 <| qB k_7 0 rfl 7 (I p_NodeDepth) (by kernel_rfl) <| qs g 0 <| qB k_7 0 rfl 8 (I p_Inner) (by kernel_rfl) <| qe) (by kernel_rfl) ?_
 refine WL_op ?_
 have k_8 := k_7.sel (.kk .e)
 refine Op_mk yz_tf39 e64 [] 50 ([UInt64.ofInt p_Digest, UInt64.ofInt p_Key, UInt64.ofInt p_Fanout, UInt64.ofInt p_Depth, UInt64.ofNat p_Leaf.toNat, p_Offset, UInt64.ofNat p_Xof.toNat, UInt64.ofInt p_NodeDepth, UInt64.ofInt p_Inner] : List UInt64) [(0, .u64 (UInt64.ofInt p_Digest)), (1, .u64 (UInt64.ofInt p_Key)), (2, .u64 (UInt64.ofInt p_Fanout)), (3, .u64 (UInt64.ofInt p_Depth)), (4, .u64 (UInt64.ofNat p_Leaf.toNat)), (5, .u64 p_Offset), (6, .u64 (UInt64.ofNat p_Xof.toNat)), (7, .u64 (UInt64.ofInt p_NodeDepth)), (8, .u64 (UInt64.ofInt p_Inner))] [.u64 (UInt64.ofInt p_Digest), .u64 (UInt64.ofInt p_Key), .u64 (UInt64.ofInt p_Fanout), .u64 (UInt64.ofInt p_Depth), .u64 (UInt64.ofNat p_Leaf.toNat), .u64 p_Offset, .u64 (UInt64.ofNat p_Xof.toNat), .u64 (UInt64.ofInt p_NodeDepth), .u64 (UInt64.ofInt p_Inner)] (by kernel_rfl) (by kernel_rfl) (by kernel_rfl) k_8 ?_
 intro A1 w_4 k_9
 refine WLs 1 [] (.n 8 (sl A1 9 9) (.ssss (.ssss (.ss .a)))) qe (by kernel_rfl) ?_
 refine WL_nil <| At_go <| W_seq <| W_seq <| W_q [] (.n 9 (I 1) .a) qe (by kernel_rfl) ?_
 refine At_go <| W_block <| W_lp (m_r02_Encode_l0 kind p_Digest p_Key p_Fanout p_Depth p_Leaf p_Offset p_Xof p_NodeDepth p_Inner p_Salt p_Personal) (fun s L wr => ∃ (b : List UInt8) (f : Int), (b, f) = s ∧ L = [(0, I kind), (3, pt g 0), (7, sl A0 (Int.toNat r_1) (Int.toNat r_1)), (8, sl A1 9 9), (9, I f)] ∧ Cx F O w wr [Bx 83 g [I p_Digest, I p_Key, I p_Fanout, I p_Depth, .u32 p_Leaf, .u64 p_Offset, .u32 p_Xof, I p_NodeDepth, I p_Inner, sl A_p_Salt p_Salt.length c_p_Salt, sl A_p_Personal p_Personal.length c_p_Personal], Ow e8 A0 (Int.toNat r_1) (Int.toNat r_1) b, Ow e64 A1 9 9 ([UInt64.ofInt p_Digest, UInt64.ofInt p_Key, UInt64.ofInt p_Fanout, UInt64.ofInt p_Depth, UInt64.ofNat p_Leaf.toNat, p_Offset, UInt64.ofNat p_Xof.toNat, UInt64.ofInt p_NodeDepth, UInt64.ofInt p_Inner] : List UInt64)]) (List.replicate (Int.toNat r_1) (0 : UInt8), (1 : Int)) r hm ⟨List.replicate (Int.toNat r_1) (0 : UInt8), (1 : Int), rfl, rfl, k_9⟩ (by kernel_rfl) ?_
 intro s0_ L_ w_5 y0 hrel hstep hr0
 obtain ⟨b, f, rfl, rfl, k_10⟩ := hrel
 have hm := hstep; simp only [m_r02_Encode_l0] at hm
 clear hstep
 refine W_seq <| W_seq <| W_q [] (.n 52 (.b (decide (f ≤ 9))) .a) qe (by kernel_rfl) ?_
 refine At_go <| W_condp (f ≤ 9) (by kernel_rfl) (fun hc1 => ?_) (fun hc1 => ?_)
 · rw [if_pos hc1] at hm
   refine W_skip <| At_go <| W_cut (fun L wr => ∃ (b1 : List UInt8), m_r02_Encode_j0 f b1 = some y0 ∧ L = [(0, I kind), (3, pt g 0), (7, sl A0 (Int.toNat r_1) (Int.toNat r_1)), (8, sl A1 9 9), (9, I f)] ∧ Cx F O w wr [Bx 83 g [I p_Digest, I p_Key, I p_Fanout, I p_Depth, .u32 p_Leaf, .u64 p_Offset, .u32 p_Xof, I p_NodeDepth, I p_Inner, sl A_p_Salt p_Salt.length c_p_Salt, sl A_p_Personal p_Personal.length c_p_Personal], Ow e8 A0 (Int.toNat r_1) (Int.toNat r_1) b1, Ow e64 A1 9 9 ([UInt64.ofInt p_Digest, UInt64.ofInt p_Key, UInt64.ofInt p_Fanout, UInt64.ofInt p_Depth, UInt64.ofNat p_Leaf.toNat, p_Offset, UInt64.ofNat p_Xof.toNat, UInt64.ofInt p_NodeDepth, UInt64.ofInt p_Inner] : List UInt64)]) ?_ ?_
   ·
    refine W_cutb (fun L wr => ∃ (b2 : List UInt8), m_r02_Encode_j1 f b2 = some y0 ∧ L = [(0, I kind), (3, pt g 0), (7, sl A0 (Int.toNat r_1) (Int.toNat r_1)), (8, sl A1 9 9), (9, I f)] ∧ Cx F O w wr [Bx 83 g [I p_Digest, I p_Key, I p_Fanout, I p_Depth, .u32 p_Leaf, .u64 p_Offset, .u32 p_Xof, I p_NodeDepth, I p_Inner, sl A_p_Salt p_Salt.length c_p_Salt, sl A_p_Personal p_Personal.length c_p_Personal], Ow e8 A0 (Int.toNat r_1) (Int.toNat r_1) b2, Ow e64 A1 9 9 ([UInt64.ofInt p_Digest, UInt64.ofInt p_Key, UInt64.ofInt p_Fanout, UInt64.ofInt p_Depth, UInt64.ofNat p_Leaf.toNat, p_Offset, UInt64.ofNat p_Xof.toNat, UInt64.ofInt p_NodeDepth, UInt64.ofInt p_Inner] : List UInt64)]) ?_ ?_
    ·
     refine W_seq <| W_seq <| W_q [] (.n 61 (.b ((decide (f = 7)) && (decide (p_Xof = 0)))) (.s .a)) (qp ((decide (f = 7)) = true → (some ⟨g, 0, none⟩ : Option Addr).isSome = true) (fun hg0 => rfl) <| qo (.u32 p_Xof) <| qc (fun w => (decide (f = 7)) = true → ∃ a, (some ⟨g, 6, none⟩ : Option Addr) = some a ∧ w.cell? a = some (SV.val (.u32 p_Xof))) (fun hg0 => k_10.bld 0 rfl 6 (.u32 p_Xof) (by kernel_rfl)) <| qe) (by kernel_rfl) ?_
     refine At_go <| W_cond ((decide (f = 7)) && (decide (p_Xof = 0))) (by kernel_rfl) (fun hc2 => ?_) (fun hc2 => ?_)
     · rw [if_pos hc2] at hm
       refine W_exit (At_te (At_ie ?_))
       exact At_c ⟨b, hm, rfl, k_10⟩ (by kernel_rfl)
     rw [if_neg (by rw [hc2]; decide)] at hm
     refine W_skip <| At_go <| W_seq <| W_reg <| WLs 2 [] (.n 63 (I kind) (.n 64 (I f) (.s .a))) qe (by kernel_rfl) ?_
     refine WL_op ?_
     obtain ⟨r_2, h_r_2, hm⟩ := ob hm
     refine Op_call [] 65 _ yz_go122 (by kernel_rfl) (c_r02_place (F := N0) (O := N0) _ _ (Cx.refl _) _ h_r_2) ?_
     rintro e_ w_6 ⟨rfl, k_11⟩
     have k_12 := k_10.call k_11
     refine ⟨.tup [I r_2.1, I r_2.2], rfl, ?_⟩
     refine WLs 5 [] (.n 10 (I r_2.1) (.n 11 (I r_2.2) (.sss .a))) qe (by kernel_rfl) ?_
     refine WL_nil <| At_go <| W_reg ?_
     obtain ⟨x_0, h_x_0, hm⟩ := ob hm
     refine WLs 8 [] (.n 68 (sl A0 (Int.toNat r_1) (Int.toNat r_1)) (.n 69 (I r_2.1) (.n 70 (I r_2.2) (.n 75 (.u64 x_0) (.ss .a))))) (qW (k_12.rd 2 rfl) h_x_0 (k_12.len 2 rfl) (.u64 x_0) rfl <| qe) (by kernel_rfl) ?_
     refine WL_op ?_
     obtain ⟨G, hG, k_13⟩ := k_12.openM 1 rfl
     obtain ⟨r_3, h_r_3, hm⟩ := ob hm
     obtain ⟨F1, O1, kin, hO, hre, hF, hb⟩ := k_13.go (.r (.i (.r .e)))
     refine Op_call [] 76 _ yz_go123 (by kernel_rfl) (c_r02_lay (F := F1) (O := O1) _ _ _ _ _ _ _ _ (k_12.lec 1 rfl) kin _ h_r_3) ?_
     rintro e_ w_7 ⟨rfl, k_14⟩
     have k_15 := hb w_7 _ _ k_14 (.c .n)
     refine ⟨.tup [], rfl, ?_⟩
     have k_16 := k_15.shutM hG 0 rfl
     refine WL_nil <| At_in ?_
     have k_17 := ((k_16.pk (.t (.t .h))).pk (.t .h)).pk (.t (.t .h))
     exact At_c ⟨r_3, hm, rfl, k_17⟩ (by kernel_rfl)
    rintro L_ w_8 ⟨b2, hm, rfl, k_18⟩
    simp only [m_r02_Encode_j1] at hm
    exact At_c ⟨b2, hm, rfl, k_18⟩ (by kernel_rfl)
   rintro L_ w_9 ⟨b1, hm, rfl, k_19⟩
   simp only [m_r02_Encode_j0] at hm
   refine W_q [] (.n 9 (I (w64 (f + 1))) (.kkkk .z)) qe (by kernel_rfl) ?_
   exact At_rd (b1, w64 (f + 1)) (Option.some.inj hm).symm ⟨b1, w64 (f + 1), rfl, rfl, k_19⟩ (by kernel_rfl)
 rw [if_neg hc1] at hm
 refine W_exit (At_te (At_te (At_ie ?_)))
 have hm := exit_of hm hr0
 refine At_go <| W_seq <| W_reg <| WLs 1 [] (.n 77 (I kind) (.ss (.kk .z))) qe (by kernel_rfl) ?_
 refine WL_op ?_
 obtain ⟨r_4, h_r_4, hm⟩ := ob hm
 refine Op_call [] 78 _ yz_go45 (by kernel_rfl) (c_r02_Most (F := N0) (O := N0) _ (Cx.refl _) _ h_r_4) ?_
 rintro e_ w_10 ⟨rfl, k_20⟩
 have k_21 := k_10.call k_20
 refine ⟨I r_4, rfl, ?_⟩
 have k_22 := k_21.sel (.kk .z)
 refine WLs 2 [] (.n 12 (I (w64 (Int.tdiv r_4 4))) (.ss .a)) (qp ((4 : Int) ≠ (0 : Int)) (by omega) <| qe) (by kernel_rfl) ?_
 refine WL_nil <| At_go <| W_seq <| W_seq <| W_q [] (.n 13 (I 0) .a) qe (by kernel_rfl) ?_
 refine At_go <| W_block <| W_lp (m_r02_Encode_l1 p_Salt p_Personal r_4) (fun s L wr => ∃ (b3 : List UInt8) (i : Int), (b3, i) = s ∧ L = [(3, pt g 0), (7, sl A0 (Int.toNat r_1) (Int.toNat r_1)), (12, I (w64 (Int.tdiv r_4 4))), (13, I i)] ∧ Cx F O w wr [Bx 83 g [I p_Digest, I p_Key, I p_Fanout, I p_Depth, .u32 p_Leaf, .u64 p_Offset, .u32 p_Xof, I p_NodeDepth, I p_Inner, sl A_p_Salt p_Salt.length c_p_Salt, sl A_p_Personal p_Personal.length c_p_Personal], Ow e8 A0 (Int.toNat r_1) (Int.toNat r_1) b3]) (b, (0 : Int)) r hm ⟨b, (0 : Int), rfl, rfl, k_22⟩ (by kernel_rfl) ?_
 intro s0_ L_ w_11 y0 hrel hstep hr0
 obtain ⟨b3, i, rfl, rfl, k_23⟩ := hrel
 have hm := hstep; simp only [m_r02_Encode_l1] at hm
 clear hstep
 refine W_seq <| W_seq <| W_q [] (.n 84 (.b (decide (i < ((p_Salt.length : Nat) : Int)))) .a) (qs g 0 <| qB k_23 0 rfl 9 (sl A_p_Salt p_Salt.length c_p_Salt) (by kernel_rfl) <| qe) (by kernel_rfl) ?_
 refine At_go <| W_condp (i < ((p_Salt.length : Nat) : Int)) (by kernel_rfl) (fun hc3 => ?_) (fun hc3 => ?_)
 · rw [if_pos hc3] at hm
   refine W_skip <| At_go <| W_seq <| W_block <| W_reg ?_
   obtain ⟨x_2, h_x_2, hm⟩ := ob hm
   obtain ⟨x_3, h_x_3, hm⟩ := ob hm
   refine WLs 11 [] (.n 96 (.u8 x_2) (.n 97 (.v (.pointer (ixA A0 (w64 ((w64 (2 * (w64 (Int.tdiv r_4 4)))) + i)) 1))) (.s .a))) (qs g 0 <| qB k_23 0 rfl 9 (sl A_p_Salt p_Salt.length c_p_Salt) (by kernel_rfl) <| qW (h_p_Salt.cx k_23) h_x_2 rfl (.u8 x_2) rfl <| qJ (k_23.rd 1 rfl) h_x_3 (k_23.len 1 rfl) <| qe) (by kernel_rfl) ?_
   refine WL_op <| Op_ost (E := e8) (kk := 0) (sv := .u8 x_2) (svs := [.u8 x_2]) [] 1 x_2 (by kernel_rfl) (Pt.ix1 A0 (w64 ((w64 (2 * (w64 (Int.tdiv r_4 4)))) + i)) 1) k_23 rfl (geti_some h_x_3).2 (E_ix (E := e8) (k_23.rd 1 rfl) (by decide) (geti_lt h_x_3).1 (geti_some h_x_3).2) rfl (Nat.le_of_ble_eq_true (by kernel_rfl)) ?_
   intro w_12 k_24
   refine WL_nil <| At_in <| At_go <| W_q [] (.n 13 (I (w64 (i + 1))) (.ss (.kkk .z))) qe (by kernel_rfl) ?_
   exact At_rd (b3.set (Int.toNat (w64 ((w64 (2 * (w64 (Int.tdiv r_4 4)))) + i))) x_2, w64 (i + 1)) (Option.some.inj hm).symm ⟨b3.set (Int.toNat (w64 ((w64 (2 * (w64 (Int.tdiv r_4 4)))) + i))) x_2, w64 (i + 1), rfl, rfl, k_24⟩ (by kernel_rfl)
 rw [if_neg hc3] at hm
 refine W_exit (At_te (At_te (At_ie ?_)))
 have hm := exit_of hm hr0
 refine At_go <| W_seq <| W_seq <| W_q [] (.n 14 (I 0) (.s (.kkk .z))) qe (by kernel_rfl) ?_
 refine At_go <| W_block <| W_lp (m_r02_Encode_l2 p_Personal r_4) (fun s L wr => ∃ (b4 : List UInt8) (i1 : Int), (b4, i1) = s ∧ L = [(3, pt g 0), (7, sl A0 (Int.toNat r_1) (Int.toNat r_1)), (12, I (w64 (Int.tdiv r_4 4))), (14, I i1)] ∧ Cx F O w wr [Bx 83 g [I p_Digest, I p_Key, I p_Fanout, I p_Depth, .u32 p_Leaf, .u64 p_Offset, .u32 p_Xof, I p_NodeDepth, I p_Inner, sl A_p_Salt p_Salt.length c_p_Salt, sl A_p_Personal p_Personal.length c_p_Personal], Ow e8 A0 (Int.toNat r_1) (Int.toNat r_1) b4]) (b3, (0 : Int)) r hm ⟨b3, (0 : Int), rfl, rfl, k_23⟩ (by kernel_rfl) ?_
 intro s0_ L_ w_13 y0 hrel hstep hr0
 obtain ⟨b4, i1, rfl, rfl, k_25⟩ := hrel
 have hm := hstep; simp only [m_r02_Encode_l2] at hm
 clear hstep
 refine W_seq <| W_seq <| W_q [] (.n 102 (.b (decide (i1 < ((p_Personal.length : Nat) : Int)))) .a) (qs g 0 <| qB k_25 0 rfl 10 (sl A_p_Personal p_Personal.length c_p_Personal) (by kernel_rfl) <| qe) (by kernel_rfl) ?_
 refine At_go <| W_condp (i1 < ((p_Personal.length : Nat) : Int)) (by kernel_rfl) (fun hc4 => ?_) (fun hc4 => ?_)
 · rw [if_pos hc4] at hm
   refine W_skip <| At_go <| W_seq <| W_block <| W_reg ?_
   obtain ⟨x_4, h_x_4, hm⟩ := ob hm
   obtain ⟨x_5, h_x_5, hm⟩ := ob hm
   refine WLs 11 [] (.n 114 (.u8 x_4) (.n 115 (.v (.pointer (ixA A0 (w64 ((w64 (3 * (w64 (Int.tdiv r_4 4)))) + i1)) 1))) (.s .a))) (qs g 0 <| qB k_25 0 rfl 10 (sl A_p_Personal p_Personal.length c_p_Personal) (by kernel_rfl) <| qW (h_p_Personal.cx k_25) h_x_4 rfl (.u8 x_4) rfl <| qJ (k_25.rd 1 rfl) h_x_5 (k_25.len 1 rfl) <| qe) (by kernel_rfl) ?_
   refine WL_op <| Op_ost (E := e8) (kk := 0) (sv := .u8 x_4) (svs := [.u8 x_4]) [] 1 x_4 (by kernel_rfl) (Pt.ix1 A0 (w64 ((w64 (3 * (w64 (Int.tdiv r_4 4)))) + i1)) 1) k_25 rfl (geti_some h_x_5).2 (E_ix (E := e8) (k_25.rd 1 rfl) (by decide) (geti_lt h_x_5).1 (geti_some h_x_5).2) rfl (Nat.le_of_ble_eq_true (by kernel_rfl)) ?_
   intro w_14 k_26
   refine WL_nil <| At_in <| At_go <| W_q [] (.n 14 (I (w64 (i1 + 1))) (.ss (.kkk .z))) qe (by kernel_rfl) ?_
   exact At_rd (b4.set (Int.toNat (w64 ((w64 (3 * (w64 (Int.tdiv r_4 4)))) + i1))) x_4, w64 (i1 + 1)) (Option.some.inj hm).symm ⟨b4.set (Int.toNat (w64 ((w64 (3 * (w64 (Int.tdiv r_4 4)))) + i1))) x_4, w64 (i1 + 1), rfl, rfl, k_26⟩ (by kernel_rfl)
 rw [if_neg hc4] at hm
 refine W_exit (At_te (At_te (At_ie ?_)))
 have hm := exit_of hm hr0
 refine At_go <| W_seq <| W_q [] (.n 4 (sl A0 (Int.toNat r_1) (Int.toNat r_1)) (.n 5 (I 0) .z)) qe (by kernel_rfl) ?_
 refine At_go <| W_ret ?_
 obtain rfl := Option.some.inj hm
 refine At_rt [sl A0 (Int.toNat r_1) (Int.toNat r_1), I 0] qe (by kernel_rfl) ?_
 have k_27 := k_25.sel (.s (.k .e))
 exact ⟨A0, Int.toNat r_1, Int.toNat r_1, k_27.len 0 rfl, rfl, k_27⟩

-- quern/quernref01.Load
theorem c_r01_Load {F O : Nat → Prop} {w : World} (b : List UInt8) (at_ : Int) (n : Int) (A_b : Option Addr) (n_b : Nat) (c_b : Nat) (h_b : Ro F w A_b (e8.all b)) (hn_b : b.length = n_b) (hc_b : n_b ≤ c_b) (k : Cx F O w w []) (r : (UInt64 × Int)) (hm : m_r01_Load b at_ n = some r) :
    Calls Tryz.prog 111 (vals [sl A_b n_b c_b, I at_, I n]) w (fun e w' => e = .returned (SV.val (.tup [.u64 r.1, I r.2])) ∧ Cx F O w w' []) := by
 unfold m_r01_Load at hm
 subst hn_b
 refine calls [sl A_b b.length c_b, I at_, I n] Tryz.func111 rfl (of_decide_eq_true (by kernel_rfl)) ?_
 refine W_seq <| W_q [] .a qe (by kernel_rfl) ?_
 refine At_go <| W_seq <| W_seq <| W_q [] (.n 11 (.b (decide (at_ < 0))) .a) qe (by kernel_rfl) ?_
 refine At_go <| W_condp (at_ < 0) (by kernel_rfl) (fun hc => ?_) (fun hc => ?_)
 · rw [if_pos hc] at hm
   refine W_seq <| W_q [] (.n 6 (.u64 0) (.n 7 (I 1) .z)) qe (by kernel_rfl) ?_
   refine At_go <| W_ret (At_tr ?_)
   obtain rfl := Option.some.inj hm
   refine At_rt [.u64 0, I 1] qe (by kernel_rfl) ?_
   exact ⟨rfl, k⟩
 rw [if_neg hc] at hm
 refine W_skip <| At_go <| W_seq <| W_seq <| W_q [] (.n 23 (.b ((decide (((b.length : Nat) : Int) < at_)) || (decide ((w64 (((b.length : Nat) : Int) - at_)) < n)))) (.s .a)) qe (by kernel_rfl) ?_
 refine At_go <| W_cond ((decide (((b.length : Nat) : Int) < at_)) || (decide ((w64 (((b.length : Nat) : Int) - at_)) < n))) (by kernel_rfl) (fun hc1 => ?_) (fun hc1 => ?_)
 · rw [if_pos hc1] at hm
   refine W_seq <| W_q [] (.n 6 (.u64 0) (.n 7 (I 3) .z)) qe (by kernel_rfl) ?_
   refine At_go <| W_ret (At_tr ?_)
   obtain rfl := Option.some.inj hm
   refine At_rt [.u64 0, I 3] qe (by kernel_rfl) ?_
   exact ⟨rfl, k⟩
 rw [if_neg (by rw [hc1]; decide)] at hm
 refine W_skip <| At_go <| W_seq <| W_q [] (.n 8 (.u64 0) (.s .a)) qe (by kernel_rfl) ?_
 refine At_go <| W_seq <| W_seq <| W_q [] (.n 9 (I (w64 (n - 1))) (.kkk .z)) qe (by kernel_rfl) ?_
 refine At_go <| W_block <| W_lp (m_r01_Load_l0 b at_) (fun s L wr => ∃ (w_ : UInt64) (i : Int), (w_, i) = s ∧ L = [(0, sl A_b b.length c_b), (1, I at_), (8, .u64 w_), (9, I i)] ∧ Cx F O w wr []) ((0 : UInt64), w64 (n - 1)) r hm ⟨(0 : UInt64), w64 (n - 1), rfl, rfl, k⟩ (by kernel_rfl) ?_
 intro s0_ L_ w_1 y0 hrel hstep hr0
 obtain ⟨w_, i, rfl, rfl, k_⟩ := hrel
 have hm := hstep; simp only [m_r01_Load_l0] at hm
 clear hstep
 refine W_seq <| W_seq <| W_q [] (.n 27 (.b (decide (0 ≤ i))) .a) qe (by kernel_rfl) ?_
 refine At_go <| W_condp (0 ≤ i) (by kernel_rfl) (fun hc2 => ?_) (fun hc2 => ?_)
 · rw [if_pos hc2] at hm
   refine W_skip <| At_go <| W_seq <| W_block ?_
   obtain ⟨x_0, h_x_0, hm⟩ := ob hm
   refine W_q [] (.n 8 (.u64 ((w_ * 256) + (UInt64.ofNat x_0.toNat))) (.s (.kk (.s .a)))) (qW (h_b.cx k_) h_x_0 rfl (.u8 x_0) rfl <| qe) (by kernel_rfl) ?_
   refine At_in <| At_go <| W_q [] (.n 9 (I (w64 (i - 1))) (.kkk .z)) qe (by kernel_rfl) ?_
   exact At_rd ((w_ * 256) + (UInt64.ofNat x_0.toNat), w64 (i - 1)) (Option.some.inj hm).symm ⟨(w_ * 256) + (UInt64.ofNat x_0.toNat), w64 (i - 1), rfl, rfl, k_⟩ (by kernel_rfl)
 rw [if_neg hc2] at hm
 refine W_exit (At_te (At_te (At_ie ?_)))
 have hm := exit_of hm hr0
 refine At_go <| W_seq <| W_q [] (.n 6 (.u64 w_) (.n 7 (I 0) .z)) qe (by kernel_rfl) ?_
 refine At_go <| W_ret ?_
 obtain rfl := Option.some.inj hm
 refine At_rt [.u64 w_, I 0] qe (by kernel_rfl) ?_
 exact ⟨rfl, k_⟩

-- quern/quernref03.IV
theorem c_r03_IV {F O : Nat → Prop} {w : World} (i : Int) (k : Cx F O w w []) (r : UInt64) (hm : m_r03_IV i = some r) :
    Calls Tryz.prog 124 (vals [I i]) w (fun e w' => e = .returned (SV.val (.u64 r)) ∧ Cx F O w w' []) := by
 unfold m_r03_IV at hm
 refine calls [I i] Tryz.func124 rfl (of_decide_eq_true (by kernel_rfl)) ?_
 refine W_seq <| W_q [] .a qe (by kernel_rfl) ?_
 refine At_go <| W_seq <| W_reg <| WLs 1 [] (.n 4 (.agg [.ar e64 (⟨[(7640891576956012808 : UInt64), (13503953896175478587 : UInt64), (4354685564936845355 : UInt64), (11912009170470909681 : UInt64), (5840696475078001361 : UInt64), (11170449401992604703 : UInt64), (2270897969802886507 : UInt64), (6620516959819538809 : UInt64)], rfl⟩ : Vec UInt64 8)]) .a) qe (by kernel_rfl) ?_
 refine WL_op <| Op_alloc [] 3 [.ar e64 (Vec.rep 8 (0 : UInt64))] (by kernel_rfl) k ?_
 intro g w_ k_
 refine WL_op <| Op_b [] 0 (.agg [.ar e64 (⟨[(7640891576956012808 : UInt64), (13503953896175478587 : UInt64), (4354685564936845355 : UInt64), (11912009170470909681 : UInt64), (5840696475078001361 : UInt64), (11170449401992604703 : UInt64), (2270897969802886507 : UInt64), (6620516959819538809 : UInt64)], rfl⟩ : Vec UInt64 8)]) [.ar e64 (⟨[(7640891576956012808 : UInt64), (13503953896175478587 : UInt64), (4354685564936845355 : UInt64), (11912009170470909681 : UInt64), (5840696475078001361 : UInt64), (11170449401992604703 : UInt64), (2270897969802886507 : UInt64), (6620516959819538809 : UInt64)], rfl⟩ : Vec UInt64 8)] (Pt.at g 0) k_ rfl .all (by kernel_rfl) (by kernel_rfl) ?_
 intro w_1 k_1
 refine WL_nil <| At_go <| W_seq ?_
 obtain ⟨x_0, h_x_0, hm⟩ := ob hm
 refine W_q [] (.n 2 (.u64 x_0) .z) (qp ((8 : Int) ≠ (0 : Int)) (by omega) <| qV (k_1.vrd 0 rfl e64 (⟨[(7640891576956012808 : UInt64), (13503953896175478587 : UInt64), (4354685564936845355 : UInt64), (11912009170470909681 : UInt64), (5840696475078001361 : UInt64), (11170449401992604703 : UInt64), (2270897969802886507 : UInt64), (6620516959819538809 : UInt64)], rfl⟩ : Vec UInt64 8) 0 (by kernel_rfl)) h_x_0 rfl (.u64 x_0) rfl <| qe) (by kernel_rfl) ?_
 refine At_go <| W_ret ?_
 obtain rfl := Option.some.inj hm
 refine At_rt [.u64 x_0] qe (by kernel_rfl) ?_
 have k_2 := k_1.sel .z
 exact ⟨rfl, k_2⟩

-- quern/quernref03.Start
theorem c_r03_Start {F O : Nat → Prop} {w : World} (block : List UInt8) (A_block : Option Addr) (n_block : Nat) (c_block : Nat) (h_block : Ro F w A_block (e8.all block)) (hn_block : block.length = n_block) (hc_block : n_block ≤ c_block) (k : Cx F O w w []) (r : (Vec UInt64 8 × Int)) (hm : m_r03_Start block = some r) :
    Calls Tryz.prog 109 (vals [sl A_block n_block c_block]) w (fun e w' => e = .returned (SV.val (.tup [.agg [.ar e64 r.1], I r.2])) ∧ Cx F O w w' []) := by
 unfold m_r03_Start at hm
 subst hn_block
 refine calls [sl A_block block.length c_block] Tryz.func109 rfl (of_decide_eq_true (by kernel_rfl)) ?_
 refine W_seq <| W_reg <| WL_op <| Op_alloc [] 2 [.ar e64 (Vec.rep 8 (0 : UInt64))] (by kernel_rfl) k ?_
 intro g w_ k_
 refine WLs 1 [] .a qe (by kernel_rfl) ?_
 refine WL_nil <| At_go <| W_seq <| W_reg <| WL_op <| Op_alloc [] 4 [.ar e64 (Vec.rep 8 (0 : UInt64))] (by kernel_rfl) k_ ?_
 intro g1 w_1 k_1
 refine WL_nil <| At_go <| W_seq <| W_seq <| W_q [] (.n 10 (.b (decide (((block.length : Nat) : Int) ≠ 64))) .a) qe (by kernel_rfl) ?_
 refine At_go <| W_condp (((block.length : Nat) : Int) ≠ 64) (by kernel_rfl) (fun hc => ?_) (fun hc => ?_)
 · rw [if_pos hc] at hm
   refine W_seq <| W_reg <| WLs 1 [] (.n 11 (.agg [.ar e64 (Vec.rep 8 (0 : UInt64))]) (.ss (.k .z))) (qT k_1 1 rfl 0 8 [.ar e64 (Vec.rep 8 (0 : UInt64))] (by kernel_rfl) (by decide) <| qe) (by kernel_rfl) ?_
   refine WL_op <| Op_b [] 0 (.agg [.ar e64 (Vec.rep 8 (0 : UInt64))]) [.ar e64 (Vec.rep 8 (0 : UInt64))] (Pt.at g 0) k_1 rfl .all (by kernel_rfl) (by kernel_rfl) ?_
   intro w_2 k_2
   have k_3 := k_2.sel (.k .z)
   refine WLs 1 [] (.n 3 (I 1) (.s .a)) qe (by kernel_rfl) ?_
   refine WL_nil <| At_go <| W_ret (At_tr ?_)
   obtain rfl := Option.some.inj hm
   refine At_rt [.agg [.ar e64 (Vec.rep 8 (0 : UInt64))], I 1] (qo (.agg [.ar e64 (Vec.rep 8 (0 : UInt64))]) <| qc (fun w => Rd w (some ⟨g, 0, none⟩) (SV.cl [.ar e64 (Vec.rep 8 (0 : UInt64))])) (k_3.brd 0 rfl) <| qe) (by kernel_rfl) ?_
   have k_4 := k_3.sel .z
   exact ⟨rfl, k_4⟩
 rw [if_neg hc] at hm
 refine W_skip <| At_go <| W_seq <| W_seq <| W_q [] (.n 5 (I 0) (.s .a)) qe (by kernel_rfl) ?_
 refine At_go <| W_block <| W_lp (m_r03_Start_l0 block) (fun s L wr => ∃ (h : Vec UInt64 8) (i : Int), (h, i) = s ∧ L = [(0, sl A_block block.length c_block), (2, pt g 0), (4, pt g1 0), (5, I i)] ∧ Cx F O w wr [Bx 150 g [.ar e64 (Vec.rep 8 (0 : UInt64))], Bx 150 g1 [.ar e64 h]]) ((Vec.rep 8 (0 : UInt64)), (0 : Int)) r hm ⟨(Vec.rep 8 (0 : UInt64)), (0 : Int), rfl, rfl, k_1⟩ (by kernel_rfl) ?_
 intro s0_ L_ w_3 y0 hrel hstep hr0
 obtain ⟨h, i, rfl, rfl, k_5⟩ := hrel
 have hm := hstep; simp only [m_r03_Start_l0] at hm
 clear hstep
 refine W_seq <| W_seq <| W_q [] (.n 13 (.b (decide (i < 8))) .a) qe (by kernel_rfl) ?_
 refine At_go <| W_condp (i < 8) (by kernel_rfl) (fun hc1 => ?_) (fun hc1 => ?_)
 · rw [if_pos hc1] at hm
   refine W_skip <| At_go <| W_seq <| W_block <| W_seq <| W_reg <| WLs 3 [] (.n 17 (sl A_block block.length c_block) (.n 19 (I (w64 (8 * i))) (.s .a))) qe (by kernel_rfl) ?_
   refine WL_op ?_
   obtain ⟨r_, h_r_, hm⟩ := ob hm
   refine Op_call [] 20 _ yz_go111 (by kernel_rfl) (c_r01_Load (F := N0) (O := N0) _ _ _ _ _ _ (Ro.n0 (h_block.cx k_5)) rfl hc_block (Cx.refl _) _ h_r_) ?_
   rintro e_ w_4 ⟨rfl, k_6⟩
   have k_7 := k_5.call k_6
   refine ⟨.tup [.u64 r_.1, I r_.2], rfl, ?_⟩
   refine WLs 5 [] (.n 6 (.u64 r_.1) (.sss .a)) qe (by kernel_rfl) ?_
   refine WL_nil <| At_go <| W_reg <| WLs 2 [] (.n 23 (I i) (.n 24 (I i) .a)) qe (by kernel_rfl) ?_
   refine WL_op ?_
   obtain ⟨r_1, h_r_1, hm⟩ := ob hm
   refine Op_call [] 25 _ yz_go124 (by kernel_rfl) (c_r03_IV (F := N0) (O := N0) _ (Cx.refl _) _ h_r_1) ?_
   rintro e_ w_5 ⟨rfl, k_8⟩
   have k_9 := k_7.call k_8
   refine ⟨.u64 r_1, rfl, ?_⟩
   obtain ⟨x_0, h_x_0, hm⟩ := ob hm
   refine WLs 3 [] (.n 27 (.u64 (r_1 ^^^ r_.1)) (.n 28 (.v (.pointer (ixA (some ⟨g1, 0, none⟩) i 1))) (.ssss .a))) (qI g1 0 h_x_0 <| qe) (by kernel_rfl) ?_
   refine WL_op ?_
   obtain ⟨v, h_v, hm⟩ := nm hm
   refine Op_vs (E := e64) (kk := 0) [] 1 (.u64 (r_1 ^^^ r_.1)) [.u64 (r_1 ^^^ r_.1)] h_v h_x_0 (Pt.ix0 (Pt.at g1 0) i 1) k_9 rfl .h rfl (by kernel_rfl) (by kernel_rfl) ?_
   intro w_6 k_10
   refine WL_nil <| At_in <| At_go <| W_q [] (.n 5 (I (w64 (i + 1))) (.ss (.kkk .z))) qe (by kernel_rfl) ?_
   exact At_rd (v, w64 (i + 1)) (Option.some.inj hm).symm ⟨v, w64 (i + 1), rfl, rfl, k_10⟩ (by kernel_rfl)
 rw [if_neg hc1] at hm
 refine W_exit (At_te (At_te (At_ie ?_)))
 have hm := exit_of hm hr0
 refine At_go <| W_seq <| W_reg <| WLs 1 [] (.n 29 (.agg [.ar e64 h]) (.ss (.k .z))) (qT k_5 1 rfl 0 8 [.ar e64 h] (by kernel_rfl) (by decide) <| qe) (by kernel_rfl) ?_
 refine WL_op <| Op_b [] 0 (.agg [.ar e64 h]) [.ar e64 h] (Pt.at g 0) k_5 rfl .all (by kernel_rfl) (by kernel_rfl) ?_
 intro w_7 k_11
 have k_12 := k_11.sel (.k .z)
 refine WLs 1 [] (.n 3 (I 0) (.s .a)) qe (by kernel_rfl) ?_
 refine WL_nil <| At_go <| W_ret ?_
 obtain rfl := Option.some.inj hm
 refine At_rt [.agg [.ar e64 h], I 0] (qo (.agg [.ar e64 h]) <| qc (fun w => Rd w (some ⟨g, 0, none⟩) (SV.cl [.ar e64 h])) (k_12.brd 0 rfl) <| qe) (by kernel_rfl) ?_
 have k_13 := k_12.sel .z
 exact ⟨rfl, k_13⟩

-- quern/quernref04.IV
theorem c_r04_IV {F O : Nat → Prop} {w : World} (k : Cx F O w w []) (r : (Vec UInt32 8)) (hm : m_r04_IV = some r) :
    Calls Tryz.prog 125 (vals []) w (fun e w' => e = .returned (SV.val (.agg [.ar e32 r])) ∧ Cx F O w w' []) := by
 unfold m_r04_IV at hm
 refine calls [] Tryz.func125 rfl (of_decide_eq_true (by kernel_rfl)) ?_
 refine W_seq <| W_reg <| WL_op <| Op_alloc [] 0 [.ar e32 (Vec.rep 8 (0 : UInt32))] (by kernel_rfl) k ?_
 intro g w_ k_
 refine WL_nil <| At_go <| W_seq <| W_reg <| WLs 1 [] (.n 1 (.agg [.ar e32 (⟨[(1779033703 : UInt32), (3144134277 : UInt32), (1013904242 : UInt32), (2773480762 : UInt32), (1359893119 : UInt32), (2600822924 : UInt32), (528734635 : UInt32), (1541459225 : UInt32)], rfl⟩ : Vec UInt32 8)]) .a) qe (by kernel_rfl) ?_
 refine WL_op <| Op_b [] 0 (.agg [.ar e32 (⟨[(1779033703 : UInt32), (3144134277 : UInt32), (1013904242 : UInt32), (2773480762 : UInt32), (1359893119 : UInt32), (2600822924 : UInt32), (528734635 : UInt32), (1541459225 : UInt32)], rfl⟩ : Vec UInt32 8)]) [.ar e32 (⟨[(1779033703 : UInt32), (3144134277 : UInt32), (1013904242 : UInt32), (2773480762 : UInt32), (1359893119 : UInt32), (2600822924 : UInt32), (528734635 : UInt32), (1541459225 : UInt32)], rfl⟩ : Vec UInt32 8)] (Pt.at g 0) k_ rfl .all (by kernel_rfl) (by kernel_rfl) ?_
 intro w_1 k_1
 refine WL_nil <| At_go <| W_ret ?_
 obtain rfl := Option.some.inj hm
 refine At_rt [.agg [.ar e32 (⟨[(1779033703 : UInt32), (3144134277 : UInt32), (1013904242 : UInt32), (2773480762 : UInt32), (1359893119 : UInt32), (2600822924 : UInt32), (528734635 : UInt32), (1541459225 : UInt32)], rfl⟩ : Vec UInt32 8)]] (qo (.agg [.ar e32 (⟨[(1779033703 : UInt32), (3144134277 : UInt32), (1013904242 : UInt32), (2773480762 : UInt32), (1359893119 : UInt32), (2600822924 : UInt32), (528734635 : UInt32), (1541459225 : UInt32)], rfl⟩ : Vec UInt32 8)]) <| qc (fun w => Rd w (some ⟨g, 0, none⟩) (SV.cl [.ar e32 (⟨[(1779033703 : UInt32), (3144134277 : UInt32), (1013904242 : UInt32), (2773480762 : UInt32), (1359893119 : UInt32), (2600822924 : UInt32), (528734635 : UInt32), (1541459225 : UInt32)], rfl⟩ : Vec UInt32 8)])) (k_1.brd 0 rfl) <| qe) (by kernel_rfl) ?_
 have k_2 := k_1.sel .z
 exact ⟨rfl, k_2⟩

-- quern/quernref04.load
theorem c_r04_load {F O : Nat → Prop} {w : World} (b : List UInt8) (at_ : Int) (A_b : Option Addr) (n_b : Nat) (c_b : Nat) (h_b : Ro F w A_b (e8.all b)) (hn_b : b.length = n_b) (hc_b : n_b ≤ c_b) (k : Cx F O w w []) (r : UInt32) (hm : m_r04_load b at_ = some r) :
    Calls Tryz.prog 114 (vals [sl A_b n_b c_b, I at_]) w (fun e w' => e = .returned (SV.val (.u32 r)) ∧ Cx F O w w' []) := by
 unfold m_r04_load at hm
 subst hn_b
 refine calls [sl A_b b.length c_b, I at_] Tryz.func114 rfl (of_decide_eq_true (by kernel_rfl)) ?_
 refine W_seq <| W_q [] .a qe (by kernel_rfl) ?_
 refine At_go <| W_seq ?_
 obtain ⟨x_0, h_x_0, hm⟩ := ob hm
 obtain ⟨x_1, h_x_1, hm⟩ := ob hm
 obtain ⟨x_2, h_x_2, hm⟩ := ob hm
 obtain ⟨x_3, h_x_3, hm⟩ := ob hm
 refine W_d yz_mixed (by kernel_rfl) (.n 4 (.u32 ((((UInt32.ofNat x_0.toNat) + (shl32 (UInt32.ofNat x_1.toNat) ((8 : UInt64).toNat))) + (shl32 (UInt32.ofNat x_2.toNat) ((16 : UInt64).toNat))) + (shl32 (UInt32.ofNat x_3.toNat) ((24 : UInt64).toNat)))) .z) (fun m => qW (h_b.cx (k.drew m)) h_x_0 rfl (.u8 x_0) rfl <| qW (h_b.cx (k.drew m)) h_x_1 rfl (.u8 x_1) rfl <| qW (h_b.cx (k.drew m)) h_x_2 rfl (.u8 x_2) rfl <| qW (h_b.cx (k.drew m)) h_x_3 rfl (.u8 x_3) rfl <| qe) (by kernel_rfl) (fun m_ => ?_)
 have k_ := k.drew m_
 refine At_go <| W_ret ?_
 obtain rfl := Option.some.inj hm
 refine At_rt [.u32 ((((UInt32.ofNat x_0.toNat) + (shl32 (UInt32.ofNat x_1.toNat) ((8 : UInt64).toNat))) + (shl32 (UInt32.ofNat x_2.toNat) ((16 : UInt64).toNat))) + (shl32 (UInt32.ofNat x_3.toNat) ((24 : UInt64).toNat)))] qe (by kernel_rfl) ?_
 exact ⟨rfl, k_⟩

-- quern/quernref04.Start
theorem c_r04_Start {F O : Nat → Prop} {w : World} (block : List UInt8) (A_block : Option Addr) (n_block : Nat) (c_block : Nat) (h_block : Ro F w A_block (e8.all block)) (hn_block : block.length = n_block) (hc_block : n_block ≤ c_block) (k : Cx F O w w []) (r : (Vec UInt32 8 × Int)) (hm : m_r04_Start block = some r) :
    Calls Tryz.prog 110 (vals [sl A_block n_block c_block]) w (fun e w' => e = .returned (SV.val (.tup [.agg [.ar e32 r.1], I r.2])) ∧ Cx F O w w' []) := by
 unfold m_r04_Start at hm
 subst hn_block
 refine calls [sl A_block block.length c_block] Tryz.func110 rfl (of_decide_eq_true (by kernel_rfl)) ?_
 refine W_seq <| W_reg <| WL_op <| Op_alloc [] 2 [.ar e32 (Vec.rep 8 (0 : UInt32))] (by kernel_rfl) k ?_
 intro g w_ k_
 refine WLs 1 [] .a qe (by kernel_rfl) ?_
 refine WL_nil <| At_go <| W_seq <| W_reg <| WL_op <| Op_alloc [] 4 [.ar e32 (Vec.rep 8 (0 : UInt32))] (by kernel_rfl) k_ ?_
 intro g1 w_1 k_1
 refine WL_nil <| At_go <| W_seq <| W_block <| W_seq <| W_q [] (.n 6 (.b (decide (((block.length : Nat) : Int) < 32))) .a) qe (by kernel_rfl) ?_
 refine At_go <| W_condp (((block.length : Nat) : Int) < 32) (by kernel_rfl) (fun hc => ?_) (fun hc => ?_)
 · rw [if_pos hc] at hm
   refine W_seq <| W_reg <| WLs 1 [] (.n 10 (.agg [.ar e32 (Vec.rep 8 (0 : UInt32))]) (.ss (.k .z))) (qT k_1 1 rfl 0 8 [.ar e32 (Vec.rep 8 (0 : UInt32))] (by kernel_rfl) (by decide) <| qe) (by kernel_rfl) ?_
   refine WL_op <| Op_b [] 0 (.agg [.ar e32 (Vec.rep 8 (0 : UInt32))]) [.ar e32 (Vec.rep 8 (0 : UInt32))] (Pt.at g 0) k_1 rfl .all (by kernel_rfl) (by kernel_rfl) ?_
   intro w_2 k_2
   have k_3 := k_2.sel (.k .z)
   refine WLs 1 [] (.n 3 (I 3) (.s .a)) qe (by kernel_rfl) ?_
   refine WL_nil <| At_go <| W_ret (At_ir (At_tr ?_))
   obtain rfl := Option.some.inj hm
   refine At_rt [.agg [.ar e32 (Vec.rep 8 (0 : UInt32))], I 3] (qo (.agg [.ar e32 (Vec.rep 8 (0 : UInt32))]) <| qc (fun w => Rd w (some ⟨g, 0, none⟩) (SV.cl [.ar e32 (Vec.rep 8 (0 : UInt32))])) (k_3.brd 0 rfl) <| qe) (by kernel_rfl) ?_
   have k_4 := k_3.sel .z
   exact ⟨rfl, k_4⟩
 rw [if_neg hc] at hm
 refine W_seq <| W_q [] (.n 11 (.b (decide (32 < ((block.length : Nat) : Int)))) (.s .a)) qe (by kernel_rfl) ?_
 refine At_go <| W_condp (32 < ((block.length : Nat) : Int)) (by kernel_rfl) (fun hc1 => ?_) (fun hc1 => ?_)
 · rw [if_pos hc1] at hm
   refine W_seq <| W_reg <| WLs 1 [] (.n 15 (.agg [.ar e32 (Vec.rep 8 (0 : UInt32))]) (.ss (.k .z))) (qT k_1 1 rfl 0 8 [.ar e32 (Vec.rep 8 (0 : UInt32))] (by kernel_rfl) (by decide) <| qe) (by kernel_rfl) ?_
   refine WL_op <| Op_b [] 0 (.agg [.ar e32 (Vec.rep 8 (0 : UInt32))]) [.ar e32 (Vec.rep 8 (0 : UInt32))] (Pt.at g 0) k_1 rfl .all (by kernel_rfl) (by kernel_rfl) ?_
   intro w_3 k_5
   have k_6 := k_5.sel (.k .z)
   refine WLs 1 [] (.n 3 (I 2) (.s .a)) qe (by kernel_rfl) ?_
   refine WL_nil <| At_go <| W_ret (At_ir (At_tr ?_))
   obtain rfl := Option.some.inj hm
   refine At_rt [.agg [.ar e32 (Vec.rep 8 (0 : UInt32))], I 2] (qo (.agg [.ar e32 (Vec.rep 8 (0 : UInt32))]) <| qc (fun w => Rd w (some ⟨g, 0, none⟩) (SV.cl [.ar e32 (Vec.rep 8 (0 : UInt32))])) (k_6.brd 0 rfl) <| qe) (by kernel_rfl) ?_
   have k_7 := k_6.sel .z
   exact ⟨rfl, k_7⟩
 rw [if_neg hc1] at hm
 refine W_skip <| At_in <| At_go <| W_seq <| W_reg <| WL_op ?_
 obtain ⟨r_, h_r_, hm⟩ := ob hm
 refine Op_call [] 16 _ yz_go125 (by kernel_rfl) (c_r04_IV (F := N0) (O := N0)  (Cx.refl _) _ h_r_) ?_
 rintro e_ w_4 ⟨rfl, k_8⟩
 have k_9 := k_1.call k_8
 refine ⟨.agg [.ar e32 r_], rfl, ?_⟩
 refine WL_op <| Op_b [] 1 (.agg [.ar e32 r_]) [.ar e32 r_] (Pt.at g1 0) k_9 rfl .all (by kernel_rfl) (by kernel_rfl) ?_
 intro w_5 k_10
 refine WL_nil <| At_go <| W_seq <| W_seq <| W_q [] (.n 5 (I 0) (.ss .a)) qe (by kernel_rfl) ?_
 refine At_go <| W_block <| W_lp (m_r04_Start_l0 block) (fun s L wr => ∃ (h : Vec UInt32 8) (i : Int), (h, i) = s ∧ L = [(0, sl A_block block.length c_block), (2, pt g 0), (4, pt g1 0), (5, I i)] ∧ Cx F O w wr [Bx 154 g [.ar e32 (Vec.rep 8 (0 : UInt32))], Bx 154 g1 [.ar e32 h]]) (r_, (0 : Int)) r hm ⟨r_, (0 : Int), rfl, rfl, k_10⟩ (by kernel_rfl) ?_
 intro s0_ L_ w_6 y0 hrel hstep hr0
 obtain ⟨h, i, rfl, rfl, k_11⟩ := hrel
 have hm := hstep; simp only [m_r04_Start_l0] at hm
 clear hstep
 refine W_seq <| W_seq <| W_q [] (.n 18 (.b (decide (i < 8))) .a) qe (by kernel_rfl) ?_
 refine At_go <| W_condp (i < 8) (by kernel_rfl) (fun hc2 => ?_) (fun hc2 => ?_)
 · rw [if_pos hc2] at hm
   refine W_skip <| At_go <| W_seq <| W_block ?_
   have k_12 := k_11.drew 1
   refine W_m yz_mixed (.q 4 0 (.q 0 1 (.q 1 1 (.q 2 1 (.q 3 1 (.q 5 1 (.q 6 0 (.op 7 (.q 8 1 (.q 9 1 (.op 10 .nil))))))))))) [7, 10] k_12 (.c (.kk .e) (.c (.k .z) .l)) (by kernel_rfl) (fun _ => ?_)
   refine MXq 1 0 [] (.n 25 (sl A_block block.length c_block) (.s .a)) (fun x hx => qe) (by kernel_rfl) (fun _ => ?_)
   obtain ⟨x_0, h_x_0, hm⟩ := ob hm
   refine MXq 5 1 [] (.n 21 (I i) (.n 24 (.u32 x_0) (.n 26 (I i) .a))) (fun x hx => qV (hx.vrd 1 rfl e32 h 0 (by kernel_rfl)) h_x_0 rfl (.u32 x_0) rfl <| qe) (by kernel_rfl) (fun _ => ?_)
   refine MXq 1 0 [] (.n 27 (I (w64 (4 * i))) (.kk (.s .a))) (fun x hx => qe) (by kernel_rfl) (fun _ => ?_)
   refine MX_op (by kernel_rfl) rfl ?_
   obtain ⟨r_1, h_r_1, hm⟩ := ob hm
   refine Op_call [] 28 _ yz_go114 (by kernel_rfl) (c_r04_load (F := N0) (O := N0) _ _ _ _ _ (Ro.n0 (h_block.cx k_12)) rfl hc_block (Cx.refl _) _ h_r_1) ?_
   rintro e_ w_7 ⟨rfl, k_13⟩
   have k_14 := k_12.call k_13
   refine ⟨.u32 r_1, rfl, ?_⟩
   refine ⟨k_14, fun _ => ?_⟩
   obtain ⟨x_2, h_x_2, hm⟩ := ob hm
   refine MXq 2 1 [] (.n 29 (.u32 (x_0 ^^^ r_1)) (.n 30 (.v (.pointer (ixA (some ⟨g1, 0, none⟩) i 1))) (.ssss (.s .a)))) (fun x hx => qI g1 0 h_x_2 <| qe) (by kernel_rfl) (fun _ => ?_)
   refine MX_op (by kernel_rfl) rfl ?_
   obtain ⟨v, h_v, hm⟩ := nm hm
   refine Op_vs (E := e32) (kk := 0) [] 1 (.u32 (x_0 ^^^ r_1)) [.u32 (x_0 ^^^ r_1)] h_v h_x_2 (Pt.ix0 (Pt.at g1 0) i 1) k_14 rfl .h rfl (by kernel_rfl) (by kernel_rfl) ?_
   intro w_8 k_15
   refine ⟨(k_15.sel (.k .z)), fun _ => ?_⟩
   refine MX_nil <| At_in <| At_go <| W_q [] (.n 5 (I (w64 (i + 1))) (.ss (.kkk .z))) qe (by kernel_rfl) ?_
   exact At_rd (v, w64 (i + 1)) (Option.some.inj hm).symm ⟨v, w64 (i + 1), rfl, rfl, k_15⟩ (by kernel_rfl)
 rw [if_neg hc2] at hm
 refine W_exit (At_te (At_te (At_ie ?_)))
 have hm := exit_of hm hr0
 refine At_go <| W_seq <| W_reg <| WLs 1 [] (.n 31 (.agg [.ar e32 h]) (.ss (.k .z))) (qT k_11 1 rfl 0 8 [.ar e32 h] (by kernel_rfl) (by decide) <| qe) (by kernel_rfl) ?_
 refine WL_op <| Op_b [] 0 (.agg [.ar e32 h]) [.ar e32 h] (Pt.at g 0) k_11 rfl .all (by kernel_rfl) (by kernel_rfl) ?_
 intro w_9 k_16
 have k_17 := k_16.sel (.k .z)
 refine WLs 1 [] (.n 3 (I 0) (.s .a)) qe (by kernel_rfl) ?_
 refine WL_nil <| At_go <| W_ret ?_
 obtain rfl := Option.some.inj hm
 refine At_rt [.agg [.ar e32 h], I 0] (qo (.agg [.ar e32 h]) <| qc (fun w => Rd w (some ⟨g, 0, none⟩) (SV.cl [.ar e32 h])) (k_17.brd 0 rfl) <| qe) (by kernel_rfl) ?_
 have k_18 := k_17.sel .z
 exact ⟨rfl, k_18⟩

-- (*quern/quernref05.Node).first
theorem c_r05_Node_first {F O : Nat → Prop} {w : World} (n_Kind : Int) (n_P_Digest : Int) (n_P_Key : Int) (n_P_Fanout : Int) (n_P_Depth : Int) (n_P_Leaf : UInt32) (n_P_Offset : UInt64) (n_P_Xof : UInt32) (n_P_NodeDepth : Int) (n_P_Inner : Int) (n_P_Salt : List UInt8) (n_P_Personal : List UInt8) (n_Key : List UInt8) (n_Last : Bool) (n_From : Vec UInt64 16) (n_Old : Bool) (n_Lo : UInt64) (n_Hi : UInt64) (n_Msg : List UInt8) (n_Count : UInt64) (g_n : Nat) (A_n_P_Salt : Option Addr) (n_n_P_Salt : Nat) (c_n_P_Salt : Nat) (A_n_P_Personal : Option Addr) (n_n_P_Personal : Nat) (c_n_P_Personal : Nat) (A_n_Key : Option Addr) (n_n_Key : Nat) (c_n_Key : Nat) (A_n_Msg : Option Addr) (n_n_Msg : Nat) (c_n_Msg : Nat) (h_n_P_Salt : Ro F w A_n_P_Salt (e8.all n_P_Salt)) (hn_n_P_Salt : n_P_Salt.length = n_n_P_Salt) (hc_n_P_Salt : n_n_P_Salt ≤ c_n_P_Salt) (h_n_P_Personal : Ro F w A_n_P_Personal (e8.all n_P_Personal)) (hn_n_P_Personal : n_P_Personal.length = n_n_P_Personal) (hc_n_P_Personal : n_n_P_Personal ≤ c_n_P_Personal) (h_n_Key : Ro F w A_n_Key (e8.all n_Key)) (hn_n_Key : n_Key.length = n_n_Key) (hc_n_Key : n_n_Key ≤ c_n_Key) (k : Cx F O w w [Bx 110 g_n [I n_Kind, I n_P_Digest, I n_P_Key, I n_P_Fanout, I n_P_Depth, .u32 n_P_Leaf, .u64 n_P_Offset, .u32 n_P_Xof, I n_P_NodeDepth, I n_P_Inner, sl A_n_P_Salt n_n_P_Salt c_n_P_Salt, sl A_n_P_Personal n_n_P_Personal c_n_P_Personal, sl A_n_Key n_n_Key c_n_Key, .b n_Last, .ar e64 n_From, .b n_Old, .u64 n_Lo, .u64 n_Hi, sl A_n_Msg n_n_Msg c_n_Msg, .u64 n_Count], Ow e8 A_n_Msg n_n_Msg c_n_Msg n_Msg]) (r : (Vec UInt64 16 × Int × Int × Int × Int × Int × UInt32 × UInt64 × UInt32 × Int × Int × Bool × Vec UInt64 16 × Bool × UInt64 × UInt64 × List UInt8 × UInt64)) (hm : m_r05_Node_first n_Kind n_P_Digest n_P_Key n_P_Fanout n_P_Depth n_P_Leaf n_P_Offset n_P_Xof n_P_NodeDepth n_P_Inner n_P_Salt n_P_Personal n_Key n_Last n_From n_Old n_Lo n_Hi n_Msg n_Count = some r) :
    Calls Tryz.prog 93 (vals [pt g_n 0]) w (fun e w' => ∃ A n c, r.2.2.2.2.2.2.2.2.2.2.2.2.2.2.2.2.1.length = n ∧ e = .returned (SV.val (.agg [.ar e64 r.1])) ∧ Cx F O w w' [Bx 110 g_n [I r.2.1, I r.2.2.1, I r.2.2.2.1, I r.2.2.2.2.1, I r.2.2.2.2.2.1, .u32 r.2.2.2.2.2.2.1, .u64 r.2.2.2.2.2.2.2.1, .u32 r.2.2.2.2.2.2.2.2.1, I r.2.2.2.2.2.2.2.2.2.1, I r.2.2.2.2.2.2.2.2.2.2.1, sl A_n_P_Salt n_n_P_Salt c_n_P_Salt, sl A_n_P_Personal n_n_P_Personal c_n_P_Personal, sl A_n_Key n_n_Key c_n_Key, .b r.2.2.2.2.2.2.2.2.2.2.2.1, .ar e64 r.2.2.2.2.2.2.2.2.2.2.2.2.1, .b r.2.2.2.2.2.2.2.2.2.2.2.2.2.1, .u64 r.2.2.2.2.2.2.2.2.2.2.2.2.2.2.1, .u64 r.2.2.2.2.2.2.2.2.2.2.2.2.2.2.2.1, sl A n c, .u64 r.2.2.2.2.2.2.2.2.2.2.2.2.2.2.2.2.2], Ow e8 A n c r.2.2.2.2.2.2.2.2.2.2.2.2.2.2.2.2.1]) := by
 unfold m_r05_Node_first at hm
 subst hn_n_P_Salt
 subst hn_n_P_Personal
 subst hn_n_Key
 obtain rfl := k.len 1 rfl
 refine calls [pt g_n 0] Tryz.func93 rfl (of_decide_eq_true (by kernel_rfl)) ?_
 refine W_seq <| W_reg <| WL_op <| Op_alloc [] 2 [.ar e64 (Vec.rep 16 (0 : UInt64))] (by kernel_rfl) k ?_
 intro g w_ k_
 refine WL_nil <| At_go <| W_seq <| W_reg <| WL_op <| Op_alloc [] 3 [.ar e64 (Vec.rep 16 (0 : UInt64))] (by kernel_rfl) k_ ?_
 intro g1 w_1 k_1
 refine WL_nil <| At_go <| W_seq <| W_seq <| W_q [] (.n 15 (.b n_Old) .a) (qs g_n 0 <| qs g_n 0 <| qB k_1 0 rfl 30 (.b n_Old) (by kernel_rfl) <| qe) (by kernel_rfl) ?_
 refine At_go <| W_cond n_Old (by kernel_rfl) (fun hc => ?_) (fun hc => ?_)
 · rw [if_pos hc] at hm
   refine W_seq <| W_reg <| WLs 4 [] (.n 19 (.agg [.ar e64 n_From]) (.ss (.k .z))) (qs g_n 0 <| qs g_n 0 <| qT k_1 0 rfl 14 16 [.ar e64 n_From] (by kernel_rfl) (by decide) <| qe) (by kernel_rfl) ?_
   refine WL_op <| Op_b [] 2 (.agg [.ar e64 n_From]) [.ar e64 n_From] (Pt.at g 0) k_1 rfl .all (by kernel_rfl) (by kernel_rfl) ?_
   intro w_2 k_2
   have k_3 := k_2.sel (.kk (.k .z))
   refine WL_nil <| At_go <| W_ret (At_tr ?_)
   obtain rfl := Option.some.inj hm
   refine At_rt [.agg [.ar e64 n_From]] (qo (.agg [.ar e64 n_From]) <| qc (fun w => Rd w (some ⟨g, 0, none⟩) (SV.cl [.ar e64 n_From])) (k_3.brd 2 rfl) <| qe) (by kernel_rfl) ?_
   have k_4 := k_3.sel (.kk .z)
   exact ⟨A_n_Msg, n_Msg.length, c_n_Msg, k_4.len 1 rfl, rfl, k_4⟩
 rw [if_neg (by rw [hc]; decide)] at hm
 refine W_skip <| At_go <| W_seq ?_
 have k_5 := k_1.drew 1
 refine W_m yz_mixed (.q 0 1 (.q 1 1 (.q 2 1 (.q 3 0 (.q 4 1 (.q 5 1 (.q 6 1 (.q 7 0 (.op 8 (.q 9 1 (.q 10 1 (.q 11 1 (.q 12 1 (.q 13 1 .nil)))))))))))))) [8] k_5 (.c (.kkkk .e) .l) (by kernel_rfl) (fun _ => ?_)
 refine MXq 3 1 [] (.n 23 (pt g_n 0) (.s .a)) (fun x hx => qs g_n 0 <| qs g_n 0 <| qe) (by kernel_rfl) (fun _ => ?_)
 refine MXq 1 0 [] (.n 24 (I n_Kind) (.s .a)) (fun x hx => qB hx 0 rfl 0 (I n_Kind) (by kernel_rfl) <| qe) (by kernel_rfl) (fun _ => ?_)
 refine MXq 3 1 [] (.n 27 (pt g_n 1) .a) (fun x hx => qs g_n 0 <| qs g_n 0 <| qe) (by kernel_rfl) (fun _ => ?_)
 refine MXq 1 0 [] (.n 28 (.agg [I n_P_Digest, I n_P_Key, I n_P_Fanout, I n_P_Depth, .u32 n_P_Leaf, .u64 n_P_Offset, .u32 n_P_Xof, I n_P_NodeDepth, I n_P_Inner, sl A_n_P_Salt n_P_Salt.length c_n_P_Salt, sl A_n_P_Personal n_P_Personal.length c_n_P_Personal]) (.s .a)) (fun x hx => qT hx 0 rfl 1 11 [I n_P_Digest, I n_P_Key, I n_P_Fanout, I n_P_Depth, .u32 n_P_Leaf, .u64 n_P_Offset, .u32 n_P_Xof, I n_P_NodeDepth, I n_P_Inner, sl A_n_P_Salt n_P_Salt.length c_n_P_Salt, sl A_n_P_Personal n_P_Personal.length c_n_P_Personal] (by kernel_rfl) (by decide) <| qe) (by kernel_rfl) (fun _ => ?_)
 refine MX_op (by kernel_rfl) rfl ?_
 obtain ⟨r_, h_r_, hm⟩ := ob hm
 refine Op_call [] 29 _ yz_go108 (by kernel_rfl) (c_r02_Encode (F := N0) (O := N0) _ _ _ _ _ _ _ _ _ _ _ _ _ _ _ _ _ _ (Ro.n0 (h_n_P_Salt.cx k_5)) rfl hc_n_P_Salt (Ro.n0 (h_n_P_Personal.cx k_5)) rfl hc_n_P_Personal (Cx.refl _) _ h_r_) ?_
 rintro e_ w_3 ⟨A0, _, c0, rfl, rfl, k_6⟩
 have k_7 := k_5.call k_6
 refine ⟨.tup [sl A0 r_.1.length c0, I r_.2], rfl, ?_⟩
 refine ⟨(k_7.sel (.kkkk .z)), fun _ => ?_⟩
 refine MXq 5 1 [] (.n 4 (sl A0 r_.1.length c0) (.sss .a)) (fun x hx => qe) (by kernel_rfl) (fun _ => ?_)
 refine MX_nil <| At_go <| W_seq <| W_seq <| W_q [] (.n 36 (.b (decide (n_Kind = 1))) (.kkk .z)) (qs g_n 0 <| qs g_n 0 <| qB k_7 0 rfl 0 (I n_Kind) (by kernel_rfl) <| qe) (by kernel_rfl) ?_
 refine At_go <| W_condp (n_Kind = 1) (by kernel_rfl) (fun hc1 => ?_) (fun hc1 => ?_)
 · rw [if_pos hc1] at hm
   refine W_seq <| W_reg <| WLs 1 [] (.n 38 (sl A0 r_.1.length c0) (.ss .a)) qe (by kernel_rfl) ?_
   refine WL_op ?_
   obtain ⟨r_1, h_r_1, hm⟩ := ob hm
   refine Op_call [] 39 _ yz_go109 (by kernel_rfl) (c_r03_Start (F := N0) (O := N0) _ _ _ _ (Ro.n0 (k_7.rd 4 rfl)) (k_7.len 4 rfl) (k_7.lec 4 rfl) (Cx.refl _) _ h_r_1) ?_
   rintro e_ w_4 ⟨rfl, k_8⟩
   have k_9 := k_7.call k_8
   refine ⟨.tup [.agg [.ar e64 r_1.1], I r_1.2], rfl, ?_⟩
   have k_10 := k_9.sel (.kkkk .z)
   refine WLs 3 [] (.n 40 (.agg [.ar e64 r_1.1]) (.n 41 (I r_1.2) (.ss .a))) qe (by kernel_rfl) ?_
   refine WL_op ?_
   have k_11 := k_10.sel (.kkkk .e)
   refine Op_alloc [] 6 [.ar e64 (Vec.rep 8 (0 : UInt64))] (by kernel_rfl) k_11 ?_
   intro g2 w_5 k_12
   refine WL_op <| Op_b [] 4 (.agg [.ar e64 r_1.1]) [.ar e64 r_1.1] (Pt.at g2 0) k_12 rfl .all (by kernel_rfl) (by kernel_rfl) ?_
   intro w_6 k_13
   refine WLs 1 [] (.k (.ss .a)) qe (by kernel_rfl) ?_
   refine WL_nil <| At_go <| W_seq <| W_seq <| W_q [] (.n 8 (I 0) .a) qe (by kernel_rfl) ?_
   refine At_go <| W_block ?_
   have k_15 := ((((k_13.pk (.t .h)).pk (.t .h)).pk (.t (.t (.t (.t .h))))).pk (.t (.t (.t (.t .h))))).pk (.t (.t (.t (.t .h))))
   refine W_lp (m_r05_Node_first_l0 n_Kind n_P_Digest n_P_Key n_P_Fanout n_P_Depth n_P_Leaf n_P_Offset n_P_Xof n_P_NodeDepth n_P_Inner n_Last n_From n_Old n_Lo n_Hi n_Msg n_Count r_1) (fun s L wr => ∃ (h : Vec UInt64 16) (i : Int), (h, i) = s ∧ L = [(2, pt g 0), (3, pt g1 0), (6, pt g2 0), (8, I i)] ∧ Cx F O w wr [Bx 108 g [.ar e64 (Vec.rep 16 (0 : UInt64))], Bx 108 g1 [.ar e64 h], Bx 150 g2 [.ar e64 r_1.1], Bx 110 g_n [I n_Kind, I n_P_Digest, I n_P_Key, I n_P_Fanout, I n_P_Depth, .u32 n_P_Leaf, .u64 n_P_Offset, .u32 n_P_Xof, I n_P_NodeDepth, I n_P_Inner, sl A_n_P_Salt n_P_Salt.length c_n_P_Salt, sl A_n_P_Personal n_P_Personal.length c_n_P_Personal, sl A_n_Key n_Key.length c_n_Key, .b n_Last, .ar e64 n_From, .b n_Old, .u64 n_Lo, .u64 n_Hi, sl A_n_Msg n_Msg.length c_n_Msg, .u64 n_Count], Ow e8 A_n_Msg n_Msg.length c_n_Msg n_Msg]) ((Vec.rep 16 (0 : UInt64)), (0 : Int)) r hm ⟨(Vec.rep 16 (0 : UInt64)), (0 : Int), rfl, rfl, k_15⟩ (by kernel_rfl) ?_
   intro s0_ L_ w_7 y0 hrel hstep hr0
   obtain ⟨h, i, rfl, rfl, k_14⟩ := hrel
   have hm := hstep; simp only [m_r05_Node_first_l0] at hm
   clear hstep
   refine W_seq <| W_seq <| W_q [] (.n 43 (.b (decide (i < 8))) .a) qe (by kernel_rfl) ?_
   refine At_go <| W_condp (i < 8) (by kernel_rfl) (fun hc2 => ?_) (fun hc2 => ?_)
   · rw [if_pos hc2] at hm
     refine W_skip <| At_go <| W_seq <| W_block <| W_reg ?_
     obtain ⟨x_0, h_x_0, hm⟩ := ob hm
     obtain ⟨x_18, h_x_18, hm⟩ := ob hm
     refine WLs 5 [] (.n 49 (.u64 x_0) (.n 50 (.v (.pointer (ixA (some ⟨g1, 0, none⟩) i 1))) (.s .a))) (qV (k_14.vrd 2 rfl e64 r_1.1 0 (by kernel_rfl)) h_x_0 rfl (.u64 x_0) rfl <| qI g1 0 h_x_18 <| qe) (by kernel_rfl) ?_
     refine WL_op ?_
     obtain ⟨v, h_v, hm⟩ := nm hm
     refine Op_vs (E := e64) (kk := 0) [] 1 (.u64 x_0) [.u64 x_0] h_v h_x_18 (Pt.ix0 (Pt.at g1 0) i 1) k_14 rfl .h rfl (by kernel_rfl) (by kernel_rfl) ?_
     intro w_8 k_16
     refine WL_nil <| At_in <| At_go <| W_q [] (.n 8 (I (w64 (i + 1))) (.ss (.kkk .z))) qe (by kernel_rfl) ?_
     exact At_rd (v, w64 (i + 1)) (Option.some.inj hm).symm ⟨v, w64 (i + 1), rfl, rfl, k_16⟩ (by kernel_rfl)
   rw [if_neg hc2] at hm
   refine W_exit (At_te (At_te (At_ie ?_)))
   have hm := exit_of hm hr0
   refine At_go <| W_seq <| W_reg <| WLs 1 [] (.n 51 (.agg [.ar e64 h]) (.s (.k .z))) (qT k_14 1 rfl 0 16 [.ar e64 h] (by kernel_rfl) (by decide) <| qe) (by kernel_rfl) ?_
   refine WL_op <| Op_b [] 0 (.agg [.ar e64 h]) [.ar e64 h] (Pt.at g 0) k_14 rfl .all (by kernel_rfl) (by kernel_rfl) ?_
   intro w_9 k_17
   have k_18 := k_17.sel (.k (.ss (.kk .e)))
   refine WL_nil <| At_go <| W_ret (At_tr ?_)
   obtain rfl := Option.some.inj hm
   refine At_rt [.agg [.ar e64 h]] (qo (.agg [.ar e64 h]) <| qc (fun w => Rd w (some ⟨g, 0, none⟩) (SV.cl [.ar e64 h])) (k_18.brd 0 rfl) <| qe) (by kernel_rfl) ?_
   have k_19 := k_18.sel (.s (.kk .e))
   exact ⟨A_n_Msg, n_Msg.length, c_n_Msg, k_19.len 1 rfl, rfl, k_19⟩
 rw [if_neg hc1] at hm
 refine W_skip <| At_go <| W_seq <| W_reg <| WLs 1 [] (.n 53 (sl A0 r_.1.length c0) (.ss .a)) qe (by kernel_rfl) ?_
 refine WL_op ?_
 obtain ⟨r_2, h_r_2, hm⟩ := ob hm
 refine Op_call [] 54 _ yz_go110 (by kernel_rfl) (c_r04_Start (F := N0) (O := N0) _ _ _ _ (Ro.n0 (k_7.rd 4 rfl)) (k_7.len 4 rfl) (k_7.lec 4 rfl) (Cx.refl _) _ h_r_2) ?_
 rintro e_ w_10 ⟨rfl, k_20⟩
 have k_21 := k_7.call k_20
 refine ⟨.tup [.agg [.ar e32 r_2.1], I r_2.2], rfl, ?_⟩
 have k_22 := k_21.sel (.kkkk .z)
 refine WLs 3 [] (.n 55 (.agg [.ar e32 r_2.1]) (.n 56 (I r_2.2) (.ss .a))) qe (by kernel_rfl) ?_
 refine WL_op ?_
 have k_23 := k_22.sel (.kkkk .e)
 refine Op_alloc [] 9 [.ar e32 (Vec.rep 8 (0 : UInt32))] (by kernel_rfl) k_23 ?_
 intro g3 w_11 k_24
 refine WL_op <| Op_b [] 4 (.agg [.ar e32 r_2.1]) [.ar e32 r_2.1] (Pt.at g3 0) k_24 rfl .all (by kernel_rfl) (by kernel_rfl) ?_
 intro w_12 k_25
 refine WLs 1 [] (.k (.ss .a)) qe (by kernel_rfl) ?_
 refine WL_nil <| At_go <| W_seq <| W_seq <| W_q [] (.n 11 (I 0) .a) qe (by kernel_rfl) ?_
 refine At_go <| W_block ?_
 have k_27 := ((((k_25.pk (.t .h)).pk (.t .h)).pk (.t (.t (.t (.t .h))))).pk (.t (.t (.t (.t .h))))).pk (.t (.t (.t (.t .h))))
 refine W_lp (m_r05_Node_first_l1 n_Kind n_P_Digest n_P_Key n_P_Fanout n_P_Depth n_P_Leaf n_P_Offset n_P_Xof n_P_NodeDepth n_P_Inner n_Last n_From n_Old n_Lo n_Hi n_Msg n_Count r_2) (fun s L wr => ∃ (h1 : Vec UInt64 16) (i1 : Int), (h1, i1) = s ∧ L = [(2, pt g 0), (3, pt g1 0), (9, pt g3 0), (11, I i1)] ∧ Cx F O w wr [Bx 108 g [.ar e64 (Vec.rep 16 (0 : UInt64))], Bx 108 g1 [.ar e64 h1], Bx 154 g3 [.ar e32 r_2.1], Bx 110 g_n [I n_Kind, I n_P_Digest, I n_P_Key, I n_P_Fanout, I n_P_Depth, .u32 n_P_Leaf, .u64 n_P_Offset, .u32 n_P_Xof, I n_P_NodeDepth, I n_P_Inner, sl A_n_P_Salt n_P_Salt.length c_n_P_Salt, sl A_n_P_Personal n_P_Personal.length c_n_P_Personal, sl A_n_Key n_Key.length c_n_Key, .b n_Last, .ar e64 n_From, .b n_Old, .u64 n_Lo, .u64 n_Hi, sl A_n_Msg n_Msg.length c_n_Msg, .u64 n_Count], Ow e8 A_n_Msg n_Msg.length c_n_Msg n_Msg]) ((Vec.rep 16 (0 : UInt64)), (0 : Int)) r hm ⟨(Vec.rep 16 (0 : UInt64)), (0 : Int), rfl, rfl, k_27⟩ (by kernel_rfl) ?_
 intro s0_ L_ w_13 y0 hrel hstep hr0
 obtain ⟨h1, i1, rfl, rfl, k_26⟩ := hrel
 have hm := hstep; simp only [m_r05_Node_first_l1] at hm
 clear hstep
 refine W_seq <| W_seq <| W_q [] (.n 58 (.b (decide (i1 < 8))) .a) qe (by kernel_rfl) ?_
 refine At_go <| W_condp (i1 < 8) (by kernel_rfl) (fun hc3 => ?_) (fun hc3 => ?_)
 · rw [if_pos hc3] at hm
   refine W_skip <| At_go <| W_seq <| W_block <| W_reg ?_
   obtain ⟨x_19, h_x_19, hm⟩ := ob hm
   obtain ⟨x_20, h_x_20, hm⟩ := ob hm
   refine WLs 6 [] (.n 65 (.u64 (UInt64.ofNat x_19.toNat)) (.n 66 (.v (.pointer (ixA (some ⟨g1, 0, none⟩) i1 1))) (.s .a))) (qV (k_26.vrd 2 rfl e32 r_2.1 0 (by kernel_rfl)) h_x_19 rfl (.u32 x_19) rfl <| qI g1 0 h_x_20 <| qe) (by kernel_rfl) ?_
   refine WL_op ?_
   obtain ⟨v1, h_v1, hm⟩ := nm hm
   refine Op_vs (E := e64) (kk := 0) [] 1 (.u64 (UInt64.ofNat x_19.toNat)) [.u64 (UInt64.ofNat x_19.toNat)] h_v1 h_x_20 (Pt.ix0 (Pt.at g1 0) i1 1) k_26 rfl .h rfl (by kernel_rfl) (by kernel_rfl) ?_
   intro w_14 k_28
   refine WL_nil <| At_in <| At_go <| W_q [] (.n 11 (I (w64 (i1 + 1))) (.ss (.kkk .z))) qe (by kernel_rfl) ?_
   exact At_rd (v1, w64 (i1 + 1)) (Option.some.inj hm).symm ⟨v1, w64 (i1 + 1), rfl, rfl, k_28⟩ (by kernel_rfl)
 rw [if_neg hc3] at hm
 refine W_exit (At_te (At_te (At_ie ?_)))
 have hm := exit_of hm hr0
 refine At_go <| W_seq <| W_reg <| WLs 1 [] (.n 67 (.agg [.ar e64 h1]) (.s (.k .z))) (qT k_26 1 rfl 0 16 [.ar e64 h1] (by kernel_rfl) (by decide) <| qe) (by kernel_rfl) ?_
 refine WL_op <| Op_b [] 0 (.agg [.ar e64 h1]) [.ar e64 h1] (Pt.at g 0) k_26 rfl .all (by kernel_rfl) (by kernel_rfl) ?_
 intro w_15 k_29
 have k_30 := k_29.sel (.k (.ss (.kk .e)))
 refine WL_nil <| At_go <| W_ret ?_
 obtain rfl := Option.some.inj hm
 refine At_rt [.agg [.ar e64 h1]] (qo (.agg [.ar e64 h1]) <| qc (fun w => Rd w (some ⟨g, 0, none⟩) (SV.cl [.ar e64 h1])) (k_30.brd 0 rfl) <| qe) (by kernel_rfl) ?_
 have k_31 := k_30.sel (.s (.kk .e))
 exact ⟨A_n_Msg, n_Msg.length, c_n_Msg, k_31.len 1 rfl, rfl, k_31⟩

-- quern/quernref01.Add
theorem c_r01_Add {F O : Nat → Prop} {w : World} (lo : UInt64) (hi : UInt64) (n : UInt64) (k : Cx F O w w []) (r : (UInt64 × UInt64 × Bool)) (hm : m_r01_Add lo hi n = some r) :
    Calls Tryz.prog 73 (vals [.u64 lo, .u64 hi, .u64 n]) w (fun e w' => e = .returned (SV.val (.tup [.u64 r.1, .u64 r.2.1, .b r.2.2])) ∧ Cx F O w w' []) := by
 unfold m_r01_Add at hm
 refine calls [.u64 lo, .u64 hi, .u64 n] Tryz.func73 rfl (of_decide_eq_true (by kernel_rfl)) ?_
 refine W_seq <| W_q [] .a qe (by kernel_rfl) ?_
 refine At_go <| W_seq <| W_q [] (.n 9 (.u64 (lo + n)) (.kk .z)) qe (by kernel_rfl) ?_
 refine At_go <| W_seq <| W_seq <| W_q [] (.n 15 (.b (decide (lo ≤ (lo + n)))) (.k (.s .a))) qe (by kernel_rfl) ?_
 refine At_go <| W_condp (lo ≤ (lo + n)) (by kernel_rfl) (fun hc => ?_) (fun hc => ?_)
 · rw [if_pos hc] at hm
   refine W_seq <| W_q [] (.n 6 (.u64 (lo + n)) (.n 7 (.u64 hi) (.n 8 (.b false) .z))) qe (by kernel_rfl) ?_
   refine At_go <| W_ret (At_tr ?_)
   obtain rfl := Option.some.inj hm
   refine At_rt [.u64 (lo + n), .u64 hi, .b false] qe (by kernel_rfl) ?_
   exact ⟨rfl, k⟩
 rw [if_neg hc] at hm
 refine W_skip <| At_go <| W_seq <| W_q [] (.n 6 (.u64 (lo + n)) (.n 7 (.u64 (hi + 1)) (.n 8 (.b (decide ((hi + 1) = 0))) .z))) qe (by kernel_rfl) ?_
 refine At_go <| W_ret ?_
 obtain rfl := Option.some.inj hm
 refine At_rt [.u64 (lo + n), .u64 (hi + 1), .b (decide ((hi + 1) = 0))] qe (by kernel_rfl) ?_
 exact ⟨rfl, k⟩

-- quern/quernref05.cut
theorem c_r05_cut {F O : Nat → Prop} {w : World} (b : List UInt8) (at_ : Int) (size : Int) (A_b : Option Addr) (n_b : Nat) (c_b : Nat) (h_b : Ro F w A_b (e8.all b)) (hn_b : b.length = n_b) (hc_b : n_b ≤ c_b) (k : Cx F O w w []) (r : (List UInt8)) (hm : m_r05_cut b at_ size = some r) :
    Calls Tryz.prog 76 (vals [sl A_b n_b c_b, I at_, I size]) w (fun e w' => ∃ A n c, r.length = n ∧ e = .returned (SV.val (sl A n c)) ∧ Cx F O w w' [Ow e8 A n c r]) := by
 unfold m_r05_cut at hm
 subst hn_b
 refine calls [sl A_b b.length c_b, I at_, I size] Tryz.func76 rfl (of_decide_eq_true (by kernel_rfl)) ?_
 refine W_seq <| W_q [] .a qe (by kernel_rfl) ?_
 refine At_go <| W_seq <| W_q [] (.n 7 (sl none 0 0) .a) qe (by kernel_rfl) ?_
 refine At_go <| W_seq <| W_seq <| W_q [] (.n 8 (I 0) .a) qe (by kernel_rfl) ?_
 refine At_go <| W_block ?_
 have k_1 := k.nil e8
 refine W_lp (m_r05_cut_l0 b at_ size) (fun s L wr => ∃ (out : List UInt8) (i : Int) (A0 : Option Addr) (n0 : Nat) (c0 : Nat), (out, i) = s ∧ L = [(0, sl A_b b.length c_b), (1, I at_), (2, I size), (7, sl A0 n0 c0), (8, I i)] ∧ out.length = n0 ∧ Cx F O w wr [Ow e8 A0 n0 c0 out]) (([] : List UInt8), (0 : Int)) r hm ⟨([] : List UInt8), (0 : Int), none, 0, 0, rfl, rfl, k_1.len 0 rfl, k_1⟩ (by kernel_rfl) ?_
 intro s0_ L_ w_ y0 hrel hstep hr0
 obtain ⟨out, i, A0, _, c0, rfl, rfl, rfl, k_⟩ := hrel
 have hm := hstep; simp only [m_r05_cut_l0] at hm
 clear hstep
 refine W_seq <| W_seq <| W_q [] (.n 12 (.b (decide (i < size))) .a) qe (by kernel_rfl) ?_
 refine At_go <| W_condp (i < size) (by kernel_rfl) (fun hc => ?_) (fun hc => ?_)
 · rw [if_pos hc] at hm
   refine W_skip <| At_go <| W_cut (fun L wr => ∃ (out1 : List UInt8) (A1 : Option Addr) (n1 : Nat) (c1 : Nat), m_r05_cut_j0 i out1 = some y0 ∧ L = [(0, sl A_b b.length c_b), (1, I at_), (2, I size), (7, sl A1 n1 c1), (8, I i)] ∧ out1.length = n1 ∧ Cx F O w wr [Ow e8 A1 n1 c1 out1]) ?_ ?_
   ·
    refine W_block <| W_seq <| W_q [] (.n 9 (.u8 0) (.s .a)) qe (by kernel_rfl) ?_
    refine At_go <| W_cut (fun L wr => ∃ (c2 : UInt8), m_r05_cut_j1 out i c2 = some y0 ∧ L = [(0, sl A_b b.length c_b), (1, I at_), (2, I size), (7, sl A0 out.length c0), (8, I i), (9, .u8 c2)] ∧ Cx F O w wr [Ow e8 A0 out.length c0 out]) ?_ ?_
    ·
     refine W_seq <| W_q [] (.n 20 (.b (decide ((w64 (at_ + i)) < ((b.length : Nat) : Int)))) .a) qe (by kernel_rfl) ?_
     refine At_go <| W_condp ((w64 (at_ + i)) < ((b.length : Nat) : Int)) (by kernel_rfl) (fun hc1 => ?_) (fun hc1 => ?_)
     · rw [if_pos hc1] at hm
       obtain ⟨x_0, h_x_0, hm⟩ := ob hm
       refine W_q [] (.n 9 (.u8 x_0) (.ss .a)) (qW (h_b.cx k_) h_x_0 rfl (.u8 x_0) rfl <| qe) (by kernel_rfl) ?_
       exact At_c ⟨x_0, hm, rfl, k_⟩ (by kernel_rfl)
     rw [if_neg hc1] at hm
     refine W_skip ?_
     exact At_c ⟨(0 : UInt8), hm, rfl, k_⟩ (by kernel_rfl)
    rintro L_ w_1 ⟨c2, hm, rfl, k_2⟩
    simp only [m_r05_cut_j1] at hm
    refine W_reg <| WLs 2 [] (.n 27 (sl A0 out.length c0) (.n 28 (.u8 c2) (.kkkk (.k .z)))) qe (by kernel_rfl) ?_
    refine WL_op <| Op_mk yz_tf22 e8 [] 29 ([c2] : List UInt8) [(0, .u8 c2)] [.u8 c2] (by kernel_rfl) (by kernel_rfl) (by kernel_rfl) k_2 ?_
    intro A2 w_2 k_3
    refine WL_op ?_
    obtain ⟨out2, h_out2, hm⟩ := ob hm
    obtain ⟨hz, hl⟩ := app_some h_out2
    refine Op_append (E := e8) (v := sl A2 1 1) (ys := ([c2] : List UInt8)) yz_tf22 [] 30 0 (by kernel_rfl) k_3 rfl (Src.sl (k_3.rd 1 rfl) (k_3.len 1 rfl) (by rfl)) (k_3.len 1 rfl) (by have := k_3.len 0 rfl; have := (k_3.len 1 rfl); omega) ?_
    intro A3 c3 w_3 k_4
    rw [← hl] at k_4
    have k_5 := k_4.sel (.k .z)
    refine WLs 1 [] (.n 7 (sl A3 (out.length + 1) c3) (.ssss (.kkk (.s .a)))) qe (by kernel_rfl) ?_
    refine WL_nil <| At_in ?_
    exact At_c ⟨out2, A3, out.length + 1, c3, hm, rfl, k_5.len 0 rfl, k_5⟩ (by kernel_rfl)
   rintro L_ w_4 ⟨out1, A1, _, c1, hm, rfl, rfl, k_6⟩
   simp only [m_r05_cut_j0] at hm
   refine W_q [] (.n 8 (I (w64 (i + 1))) (.kkkk .z)) qe (by kernel_rfl) ?_
   exact At_rd (out1, w64 (i + 1)) (Option.some.inj hm).symm ⟨out1, w64 (i + 1), A1, out1.length, c1, rfl, rfl, k_6.len 0 rfl, k_6⟩ (by kernel_rfl)
 rw [if_neg hc] at hm
 refine W_exit (At_te (At_te (At_ie ?_)))
 have hm := exit_of hm hr0
 refine At_go <| W_seq <| W_q [] (.n 6 (sl A0 out.length c0) .z) qe (by kernel_rfl) ?_
 refine At_go <| W_ret ?_
 obtain rfl := Option.some.inj hm
 refine At_rt [sl A0 out.length c0] qe (by kernel_rfl) ?_
 exact ⟨A0, out.length, c0, k_.len 0 rfl, rfl, k_⟩

-- quern/quernref03.Words
theorem c_r03_Words {F O : Nat → Prop} {w : World} (b : List UInt8) (A_b : Option Addr) (n_b : Nat) (c_b : Nat) (h_b : Ro F w A_b (e8.all b)) (hn_b : b.length = n_b) (hc_b : n_b ≤ c_b) (k : Cx F O w w []) (r : (Vec UInt64 16 × Int)) (hm : m_r03_Words b = some r) :
    Calls Tryz.prog 94 (vals [sl A_b n_b c_b]) w (fun e w' => e = .returned (SV.val (.tup [.agg [.ar e64 r.1], I r.2])) ∧ Cx F O w w' []) := by
 unfold m_r03_Words at hm
 subst hn_b
 refine calls [sl A_b b.length c_b] Tryz.func94 rfl (of_decide_eq_true (by kernel_rfl)) ?_
 refine W_seq <| W_reg <| WL_op <| Op_alloc [] 2 [.ar e64 (Vec.rep 16 (0 : UInt64))] (by kernel_rfl) k ?_
 intro g w_ k_
 refine WLs 1 [] .a qe (by kernel_rfl) ?_
 refine WL_nil <| At_go <| W_seq <| W_reg <| WL_op <| Op_alloc [] 4 [.ar e64 (Vec.rep 16 (0 : UInt64))] (by kernel_rfl) k_ ?_
 intro g1 w_1 k_1
 refine WL_nil <| At_go <| W_seq <| W_seq <| W_q [] (.n 8 (.b (decide (((b.length : Nat) : Int) ≠ 128))) .a) qe (by kernel_rfl) ?_
 refine At_go <| W_condp (((b.length : Nat) : Int) ≠ 128) (by kernel_rfl) (fun hc => ?_) (fun hc => ?_)
 · rw [if_pos hc] at hm
   refine W_seq <| W_reg <| WLs 1 [] (.n 9 (.agg [.ar e64 (Vec.rep 16 (0 : UInt64))]) (.ss (.k .z))) (qT k_1 1 rfl 0 16 [.ar e64 (Vec.rep 16 (0 : UInt64))] (by kernel_rfl) (by decide) <| qe) (by kernel_rfl) ?_
   refine WL_op <| Op_b [] 0 (.agg [.ar e64 (Vec.rep 16 (0 : UInt64))]) [.ar e64 (Vec.rep 16 (0 : UInt64))] (Pt.at g 0) k_1 rfl .all (by kernel_rfl) (by kernel_rfl) ?_
   intro w_2 k_2
   have k_3 := k_2.sel (.k .z)
   refine WLs 1 [] (.n 3 (I 1) (.s .a)) qe (by kernel_rfl) ?_
   refine WL_nil <| At_go <| W_ret (At_tr ?_)
   obtain rfl := Option.some.inj hm
   refine At_rt [.agg [.ar e64 (Vec.rep 16 (0 : UInt64))], I 1] (qo (.agg [.ar e64 (Vec.rep 16 (0 : UInt64))]) <| qc (fun w => Rd w (some ⟨g, 0, none⟩) (SV.cl [.ar e64 (Vec.rep 16 (0 : UInt64))])) (k_3.brd 0 rfl) <| qe) (by kernel_rfl) ?_
   have k_4 := k_3.sel .z
   exact ⟨rfl, k_4⟩
 rw [if_neg hc] at hm
 refine W_skip <| At_go <| W_seq <| W_seq <| W_q [] (.n 5 (I 0) (.s .a)) qe (by kernel_rfl) ?_
 refine At_go <| W_block <| W_lp (m_r03_Words_l0 b) (fun s L wr => ∃ (m_ : Vec UInt64 16) (i : Int), (m_, i) = s ∧ L = [(0, sl A_b b.length c_b), (2, pt g 0), (4, pt g1 0), (5, I i)] ∧ Cx F O w wr [Bx 108 g [.ar e64 (Vec.rep 16 (0 : UInt64))], Bx 108 g1 [.ar e64 m_]]) ((Vec.rep 16 (0 : UInt64)), (0 : Int)) r hm ⟨(Vec.rep 16 (0 : UInt64)), (0 : Int), rfl, rfl, k_1⟩ (by kernel_rfl) ?_
 intro s0_ L_ w_3 y0 hrel hstep hr0
 obtain ⟨m_, i, rfl, rfl, k_5⟩ := hrel
 have hm := hstep; simp only [m_r03_Words_l0] at hm
 clear hstep
 refine W_seq <| W_seq <| W_q [] (.n 11 (.b (decide (i < 16))) .a) qe (by kernel_rfl) ?_
 refine At_go <| W_condp (i < 16) (by kernel_rfl) (fun hc1 => ?_) (fun hc1 => ?_)
 · rw [if_pos hc1] at hm
   refine W_skip <| At_go <| W_seq <| W_block <| W_reg <| WLs 4 [] (.n 15 (I i) (.n 16 (sl A_b b.length c_b) (.n 18 (I (w64 (8 * i))) (.s .a)))) qe (by kernel_rfl) ?_
   refine WL_op ?_
   obtain ⟨r_, h_r_, hm⟩ := ob hm
   refine Op_call [] 19 _ yz_go111 (by kernel_rfl) (c_r01_Load (F := N0) (O := N0) _ _ _ _ _ _ (Ro.n0 (h_b.cx k_5)) rfl hc_b (Cx.refl _) _ h_r_) ?_
   rintro e_ w_4 ⟨rfl, k_6⟩
   have k_7 := k_5.call k_6
   refine ⟨.tup [.u64 r_.1, I r_.2], rfl, ?_⟩
   obtain ⟨x_0, h_x_0, hm⟩ := ob hm
   refine WLs 4 [] (.n 20 (.u64 r_.1) (.n 22 (.v (.pointer (ixA (some ⟨g1, 0, none⟩) i 1))) (.ssss .a))) (qI g1 0 h_x_0 <| qe) (by kernel_rfl) ?_
   refine WL_op ?_
   obtain ⟨v, h_v, hm⟩ := nm hm
   refine Op_vs (E := e64) (kk := 0) [] 1 (.u64 r_.1) [.u64 r_.1] h_v h_x_0 (Pt.ix0 (Pt.at g1 0) i 1) k_7 rfl .h rfl (by kernel_rfl) (by kernel_rfl) ?_
   intro w_5 k_8
   refine WL_nil <| At_in <| At_go <| W_q [] (.n 5 (I (w64 (i + 1))) (.ss (.kkk .z))) qe (by kernel_rfl) ?_
   exact At_rd (v, w64 (i + 1)) (Option.some.inj hm).symm ⟨v, w64 (i + 1), rfl, rfl, k_8⟩ (by kernel_rfl)
 rw [if_neg hc1] at hm
 refine W_exit (At_te (At_te (At_ie ?_)))
 have hm := exit_of hm hr0
 refine At_go <| W_seq <| W_reg <| WLs 1 [] (.n 23 (.agg [.ar e64 m_]) (.ss (.k .z))) (qT k_5 1 rfl 0 16 [.ar e64 m_] (by kernel_rfl) (by decide) <| qe) (by kernel_rfl) ?_
 refine WL_op <| Op_b [] 0 (.agg [.ar e64 m_]) [.ar e64 m_] (Pt.at g 0) k_5 rfl .all (by kernel_rfl) (by kernel_rfl) ?_
 intro w_6 k_9
 have k_10 := k_9.sel (.k .z)
 refine WLs 1 [] (.n 3 (I 0) (.s .a)) qe (by kernel_rfl) ?_
 refine WL_nil <| At_go <| W_ret ?_
 obtain rfl := Option.some.inj hm
 refine At_rt [.agg [.ar e64 m_], I 0] (qo (.agg [.ar e64 m_]) <| qc (fun w => Rd w (some ⟨g, 0, none⟩) (SV.cl [.ar e64 m_])) (k_10.brd 0 rfl) <| qe) (by kernel_rfl) ?_
 have k_11 := k_10.sel .z
 exact ⟨rfl, k_11⟩

-- quern/quernref03.Init
theorem c_r03_Init {F O : Nat → Prop} {w : World} (h : Vec UInt64 8) (lo : UInt64) (hi : UInt64) (last : Bool) (node : Bool) (k : Cx F O w w []) (r : (Vec UInt64 16)) (hm : m_r03_Init h lo hi last node = some r) :
    Calls Tryz.prog 112 (vals [.agg [.ar e64 h], .u64 lo, .u64 hi, .b last, .b node]) w (fun e w' => e = .returned (SV.val (.agg [.ar e64 r])) ∧ Cx F O w w' []) := by
 unfold m_r03_Init at hm
 refine calls [.agg [.ar e64 h], .u64 lo, .u64 hi, .b last, .b node] Tryz.func112 rfl (of_decide_eq_true (by kernel_rfl)) ?_
 refine W_seq <| W_reg <| WL_op <| Op_box [] 5 (.agg [.ar e64 h]) [.ar e64 h] (by kernel_rfl) k ?_
 intro g w_ k_
 refine WL_op <| Op_alloc [] 10 [.ar e64 (Vec.rep 16 (0 : UInt64))] (by kernel_rfl) k_ ?_
 intro g1 w_1 k_1
 refine WL_nil <| At_go <| W_seq <| W_reg <| WL_op <| Op_alloc [] 11 [.ar e64 (Vec.rep 16 (0 : UInt64))] (by kernel_rfl) k_1 ?_
 intro g2 w_2 k_2
 refine WL_nil <| At_go <| W_seq <| W_seq <| W_q [] (.n 12 (I 0) (.kkk (.s .a))) qe (by kernel_rfl) ?_
 refine At_go <| W_block <| W_lp (m_r03_Init_l0 h lo hi last node) (fun s L wr => ∃ (v : Vec UInt64 16) (i : Int), (v, i) = s ∧ L = [(1, .u64 lo), (2, .u64 hi), (3, .b last), (4, .b node), (5, pt g 0), (10, pt g1 0), (11, pt g2 0), (12, I i)] ∧ Cx F O w wr [Bx 150 g [.ar e64 h], Bx 108 g1 [.ar e64 (Vec.rep 16 (0 : UInt64))], Bx 108 g2 [.ar e64 v]]) ((Vec.rep 16 (0 : UInt64)), (0 : Int)) r hm ⟨(Vec.rep 16 (0 : UInt64)), (0 : Int), rfl, rfl, k_2⟩ (by kernel_rfl) ?_
 intro s0_ L_ w_3 y0 hrel hstep hr0
 obtain ⟨v, i, rfl, rfl, k_3⟩ := hrel
 have hm := hstep; simp only [m_r03_Init_l0] at hm
 clear hstep
 refine W_seq <| W_seq <| W_q [] (.n 14 (.b (decide (i < 8))) .a) qe (by kernel_rfl) ?_
 refine At_go <| W_condp (i < 8) (by kernel_rfl) (fun hc => ?_) (fun hc => ?_)
 · rw [if_pos hc] at hm
   refine W_skip <| At_go <| W_seq <| W_block <| W_seq <| W_reg ?_
   obtain ⟨x_0, h_x_0, hm⟩ := ob hm
   obtain ⟨x_1, h_x_1, hm⟩ := ob hm
   refine WLs 5 [] (.n 20 (.u64 x_0) (.n 21 (.v (.pointer (ixA (some ⟨g2, 0, none⟩) i 1))) (.s .a))) (qV (k_3.vrd 0 rfl e64 h 0 (by kernel_rfl)) h_x_0 rfl (.u64 x_0) rfl <| qI g2 0 h_x_1 <| qe) (by kernel_rfl) ?_
   refine WL_op ?_
   obtain ⟨v1, h_v1, hm⟩ := nm hm
   refine Op_vs (E := e64) (kk := 0) [] 2 (.u64 x_0) [.u64 x_0] h_v1 h_x_1 (Pt.ix0 (Pt.at g2 0) i 1) k_3 rfl .h rfl (by kernel_rfl) (by kernel_rfl) ?_
   intro w_4 k_4
   refine WL_nil <| At_go <| W_reg <| WLs 3 [] (.n 23 (I (w64 (i + 8))) (.n 24 (I i) (.ss .a))) qe (by kernel_rfl) ?_
   refine WL_op ?_
   obtain ⟨r_, h_r_, hm⟩ := ob hm
   refine Op_call [] 25 _ yz_go124 (by kernel_rfl) (c_r03_IV (F := N0) (O := N0) _ (Cx.refl _) _ h_r_) ?_
   rintro e_ w_5 ⟨rfl, k_5⟩
   have k_6 := k_4.call k_5
   refine ⟨.u64 r_, rfl, ?_⟩
   obtain ⟨x_2, h_x_2, hm⟩ := ob hm
   refine WLs 1 [] (.n 26 (.v (.pointer (ixA (some ⟨g2, 0, none⟩) (w64 (i + 8)) 1))) (.k (.ss .a))) (qI g2 0 h_x_2 <| qe) (by kernel_rfl) ?_
   refine WL_op ?_
   obtain ⟨v2, h_v2, hm⟩ := nm hm
   refine Op_vs (E := e64) (kk := 0) [] 2 (.u64 r_) [.u64 r_] h_v2 h_x_2 (Pt.ix0 (Pt.at g2 0) (w64 (i + 8)) 1) k_6 rfl .h rfl (by kernel_rfl) (by kernel_rfl) ?_
   intro w_6 k_7
   refine WL_nil <| At_in <| At_go <| W_q [] (.n 12 (I (w64 (i + 1))) (.ss (.kkkk (.kkk .z)))) qe (by kernel_rfl) ?_
   exact At_rd (v2, w64 (i + 1)) (Option.some.inj hm).symm ⟨v2, w64 (i + 1), rfl, rfl, k_7⟩ (by kernel_rfl)
 rw [if_neg hc] at hm
 refine W_exit (At_te (At_te (At_ie ?_)))
 have hm := exit_of hm hr0
 refine At_go <| W_seq <| W_reg ?_
 obtain ⟨x_3, h_x_3, hm⟩ := ob hm
 obtain ⟨x_4, h_x_4, hm⟩ := ob hm
 refine WLs 5 [] (.n 30 (.u64 (x_3 ^^^ lo)) (.n 31 (.v (.pointer (ixA (some ⟨g2, 0, none⟩) (12 : Int) 1))) (.ss (.kkk (.s (.kk .z)))))) (qV (k_3.vrd 2 rfl e64 v 0 (by kernel_rfl)) h_x_3 rfl (.u64 x_3) rfl <| qI g2 0 h_x_4 <| qe) (by kernel_rfl) ?_
 refine WL_op ?_
 obtain ⟨v3, h_v3, hm⟩ := nm hm
 refine Op_vs (E := e64) (kk := 0) [] 2 (.u64 (x_3 ^^^ lo)) [.u64 (x_3 ^^^ lo)] h_v3 h_x_4 (Pt.ix0 (Pt.at g2 0) (12 : Int) 1) k_3 rfl .h rfl (by kernel_rfl) (by kernel_rfl) ?_
 intro w_7 k_8
 refine WL_nil <| At_go <| W_seq <| W_reg ?_
 obtain ⟨x_5, h_x_5, hm⟩ := ob hm
 obtain ⟨x_6, h_x_6, hm⟩ := ob hm
 refine WLs 5 [] (.n 35 (.u64 (x_5 ^^^ hi)) (.n 36 (.v (.pointer (ixA (some ⟨g2, 0, none⟩) (13 : Int) 1))) (.sss .a))) (qV (k_8.vrd 2 rfl e64 v3 0 (by kernel_rfl)) h_x_5 rfl (.u64 x_5) rfl <| qI g2 0 h_x_6 <| qe) (by kernel_rfl) ?_
 refine WL_op ?_
 obtain ⟨v4, h_v4, hm⟩ := nm hm
 refine Op_vs (E := e64) (kk := 0) [] 2 (.u64 (x_5 ^^^ hi)) [.u64 (x_5 ^^^ hi)] h_v4 h_x_6 (Pt.ix0 (Pt.at g2 0) (13 : Int) 1) k_8 rfl .h rfl (by kernel_rfl) (by kernel_rfl) ?_
 intro w_8 k_9
 refine WL_nil <| At_go <| W_cut (fun L wr => ∃ (v5 : Vec UInt64 16), m_r03_Init_j0 node v5 = some r ∧ L = [(4, .b node), (10, pt g1 0), (11, pt g2 0)] ∧ Cx F O w wr [Bx 108 g1 [.ar e64 (Vec.rep 16 (0 : UInt64))], Bx 108 g2 [.ar e64 v5]]) ?_ ?_
 ·
  refine W_seq <| W_q [] (.n 37 (.b last) (.sss .a)) qe (by kernel_rfl) ?_
  refine At_go <| W_cond last (by kernel_rfl) (fun hc1 => ?_) (fun hc1 => ?_)
  · rw [if_pos hc1] at hm
    refine W_reg ?_
    obtain ⟨x_7, h_x_7, hm⟩ := ob hm
    obtain ⟨x_8, h_x_8, hm⟩ := ob hm
    refine WLs 4 [] (.n 40 (.u64 (18446744073709551615 ^^^ x_7)) (.n 41 (.v (.pointer (ixA (some ⟨g2, 0, none⟩) (14 : Int) 1))) (.s .a))) (qV (k_9.vrd 2 rfl e64 v4 0 (by kernel_rfl)) h_x_7 rfl (.u64 x_7) rfl <| qI g2 0 h_x_8 <| qe) (by kernel_rfl) ?_
    refine WL_op ?_
    obtain ⟨v6, h_v6, hm⟩ := nm hm
    refine Op_vs (E := e64) (kk := 0) [] 2 (.u64 (18446744073709551615 ^^^ x_7)) [.u64 (18446744073709551615 ^^^ x_7)] h_v6 h_x_8 (Pt.ix0 (Pt.at g2 0) (14 : Int) 1) k_9 rfl .h rfl (by kernel_rfl) (by kernel_rfl) ?_
    intro w_9 k_10
    refine WL_nil ?_
    have k_11 := k_10.sel (.s (.kk .e))
    exact At_c ⟨v6, hm, rfl, k_11⟩ (by kernel_rfl)
  rw [if_neg (by rw [hc1]; decide)] at hm
  refine W_skip ?_
  have k_12 := k_9.sel (.s (.kk .e))
  exact At_c ⟨v4, hm, rfl, k_12⟩ (by kernel_rfl)
 rintro L_ w_10 ⟨v5, hm, rfl, k_13⟩
 simp only [m_r03_Init_j0] at hm
 refine W_cut (fun L wr => ∃ (v7 : Vec UInt64 16), m_r03_Init_j1 v7 = some r ∧ L = [(10, pt g1 0), (11, pt g2 0)] ∧ Cx F O w wr [Bx 108 g1 [.ar e64 (Vec.rep 16 (0 : UInt64))], Bx 108 g2 [.ar e64 v7]]) ?_ ?_
 ·
  refine W_seq <| W_q [] (.n 42 (.b node) (.s .a)) qe (by kernel_rfl) ?_
  refine At_go <| W_cond node (by kernel_rfl) (fun hc2 => ?_) (fun hc2 => ?_)
  · rw [if_pos hc2] at hm
    refine W_reg ?_
    obtain ⟨x_9, h_x_9, hm⟩ := ob hm
    obtain ⟨x_10, h_x_10, hm⟩ := ob hm
    refine WLs 4 [] (.n 45 (.u64 (18446744073709551615 ^^^ x_9)) (.n 46 (.v (.pointer (ixA (some ⟨g2, 0, none⟩) (15 : Int) 1))) (.s .a))) (qV (k_13.vrd 1 rfl e64 v5 0 (by kernel_rfl)) h_x_9 rfl (.u64 x_9) rfl <| qI g2 0 h_x_10 <| qe) (by kernel_rfl) ?_
    refine WL_op ?_
    obtain ⟨v8, h_v8, hm⟩ := nm hm
    refine Op_vs (E := e64) (kk := 0) [] 1 (.u64 (18446744073709551615 ^^^ x_9)) [.u64 (18446744073709551615 ^^^ x_9)] h_v8 h_x_10 (Pt.ix0 (Pt.at g2 0) (15 : Int) 1) k_13 rfl .h rfl (by kernel_rfl) (by kernel_rfl) ?_
    intro w_11 k_14
    refine WL_nil ?_
    exact At_c ⟨v8, hm, rfl, k_14⟩ (by kernel_rfl)
  rw [if_neg (by rw [hc2]; decide)] at hm
  refine W_skip ?_
  exact At_c ⟨v5, hm, rfl, k_13⟩ (by kernel_rfl)
 rintro L_ w_12 ⟨v7, hm, rfl, k_15⟩
 simp only [m_r03_Init_j1] at hm
 refine W_seq <| W_reg <| WLs 1 [] (.n 47 (.agg [.ar e64 v7]) (.k .z)) (qT k_15 1 rfl 0 16 [.ar e64 v7] (by kernel_rfl) (by decide) <| qe) (by kernel_rfl) ?_
 refine WL_op <| Op_b [] 0 (.agg [.ar e64 v7]) [.ar e64 v7] (Pt.at g1 0) k_15 rfl .all (by kernel_rfl) (by kernel_rfl) ?_
 intro w_13 k_16
 have k_17 := k_16.sel (.k .z)
 refine WL_nil <| At_go <| W_ret ?_
 obtain rfl := Option.some.inj hm
 refine At_rt [.agg [.ar e64 v7]] (qo (.agg [.ar e64 v7]) <| qc (fun w => Rd w (some ⟨g1, 0, none⟩) (SV.cl [.ar e64 v7])) (k_17.brd 0 rfl) <| qe) (by kernel_rfl) ?_
 have k_18 := k_17.sel .z
 exact ⟨rfl, k_18⟩

-- quern/quernref03.Places
theorem c_r03_Places {F O : Nat → Prop} {w : World} (i : Int) (k : Cx F O w w []) (r : (Vec Int 4)) (hm : m_r03_Places i = some r) :
    Calls Tryz.prog 126 (vals [I i]) w (fun e w' => e = .returned (SV.val (.agg [.ar eI r])) ∧ Cx F O w w' []) := by
 unfold m_r03_Places at hm
 refine calls [I i] Tryz.func126 rfl (of_decide_eq_true (by kernel_rfl)) ?_
 refine W_seq <| W_reg <| WL_op <| Op_alloc [] 2 [.ar eI (Vec.rep 4 (0 : Int))] (by kernel_rfl) k ?_
 intro g w_ k_
 refine WL_nil <| At_go <| W_seq <| W_reg <| WLs 9 [] (.n 12 (.agg [.ar (eV eI 4) (⟨[(⟨[(0 : Int), (4 : Int), (8 : Int), (12 : Int)], rfl⟩ : Vec Int 4), (⟨[(1 : Int), (5 : Int), (9 : Int), (13 : Int)], rfl⟩ : Vec Int 4), (⟨[(2 : Int), (6 : Int), (10 : Int), (14 : Int)], rfl⟩ : Vec Int 4), (⟨[(3 : Int), (7 : Int), (11 : Int), (15 : Int)], rfl⟩ : Vec Int 4), (⟨[(0 : Int), (5 : Int), (10 : Int), (15 : Int)], rfl⟩ : Vec Int 4), (⟨[(1 : Int), (6 : Int), (11 : Int), (12 : Int)], rfl⟩ : Vec Int 4), (⟨[(2 : Int), (7 : Int), (8 : Int), (13 : Int)], rfl⟩ : Vec Int 4), (⟨[(3 : Int), (4 : Int), (9 : Int), (14 : Int)], rfl⟩ : Vec Int 4)], rfl⟩ : Vec (Vec Int 4) 8)]) .a) qe (by kernel_rfl) ?_
 refine WL_op <| Op_alloc [] 3 [.ar (eV eI 4) (Vec.rep 8 (Vec.rep 4 (0 : Int)))] (by kernel_rfl) k_ ?_
 intro g1 w_1 k_1
 refine WL_op <| Op_b [] 1 (.agg [.ar (eV eI 4) (⟨[(⟨[(0 : Int), (4 : Int), (8 : Int), (12 : Int)], rfl⟩ : Vec Int 4), (⟨[(1 : Int), (5 : Int), (9 : Int), (13 : Int)], rfl⟩ : Vec Int 4), (⟨[(2 : Int), (6 : Int), (10 : Int), (14 : Int)], rfl⟩ : Vec Int 4), (⟨[(3 : Int), (7 : Int), (11 : Int), (15 : Int)], rfl⟩ : Vec Int 4), (⟨[(0 : Int), (5 : Int), (10 : Int), (15 : Int)], rfl⟩ : Vec Int 4), (⟨[(1 : Int), (6 : Int), (11 : Int), (12 : Int)], rfl⟩ : Vec Int 4), (⟨[(2 : Int), (7 : Int), (8 : Int), (13 : Int)], rfl⟩ : Vec Int 4), (⟨[(3 : Int), (4 : Int), (9 : Int), (14 : Int)], rfl⟩ : Vec Int 4)], rfl⟩ : Vec (Vec Int 4) 8)]) [.ar (eV eI 4) (⟨[(⟨[(0 : Int), (4 : Int), (8 : Int), (12 : Int)], rfl⟩ : Vec Int 4), (⟨[(1 : Int), (5 : Int), (9 : Int), (13 : Int)], rfl⟩ : Vec Int 4), (⟨[(2 : Int), (6 : Int), (10 : Int), (14 : Int)], rfl⟩ : Vec Int 4), (⟨[(3 : Int), (7 : Int), (11 : Int), (15 : Int)], rfl⟩ : Vec Int 4), (⟨[(0 : Int), (5 : Int), (10 : Int), (15 : Int)], rfl⟩ : Vec Int 4), (⟨[(1 : Int), (6 : Int), (11 : Int), (12 : Int)], rfl⟩ : Vec Int 4), (⟨[(2 : Int), (7 : Int), (8 : Int), (13 : Int)], rfl⟩ : Vec Int 4), (⟨[(3 : Int), (4 : Int), (9 : Int), (14 : Int)], rfl⟩ : Vec Int 4)], rfl⟩ : Vec (Vec Int 4) 8)] (Pt.at g1 0) k_1 rfl .all (by kernel_rfl) (by kernel_rfl) ?_
 intro w_2 k_2
 refine WL_nil <| At_go <| W_seq <| W_reg ?_
 obtain ⟨x_0, h_x_0, hm⟩ := ob hm
 refine WLs 4 [] (.n 16 (.agg [.ar eI x_0]) (.ss (.k .z))) (qp ((8 : Int) ≠ (0 : Int)) (by omega) <| qI g1 0 h_x_0 <| qR [.ar eI x_0] (Rd.elV (k_2.vrd 1 rfl (eV eI 4) (⟨[(⟨[(0 : Int), (4 : Int), (8 : Int), (12 : Int)], rfl⟩ : Vec Int 4), (⟨[(1 : Int), (5 : Int), (9 : Int), (13 : Int)], rfl⟩ : Vec Int 4), (⟨[(2 : Int), (6 : Int), (10 : Int), (14 : Int)], rfl⟩ : Vec Int 4), (⟨[(3 : Int), (7 : Int), (11 : Int), (15 : Int)], rfl⟩ : Vec Int 4), (⟨[(0 : Int), (5 : Int), (10 : Int), (15 : Int)], rfl⟩ : Vec Int 4), (⟨[(1 : Int), (6 : Int), (11 : Int), (12 : Int)], rfl⟩ : Vec Int 4), (⟨[(2 : Int), (7 : Int), (8 : Int), (13 : Int)], rfl⟩ : Vec Int 4), (⟨[(3 : Int), (4 : Int), (9 : Int), (14 : Int)], rfl⟩ : Vec Int 4)], rfl⟩ : Vec (Vec Int 4) 8) 0 (by kernel_rfl)) h_x_0 (Pt.ix1 (some ⟨g1, 0, none⟩) (Int.tmod i 8) 4) (by decide)) <| qe) (by kernel_rfl) ?_
 refine WL_op <| Op_b [] 0 (.agg [.ar eI x_0]) [.ar eI x_0] (Pt.at g 0) k_2 rfl .all (by kernel_rfl) (by kernel_rfl) ?_
 intro w_3 k_3
 have k_4 := k_3.sel (.k .z)
 refine WL_nil <| At_go <| W_ret ?_
 obtain rfl := Option.some.inj hm
 refine At_rt [.agg [.ar eI x_0]] (qo (.agg [.ar eI x_0]) <| qc (fun w => Rd w (some ⟨g, 0, none⟩) (SV.cl [.ar eI x_0])) (k_4.brd 0 rfl) <| qe) (by kernel_rfl) ?_
 have k_5 := k_4.sel .z
 exact ⟨rfl, k_5⟩

-- quern/quernref01.Rest
theorem c_r01_Rest {F O : Nat → Prop} {w : World} (n : Int) (m_ : Int) (k : Cx F O w w []) (r : Int) (hm : m_r01_Rest n m_ = some r) :
    Calls Tryz.prog 140 (vals [I n, I m_]) w (fun e w' => e = .returned (SV.val (I r)) ∧ Cx F O w w' []) := by
 unfold m_r01_Rest at hm
 refine calls [I n, I m_] Tryz.func140 rfl (of_decide_eq_true (by kernel_rfl)) ?_
 refine W_seq <| W_q [] .a qe (by kernel_rfl) ?_
 refine At_go <| W_seq ?_
 obtain ⟨u, h_u, hm⟩ := ob hm
 refine W_q [] (.n 5 (I (Int.tmod n m_)) (.s .a)) (qp (m_ ≠ 0) (need_some h_u) <| qe) (by kernel_rfl) ?_
 refine At_go <| W_cut (fun L wr => ∃ (r_ : Int), m_r01_Rest_j0 r_ = some r ∧ L = [(5, I r_)] ∧ Cx F O w wr []) ?_ ?_
 ·
  refine W_seq <| W_q [] (.n 10 (.b (decide ((Int.tmod n m_) < 0))) .a) qe (by kernel_rfl) ?_
  refine At_go <| W_condp ((Int.tmod n m_) < 0) (by kernel_rfl) (fun hc => ?_) (fun hc => ?_)
  · rw [if_pos hc] at hm
    refine W_q [] (.n 5 (I (w64 ((Int.tmod n m_) + m_))) .z) qe (by kernel_rfl) ?_
    exact At_c ⟨w64 ((Int.tmod n m_) + m_), hm, rfl, k⟩ (by kernel_rfl)
  rw [if_neg hc] at hm
  refine W_skip ?_
  exact At_c ⟨Int.tmod n m_, hm, rfl, k⟩ (by kernel_rfl)
 rintro L_ w_ ⟨r_, hm, rfl, k_⟩
 simp only [m_r01_Rest_j0] at hm
 refine W_seq <| W_q [] (.n 4 (I r_) .z) qe (by kernel_rfl) ?_
 refine At_go <| W_ret ?_
 obtain rfl := Option.some.inj hm
 refine At_rt [I r_] qe (by kernel_rfl) ?_
 exact ⟨rfl, k_⟩

-- quern/quernref01.Digit
theorem c_r01_Digit {F O : Nat → Prop} {w : World} (c : UInt8) (k : Cx F O w w []) (r : Int) (hm : m_r01_Digit c = some r) :
    Calls Tryz.prog 139 (vals [.u8 c]) w (fun e w' => e = .returned (SV.val (I r)) ∧ Cx F O w w' []) := by
 unfold m_r01_Digit at hm
 refine calls [.u8 c] Tryz.func139 rfl (of_decide_eq_true (by kernel_rfl)) ?_
 refine W_seq <| W_q [] .a qe (by kernel_rfl) ?_
 refine At_go <| W_seq <| W_block <| W_seq <| W_q [] (.n 3 (.b ((decide ((48 : UInt8) ≤ c)) && (decide (c ≤ 57)))) .a) qe (by kernel_rfl) ?_
 refine At_go <| W_cond ((decide ((48 : UInt8) ≤ c)) && (decide (c ≤ 57))) (by kernel_rfl) (fun hc => ?_) (fun hc => ?_)
 · rw [if_pos hc] at hm
   refine W_seq <| W_q [] (.n 2 (I ((c - 48).toNat : Int)) .z) qe (by kernel_rfl) ?_
   refine At_go <| W_ret (At_ir (At_tr ?_))
   obtain rfl := Option.some.inj hm
   refine At_rt [I ((c - 48).toNat : Int)] qe (by kernel_rfl) ?_
   exact ⟨rfl, k⟩
 rw [if_neg (by rw [hc]; decide)] at hm
 refine W_seq <| W_q [] (.n 13 (.b ((decide ((97 : UInt8) ≤ c)) && (decide (c ≤ 102)))) (.s .a)) qe (by kernel_rfl) ?_
 refine At_go <| W_cond ((decide ((97 : UInt8) ≤ c)) && (decide (c ≤ 102))) (by kernel_rfl) (fun hc1 => ?_) (fun hc1 => ?_)
 · rw [if_pos hc1] at hm
   refine W_seq <| W_q [] (.n 2 (I (w64 (((c - 97).toNat : Int) + 10))) .z) qe (by kernel_rfl) ?_
   refine At_go <| W_ret (At_ir (At_tr ?_))
   obtain rfl := Option.some.inj hm
   refine At_rt [I (w64 (((c - 97).toNat : Int) + 10))] qe (by kernel_rfl) ?_
   exact ⟨rfl, k⟩
 rw [if_neg (by rw [hc1]; decide)] at hm
 refine W_seq <| W_q [] (.n 24 (.b ((decide ((65 : UInt8) ≤ c)) && (decide (c ≤ 70)))) (.s .a)) qe (by kernel_rfl) ?_
 refine At_go <| W_cond ((decide ((65 : UInt8) ≤ c)) && (decide (c ≤ 70))) (by kernel_rfl) (fun hc2 => ?_) (fun hc2 => ?_)
 · rw [if_pos hc2] at hm
   refine W_seq <| W_q [] (.n 2 (I (w64 (((c - 65).toNat : Int) + 10))) .z) qe (by kernel_rfl) ?_
   refine At_go <| W_ret (At_ir (At_tr ?_))
   obtain rfl := Option.some.inj hm
   refine At_rt [I (w64 (((c - 65).toNat : Int) + 10))] qe (by kernel_rfl) ?_
   exact ⟨rfl, k⟩
 rw [if_neg (by rw [hc2]; decide)] at hm
 refine W_skip <| At_in <| At_go <| W_seq <| W_q [] (.n 2 (I (-1)) .z) qe (by kernel_rfl) ?_
 refine At_go <| W_ret ?_
 obtain rfl := Option.some.inj hm
 refine At_rt [I (-1)] qe (by kernel_rfl) ?_
 exact ⟨rfl, k⟩

-- quern/quernref03.Sigma
theorem c_r03_Sigma {F O : Nat → Prop} {w : World} (round : Int) (i : Int) (k : Cx F O w w []) (r : Int) (hm : m_r03_Sigma round i = some r) :
    Calls Tryz.prog 128 (vals [I round, I i]) w (fun e w' => e = .returned (SV.val (I r)) ∧ Cx F O w w' []) := by
 unfold m_r03_Sigma at hm
 refine calls [I round, I i] Tryz.func128 rfl (of_decide_eq_true (by kernel_rfl)) ?_
 refine W_seq <| W_q [] .a qe (by kernel_rfl) ?_
 refine At_go <| W_seq <| W_reg <| WLs 1 [] (.n 5 (I round) (.s .a)) qe (by kernel_rfl) ?_
 refine WL_op ?_
 obtain ⟨r_, h_r_, hm⟩ := ob hm
 refine Op_call [] 6 _ yz_go140 (by kernel_rfl) (c_r01_Rest (F := N0) (O := N0) _ _ (Cx.refl _) _ h_r_) ?_
 rintro e_ w_ ⟨rfl, k_⟩
 have k_1 := k.call k_
 refine ⟨I r_, rfl, ?_⟩
 obtain ⟨c, h_c, hm⟩ := ob hm
 refine WLs 4 [] (.n 10 (.u8 c) .z) (qX h_c <| qe) (by kernel_rfl) ?_
 refine WL_op ?_
 obtain ⟨r_1, h_r_1, hm⟩ := ob hm
 refine Op_call [] 11 _ yz_go139 (by kernel_rfl) (c_r01_Digit (F := N0) (O := N0) _ (Cx.refl _) _ h_r_1) ?_
 rintro e_ w_1 ⟨rfl, k_2⟩
 have k_3 := k_1.call k_2
 refine ⟨I r_1, rfl, ?_⟩
 refine WLs 1 [] (.n 4 (I r_1) .z) qe (by kernel_rfl) ?_
 refine WL_nil <| At_go <| W_ret ?_
 obtain rfl := Option.some.inj hm
 refine At_rt [I r_1] qe (by kernel_rfl) ?_
 exact ⟨rfl, k_3⟩

-- quern/quernref03.place
theorem c_r03_place {F O : Nat → Prop} {w : World} (a_ : Int) (k : Cx F O w w []) (r : Bool) (hm : m_r03_place a_ = some r) :
    Calls Tryz.prog 137 (vals [I a_]) w (fun e w' => e = .returned (SV.val (.b r)) ∧ Cx F O w w' []) := by
 unfold m_r03_place at hm
 refine calls [I a_] Tryz.func137 rfl (of_decide_eq_true (by kernel_rfl)) ?_
 refine W_seq <| W_q [] .a qe (by kernel_rfl) ?_
 refine At_go <| W_seq <| W_q [] (.n 2 (.b ((decide (0 ≤ a_)) && (decide (a_ ≤ 15)))) .z) qe (by kernel_rfl) ?_
 refine At_go <| W_ret ?_
 obtain rfl := Option.some.inj hm
 refine At_rt [.b ((decide (0 ≤ a_)) && (decide (a_ ≤ 15)))] qe (by kernel_rfl) ?_
 exact ⟨rfl, k⟩

-- quern/quernref01.Turn64
theorem c_r01_Turn64 {F O : Nat → Prop} {w : World} (w_ : UInt64) (n : Int) (k : Cx F O w w []) (r : UInt64) (hm : m_r01_Turn64 w_ n = some r) :
    Calls Tryz.prog 138 (vals [.u64 w_, I n]) w (fun e w' => e = .returned (SV.val (.u64 r)) ∧ Cx F O w w' []) := by
 unfold m_r01_Turn64 at hm
 refine calls [.u64 w_, I n] Tryz.func138 rfl (of_decide_eq_true (by kernel_rfl)) ?_
 refine W_seq <| W_q [] .a qe (by kernel_rfl) ?_
 refine At_go <| W_seq <| W_reg <| WLs 1 [] (.n 6 (I n) (.k .z)) qe (by kernel_rfl) ?_
 refine WL_op ?_
 obtain ⟨r_, h_r_, hm⟩ := ob hm
 refine Op_call [] 7 _ yz_go140 (by kernel_rfl) (c_r01_Rest (F := N0) (O := N0) _ _ (Cx.refl _) _ h_r_) ?_
 rintro e_ w_1 ⟨rfl, k_⟩
 have k_1 := k.call k_
 refine ⟨I r_, rfl, ?_⟩
 refine WLs 1 [] (.n 5 (I r_) (.ss .a)) qe (by kernel_rfl) ?_
 refine WL_nil <| At_go <| W_seq <| W_seq <| W_q [] (.n 9 (.b (decide (r_ = 0))) .a) qe (by kernel_rfl) ?_
 refine At_go <| W_condp (r_ = 0) (by kernel_rfl) (fun hc => ?_) (fun hc => ?_)
 · rw [if_pos hc] at hm
   refine W_seq <| W_q [] (.n 4 (.u64 w_) .z) qe (by kernel_rfl) ?_
   refine At_go <| W_ret (At_tr ?_)
   obtain rfl := Option.some.inj hm
   refine At_rt [.u64 w_] qe (by kernel_rfl) ?_
   exact ⟨rfl, k_1⟩
 rw [if_neg hc] at hm
 refine W_skip <| At_go <| W_seq ?_
 obtain ⟨u, h_u, hm⟩ := ob hm
 obtain ⟨u1, h_u1, hm⟩ := ob hm
 refine W_d yz_mixed (by kernel_rfl) (.n 4 (.u64 ((shr64 w_ (Int.toNat r_)) ||| (shl64 w_ (Int.toNat (w64 (64 - r_)))))) .z) (fun m => qp (0 ≤ r_) (need_some h_u) <| qp (0 ≤ w64 (64 - r_)) (need_some h_u1) <| qe) (by kernel_rfl) (fun m_ => ?_)
 have k_2 := k_1.drew m_
 refine At_go <| W_ret ?_
 obtain rfl := Option.some.inj hm
 refine At_rt [.u64 ((shr64 w_ (Int.toNat r_)) ||| (shl64 w_ (Int.toNat (w64 (64 - r_)))))] qe (by kernel_rfl) ?_
 exact ⟨rfl, k_2⟩
end Go.Sx
