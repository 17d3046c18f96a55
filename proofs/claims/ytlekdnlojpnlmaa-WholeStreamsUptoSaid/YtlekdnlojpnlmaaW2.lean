import Derived.Test.YtlekdnlojpnlmaaW1
namespace Go.Sx
open Go.RowKit Go.Proofs
set_option linter.unusedVariables false
set_option linter.unusedSimpArgs false
set_option maxRecDepth 20000
variable {F O : Nat → Prop} {w : World}
theorem c_node_half_uint32_write (x_h : Vec UInt32 8) (x_count_Lo : UInt64) (x_count_Hi : UInt64) (x_held : List UInt8) (x_block : Int) (b : List UInt8) (g_x : Nat) (A_x_held : Option Addr) (n_x_held : Nat) (c_x_held : Nat) (A_b : Option Addr) (n_b : Nat) (c_b : Nat) (h_b : Ro F w A_b (e8.all b)) (hn_b : b.length = n_b) (hc_b : n_b ≤ c_b) (k : Cx F O w w [Bx 128 g_x [.ar e32 x_h, .u64 x_count_Lo, .u64 x_count_Hi, sl A_x_held n_x_held c_x_held, I x_block, .v (.func (.func 65) ⟨SV.vals []⟩ ⟨SV.vals []⟩), .v (.func (.func 66) ⟨SV.vals []⟩ ⟨SV.vals []⟩)], Ow e8 A_x_held n_x_held c_x_held x_held]) (r : (Vec UInt32 8 × UInt64 × UInt64 × List UInt8 × Int)) (hm : m_node_half_uint32_write x_h x_count_Lo x_count_Hi x_held x_block b = some r) :
    Calls Try.prog 118 (vals [pt g_x 0, sl A_b n_b c_b]) w (fun e w' => ∃ A n c, r.2.2.2.1.length = n ∧ e = .returned (SV.val (.tup [])) ∧ Cx F O w w' [Bx 128 g_x [.ar e32 r.1, .u64 r.2.1, .u64 r.2.2.1, sl A n c, I r.2.2.2.2, .v (.func (.func 65) ⟨SV.vals []⟩ ⟨SV.vals []⟩), .v (.func (.func 66) ⟨SV.vals []⟩ ⟨SV.vals []⟩)], Ow e8 A n c r.2.2.2.1]) := by
 unfold m_node_half_uint32_write at hm
 obtain rfl := k.len 1 rfl
 subst hn_b
 refine calz [pt g_x 0, sl A_b b.length c_b] Try.func118 rfl ?_
 refine W_block <| W_lp (m_node_half_uint32_write_l0 x_block) (fun s L wr => ∃ (x_0 : Vec UInt32 8) (x_5 : UInt64) (x_6 : UInt64) (x_7 : List UInt8) (b1 : List UInt8) (A0 : Option Addr) (n0 : Nat) (c0 : Nat) (A1 : Option Addr) (c1 : Nat), (x_0, x_5, x_6, x_7, b1) = s ∧ L = [(0, pt g_x 0), (1, sl A1 b1.length c1)] ∧ x_7.length = n0 ∧ Ro F w A1 (e8.all b1) ∧ b1.length ≤ c1 ∧ Cx F O w wr [Bx 128 g_x [.ar e32 x_0, .u64 x_5, .u64 x_6, sl A0 n0 c0, I x_block, .v (.func (.func 65) ⟨SV.vals []⟩ ⟨SV.vals []⟩), .v (.func (.func 66) ⟨SV.vals []⟩ ⟨SV.vals []⟩)], Ow e8 A0 n0 c0 x_7]) (x_h, x_count_Lo, x_count_Hi, x_held, b) r hm ⟨x_h, x_count_Lo, x_count_Hi, x_held, b, A_x_held, x_held.length, c_x_held, A_b, c_b, rfl, rfl, k.len 1 rfl, h_b, hc_b, k⟩ (by kernel_rfl) ?_
 intro s0_ L_ w_ y0 hrel hstep hr0
 obtain ⟨x_0, x_5, x_6, x_7, b1, A0, _, c0, A1, c1, rfl, rfl, rfl, h, hc, k_⟩ := hrel
 have hm := hstep; simp only [m_node_half_uint32_write_l0] at hm
 clear hstep
 refine W_seq <| W_seq <| Wq (.n 7 (.b (decide (0 < (b1.length : Int)))) .a) ?_
 refine W_pz (0 < (b1.length : Int)) (fun hc1 => ?_) fun hc1 => ?_
 · rw [if_pos hc1] at hm
   refine W_skip <| At_go <| W_block <| W_cut (fun L wr => ∃ (x_8 : Vec UInt32 8) (x_9 : UInt64) (x_10 : UInt64) (x_11 : List UInt8) (A2 : Option Addr) (n1 : Nat) (c2 : Nat), m_node_half_uint32_write_j0 x_block b1 x_8 x_9 x_10 x_11 = some y0 ∧ L = [(0, pt g_x 0), (1, sl A1 b1.length c1)] ∧ x_11.length = n1 ∧ Cx F O w wr [Bx 128 g_x [.ar e32 x_8, .u64 x_9, .u64 x_10, sl A2 n1 c2, I x_block, .v (.func (.func 65) ⟨SV.vals []⟩ ⟨SV.vals []⟩), .v (.func (.func 66) ⟨SV.vals []⟩ ⟨SV.vals []⟩)], Ow e8 A2 n1 c2 x_11]) ?_ ?_
   ·
    refine W_seq <| W_d ws_mixed (by kernel_rfl) (.n 17 (.b (decide ((x_7.length : Int) = x_block))) (.s .a)) (fun m => qs g_x 0 <| qs g_x 0 <| qB (k_.drew m) 0 rfl 10 (sl A0 x_7.length c0) (by kernel_rfl) <| qs g_x 0 <| qs g_x 0 <| qB (k_.drew m) 0 rfl 11 (I x_block) (by kernel_rfl) <| qe) (by kernel_rfl) (fun m_ => ?_)
    have k_1 := k_.drew m_
    refine At_go <| W_pz ((x_7.length : Int) = x_block) (fun hc2 => ?_) fun hc2 => ?_
    · rw [if_pos hc2] at hm
      refine W_seq ?_
      have k_2 := k_1.drew 1
      refine W_m ws_mixed (.q 0 1 (.q 1 1 (.q 2 1 (.q 3 0 (.q 4 0 (.q 5 1 (.q 6 1 (.q 7 1 (.q 8 0 (.q 9 0 (.op 10 (.q 11 1 (.q 12 1 (.q 14 1 (.q 15 1 (.q 13 2 (.op 16 .nil))))))))))))))))) [10, 16] k_2 (.c (.kk .e) (.c (.s (.k .e)) .l)) (by kernel_rfl) (fun _ => ?_)
      refine MXz 3 1 (.n 19 (pt g_x 0) (.n 21 (pt g_x 0) (.s .a))) (fun x hx => qs g_x 0 <| qe) fun _ => ?_
      refine MXz 2 0 (.n 23 (.agg [.u64 x_5, .u64 x_6]) (.k (.s .a))) (fun x hx => qs g_x 0 <| qT hx 0 rfl 8 2 [.u64 x_5, .u64 x_6] (by kernel_rfl) (by decide) <| qe) fun _ => ?_
      refine MXz 3 1 (.n 26 (pt g_x 11) .a) (fun x hx => qs g_x 0 <| qs g_x 0 <| qe) fun _ => ?_
      refine MXz 2 0 (.n 28 (.u64 (UInt64.ofInt x_block)) (.s .a)) (fun x hx => qB hx 0 rfl 11 (I x_block) (by kernel_rfl) <| qe) fun _ => ?_
      refine MX_op (by kernel_rfl) rfl ?_
      obtain ⟨r_, h_r_, hm⟩ := ob hm
      refine Op_cz 29 ws_go113 (c_word_Add (F := N0) (O := N0) _ _ _ (Cx.refl _) _ h_r_) ?_
      rintro e_ w_1 ⟨rfl, k_3⟩
      have k_4 := k_2.call k_3
      refine ⟨.tup [.agg [.u64 r_.1, .u64 r_.2.1], .b r_.2.2], rfl, ?_⟩
      refine ⟨k_4, fun _ => ?_⟩
      refine MXz 4 1 (.n 18 (.tup [.agg [.u64 r_.1, .u64 r_.2.1], .b r_.2.2]) (.n 30 (.agg [.u64 r_.1, .u64 r_.2.1]) (.n 33 (pt g_x 8) (.ssss .a)))) (fun x hx => qs g_x 0 <| qs g_x 0 <| qe) fun _ => ?_
      refine MXz 1 2 (.s .a) (fun x hx => qe) fun _ => ?_
      refine MX_op (by kernel_rfl) rfl <| Op_bz 0 (.agg [.u64 r_.1, .u64 r_.2.1]) [.u64 r_.1, .u64 r_.2.1] (Pt.at g_x 8) k_4 rfl (.k .h2) ?_
      intro w_2 k_5
      refine ⟨(k_5.sel (.s (.k .e))), fun _ => ?_⟩
      refine MX_nil <| At_go <| W_seq ?_
      have k_6 := k_5.drew 1
      refine W_m ws_mixed (.q 0 1 (.q 1 1 (.q 2 1 (.q 3 0 (.q 4 0 (.q 5 1 (.q 6 1 (.q 7 0 (.q 8 0 (.q 9 1 (.q 10 1 (.q 11 0 (.q 12 0 (.q 13 1 (.q 14 1 (.q 15 0 (.q 16 0 (.op 17 (.q 18 1 (.q 19 1 (.op 20 .nil))))))))))))))))))))) [17, 20] k_6 (.c (.kk .e) (.c (.s (.k .e)) .l)) (by kernel_rfl) (fun _ => ?_)
      refine MXz 3 1 (.n 34 (pt g_x 0) (.n 36 (pt g_x 0) (.ss .a))) (fun x hx => qs g_x 0 <| qe) fun _ => ?_
      refine MXz 2 0 (.n 38 (.v (.func (.func 65) ⟨SV.vals []⟩ ⟨SV.vals []⟩)) (.k (.s .a))) (fun x hx => qs g_x 0 <| qB hx 0 rfl 12 (.v (.func (.func 65) ⟨SV.vals []⟩ ⟨SV.vals []⟩)) (by kernel_rfl) <| qe) fun _ => ?_
      refine MXz 2 1 (.n 40 (pt g_x 0) .a) (fun x hx => qs g_x 0 <| qe) fun _ => ?_
      refine MXz 2 0 (.n 42 (.agg [.ar e32 x_0]) (.s .a)) (fun x hx => qs g_x 0 <| qT hx 0 rfl 0 8 [.ar e32 x_0] (by kernel_rfl) (by decide) <| qe) fun _ => ?_
      refine MXz 2 1 (.n 44 (pt g_x 0) .a) (fun x hx => qs g_x 0 <| qe) fun _ => ?_
      refine MXz 2 0 (.n 46 (sl A0 x_7.length c0) (.s .a)) (fun x hx => qs g_x 0 <| qB hx 0 rfl 10 (sl A0 x_7.length c0) (by kernel_rfl) <| qe) fun _ => ?_
      refine MXz 2 1 (.n 48 (pt g_x 0) .a) (fun x hx => qs g_x 0 <| qe) fun _ => ?_
      refine MXz 2 0 (.n 50 (.agg [.u64 r_.1, .u64 r_.2.1]) (.s .a)) (fun x hx => qs g_x 0 <| qT hx 0 rfl 8 2 [.u64 r_.1, .u64 r_.2.1] (by kernel_rfl) (by decide) <| qe) fun _ => ?_
      refine MX_op (by kernel_rfl) rfl ?_
      obtain ⟨r_1, h_r_1, hm⟩ := ob hm
      refine Op_callv [] 51 [] [.agg [.ar e32 x_0], sl A0 x_7.length c0, .agg [.u64 r_.1, .u64 r_.2.1], .b false, .b false] [] ws_go65 (by kernel_rfl) (c_node_mixSmall (F := N0) (O := N0) _ _ _ _ _ _ _ _ _ (Ro.n0 (k_6.rd 1 rfl)) (k_6.len 1 rfl) (k_6.lec 1 rfl) (Cx.refl _) _ h_r_1) ?_
      rintro e_ w_3 ⟨rfl, k_7⟩
      have k_8 := k_6.call k_7
      refine ⟨.agg [.ar e32 r_1], rfl, ?_⟩
      refine ⟨k_8, fun _ => ?_⟩
      refine MXz 2 1 (.n 53 (pt g_x 0) (.k (.ssss (.s .a)))) (fun x hx => qs g_x 0 <| qs g_x 0 <| qe) fun _ => ?_
      refine MX_op (by kernel_rfl) rfl <| Op_bz 0 (.agg [.ar e32 r_1]) [.ar e32 r_1] (Pt.at g_x 0) k_8 rfl .h ?_
      intro w_4 k_9
      refine ⟨(k_9.sel (.s (.k .e))), fun _ => ?_⟩
      refine MX_nil <| At_go <| W_reg ?_
      obtain ⟨b2, h_b2, hm⟩ := ob hm
      have hs := slc_some h_b2
      have hl := slc_len h_b2
      have hn : x_7.length = x_7.length := (k_9.len 1 rfl)
      have hc3 : x_7.length ≤ c0 := (k_9.lec 1 rfl)
      have hc4 : b2.length ≤ c0 := by omega
      refine Wl 8 (.n 59 (sl A0 b2.length c0) (.n 61 (pt g_x 10) (.ss .a))) (qs g_x 0 <| qs g_x 0 <| qB k_9 0 rfl 10 (sl A0 x_7.length c0) (by kernel_rfl) <| qp (0 ≤ (0 : Int) ∧ (0 : Int) ≤ (c0 : Int)) (by omega) <| qo (.v (.slice A0 b2.length c0)) <| qp (Value.slice (slA A0 0 c0 1) (Int.toNat (0 : Int) - 0) (c0 - 0) = .slice A0 b2.length c0) (slx0 _ _ _ _ _ (by omega)) <| qs g_x 0 <| qs g_x 0 <| qe) ?_
      refine WL_op ?_
      have k_10 := k_9.sel (.kk .e)
      refine Op_bz 0 (sl A0 b2.length c0) [sl A0 b2.length c0] (Pt.at g_x 10) k_10 rfl (.kk (.k .h)) ?_
      intro w_5 k_11
      refine WL_nil ?_
      have k_12 := k_11.pre 1 rfl b2.length c0 b2 (by omega) (by omega) (by omega) (slc_pre h_b2 rfl)
      exact At_cz ⟨r_1, r_.1, r_.2.1, b2, A0, b2.length, c0, hm, rfl, k_12.len 1 rfl, k_12⟩
    rw [if_neg hc2] at hm
    refine W_skip ?_
    exact At_cz ⟨x_0, x_5, x_6, x_7, A0, x_7.length, c0, hm, rfl, k_1.len 1 rfl, k_1⟩
   rintro L_ w_6 ⟨x_8, x_9, x_10, x_11, A2, _, c2, hm, rfl, rfl, k_13⟩
   simp only [m_node_half_uint32_write_j0] at hm
   refine W_seq <| W_d ws_mixed (by kernel_rfl) (.n 4 (I (if w64 (x_block - (x_11.length : Int)) < (b1.length : Int) then w64 (x_block - (x_11.length : Int)) else (b1.length : Int))) .a) (fun m => qs g_x 0 <| qs g_x 0 <| qB (k_13.drew m) 0 rfl 11 (I x_block) (by kernel_rfl) <| qs g_x 0 <| qs g_x 0 <| qB (k_13.drew m) 0 rfl 10 (sl A2 x_11.length c2) (by kernel_rfl) <| qe) (by kernel_rfl) (fun m_1 => ?_)
   have k_14 := k_13.drew m_1
   refine At_go <| W_seq ?_
   have k_15 := k_14.drew 1
   refine W_m ws_mixed (.q 5 0 (.q 6 0 (.q 7 0 (.q 0 1 (.q 1 1 (.q 2 1 (.q 3 0 (.q 4 0 (.op 8 (.q 9 1 (.q 10 1 (.op 11 .nil)))))))))))) [8, 11] k_15 (.c (.k .z) (.c (.z) .l)) (by kernel_rfl) (fun _ => ?_)
   obtain ⟨b3, h_b3, hm⟩ := ob hm
   have hs1 := slc_some h_b3
   have hl1 := slc_len h_b3
   have hn1 : b1.length = b1.length := rfl
   have hc5 : b1.length ≤ c1 := hc
   have hc6 : b3.length ≤ c1 := by omega
   refine MXz 3 0 (.n 82 (sl A1 b3.length c1) .a) (fun x hx => qp (0 ≤ (if w64 (x_block - (x_11.length : Int)) < (b1.length : Int) then w64 (x_block - (x_11.length : Int)) else (b1.length : Int)) ∧ (if w64 (x_block - (x_11.length : Int)) < (b1.length : Int) then w64 (x_block - (x_11.length : Int)) else (b1.length : Int)) ≤ (c1 : Int)) (by omega) <| qo (.v (.slice A1 b3.length c1)) <| qp (Value.slice (slA A1 0 c1 1) (Int.toNat (if w64 (x_block - (x_11.length : Int)) < (b1.length : Int) then w64 (x_block - (x_11.length : Int)) else (b1.length : Int)) - 0) (c1 - 0) = .slice A1 b3.length c1) (slx0 _ _ _ _ _ (by omega)) <| qe) fun _ => ?_
   refine MXz 3 1 (.n 75 (pt g_x 0) (.n 77 (pt g_x 0) .a)) (fun x hx => qs g_x 0 <| qe) fun _ => ?_
   refine MXz 2 0 (.n 79 (sl A2 x_11.length c2) (.k (.s .a))) (fun x hx => qs g_x 0 <| qB hx 0 rfl 10 (sl A2 x_11.length c2) (by kernel_rfl) <| qe) fun _ => ?_
   refine MX_op (by kernel_rfl) rfl ?_
   obtain ⟨b4, h_b4, hm⟩ := ob hm
   obtain ⟨hz, hl2⟩ := app_some h_b4
   refine Op_append (E := e8) (v := sl A1 b3.length c1) (ys := b3) ws_tf23 [] 83 1 (by kernel_rfl) k_15 rfl (Src.sl (Rd.pre (h.cx k_15) h_b3 rfl) rfl (by rfl)) rfl (by have := k_15.len 1 rfl; have := hm; omega) ?_
   intro A3 c3 w_7 k_16
   rw [← hl2] at k_16
   refine ⟨(k_16.sel (.k .z)), fun _ => ?_⟩
   refine MXz 2 1 (.n 85 (pt g_x 10) (.k (.sss .a))) (fun x hx => qs g_x 0 <| qs g_x 0 <| qe) fun _ => ?_
   refine MX_op (by kernel_rfl) rfl <| Op_bz 0 (sl A3 (x_11.length + b3.length) c3) [sl A3 (x_11.length + b3.length) c3] (Pt.at g_x 10) k_16 rfl (.kk (.k .h)) ?_
   intro w_8 k_17
   refine ⟨(k_17.sel .z), fun _ => ?_⟩
   refine MX_nil <| At_go ?_
   obtain ⟨b5, h_b5, hm⟩ := ob hm
   have hs2 := slc_some h_b5
   have hl3 := slc_len h_b5
   have hn2 : b1.length = b1.length := rfl
   have hc7 : b1.length ≤ c1 := hc
   obtain ⟨A4, c4, e_, hc8, hA, hc9⟩ := slx A1 (Int.toNat (if w64 (x_block - (x_11.length : Int)) < (b1.length : Int) then w64 (x_block - (x_11.length : Int)) else (b1.length : Int))) c1 1 (b1.length - Int.toNat (if w64 (x_block - (x_11.length : Int)) < (b1.length : Int) then w64 (x_block - (x_11.length : Int)) else (b1.length : Int))) b5.length (by omega) (by omega)
   refine W_q [] (.n 1 (sl A4 b5.length c4) (.sss (.k .z))) (qp (0 ≤ (if w64 (x_block - (x_11.length : Int)) < (b1.length : Int) then w64 (x_block - (x_11.length : Int)) else (b1.length : Int)) ∧ (if w64 (x_block - (x_11.length : Int)) < (b1.length : Int) then w64 (x_block - (x_11.length : Int)) else (b1.length : Int)) ≤ (b1.length : Int)) (by omega) <| qo (.v (.slice A4 b5.length c4)) <| qp (Value.slice (slA A1 (Int.toNat (if w64 (x_block - (x_11.length : Int)) < (b1.length : Int) then w64 (x_block - (x_11.length : Int)) else (b1.length : Int))) c1 1) (b1.length - Int.toNat (if w64 (x_block - (x_11.length : Int)) < (b1.length : Int) then w64 (x_block - (x_11.length : Int)) else (b1.length : Int))) (c1 - Int.toNat (if w64 (x_block - (x_11.length : Int)) < (b1.length : Int) then w64 (x_block - (x_11.length : Int)) else (b1.length : Int))) = .slice A4 b5.length c4) e_ <| qe) (by kernel_rfl) ?_
   refine At_in ?_
   exact At_rd (x_8, x_9, x_10, b4, b5) (Option.some.inj hm).symm ⟨x_8, x_9, x_10, b4, b5, A3, x_11.length + b3.length, c3, A4, c4, rfl, rfl, k_17.len 1 rfl, (Ro.cut h h_b5 rfl (by rfl) hA (by omega)), hc8, k_17⟩ (by kernel_rfl)
 rw [if_neg hc1] at hm
 refine W_exit (At_te (At_te (At_ie ?_)))
 have hm := exit_of hm hr0
 obtain rfl := si hm
 refine At_en [] qe (by kernel_rfl) ?_
 exact ⟨A0, x_7.length, c0, k_.len 1 rfl, rfl, k_⟩
theorem c_node_Node_begin (n_kind : Int) (n_digest : Int) (n_block : List UInt8) (n_key : List UInt8) (n_last : Bool) (n_written : UInt64) (g_n : Nat) (A_n_block : Option Addr) (n_n_block : Nat) (c_n_block : Nat) (A_n_key : Option Addr) (n_n_key : Nat) (c_n_key : Nat) (k : Cx F O w w [Bx 77 g_n [I n_kind, I n_digest, sl A_n_block n_n_block c_n_block, sl A_n_key n_n_key c_n_key, .b n_last, .u64 n_written, .v .nilIface], Ow e8 A_n_block n_n_block c_n_block n_block, Ow e8 A_n_key n_n_key c_n_key n_key]) (r : (Int × Int × List UInt8 × List UInt8 × Vec UInt64 8 × UInt64 × UInt64 × List UInt8 × Int) ⊕ (Int × Int × List UInt8 × List UInt8 × Vec UInt32 8 × UInt64 × UInt64 × List UInt8 × Int)) (hm : m_node_Node_begin n_kind n_digest n_block n_key n_last n_written = some r) :
    Calls Try.prog 48 (vals [pt g_n 0]) w (fun e w' => match r with | .inl r0 => ∃ A n c A1 n1 c1 g A2 n2 c2, r0.2.2.1.length = n ∧ r0.2.2.2.1.length = n1 ∧ r0.2.2.2.2.2.2.2.1.length = n2 ∧ e = .returned (SV.val (.tup [])) ∧ Cx F O w w' [Bx 77 g_n [I r0.1, I r0.2.1, sl A n c, sl A1 n1 c1, .b false, .u64 0, .v (.iface 114 (SV.val (pt g 0)))], Ow e8 A n c r0.2.2.1, Ow e8 A1 n1 c1 r0.2.2.2.1, Bx 120 g [.ar e64 r0.2.2.2.2.1, .u64 r0.2.2.2.2.2.1, .u64 r0.2.2.2.2.2.2.1, sl A2 n2 c2, I r0.2.2.2.2.2.2.2.2, .v (.func (.func 62) ⟨SV.vals []⟩ ⟨SV.vals []⟩), .v (.func (.func 63) ⟨SV.vals []⟩ ⟨SV.vals []⟩)], Ow e8 A2 n2 c2 r0.2.2.2.2.2.2.2.1] | .inr r1 => ∃ A3 n3 c3 A4 n4 c4 g1 A5 n5 c5, r1.2.2.1.length = n3 ∧ r1.2.2.2.1.length = n4 ∧ r1.2.2.2.2.2.2.2.1.length = n5 ∧ e = .returned (SV.val (.tup [])) ∧ Cx F O w w' [Bx 77 g_n [I r1.1, I r1.2.1, sl A3 n3 c3, sl A4 n4 c4, .b false, .u64 0, .v (.iface 124 (SV.val (pt g1 0)))], Ow e8 A3 n3 c3 r1.2.2.1, Ow e8 A4 n4 c4 r1.2.2.2.1, Bx 128 g1 [.ar e32 r1.2.2.2.2.1, .u64 r1.2.2.2.2.2.1, .u64 r1.2.2.2.2.2.2.1, sl A5 n5 c5, I r1.2.2.2.2.2.2.2.2, .v (.func (.func 65) ⟨SV.vals []⟩ ⟨SV.vals []⟩), .v (.func (.func 66) ⟨SV.vals []⟩ ⟨SV.vals []⟩)], Ow e8 A5 n5 c5 r1.2.2.2.2.2.2.2.1]) := by
 unfold m_node_Node_begin at hm
 obtain rfl := k.len 1 rfl
 obtain rfl := k.len 2 rfl
 refine calz [pt g_n 0] Try.func48 rfl ?_
 refine W_seq ?_
 have k_ := k.drew 1
 refine W_m ws_mixed (.q 0 1 (.q 1 1 (.q 2 1 (.q 3 0 (.q 4 0 (.q 5 1 (.q 6 1 (.q 7 0 (.q 8 0 (.op 9 (.q 10 1 (.q 11 1 (.op 12 .nil))))))))))))) [9, 12] k_ (.c (.kk (.k .e)) (.c (.s (.kk .e)) .l)) (by kernel_rfl) (fun _ => ?_)
 refine MXz 3 1 (.n 2 (pt g_n 0) (.n 4 (pt g_n 0) .a)) (fun x hx => qs g_n 0 <| qe) fun _ => ?_
 refine MXz 2 0 (.n 6 (I n_kind) (.k (.s .a))) (fun x hx => qs g_n 0 <| qB hx 0 rfl 0 (I n_kind) (by kernel_rfl) <| qe) fun _ => ?_
 refine MXz 2 1 (.n 8 (pt g_n 0) .a) (fun x hx => qs g_n 0 <| qe) fun _ => ?_
 refine MXz 2 0 (.n 10 (sl A_n_block n_block.length c_n_block) (.s .a)) (fun x hx => qs g_n 0 <| qB hx 0 rfl 2 (sl A_n_block n_block.length c_n_block) (by kernel_rfl) <| qe) fun _ => ?_
 refine MX_op (by kernel_rfl) rfl ?_
 obtain ⟨r_, h_r_, hm⟩ := ob hm
 refine Op_cz 11 ws_go55 (c_node_begun (F := N0) (O := N0) _ _ _ _ _ (Ro.n0 (k_.rd 1 rfl)) (k_.len 1 rfl) (k_.lec 1 rfl) (Cx.refl _) _ h_r_) ?_
 rcases r_ with r_1 | r_2
 · simp only [Sum.elim_inl, Sum.elim_inr] at hm
   rintro e_ w_ ⟨g0, A0, _, c0, rfl, rfl, k_1⟩
   have k_2 := k_.call k_1
   refine ⟨.v (.iface 114 (SV.val (pt g0 0))), rfl, ?_⟩
   refine ⟨(k_2.sel (.kk (.k .z))), fun _ => ?_⟩
   refine MXz 2 1 (.n 13 (pt g_n 6) (.k (.sss .a))) (fun x hx => qs g_n 0 <| qs g_n 0 <| qe) fun _ => ?_
   refine MX_op (by kernel_rfl) rfl <| Op_bz 0 (.v (.iface 114 (SV.val (pt g0 0)))) [.v (.iface 114 (SV.val (pt g0 0)))] (Pt.at g_n 6) k_2 rfl (.kkkk (.kk .h)) ?_
   intro w_1 k_3
   refine ⟨(k_3.sel (.s (.kk .z))), fun _ => ?_⟩
   refine MX_nil <| At_go <| W_seq <| W_reg <| Wl 3 (.n 16 (pt g_n 4) (.ss .a)) (qs g_n 0 <| qs g_n 0 <| qe) ?_
   refine WL_op <| Op_bz 0 (.b false) [.b false] (Pt.at g_n 4) k_3 rfl (.kkkk .h) ?_
   intro w_2 k_4
   refine Wn <| W_seq <| W_reg <| Wl 3 (.n 19 (pt g_n 5) (.s .a)) (qs g_n 0 <| qs g_n 0 <| qe) ?_
   refine WL_op <| Op_bz 0 (.u64 0) [.u64 0] (Pt.at g_n 5) k_4 rfl (.kkkk (.k .h)) ?_
   intro w_3 k_5
   refine Wn <| W_seq <| Wa (.n 25 (.b (decide (0 < (n_key.length : Int)))) (.s .a)) (qs g_n 0 <| qs g_n 0 <| qB k_5 0 rfl 3 (sl A_n_key n_key.length c_n_key) (by kernel_rfl) <| qe) ?_
   refine W_pz (0 < (n_key.length : Int)) (fun hc => ?_) fun hc => ?_
   · rw [if_pos hc] at hm
     have k_6 := k_5.drew 1
     refine W_m ws_mixed (.q 0 3 (.q 1 3 (.q 2 3 (.q 3 2 (.q 14 2 (.q 15 2 (.q 4 3 (.q 5 3 (.q 6 2 (.q 7 1 (.q 8 3 (.q 9 3 (.q 10 2 (.q 11 1 (.op 12 (.op 13 (.op 16 .nil))))))))))))))))) [12, 13, 16] k_6 (.c (.kkkk (.k .e)) (.c (.kkkk (.k .e)) (.c (.kk (.k .z)) .l))) (by kernel_rfl) (fun _ => ?_)
     refine MXz 3 3 (.n 28 (pt g_n 6) (.s .a)) (fun x hx => qs g_n 0 <| qs g_n 0 <| qe) fun _ => ?_
     refine MXz 3 2 (.n 41 (.v (.iface 114 (SV.val (pt g0 0)))) (.s .a)) (fun x hx => qB hx 0 rfl 6 (.v (.iface 114 (SV.val (pt g0 0)))) (by kernel_rfl) <| qe) fun _ => ?_
     refine MXz 2 3 (.n 31 (pt g_n 0) .a) (fun x hx => qs g_n 0 <| qe) fun _ => ?_
     refine MXz 1 2 (.n 32 (pt g_n 3) (.s .a)) (fun x hx => qs g_n 0 <| qe) fun _ => ?_
     refine MXz 1 1 (.n 33 (sl A_n_key n_key.length c_n_key) (.s .a)) (fun x hx => qB hx 0 rfl 3 (sl A_n_key n_key.length c_n_key) (by kernel_rfl) <| qe) fun _ => ?_
     refine MXz 2 3 (.n 35 (pt g_n 0) (.kk .z)) (fun x hx => qs g_n 0 <| qe) fun _ => ?_
     refine MXz 1 2 (.n 36 (pt g_n 0) (.s .a)) (fun x hx => qs g_n 0 <| qe) fun _ => ?_
     refine MXz 1 1 (.n 37 (I n_kind) (.s .a)) (fun x hx => qB hx 0 rfl 0 (I n_kind) (by kernel_rfl) <| qe) fun _ => ?_
     refine MX_op (by kernel_rfl) rfl ?_
     have k_7 := k_6.sel (.kkkk (.k .e))
     obtain ⟨r_3, h_r_3, hm⟩ := ob hm
     refine Op_cz 38 ws_go40 (c_node_blockOf (F := N0) (O := N0) _ (Cx.refl _) _ h_r_3) ?_
     rintro e_ w_4 ⟨rfl, k_8⟩
     have k_9 := k_7.call k_8
     refine ⟨I r_3, rfl, ?_⟩
     refine ⟨k_9, fun _ => ?_⟩
     refine MX_op (by kernel_rfl) rfl ?_
     obtain ⟨r_4, h_r_4, hm⟩ := ob hm
     refine Op_cz 39 ws_go56 (c_node_padded (F := N0) (O := N0) _ _ _ _ _ (Ro.n0 (k_9.rd 2 rfl)) (k_9.len 2 rfl) (k_9.lec 2 rfl) (Cx.refl _) _ h_r_4) ?_
     rintro e_ w_5 ⟨A6, _, c6, rfl, rfl, k_10⟩
     have k_11 := k_9.call k_10
     refine ⟨sl A6 r_4.length c6, rfl, ?_⟩
     refine ⟨(k_11.sel (.kkkk (.k .z))), fun _ => ?_⟩
     refine MX_op (by kernel_rfl) rfl ?_
     obtain ⟨r_5, h_r_5, hm⟩ := ob hm
     obtain ⟨F1, O1, kin, hO, hre, hF, hb⟩ := k_11.go (.r (.r (.r (.i (.i (.r .e))))))
     refine Op_invoke [] 42 114 (pt g0 0) [sl A6 r_4.length c6] ws_inv114_node_write rfl (by kernel_rfl) (c_node_half_uint64_write (F := F1) (O := O1) _ _ _ _ _ _ _ _ _ _ _ _ _ (Ro.of_rest hre 3 rfl) (k_11.len 5 rfl) (k_11.lec 5 rfl) kin _ h_r_5) ?_
     rintro e_ w_6 ⟨A7, _, c7, rfl, rfl, k_12⟩
     have k_13 := hb w_6 _ _ k_12 (.c (.c .n))
     refine ⟨.tup [], rfl, ?_⟩
     have k_14 := k_13.sel (.kkkk (.k .z))
     refine ⟨(k_14.sel (.ss (.kk (.k .e)))), fun _ => ?_⟩
     refine MX_nil ?_
     obtain rfl := si hm
     refine At_en [] qe (by kernel_rfl) ?_
     have k_15 := ((((k_14.pk (.t .h)).pk (.t .h)).pk (.t (.t (.t (.t .h))))).pk (.t (.t (.t (.t .h))))).pk (.t (.t (.t (.t .h))))
     exact ⟨A_n_block, n_block.length, c_n_block, A_n_key, n_key.length, c_n_key, g0, A7, r_5.2.2.2.1.length, c7, k_15.len 1 rfl, k_15.len 2 rfl, k_15.len 4 rfl, rfl, k_15⟩
   rw [if_neg hc] at hm
   refine W_skip ?_
   obtain rfl := si hm
   refine At_en [] qe (by kernel_rfl) ?_
   exact ⟨A_n_block, n_block.length, c_n_block, A_n_key, n_key.length, c_n_key, g0, A0, r_1.2.length, c0, k_5.len 1 rfl, k_5.len 2 rfl, k_5.len 4 rfl, rfl, k_5⟩
 · simp only [Sum.elim_inl, Sum.elim_inr] at hm
   rintro e_ w_0 ⟨g2, A8, _, c8, rfl, rfl, k_16⟩
   have k_17 := k_.call k_16
   refine ⟨.v (.iface 124 (SV.val (pt g2 0))), rfl, ?_⟩
   refine ⟨(k_17.sel (.kk (.k .z))), fun _ => ?_⟩
   refine MXz 2 1 (.n 13 (pt g_n 6) (.k (.sss .a))) (fun x hx => qs g_n 0 <| qs g_n 0 <| qe) fun _ => ?_
   refine MX_op (by kernel_rfl) rfl <| Op_bz 0 (.v (.iface 124 (SV.val (pt g2 0)))) [.v (.iface 124 (SV.val (pt g2 0)))] (Pt.at g_n 6) k_17 rfl (.kkkk (.kk .h)) ?_
   intro w_7 k_18
   refine ⟨(k_18.sel (.s (.kk .z))), fun _ => ?_⟩
   refine MX_nil <| At_go <| W_seq <| W_reg <| Wl 3 (.n 16 (pt g_n 4) (.ss .a)) (qs g_n 0 <| qs g_n 0 <| qe) ?_
   refine WL_op <| Op_bz 0 (.b false) [.b false] (Pt.at g_n 4) k_18 rfl (.kkkk .h) ?_
   intro w_8 k_19
   refine Wn <| W_seq <| W_reg <| Wl 3 (.n 19 (pt g_n 5) (.s .a)) (qs g_n 0 <| qs g_n 0 <| qe) ?_
   refine WL_op <| Op_bz 0 (.u64 0) [.u64 0] (Pt.at g_n 5) k_19 rfl (.kkkk (.k .h)) ?_
   intro w_9 k_20
   refine Wn <| W_seq <| Wa (.n 25 (.b (decide (0 < (n_key.length : Int)))) (.s .a)) (qs g_n 0 <| qs g_n 0 <| qB k_20 0 rfl 3 (sl A_n_key n_key.length c_n_key) (by kernel_rfl) <| qe) ?_
   refine W_pz (0 < (n_key.length : Int)) (fun hc0 => ?_) fun hc0 => ?_
   · rw [if_pos hc0] at hm
     have k_21 := k_20.drew 1
     refine W_m ws_mixed (.q 0 3 (.q 1 3 (.q 2 3 (.q 3 2 (.q 14 2 (.q 15 2 (.q 4 3 (.q 5 3 (.q 6 2 (.q 7 1 (.q 8 3 (.q 9 3 (.q 10 2 (.q 11 1 (.op 12 (.op 13 (.op 16 .nil))))))))))))))))) [12, 13, 16] k_21 (.c (.kkkk (.k .e)) (.c (.kkkk (.k .e)) (.c (.kk (.k .z)) .l))) (by kernel_rfl) (fun _ => ?_)
     refine MXz 3 3 (.n 28 (pt g_n 6) (.s .a)) (fun x hx => qs g_n 0 <| qs g_n 0 <| qe) fun _ => ?_
     refine MXz 3 2 (.n 41 (.v (.iface 124 (SV.val (pt g2 0)))) (.s .a)) (fun x hx => qB hx 0 rfl 6 (.v (.iface 124 (SV.val (pt g2 0)))) (by kernel_rfl) <| qe) fun _ => ?_
     refine MXz 2 3 (.n 31 (pt g_n 0) .a) (fun x hx => qs g_n 0 <| qe) fun _ => ?_
     refine MXz 1 2 (.n 32 (pt g_n 3) (.s .a)) (fun x hx => qs g_n 0 <| qe) fun _ => ?_
     refine MXz 1 1 (.n 33 (sl A_n_key n_key.length c_n_key) (.s .a)) (fun x hx => qB hx 0 rfl 3 (sl A_n_key n_key.length c_n_key) (by kernel_rfl) <| qe) fun _ => ?_
     refine MXz 2 3 (.n 35 (pt g_n 0) (.kk .z)) (fun x hx => qs g_n 0 <| qe) fun _ => ?_
     refine MXz 1 2 (.n 36 (pt g_n 0) (.s .a)) (fun x hx => qs g_n 0 <| qe) fun _ => ?_
     refine MXz 1 1 (.n 37 (I n_kind) (.s .a)) (fun x hx => qB hx 0 rfl 0 (I n_kind) (by kernel_rfl) <| qe) fun _ => ?_
     refine MX_op (by kernel_rfl) rfl ?_
     have k_22 := k_21.sel (.kkkk (.k .e))
     obtain ⟨r_6, h_r_6, hm⟩ := ob hm
     refine Op_cz 38 ws_go40 (c_node_blockOf (F := N0) (O := N0) _ (Cx.refl _) _ h_r_6) ?_
     rintro e_ w_10 ⟨rfl, k_23⟩
     have k_24 := k_22.call k_23
     refine ⟨I r_6, rfl, ?_⟩
     refine ⟨k_24, fun _ => ?_⟩
     refine MX_op (by kernel_rfl) rfl ?_
     obtain ⟨r_7, h_r_7, hm⟩ := ob hm
     refine Op_cz 39 ws_go56 (c_node_padded (F := N0) (O := N0) _ _ _ _ _ (Ro.n0 (k_24.rd 2 rfl)) (k_24.len 2 rfl) (k_24.lec 2 rfl) (Cx.refl _) _ h_r_7) ?_
     rintro e_ w_11 ⟨A9, _, c9, rfl, rfl, k_25⟩
     have k_26 := k_24.call k_25
     refine ⟨sl A9 r_7.length c9, rfl, ?_⟩
     refine ⟨(k_26.sel (.kkkk (.k .z))), fun _ => ?_⟩
     refine MX_op (by kernel_rfl) rfl ?_
     obtain ⟨r_8, h_r_8, hm⟩ := ob hm
     obtain ⟨F10, O10, kin0, hO0, hre0, hF0, hb0⟩ := k_26.go (.r (.r (.r (.i (.i (.r .e))))))
     refine Op_invoke [] 42 124 (pt g2 0) [sl A9 r_7.length c9] ws_inv124_node_write rfl (by kernel_rfl) (c_node_half_uint32_write (F := F10) (O := O10) _ _ _ _ _ _ _ _ _ _ _ _ _ (Ro.of_rest hre0 3 rfl) (k_26.len 5 rfl) (k_26.lec 5 rfl) kin0 _ h_r_8) ?_
     rintro e_ w_12 ⟨A10, _, c10, rfl, rfl, k_27⟩
     have k_28 := hb0 w_12 _ _ k_27 (.c (.c .n))
     refine ⟨.tup [], rfl, ?_⟩
     have k_29 := k_28.sel (.kkkk (.k .z))
     refine ⟨(k_29.sel (.ss (.kk (.k .e)))), fun _ => ?_⟩
     refine MX_nil ?_
     obtain rfl := si hm
     refine At_en [] qe (by kernel_rfl) ?_
     have k_30 := ((((k_29.pk (.t .h)).pk (.t .h)).pk (.t (.t (.t (.t .h))))).pk (.t (.t (.t (.t .h))))).pk (.t (.t (.t (.t .h))))
     exact ⟨A_n_block, n_block.length, c_n_block, A_n_key, n_key.length, c_n_key, g2, A10, r_8.2.2.2.1.length, c10, k_30.len 1 rfl, k_30.len 2 rfl, k_30.len 4 rfl, rfl, k_30⟩
   rw [if_neg hc0] at hm
   refine W_skip ?_
   obtain rfl := si hm
   refine At_en [] qe (by kernel_rfl) ?_
   exact ⟨A_n_block, n_block.length, c_n_block, A_n_key, n_key.length, c_n_key, g2, A8, r_2.2.length, c8, k_20.len 1 rfl, k_20.len 2 rfl, k_20.len 4 rfl, rfl, k_20⟩
theorem c_node_made (k_ : Int) (block : List UInt8) (digest : Int) (key : List UInt8) (A_block : Option Addr) (n_block : Nat) (c_block : Nat) (A_key : Option Addr) (n_key : Nat) (c_key : Nat) (h_block : Ro F w A_block (e8.all block)) (hn_block : block.length = n_block) (hc_block : n_block ≤ c_block) (h_key : Ro F w A_key (e8.all key)) (hn_key : key.length = n_key) (hc_key : n_key ≤ c_key) (k : Cx F O w w []) (r : (Int × Int × List UInt8 × List UInt8 × Vec UInt64 8 × UInt64 × UInt64 × List UInt8 × Int) ⊕ (Int × Int × List UInt8 × List UInt8 × Vec UInt32 8 × UInt64 × UInt64 × List UInt8 × Int)) (hm : m_node_made k_ block digest key = some r) :
    Calls Try.prog 37 (vals [I k_, sl A_block n_block c_block, I digest, sl A_key n_key c_key]) w (fun e w' => match r with | .inl r0 => ∃ g A n c A1 n1 c1 g1 A2 n2 c2, r0.2.2.1.length = n ∧ r0.2.2.2.1.length = n1 ∧ r0.2.2.2.2.2.2.2.1.length = n2 ∧ e = .returned (SV.val (pt g 0)) ∧ Cx F O w w' [Bx 77 g [I r0.1, I r0.2.1, sl A n c, sl A1 n1 c1, .b false, .u64 0, .v (.iface 114 (SV.val (pt g1 0)))], Ow e8 A n c r0.2.2.1, Ow e8 A1 n1 c1 r0.2.2.2.1, Bx 120 g1 [.ar e64 r0.2.2.2.2.1, .u64 r0.2.2.2.2.2.1, .u64 r0.2.2.2.2.2.2.1, sl A2 n2 c2, I r0.2.2.2.2.2.2.2.2, .v (.func (.func 62) ⟨SV.vals []⟩ ⟨SV.vals []⟩), .v (.func (.func 63) ⟨SV.vals []⟩ ⟨SV.vals []⟩)], Ow e8 A2 n2 c2 r0.2.2.2.2.2.2.2.1] | .inr r1 => ∃ g2 A3 n3 c3 A4 n4 c4 g3 A5 n5 c5, r1.2.2.1.length = n3 ∧ r1.2.2.2.1.length = n4 ∧ r1.2.2.2.2.2.2.2.1.length = n5 ∧ e = .returned (SV.val (pt g2 0)) ∧ Cx F O w w' [Bx 77 g2 [I r1.1, I r1.2.1, sl A3 n3 c3, sl A4 n4 c4, .b false, .u64 0, .v (.iface 124 (SV.val (pt g3 0)))], Ow e8 A3 n3 c3 r1.2.2.1, Ow e8 A4 n4 c4 r1.2.2.2.1, Bx 128 g3 [.ar e32 r1.2.2.2.2.1, .u64 r1.2.2.2.2.2.1, .u64 r1.2.2.2.2.2.2.1, sl A5 n5 c5, I r1.2.2.2.2.2.2.2.2, .v (.func (.func 65) ⟨SV.vals []⟩ ⟨SV.vals []⟩), .v (.func (.func 66) ⟨SV.vals []⟩ ⟨SV.vals []⟩)], Ow e8 A5 n5 c5 r1.2.2.2.2.2.2.2.1]) := by
 unfold m_node_made at hm
 subst hn_block
 subst hn_key
 refine calz [I k_, sl A_block block.length c_block, I digest, sl A_key key.length c_key] Try.func37 rfl ?_
 refine W_seq <| Wq .a ?_
 refine W_seq <| W_reg <| We 3 (.n 10 (I k_) (.n 11 (I digest) (.n 12 (sl A_block block.length c_block) (.sss .a)))) ?_
 refine WL_op ?_
 have k_1 := k.nil e8
 obtain ⟨b, h_b, hm⟩ := ob hm
 obtain ⟨hz, hl⟩ := app_some h_b
 refine Op_append (E := e8) (v := sl A_block block.length c_block) (ys := block) ws_tf23 [] 13 0 (by kernel_rfl) k_1 rfl (Src.sl (h_block.cx k_1) rfl (by rfl)) rfl (by have := k_1.len 0 rfl; have := hm; omega) ?_
 intro A0 c0 w_ k_2
 rw [← hl] at k_2
 refine We 1 (.n 14 (sl A_key key.length c_key) (.kkk .z)) ?_
 refine WL_op ?_
 have k_3 := k_2.nil e8
 obtain ⟨b1, h_b1, hm⟩ := ob hm
 obtain ⟨hz1, hl1⟩ := app_some h_b1
 refine Op_append (E := e8) (v := sl A_key key.length c_key) (ys := key) ws_tf23 [] 15 1 (by kernel_rfl) k_3 rfl (Src.sl (h_key.cx k_3) rfl (by rfl)) rfl (by have := k_3.len 1 rfl; have := hm; omega) ?_
 intro A6 c6 w_1 k_4
 rw [← hl1] at k_4
 refine We 1 (.n 16 (.agg [I k_, I digest, sl A0 (0 + block.length) c0, sl A6 (0 + key.length) c6, .b false, .u64 0, .v .nilIface]) .z) ?_
 refine WL_op <| Op_box [] 17 (.agg [I k_, I digest, sl A0 (0 + block.length) c0, sl A6 (0 + key.length) c6, .b false, .u64 0, .v .nilIface]) [I k_, I digest, sl A0 (0 + block.length) c0, sl A6 (0 + key.length) c6, .b false, .u64 0, .v .nilIface] (by kernel_rfl) k_4 ?_
 intro g0 w_2 k_5
 refine We 1 (.n 9 (pt g0 0) .z) ?_
 refine Wn <| W_seq <| W_reg <| We 1 (.n 18 (pt g0 0) .a) ?_
 refine WL_op ?_
 obtain ⟨r_, h_r_, hm⟩ := ob hm
 have k_6 := ((k_5.pk (.t .h)).pk (.t .h)).pk (.t (.t .h))
 obtain ⟨F1, O1, kin, hO, hre, hF, hb⟩ := k_6.go (.i (.i (.i .e)))
 refine Op_cz 19 ws_go48 (c_node_Node_begin (F := F1) (O := O1) _ _ _ _ _ _ _ _ _ _ _ _ _ kin _ h_r_) ?_
 rcases r_ with r_1 | r_2
 · simp only [Sum.elim_inl, Sum.elim_inr] at hm
   rintro e_ w_3 ⟨A7, _, c7, A8, _, c8, g4, A9, _, c9, rfl, rfl, rfl, rfl, k_7⟩
   have k_8 := hb w_3 _ _ k_7 (.c (.c (.c (.c (.c .n)))))
   refine ⟨.tup [], rfl, ?_⟩
   refine Wn <| W_seq <| Wq (.n 8 (pt g0 0) .z) ?_
   refine W_ret ?_
   obtain rfl := si hm
   refine At_rz [pt g0 0] qe ?_
   exact ⟨g0, A7, r_1.2.2.1.length, c7, A8, r_1.2.2.2.1.length, c8, g4, A9, r_1.2.2.2.2.2.2.2.1.length, c9, k_8.len 1 rfl, k_8.len 2 rfl, k_8.len 4 rfl, rfl, k_8⟩
 · simp only [Sum.elim_inl, Sum.elim_inr] at hm
   rintro e_ w_4 ⟨A10, _, c10, A11, _, c11, g5, A12, _, c12, rfl, rfl, rfl, rfl, k_9⟩
   have k_10 := hb w_4 _ _ k_9 (.c (.c (.c (.c (.c .n)))))
   refine ⟨.tup [], rfl, ?_⟩
   refine Wn <| W_seq <| Wq (.n 8 (pt g0 0) .z) ?_
   refine W_ret ?_
   obtain rfl := si hm
   refine At_rz [pt g0 0] qe ?_
   exact ⟨g0, A10, r_2.2.2.1.length, c10, A11, r_2.2.2.2.1.length, c11, g5, A12, r_2.2.2.2.2.2.2.2.1.length, c12, k_10.len 1 rfl, k_10.len 2 rfl, k_10.len 4 rfl, rfl, k_10⟩
theorem c_node_New (k_ : Int) (p_Digest : Int) (p_Key : Int) (p_Fanout : Int) (p_Depth : Int) (p_Leaf : UInt32) (p_Offset : UInt64) (p_Xof : UInt32) (p_NodeDepth : Int) (p_Inner : Int) (p_Salt : List UInt8) (p_Personal : List UInt8) (key : List UInt8) (A_p_Salt : Option Addr) (n_p_Salt : Nat) (c_p_Salt : Nat) (A_p_Personal : Option Addr) (n_p_Personal : Nat) (c_p_Personal : Nat) (A_key : Option Addr) (n_key : Nat) (c_key : Nat) (h_p_Salt : Ro F w A_p_Salt (e8.all p_Salt)) (hn_p_Salt : p_Salt.length = n_p_Salt) (hc_p_Salt : n_p_Salt ≤ c_p_Salt) (h_p_Personal : Ro F w A_p_Personal (e8.all p_Personal)) (hn_p_Personal : p_Personal.length = n_p_Personal) (hc_p_Personal : n_p_Personal ≤ c_p_Personal) (h_key : Ro F w A_key (e8.all key)) (hn_key : key.length = n_key) (hc_key : n_key ≤ c_key) (k : Cx F O w w []) (r : Int ⊕ (Int × Int × List UInt8 × List UInt8 × Vec UInt64 8 × UInt64 × UInt64 × List UInt8 × Int) ⊕ (Int × Int × List UInt8 × List UInt8 × Vec UInt32 8 × UInt64 × UInt64 × List UInt8 × Int)) (hm : m_node_New k_ p_Digest p_Key p_Fanout p_Depth p_Leaf p_Offset p_Xof p_NodeDepth p_Inner p_Salt p_Personal key = some r) :
    Calls Try.prog 27 (vals [I k_, .agg [I p_Digest, I p_Key, I p_Fanout, I p_Depth, .u32 p_Leaf, .u64 p_Offset, .u32 p_Xof, I p_NodeDepth, I p_Inner, sl A_p_Salt n_p_Salt c_p_Salt, sl A_p_Personal n_p_Personal c_p_Personal], sl A_key n_key c_key]) w (fun e w' => match r with | .inl r0 => e = .returned (SV.val (.tup [.v (.pointer none), I r0])) ∧ Cx F O w w' [] | .inr (.inl r1) => ∃ g A n c A1 n1 c1 g1 A2 n2 c2, r1.2.2.1.length = n ∧ r1.2.2.2.1.length = n1 ∧ r1.2.2.2.2.2.2.2.1.length = n2 ∧ e = .returned (SV.val (.tup [pt g 0, I 0])) ∧ Cx F O w w' [Bx 77 g [I r1.1, I r1.2.1, sl A n c, sl A1 n1 c1, .b false, .u64 0, .v (.iface 114 (SV.val (pt g1 0)))], Ow e8 A n c r1.2.2.1, Ow e8 A1 n1 c1 r1.2.2.2.1, Bx 120 g1 [.ar e64 r1.2.2.2.2.1, .u64 r1.2.2.2.2.2.1, .u64 r1.2.2.2.2.2.2.1, sl A2 n2 c2, I r1.2.2.2.2.2.2.2.2, .v (.func (.func 62) ⟨SV.vals []⟩ ⟨SV.vals []⟩), .v (.func (.func 63) ⟨SV.vals []⟩ ⟨SV.vals []⟩)], Ow e8 A2 n2 c2 r1.2.2.2.2.2.2.2.1] | .inr (.inr r2) => ∃ g2 A3 n3 c3 A4 n4 c4 g3 A5 n5 c5, r2.2.2.1.length = n3 ∧ r2.2.2.2.1.length = n4 ∧ r2.2.2.2.2.2.2.2.1.length = n5 ∧ e = .returned (SV.val (.tup [pt g2 0, I 0])) ∧ Cx F O w w' [Bx 77 g2 [I r2.1, I r2.2.1, sl A3 n3 c3, sl A4 n4 c4, .b false, .u64 0, .v (.iface 124 (SV.val (pt g3 0)))], Ow e8 A3 n3 c3 r2.2.2.1, Ow e8 A4 n4 c4 r2.2.2.2.1, Bx 128 g3 [.ar e32 r2.2.2.2.2.1, .u64 r2.2.2.2.2.2.1, .u64 r2.2.2.2.2.2.2.1, sl A5 n5 c5, I r2.2.2.2.2.2.2.2.2, .v (.func (.func 65) ⟨SV.vals []⟩ ⟨SV.vals []⟩), .v (.func (.func 66) ⟨SV.vals []⟩ ⟨SV.vals []⟩)], Ow e8 A5 n5 c5 r2.2.2.2.2.2.2.2.1]) := by
 unfold m_node_New at hm
 subst hn_p_Salt
 subst hn_p_Personal
 subst hn_key
 refine calz [I k_, .agg [I p_Digest, I p_Key, I p_Fanout, I p_Depth, .u32 p_Leaf, .u64 p_Offset, .u32 p_Xof, I p_NodeDepth, I p_Inner, sl A_p_Salt p_Salt.length c_p_Salt, sl A_p_Personal p_Personal.length c_p_Personal], sl A_key key.length c_key] Try.func27 rfl ?_
 refine W_seq <| W_reg <| WL_op <| Op_box [] 4 (.agg [I p_Digest, I p_Key, I p_Fanout, I p_Depth, .u32 p_Leaf, .u64 p_Offset, .u32 p_Xof, I p_NodeDepth, I p_Inner, sl A_p_Salt p_Salt.length c_p_Salt, sl A_p_Personal p_Personal.length c_p_Personal]) [I p_Digest, I p_Key, I p_Fanout, I p_Depth, .u32 p_Leaf, .u64 p_Offset, .u32 p_Xof, I p_NodeDepth, I p_Inner, sl A_p_Salt p_Salt.length c_p_Salt, sl A_p_Personal p_Personal.length c_p_Personal] (by kernel_rfl) k ?_
 intro g0 w_ k_1
 refine We 2 (.kk (.s .a)) ?_
 refine Wn <| W_seq <| W_reg <| Wl 2 (.n 11 (I k_) (.n 12 (.agg [I p_Digest, I p_Key, I p_Fanout, I p_Depth, .u32 p_Leaf, .u64 p_Offset, .u32 p_Xof, I p_NodeDepth, I p_Inner, sl A_p_Salt p_Salt.length c_p_Salt, sl A_p_Personal p_Personal.length c_p_Personal]) .a)) (qT k_1 0 rfl 0 11 [I p_Digest, I p_Key, I p_Fanout, I p_Depth, .u32 p_Leaf, .u64 p_Offset, .u32 p_Xof, I p_NodeDepth, I p_Inner, sl A_p_Salt p_Salt.length c_p_Salt, sl A_p_Personal p_Personal.length c_p_Personal] (by kernel_rfl) (by decide) <| qe) ?_
 refine WL_op ?_
 obtain ⟨r_, h_r_, hm⟩ := ob hm
 refine Op_cz 13 ws_go36 (c_param_Encode (F := N0) (O := N0) _ _ _ _ _ _ _ _ _ _ _ _ _ _ _ _ _ _ (Ro.n0 (h_p_Salt.cx k_1)) rfl hc_p_Salt (Ro.n0 (h_p_Personal.cx k_1)) rfl hc_p_Personal (Cx.refl _) _ h_r_) ?_
 rintro e_ w_1 ⟨A0, _, c0, rfl, rfl, k_2⟩
 have k_3 := k_1.call k_2
 refine ⟨.tup [sl A0 r_.1.length c0, I r_.2], rfl, ?_⟩
 refine We 5 (.n 8 (sl A0 r_.1.length c0) (.n 9 (I r_.2) (.sss .a))) ?_
 refine Wn <| W_seq <| W_seq <| Wq (.n 17 (.b (decide (r_.2 ≠ 0))) .a) ?_
 refine W_pz (r_.2 ≠ 0) (fun hc => ?_) fun hc => ?_
 · rw [if_pos hc] at hm
   refine W_seq <| Wq (.n 6 (.v (.pointer none)) (.n 7 (I r_.2) .z)) ?_
   refine W_ret (At_tr ?_)
   obtain rfl := si hm
   refine At_rz [.v (.pointer none), I r_.2] qe ?_
   have k_4 := k_3.sel .z
   exact ⟨rfl, k_4⟩
 rw [if_neg hc] at hm
 refine W_skip <| At_go <| W_seq <| W_seq <| Wa (.n 28 (.b ((decide ((key.length : Int) ≠ 0)) && (decide ((key.length : Int) ≠ p_Key)))) (.s (.k (.s .a)))) (qp ((decide ((key.length : Int) ≠ 0)) = true → (some ⟨g0, 0, none⟩ : Option Addr).isSome = true) (fun hg0 => rfl) <| qo (I p_Key) <| qc (fun w => (decide ((key.length : Int) ≠ 0)) = true → ∃ a, (some ⟨g0, 1, none⟩ : Option Addr) = some a ∧ w.cell? a = some (SV.val (I p_Key))) (fun hg0 => k_3.bld 0 rfl 1 (I p_Key) (by kernel_rfl)) <| qe) ?_
 refine W_cz ((decide ((key.length : Int) ≠ 0)) && (decide ((key.length : Int) ≠ p_Key))) (fun hc1 => ?_) fun hc1 => ?_
 · rw [if_pos hc1] at hm
   refine W_seq <| Wq (.n 6 (.v (.pointer none)) (.n 7 (I 8) .z)) ?_
   refine W_ret (At_tr ?_)
   obtain rfl := si hm
   refine At_rz [.v (.pointer none), I 8] qe ?_
   have k_5 := k_3.sel .z
   exact ⟨rfl, k_5⟩
 rw [if_neg (by rw [hc1]; decide)] at hm
 refine W_skip <| At_go <| W_seq <| W_reg <| Wl 5 (.n 29 (I k_) (.n 30 (sl A0 r_.1.length c0) (.n 32 (I p_Digest) (.n 33 (sl A_key key.length c_key) .z)))) (qs g0 0 <| qB k_3 0 rfl 0 (I p_Digest) (by kernel_rfl) <| qe) ?_
 refine WL_op ?_
 obtain ⟨r_1, h_r_1, hm⟩ := ob hm
 refine Op_cz 34 ws_go37 (c_node_made (F := N0) (O := N0) _ _ _ _ _ _ _ _ _ _ (Ro.n0 (k_3.rd 1 rfl)) (k_3.len 1 rfl) (k_3.lec 1 rfl) (Ro.n0 (h_key.cx k_3)) rfl hc_key (Cx.refl _) _ h_r_1) ?_
 rcases r_1 with r_2 | r_3
 · simp only [Sum.elim_inl, Sum.elim_inr] at hm
   rintro e_ w_2 ⟨g4, A6, _, c6, A7, _, c7, g5, A8, _, c8, rfl, rfl, rfl, rfl, k_6⟩
   have k_7 := k_3.call k_6
   refine ⟨pt g4 0, rfl, ?_⟩
   have k_8 := k_7.sel (.ss (.kkkk (.k .e)))
   refine We 2 (.n 6 (pt g4 0) (.n 7 (I 0) .z)) ?_
   refine Wn <| W_ret ?_
   obtain rfl := si hm
   refine At_rz [pt g4 0, I 0] qe ?_
   exact ⟨g4, A6, r_2.2.2.1.length, c6, A7, r_2.2.2.2.1.length, c7, g5, A8, r_2.2.2.2.2.2.2.2.1.length, c8, k_8.len 1 rfl, k_8.len 2 rfl, k_8.len 4 rfl, rfl, k_8⟩
 · simp only [Sum.elim_inl, Sum.elim_inr] at hm
   rintro e_ w_3 ⟨g6, A9, _, c9, A10, _, c10, g7, A11, _, c11, rfl, rfl, rfl, rfl, k_9⟩
   have k_10 := k_3.call k_9
   refine ⟨pt g6 0, rfl, ?_⟩
   have k_11 := k_10.sel (.ss (.kkkk (.k .e)))
   refine We 2 (.n 6 (pt g6 0) (.n 7 (I 0) .z)) ?_
   refine Wn <| W_ret ?_
   obtain rfl := si hm
   refine At_rz [pt g6 0, I 0] qe ?_
   exact ⟨g6, A9, r_3.2.2.1.length, c9, A10, r_3.2.2.2.1.length, c10, g7, A11, r_3.2.2.2.2.2.2.2.1.length, c11, k_11.len 1 rfl, k_11.len 2 rfl, k_11.len 4 rfl, rfl, k_11⟩
theorem c_xof_Stream_begin_w (x_s_kind : Int) (x_s_full : Int) (x_s_code : UInt32) (x_s_total : UInt64) (x_s_known : Bool) (x_key : List UInt8) (x_salt : List UInt8) (x_personal : List UInt8) (x_at : UInt64) (x_now : Vec UInt8 64) (x_have : Int) (g_x : Nat) (A_x_key : Option Addr) (n_x_key : Nat) (c_x_key : Nat) (A_x_salt : Option Addr) (n_x_salt : Nat) (c_x_salt : Nat) (A_x_personal : Option Addr) (n_x_personal : Nat) (c_x_personal : Nat) (k : Cx F O w w [Bx 52 g_x [I x_s_kind, I x_s_full, .u32 x_s_code, .u64 x_s_total, .b x_s_known, sl A_x_key n_x_key c_x_key, sl A_x_salt n_x_salt c_x_salt, sl A_x_personal n_x_personal c_x_personal, .v (.pointer none), sl none 0 0, .u64 x_at, .ar e8 x_now, I x_have, .v .nilFunc], Ow e8 A_x_key n_x_key c_x_key x_key, Ow e8 A_x_salt n_x_salt c_x_salt x_salt, Ow e8 A_x_personal n_x_personal c_x_personal x_personal]) (r : (Int × Int × UInt32 × UInt64 × Bool × List UInt8 × List UInt8 × List UInt8 × Int × Int × List UInt8 × List UInt8 × Vec UInt64 8 × UInt64 × UInt64 × List UInt8 × Int × Vec UInt8 64) ⊕ (Int × Int × UInt32 × UInt64 × Bool × List UInt8 × List UInt8 × List UInt8 × Int × Int × List UInt8 × List UInt8 × Vec UInt32 8 × UInt64 × UInt64 × List UInt8 × Int × Vec UInt8 64)) (hm : m_xof_Stream_begin_w x_s_kind x_s_full x_s_code x_s_total x_s_known x_key x_salt x_personal x_at x_now x_have = some r) :
    Calls Try.prog 15 (vals [pt g_x 0]) w (fun e w' => match r with | .inl r0 => ∃ A n c A1 n1 c1 A2 n2 c2 g A3 n3 c3 A4 n4 c4 g1 A5 n5 c5, r0.2.2.2.2.2.1.length = n ∧ r0.2.2.2.2.2.2.1.length = n1 ∧ r0.2.2.2.2.2.2.2.1.length = n2 ∧ r0.2.2.2.2.2.2.2.2.2.2.1.length = n3 ∧ r0.2.2.2.2.2.2.2.2.2.2.2.1.length = n4 ∧ r0.2.2.2.2.2.2.2.2.2.2.2.2.2.2.2.1.length = n5 ∧ e = .returned (SV.val (.tup [])) ∧ Cx F O w w' [Bx 52 g_x [I r0.1, I r0.2.1, .u32 r0.2.2.1, .u64 r0.2.2.2.1, .b r0.2.2.2.2.1, sl A n c, sl A1 n1 c1, sl A2 n2 c2, pt g 0, sl none 0 0, .u64 0, .ar e8 r0.2.2.2.2.2.2.2.2.2.2.2.2.2.2.2.2.2, I (-1), .v (.func (.func 28) ⟨SV.vals [pt g_x 0]⟩ ⟨SV.vals []⟩)], Ow e8 A n c r0.2.2.2.2.2.1, Ow e8 A1 n1 c1 r0.2.2.2.2.2.2.1, Ow e8 A2 n2 c2 r0.2.2.2.2.2.2.2.1, Bx 77 g [I r0.2.2.2.2.2.2.2.2.1, I r0.2.2.2.2.2.2.2.2.2.1, sl A3 n3 c3, sl A4 n4 c4, .b false, .u64 0, .v (.iface 114 (SV.val (pt g1 0)))], Ow e8 A3 n3 c3 r0.2.2.2.2.2.2.2.2.2.2.1, Ow e8 A4 n4 c4 r0.2.2.2.2.2.2.2.2.2.2.2.1, Bx 120 g1 [.ar e64 r0.2.2.2.2.2.2.2.2.2.2.2.2.1, .u64 r0.2.2.2.2.2.2.2.2.2.2.2.2.2.1, .u64 r0.2.2.2.2.2.2.2.2.2.2.2.2.2.2.1, sl A5 n5 c5, I r0.2.2.2.2.2.2.2.2.2.2.2.2.2.2.2.2.1, .v (.func (.func 62) ⟨SV.vals []⟩ ⟨SV.vals []⟩), .v (.func (.func 63) ⟨SV.vals []⟩ ⟨SV.vals []⟩)], Ow e8 A5 n5 c5 r0.2.2.2.2.2.2.2.2.2.2.2.2.2.2.2.1] | .inr r1 => ∃ A6 n6 c6 A7 n7 c7 A8 n8 c8 g2 A9 n9 c9 A10 n10 c10 g3 A11 n11 c11, r1.2.2.2.2.2.1.length = n6 ∧ r1.2.2.2.2.2.2.1.length = n7 ∧ r1.2.2.2.2.2.2.2.1.length = n8 ∧ r1.2.2.2.2.2.2.2.2.2.2.1.length = n9 ∧ r1.2.2.2.2.2.2.2.2.2.2.2.1.length = n10 ∧ r1.2.2.2.2.2.2.2.2.2.2.2.2.2.2.2.1.length = n11 ∧ e = .returned (SV.val (.tup [])) ∧ Cx F O w w' [Bx 52 g_x [I r1.1, I r1.2.1, .u32 r1.2.2.1, .u64 r1.2.2.2.1, .b r1.2.2.2.2.1, sl A6 n6 c6, sl A7 n7 c7, sl A8 n8 c8, pt g2 0, sl none 0 0, .u64 0, .ar e8 r1.2.2.2.2.2.2.2.2.2.2.2.2.2.2.2.2.2, I (-1), .v (.func (.func 28) ⟨SV.vals [pt g_x 0]⟩ ⟨SV.vals []⟩)], Ow e8 A6 n6 c6 r1.2.2.2.2.2.1, Ow e8 A7 n7 c7 r1.2.2.2.2.2.2.1, Ow e8 A8 n8 c8 r1.2.2.2.2.2.2.2.1, Bx 77 g2 [I r1.2.2.2.2.2.2.2.2.1, I r1.2.2.2.2.2.2.2.2.2.1, sl A9 n9 c9, sl A10 n10 c10, .b false, .u64 0, .v (.iface 124 (SV.val (pt g3 0)))], Ow e8 A9 n9 c9 r1.2.2.2.2.2.2.2.2.2.2.1, Ow e8 A10 n10 c10 r1.2.2.2.2.2.2.2.2.2.2.2.1, Bx 128 g3 [.ar e32 r1.2.2.2.2.2.2.2.2.2.2.2.2.1, .u64 r1.2.2.2.2.2.2.2.2.2.2.2.2.2.1, .u64 r1.2.2.2.2.2.2.2.2.2.2.2.2.2.2.1, sl A11 n11 c11, I r1.2.2.2.2.2.2.2.2.2.2.2.2.2.2.2.2.1, .v (.func (.func 65) ⟨SV.vals []⟩ ⟨SV.vals []⟩), .v (.func (.func 66) ⟨SV.vals []⟩ ⟨SV.vals []⟩)], Ow e8 A11 n11 c11 r1.2.2.2.2.2.2.2.2.2.2.2.2.2.2.2.1]) := by
 unfold m_xof_Stream_begin_w at hm
 obtain rfl := k.len 1 rfl
 obtain rfl := k.len 2 rfl
 obtain rfl := k.len 3 rfl
 refine calz [pt g_x 0] Try.func15 rfl ?_
 refine W_seq ?_
 have k_ := k.drew 1
 refine W_mN ws_mixed (.q 0 2 (.q 1 2 (.q 2 2 (.q 3 2 (.q 4 1 (.q 5 1 (.q 6 2 (.q 7 2 (.q 8 1 (.q 9 0 (.q 10 2 (.q 11 2 (.q 12 1 (.q 13 0 (.q 14 2 (.q 15 2 (.q 16 1 (.q 17 0 (.q 18 2 (.q 19 2 (.q 20 1 (.q 21 0 (.q 23 2 (.q 24 2 (.q 25 1 (.q 26 1 (.op 22 (.op 27 (.q 28 2 (.q 29 2 (.q 31 2 (.q 32 2 (.q 30 3 (.op 33 .nil)))))))))))))))))))))))))))))))))) [22, 27, 33] k_ (.c (.kkkk .e) (.c (.kkkk .e) (.c (.s (.kk (.k .e))) .l))) (by kernel_rfl) (fun _ => ?_)
 refine MXz 4 2 (.n 3 (pt g_x 0) (.n 6 (pt g_x 0) .a)) (fun x hx => qs g_x 0 <| qs g_x 0 <| qe) fun _ => ?_
 refine MXz 2 1 (.n 8 (I x_s_kind) (.k (.s .a))) (fun x hx => qs g_x 0 <| qB hx 0 rfl 0 (I x_s_kind) (by kernel_rfl) <| qe) fun _ => ?_
 refine MXz 2 2 (.n 10 (pt g_x 0) .a) (fun x hx => qs g_x 0 <| qe) fun _ => ?_
 refine MXz 1 1 (.n 11 (pt g_x 0) (.s .a)) (fun x hx => qs g_x 0 <| qe) fun _ => ?_
 refine MXz 1 0 (.n 12 (.agg [I x_s_kind, I x_s_full, .u32 x_s_code, .u64 x_s_total, .b x_s_known]) (.s .a)) (fun x hx => qT hx 0 rfl 0 5 [I x_s_kind, I x_s_full, .u32 x_s_code, .u64 x_s_total, .b x_s_known] (by kernel_rfl) (by decide) <| qe) fun _ => ?_
 refine MXz 2 2 (.n 14 (pt g_x 0) .a) (fun x hx => qs g_x 0 <| qe) fun _ => ?_
 refine MXz 1 1 (.n 15 (pt g_x 5) (.s .a)) (fun x hx => qs g_x 0 <| qe) fun _ => ?_
 refine MXz 1 0 (.n 16 (sl A_x_key x_key.length c_x_key) (.s .a)) (fun x hx => qB hx 0 rfl 5 (sl A_x_key x_key.length c_x_key) (by kernel_rfl) <| qe) fun _ => ?_
 refine MXz 2 2 (.n 18 (pt g_x 0) .a) (fun x hx => qs g_x 0 <| qe) fun _ => ?_
 refine MXz 1 1 (.n 19 (pt g_x 6) (.s .a)) (fun x hx => qs g_x 0 <| qe) fun _ => ?_
 refine MXz 1 0 (.n 20 (sl A_x_salt x_salt.length c_x_salt) (.s .a)) (fun x hx => qB hx 0 rfl 6 (sl A_x_salt x_salt.length c_x_salt) (by kernel_rfl) <| qe) fun _ => ?_
 refine MXz 2 2 (.n 22 (pt g_x 0) .a) (fun x hx => qs g_x 0 <| qe) fun _ => ?_
 refine MXz 1 1 (.n 23 (pt g_x 7) (.s .a)) (fun x hx => qs g_x 0 <| qe) fun _ => ?_
 refine MXz 1 0 (.n 24 (sl A_x_personal x_personal.length c_x_personal) (.s .a)) (fun x hx => qB hx 0 rfl 7 (sl A_x_personal x_personal.length c_x_personal) (by kernel_rfl) <| qe) fun _ => ?_
 refine MXz 2 2 (.n 27 (pt g_x 0) .a) (fun x hx => qs g_x 0 <| qe) fun _ => ?_
 refine MXz 2 1 (.n 29 (sl A_x_key x_key.length c_x_key) (.s .a)) (fun x hx => qs g_x 0 <| qB hx 0 rfl 5 (sl A_x_key x_key.length c_x_key) (by kernel_rfl) <| qe) fun _ => ?_
 refine MX_op (by kernel_rfl) rfl ?_
 obtain ⟨r_, h_r_, hm⟩ := ob hm
 refine Op_cz 25 ws_go26 (c_xof_shape_pars (F := N0) (O := N0) _ _ _ _ _ _ _ _ _ _ _ _ _ _ _ _ _ (Ro.n0 (k_.rd 1 rfl)) (k_.len 1 rfl) (k_.lec 1 rfl) (Ro.n0 (k_.rd 2 rfl)) (k_.len 2 rfl) (k_.lec 2 rfl) (Ro.n0 (k_.rd 3 rfl)) (k_.len 3 rfl) (k_.lec 3 rfl) (Cx.refl _) _ h_r_) ?_
 rintro e_ w_ ⟨rfl, k_1⟩
 have k_2 := k_.call k_1
 refine ⟨.agg [I r_.1, I r_.2.1, I 1, I 1, .u32 0, .u64 0, .u32 r_.2.2, I 0, I 0, sl A_x_salt x_salt.length c_x_salt, sl A_x_personal x_personal.length c_x_personal], rfl, ?_⟩
 refine ⟨k_2, fun _ => ?_⟩
 refine MX_op (by kernel_rfl) rfl ?_
 obtain ⟨r_1, h_r_1, hm⟩ := ob hm
 refine Op_cz 30 ws_go27 (c_node_New (F := N0) (O := N0) _ _ _ _ _ _ _ _ _ _ _ _ _ _ _ _ _ _ _ _ _ _ (Ro.n0 (k_2.rd 2 rfl)) (k_2.len 2 rfl) (k_2.lec 2 rfl) (Ro.n0 (k_2.rd 3 rfl)) (k_2.len 3 rfl) (k_2.lec 3 rfl) (Ro.n0 (k_2.rd 1 rfl)) (k_2.len 1 rfl) (k_2.lec 1 rfl) (Cx.refl _) _ h_r_1) ?_
 rcases r_1 with r_2 | r_3 | r_4
 · simp only [Sum.elim_inl, Sum.elim_inr] at hm
   cases hm
 · simp only [Sum.elim_inl, Sum.elim_inr] at hm
   rintro e_ w_7 ⟨g0, A0, _, c0, A12, _, c12, g4, A13, _, c13, rfl, rfl, rfl, rfl, k_11⟩
   have k_12 := k_2.call k_11
   refine ⟨.tup [pt g0 0, I 0], rfl, ?_⟩
   refine ⟨(k_12.sel (.kkkk .z)), fun _ => ?_⟩
   refine MXz 4 2 (.n 2 (.tup [pt g0 0, I 0]) (.n 31 (pt g0 0) (.n 34 (pt g_x 8) (.ssss (.ssss (.s .a)))))) (fun x hx => qs g_x 0 <| qs g_x 0 <| qe) fun _ => ?_
   refine MXz 1 3 (.s .a) (fun x hx => qe) fun _ => ?_
   refine MX_op (by kernel_rfl) rfl <| Op_bz 0 (pt g0 0) [pt g0 0] (Pt.at g_x 8) k_12 rfl (.kkkk (.kkkk .h)) ?_
   intro w_8 k_13
   refine ⟨(k_13.sel (.s (.kk (.k .z)))), fun _ => ?_⟩
   refine MX_nil <| At_go <| W_seq <| W_reg <| Wl 5 (.n 36 (pt g_x 0) (.n 37 (pt g_x 0) (.n 39 (pt g_x 9) (.ss .a)))) (qs g_x 0 <| qs g_x 0 <| qe) ?_
   refine WL_op <| Op_bz 0 (sl none 0 0) [sl none 0 0] (Pt.at g_x 9) k_13 rfl (.kkkk (.kkkk (.k .h))) ?_
   intro w_9 k_14
   refine Wl 2 (.n 41 (pt g_x 10) (.s (.k (.s .a)))) (qs g_x 0 <| qs g_x 0 <| qe) ?_
   refine WL_op ?_
   have k_15 := k_14.sel (.kkkk (.kkkk (.k .e)))
   refine Op_bz 0 (.u64 0) [.u64 0] (Pt.at g_x 10) k_15 rfl (.kkkk (.kkkk (.kk .h))) ?_
   intro w_10 k_16
   refine Wl 2 (.n 43 (pt g_x 75) (.ss .a)) (qs g_x 0 <| qs g_x 0 <| qe) ?_
   refine WL_op <| Op_bz 0 (I (-1)) [I (-1)] (Pt.at g_x 75) k_16 rfl (.kkkk (.kkkk (.kkkk .h))) ?_
   intro w_11 k_17
   refine Wn <| W_reg <| Wl 5 (.n 46 (.v (.func (.func 28) ⟨SV.vals [pt g_x 0]⟩ ⟨SV.vals []⟩)) (.n 48 (pt g_x 76) .z)) (qs g_x 0 <| qs g_x 0 <| qe) ?_
   refine WL_op <| Op_bz 0 (.v (.func (.func 28) ⟨SV.vals [pt g_x 0]⟩ ⟨SV.vals []⟩)) [.v (.func (.func 28) ⟨SV.vals [pt g_x 0]⟩ ⟨SV.vals []⟩)] (Pt.at g_x 76) k_17 rfl (.kkkk (.kkkk (.kkkk (.k .h)))) ?_
   intro w_12 k_18
   refine WL_nil ?_
   obtain rfl := si hm
   refine At_en [] qe (by kernel_rfl) ?_
   exact ⟨A_x_key, x_key.length, c_x_key, A_x_salt, x_salt.length, c_x_salt, A_x_personal, x_personal.length, c_x_personal, g0, A0, r_3.2.2.1.length, c0, A12, r_3.2.2.2.1.length, c12, g4, A13, r_3.2.2.2.2.2.2.2.1.length, c13, k_18.len 1 rfl, k_18.len 2 rfl, k_18.len 3 rfl, k_18.len 5 rfl, k_18.len 6 rfl, k_18.len 8 rfl, rfl, k_18⟩
 · simp only [Sum.elim_inl, Sum.elim_inr] at hm
   rintro e_ w_13 ⟨g5, A14, _, c14, A15, _, c15, g6, A16, _, c16, rfl, rfl, rfl, rfl, k_19⟩
   have k_20 := k_2.call k_19
   refine ⟨.tup [pt g5 0, I 0], rfl, ?_⟩
   refine ⟨(k_20.sel (.kkkk .z)), fun _ => ?_⟩
   refine MXz 4 2 (.n 2 (.tup [pt g5 0, I 0]) (.n 31 (pt g5 0) (.n 34 (pt g_x 8) (.ssss (.ssss (.s .a)))))) (fun x hx => qs g_x 0 <| qs g_x 0 <| qe) fun _ => ?_
   refine MXz 1 3 (.s .a) (fun x hx => qe) fun _ => ?_
   refine MX_op (by kernel_rfl) rfl <| Op_bz 0 (pt g5 0) [pt g5 0] (Pt.at g_x 8) k_20 rfl (.kkkk (.kkkk .h)) ?_
   intro w_14 k_21
   refine ⟨(k_21.sel (.s (.kk (.k .z)))), fun _ => ?_⟩
   refine MX_nil <| At_go <| W_seq <| W_reg <| Wl 5 (.n 36 (pt g_x 0) (.n 37 (pt g_x 0) (.n 39 (pt g_x 9) (.ss .a)))) (qs g_x 0 <| qs g_x 0 <| qe) ?_
   refine WL_op <| Op_bz 0 (sl none 0 0) [sl none 0 0] (Pt.at g_x 9) k_21 rfl (.kkkk (.kkkk (.k .h))) ?_
   intro w_15 k_22
   refine Wl 2 (.n 41 (pt g_x 10) (.s (.k (.s .a)))) (qs g_x 0 <| qs g_x 0 <| qe) ?_
   refine WL_op ?_
   have k_23 := k_22.sel (.kkkk (.kkkk (.k .e)))
   refine Op_bz 0 (.u64 0) [.u64 0] (Pt.at g_x 10) k_23 rfl (.kkkk (.kkkk (.kk .h))) ?_
   intro w_16 k_24
   refine Wl 2 (.n 43 (pt g_x 75) (.ss .a)) (qs g_x 0 <| qs g_x 0 <| qe) ?_
   refine WL_op <| Op_bz 0 (I (-1)) [I (-1)] (Pt.at g_x 75) k_24 rfl (.kkkk (.kkkk (.kkkk .h))) ?_
   intro w_17 k_25
   refine Wn <| W_reg <| Wl 5 (.n 46 (.v (.func (.func 28) ⟨SV.vals [pt g_x 0]⟩ ⟨SV.vals []⟩)) (.n 48 (pt g_x 76) .z)) (qs g_x 0 <| qs g_x 0 <| qe) ?_
   refine WL_op <| Op_bz 0 (.v (.func (.func 28) ⟨SV.vals [pt g_x 0]⟩ ⟨SV.vals []⟩)) [.v (.func (.func 28) ⟨SV.vals [pt g_x 0]⟩ ⟨SV.vals []⟩)] (Pt.at g_x 76) k_25 rfl (.kkkk (.kkkk (.kkkk (.k .h)))) ?_
   intro w_18 k_26
   refine WL_nil ?_
   obtain rfl := si hm
   refine At_en [] qe (by kernel_rfl) ?_
   exact ⟨A_x_key, x_key.length, c_x_key, A_x_salt, x_salt.length, c_x_salt, A_x_personal, x_personal.length, c_x_personal, g5, A14, r_4.2.2.1.length, c14, A15, r_4.2.2.2.1.length, c15, g6, A16, r_4.2.2.2.2.2.2.2.1.length, c16, k_26.len 1 rfl, k_26.len 2 rfl, k_26.len 3 rfl, k_26.len 5 rfl, k_26.len 6 rfl, k_26.len 8 rfl, rfl, k_26⟩
theorem c_xof_New_w (k_ : Int) (length : Int) (key : List UInt8) (salt : List UInt8) (personal : List UInt8) (A_key : Option Addr) (n_key : Nat) (c_key : Nat) (A_salt : Option Addr) (n_salt : Nat) (c_salt : Nat) (A_personal : Option Addr) (n_personal : Nat) (c_personal : Nat) (h_key : Ro F w A_key (e8.all key)) (hn_key : key.length = n_key) (hc_key : n_key ≤ c_key) (h_salt : Ro F w A_salt (e8.all salt)) (hn_salt : salt.length = n_salt) (hc_salt : n_salt ≤ c_salt) (h_personal : Ro F w A_personal (e8.all personal)) (hn_personal : personal.length = n_personal) (hc_personal : n_personal ≤ c_personal) (k : Cx F O w w []) (r : Int ⊕ (Int × Int × UInt32 × UInt64 × Bool × List UInt8 × List UInt8 × List UInt8 × Int × Int × List UInt8 × List UInt8 × Vec UInt64 8 × UInt64 × UInt64 × List UInt8 × Int × Vec UInt8 64) ⊕ (Int × Int × UInt32 × UInt64 × Bool × List UInt8 × List UInt8 × List UInt8 × Int × Int × List UInt8 × List UInt8 × Vec UInt32 8 × UInt64 × UInt64 × List UInt8 × Int × Vec UInt8 64)) (hm : m_xof_New_w k_ length key salt personal = some r) :
    Calls Try.prog 5 (vals [I k_, I length, sl A_key n_key c_key, sl A_salt n_salt c_salt, sl A_personal n_personal c_personal]) w (fun e w' => match r with | .inl r0 => e = .returned (SV.val (.tup [.v (.pointer none), I r0])) ∧ Cx F O w w' [] | .inr (.inl r1) => ∃ g A n c A1 n1 c1 A2 n2 c2 g1 A3 n3 c3 A4 n4 c4 g2 A5 n5 c5, r1.2.2.2.2.2.1.length = n ∧ r1.2.2.2.2.2.2.1.length = n1 ∧ r1.2.2.2.2.2.2.2.1.length = n2 ∧ r1.2.2.2.2.2.2.2.2.2.2.1.length = n3 ∧ r1.2.2.2.2.2.2.2.2.2.2.2.1.length = n4 ∧ r1.2.2.2.2.2.2.2.2.2.2.2.2.2.2.2.1.length = n5 ∧ e = .returned (SV.val (.tup [pt g 0, I 0])) ∧ Cx F O w w' [Bx 52 g [I r1.1, I r1.2.1, .u32 r1.2.2.1, .u64 r1.2.2.2.1, .b r1.2.2.2.2.1, sl A n c, sl A1 n1 c1, sl A2 n2 c2, pt g1 0, sl none 0 0, .u64 0, .ar e8 r1.2.2.2.2.2.2.2.2.2.2.2.2.2.2.2.2.2, I (-1), .v (.func (.func 28) ⟨SV.vals [pt g 0]⟩ ⟨SV.vals []⟩)], Ow e8 A n c r1.2.2.2.2.2.1, Ow e8 A1 n1 c1 r1.2.2.2.2.2.2.1, Ow e8 A2 n2 c2 r1.2.2.2.2.2.2.2.1, Bx 77 g1 [I r1.2.2.2.2.2.2.2.2.1, I r1.2.2.2.2.2.2.2.2.2.1, sl A3 n3 c3, sl A4 n4 c4, .b false, .u64 0, .v (.iface 114 (SV.val (pt g2 0)))], Ow e8 A3 n3 c3 r1.2.2.2.2.2.2.2.2.2.2.1, Ow e8 A4 n4 c4 r1.2.2.2.2.2.2.2.2.2.2.2.1, Bx 120 g2 [.ar e64 r1.2.2.2.2.2.2.2.2.2.2.2.2.1, .u64 r1.2.2.2.2.2.2.2.2.2.2.2.2.2.1, .u64 r1.2.2.2.2.2.2.2.2.2.2.2.2.2.2.1, sl A5 n5 c5, I r1.2.2.2.2.2.2.2.2.2.2.2.2.2.2.2.2.1, .v (.func (.func 62) ⟨SV.vals []⟩ ⟨SV.vals []⟩), .v (.func (.func 63) ⟨SV.vals []⟩ ⟨SV.vals []⟩)], Ow e8 A5 n5 c5 r1.2.2.2.2.2.2.2.2.2.2.2.2.2.2.2.1] | .inr (.inr r2) => ∃ g3 A6 n6 c6 A7 n7 c7 A8 n8 c8 g4 A9 n9 c9 A10 n10 c10 g5 A11 n11 c11, r2.2.2.2.2.2.1.length = n6 ∧ r2.2.2.2.2.2.2.1.length = n7 ∧ r2.2.2.2.2.2.2.2.1.length = n8 ∧ r2.2.2.2.2.2.2.2.2.2.2.1.length = n9 ∧ r2.2.2.2.2.2.2.2.2.2.2.2.1.length = n10 ∧ r2.2.2.2.2.2.2.2.2.2.2.2.2.2.2.2.1.length = n11 ∧ e = .returned (SV.val (.tup [pt g3 0, I 0])) ∧ Cx F O w w' [Bx 52 g3 [I r2.1, I r2.2.1, .u32 r2.2.2.1, .u64 r2.2.2.2.1, .b r2.2.2.2.2.1, sl A6 n6 c6, sl A7 n7 c7, sl A8 n8 c8, pt g4 0, sl none 0 0, .u64 0, .ar e8 r2.2.2.2.2.2.2.2.2.2.2.2.2.2.2.2.2.2, I (-1), .v (.func (.func 28) ⟨SV.vals [pt g3 0]⟩ ⟨SV.vals []⟩)], Ow e8 A6 n6 c6 r2.2.2.2.2.2.1, Ow e8 A7 n7 c7 r2.2.2.2.2.2.2.1, Ow e8 A8 n8 c8 r2.2.2.2.2.2.2.2.1, Bx 77 g4 [I r2.2.2.2.2.2.2.2.2.1, I r2.2.2.2.2.2.2.2.2.2.1, sl A9 n9 c9, sl A10 n10 c10, .b false, .u64 0, .v (.iface 124 (SV.val (pt g5 0)))], Ow e8 A9 n9 c9 r2.2.2.2.2.2.2.2.2.2.2.1, Ow e8 A10 n10 c10 r2.2.2.2.2.2.2.2.2.2.2.2.1, Bx 128 g5 [.ar e32 r2.2.2.2.2.2.2.2.2.2.2.2.2.1, .u64 r2.2.2.2.2.2.2.2.2.2.2.2.2.2.1, .u64 r2.2.2.2.2.2.2.2.2.2.2.2.2.2.2.1, sl A11 n11 c11, I r2.2.2.2.2.2.2.2.2.2.2.2.2.2.2.2.2.1, .v (.func (.func 65) ⟨SV.vals []⟩ ⟨SV.vals []⟩), .v (.func (.func 66) ⟨SV.vals []⟩ ⟨SV.vals []⟩)], Ow e8 A11 n11 c11 r2.2.2.2.2.2.2.2.2.2.2.2.2.2.2.2.1]) := by
 unfold m_xof_New_w at hm
 subst hn_key
 subst hn_salt
 subst hn_personal
 refine calz [I k_, I length, sl A_key key.length c_key, sl A_salt salt.length c_salt, sl A_personal personal.length c_personal] Try.func5 rfl ?_
 refine W_seq <| Wq .a ?_
 refine W_seq <| W_reg <| We 5 (.n 16 (I k_) (.n 17 (I length) (.n 18 (sl A_key key.length c_key) (.n 19 (sl A_salt salt.length c_salt) (.n 20 (sl A_personal personal.length c_personal) (.ss .a)))))) ?_
 refine WL_op ?_
 obtain ⟨r_, h_r_, hm⟩ := ob hm
 refine Op_cz 21 ws_go13 (c_xof_valid (F := N0) (O := N0) _ _ _ _ _ _ _ _ _ _ _ _ _ _ (Ro.n0 (h_key.cx k)) rfl hc_key (Ro.n0 (h_salt.cx k)) rfl hc_salt (Ro.n0 (h_personal.cx k)) rfl hc_personal (Cx.refl _) _ h_r_) ?_
 rintro e_ w_ ⟨rfl, k_1⟩
 have k_2 := k.call k_1
 refine ⟨.tup [.agg [I r_.1, I r_.2.1, .u32 r_.2.2.1, .u64 r_.2.2.2.1, .b r_.2.2.2.2.1], I r_.2.2.2.2.2], rfl, ?_⟩
 refine We 3 (.n 22 (.agg [I r_.1, I r_.2.1, .u32 r_.2.2.1, .u64 r_.2.2.2.1, .b r_.2.2.2.2.1]) (.n 23 (I r_.2.2.2.2.2) (.ssss (.ss .a)))) ?_
 refine WL_op <| Op_alloc [] 12 [I 0, I 0, .u32 0, .u64 0, .b false] (by kernel_rfl) k_2 ?_
 intro g0 w_1 k_3
 refine WL_op <| Op_bz 0 (.agg [I r_.1, I r_.2.1, .u32 r_.2.2.1, .u64 r_.2.2.2.1, .b r_.2.2.2.2.1]) [I r_.1, I r_.2.1, .u32 r_.2.2.1, .u64 r_.2.2.2.1, .b r_.2.2.2.2.1] (Pt.at g0 0) k_3 rfl .all ?_
 intro w_2 k_4
 refine We 1 (.n 13 (I r_.2.2.2.2.2) (.k (.ss .a))) ?_
 refine Wn <| W_seq <| W_seq <| Wq (.n 25 (.b (decide (r_.2.2.2.2.2 ≠ 0))) .a) ?_
 refine W_pz (r_.2.2.2.2.2 ≠ 0) (fun hc => ?_) fun hc => ?_
 · rw [if_pos hc] at hm
   refine W_seq <| Wq (.n 10 (.v (.pointer none)) (.n 11 (I r_.2.2.2.2.2) .z)) ?_
   refine W_ret (At_tr ?_)
   obtain rfl := si hm
   refine At_rz [.v (.pointer none), I r_.2.2.2.2.2] qe ?_
   have k_5 := k_4.sel .z
   exact ⟨rfl, k_5⟩
 rw [if_neg hc] at hm
 refine W_skip <| At_go <| W_seq ?_
 have k_6 := k_4.drew 1
 refine W_m ws_mixed (.q 1 2 (.q 3 2 (.q 0 3 (.q 5 3 (.op 2 (.op 4 (.op 6 (.q 7 3 (.op 8 (.q 9 4 .nil)))))))))) [2, 4, 6, 8] k_6 (.c (.k .e) (.c (.k .e) (.c (.k .e) (.c (.k .e) .l)))) (by kernel_rfl) (fun _ => ?_)
 refine MXz 2 2 (.n 28 (sl A_key key.length c_key) (.n 30 (sl A_salt salt.length c_salt) (.ss (.k (.ss .a))))) (fun x hx => qe) fun _ => ?_
 refine MXz 2 3 (.n 27 (.agg [I r_.1, I r_.2.1, .u32 r_.2.2.1, .u64 r_.2.2.2.1, .b r_.2.2.2.2.1]) (.n 32 (sl A_personal personal.length c_personal) (.kk .z))) (fun x hx => qT hx 0 rfl 0 5 [I r_.1, I r_.2.1, .u32 r_.2.2.1, .u64 r_.2.2.2.1, .b r_.2.2.2.2.1] (by kernel_rfl) (by decide) <| qe) fun _ => ?_
 refine MX_op (by kernel_rfl) rfl ?_
 obtain ⟨r_1, h_r_1, hm⟩ := ob hm
 refine Op_cz 29 ws_go14 (c_xof_own (F := N0) (O := N0) _ _ _ _ (Ro.n0 (h_key.cx k_6)) rfl hc_key (Cx.refl _) _ h_r_1) ?_
 rintro e_ w_3 ⟨A0, _, c0, rfl, rfl, k_7⟩
 have k_8 := k_6.call k_7
 refine ⟨sl A0 r_1.length c0, rfl, ?_⟩
 refine ⟨(k_8.sel (.k .z)), fun _ => ?_⟩
 refine MX_op (by kernel_rfl) rfl ?_
 have k_9 := k_8.sel (.kk .e)
 obtain ⟨r_2, h_r_2, hm⟩ := ob hm
 refine Op_cz 31 ws_go14 (c_xof_own (F := N0) (O := N0) _ _ _ _ (Ro.n0 (h_salt.cx k_9)) rfl hc_salt (Cx.refl _) _ h_r_2) ?_
 rintro e_ w_4 ⟨A12, _, c12, rfl, rfl, k_10⟩
 have k_11 := k_9.call k_10
 refine ⟨sl A12 r_2.length c12, rfl, ?_⟩
 refine ⟨(k_11.sel (.k .z)), fun _ => ?_⟩
 refine MX_op (by kernel_rfl) rfl ?_
 obtain ⟨r_3, h_r_3, hm⟩ := ob hm
 refine Op_cz 33 ws_go14 (c_xof_own (F := N0) (O := N0) _ _ _ _ (Ro.n0 (h_personal.cx k_11)) rfl hc_personal (Cx.refl _) _ h_r_3) ?_
 rintro e_ w_5 ⟨A13, _, c13, rfl, rfl, k_12⟩
 have k_13 := k_11.call k_12
 refine ⟨sl A13 r_3.length c13, rfl, ?_⟩
 refine ⟨(k_13.sel (.k .z)), fun _ => ?_⟩
 refine MXz 1 3 (.n 34 (.agg [I r_.1, I r_.2.1, .u32 r_.2.2.1, .u64 r_.2.2.2.1, .b r_.2.2.2.2.1, sl A0 r_1.length c0, sl A12 r_2.length c12, sl A13 r_3.length c13, .v (.pointer none), sl none 0 0, .u64 0, .ar e8 (Vec.rep 64 (0 : UInt8)), I 0, .v .nilFunc]) .z) (fun x hx => qe) fun _ => ?_
 refine MX_op (by kernel_rfl) rfl <| Op_box [] 35 (.agg [I r_.1, I r_.2.1, .u32 r_.2.2.1, .u64 r_.2.2.2.1, .b r_.2.2.2.2.1, sl A0 r_1.length c0, sl A12 r_2.length c12, sl A13 r_3.length c13, .v (.pointer none), sl none 0 0, .u64 0, .ar e8 (Vec.rep 64 (0 : UInt8)), I 0, .v .nilFunc]) [I r_.1, I r_.2.1, .u32 r_.2.2.1, .u64 r_.2.2.2.1, .b r_.2.2.2.2.1, sl A0 r_1.length c0, sl A12 r_2.length c12, sl A13 r_3.length c13, .v (.pointer none), sl none 0 0, .u64 0, .ar e8 (Vec.rep 64 (0 : UInt8)), I 0, .v .nilFunc] (by kernel_rfl) k_13 ?_
 intro g6 w_6 k_14
 refine ⟨(k_14.sel (.k .z)), fun _ => ?_⟩
 refine MXz 1 4 (.n 14 (pt g6 0) .z) (fun x hx => qe) fun _ => ?_
 refine MX_nil <| At_go <| W_seq <| W_reg <| We 1 (.n 36 (pt g6 0) .a) ?_
 refine WL_op ?_
 obtain ⟨r_4, h_r_4, hm⟩ := ob hm
 have k_15 := ((((k_14.pk .h).pk (.t (.t (.t .h)))).pk (.t (.t (.t .h)))).pk (.t (.t (.t .h)))).pk (.t (.t (.t (.t .h))))
 obtain ⟨F1, O1, kin, hO, hre, hF, hb⟩ := k_15.go (.i (.i (.i (.i (.r .e)))))
 refine Op_cz 37 ws_go15 (c_xof_Stream_begin_w (F := F1) (O := O1) _ _ _ _ _ _ _ _ _ _ _ _ _ _ _ _ _ _ _ _ _ kin _ h_r_4) ?_
 rcases r_4 with r_5 | r_6
 · simp only [Sum.elim_inl, Sum.elim_inr] at hm
   rintro e_ w_7 ⟨A14, _, c14, A15, _, c15, A16, _, c16, g7, A17, _, c17, A18, _, c18, g8, A19, _, c19, rfl, rfl, rfl, rfl, rfl, rfl, rfl, k_16⟩
   have k_17 := hb w_7 _ _ k_16 (.c (.c (.c (.c (.c (.c (.c (.c (.c .n)))))))))
   refine ⟨.tup [], rfl, ?_⟩
   have k_18 := k_17.sel (.kkkk (.kkkk (.k .z)))
   refine Wn <| W_seq <| Wq (.n 10 (pt g6 0) (.n 11 (I 0) .z)) ?_
   refine W_ret ?_
   obtain rfl := si hm
   refine At_rz [pt g6 0, I 0] qe ?_
   exact ⟨g6, A14, r_5.2.2.2.2.2.1.length, c14, A15, r_5.2.2.2.2.2.2.1.length, c15, A16, r_5.2.2.2.2.2.2.2.1.length, c16, g7, A17, r_5.2.2.2.2.2.2.2.2.2.2.1.length, c17, A18, r_5.2.2.2.2.2.2.2.2.2.2.2.1.length, c18, g8, A19, r_5.2.2.2.2.2.2.2.2.2.2.2.2.2.2.2.1.length, c19, k_18.len 1 rfl, k_18.len 2 rfl, k_18.len 3 rfl, k_18.len 5 rfl, k_18.len 6 rfl, k_18.len 8 rfl, rfl, k_18⟩
 · simp only [Sum.elim_inl, Sum.elim_inr] at hm
   rintro e_ w_8 ⟨A20, _, c20, A21, _, c21, A22, _, c22, g9, A23, _, c23, A24, _, c24, g10, A25, _, c25, rfl, rfl, rfl, rfl, rfl, rfl, rfl, k_19⟩
   have k_20 := hb w_8 _ _ k_19 (.c (.c (.c (.c (.c (.c (.c (.c (.c .n)))))))))
   refine ⟨.tup [], rfl, ?_⟩
   have k_21 := k_20.sel (.kkkk (.kkkk (.k .z)))
   refine Wn <| W_seq <| Wq (.n 10 (pt g6 0) (.n 11 (I 0) .z)) ?_
   refine W_ret ?_
   obtain rfl := si hm
   refine At_rz [pt g6 0, I 0] qe ?_
   exact ⟨g6, A20, r_6.2.2.2.2.2.1.length, c20, A21, r_6.2.2.2.2.2.2.1.length, c21, A22, r_6.2.2.2.2.2.2.2.1.length, c22, g9, A23, r_6.2.2.2.2.2.2.2.2.2.2.1.length, c23, A24, r_6.2.2.2.2.2.2.2.2.2.2.2.1.length, c24, g10, A25, r_6.2.2.2.2.2.2.2.2.2.2.2.2.2.2.2.1.length, c25, k_21.len 1 rfl, k_21.len 2 rfl, k_21.len 3 rfl, k_21.len 5 rfl, k_21.len 6 rfl, k_21.len 8 rfl, rfl, k_21⟩
theorem c_xof_Stream_none (x_s_kind : Int) (x_s_full : Int) (x_s_code : UInt32) (x_s_total : UInt64) (x_s_known : Bool) (x_key : List UInt8) (x_salt : List UInt8) (x_personal : List UInt8) (x_n_kind : Int) (x_n_digest : Int) (x_n_block : List UInt8) (x_n_key : List UInt8) (x_n_last : Bool) (x_n_written : UInt64) (x_n_e_h : Vec UInt64 8) (x_n_e_count_Lo : UInt64) (x_n_e_count_Hi : UInt64) (x_n_e_held : List UInt8) (x_n_e_block : Int) (x_at : UInt64) (x_now : Vec UInt8 64) (x_have : Int) (g_x : Nat) (A_x_key : Option Addr) (n_x_key : Nat) (c_x_key : Nat) (A_x_salt : Option Addr) (n_x_salt : Nat) (c_x_salt : Nat) (A_x_personal : Option Addr) (n_x_personal : Nat) (c_x_personal : Nat) (g_x_n : Nat) (A_x_n_block : Option Addr) (n_x_n_block : Nat) (c_x_n_block : Nat) (A_x_n_key : Option Addr) (n_x_n_key : Nat) (c_x_n_key : Nat) (g_x_n_e : Nat) (A_x_n_e_held : Option Addr) (n_x_n_e_held : Nat) (c_x_n_e_held : Nat) (k : Cx F O w w [Bx 52 g_x [I x_s_kind, I x_s_full, .u32 x_s_code, .u64 x_s_total, .b x_s_known, sl A_x_key n_x_key c_x_key, sl A_x_salt n_x_salt c_x_salt, sl A_x_personal n_x_personal c_x_personal, pt g_x_n 0, sl none 0 0, .u64 x_at, .ar e8 x_now, I x_have, .v (.func (.func 28) ⟨SV.vals [pt g_x 0]⟩ ⟨SV.vals []⟩)], Ow e8 A_x_key n_x_key c_x_key x_key, Ow e8 A_x_salt n_x_salt c_x_salt x_salt, Ow e8 A_x_personal n_x_personal c_x_personal x_personal, Bx 77 g_x_n [I x_n_kind, I x_n_digest, sl A_x_n_block n_x_n_block c_x_n_block, sl A_x_n_key n_x_n_key c_x_n_key, .b x_n_last, .u64 x_n_written, .v (.iface 114 (SV.val (pt g_x_n_e 0)))], Ow e8 A_x_n_block n_x_n_block c_x_n_block x_n_block, Ow e8 A_x_n_key n_x_n_key c_x_n_key x_n_key, Bx 120 g_x_n_e [.ar e64 x_n_e_h, .u64 x_n_e_count_Lo, .u64 x_n_e_count_Hi, sl A_x_n_e_held n_x_n_e_held c_x_n_e_held, I x_n_e_block, .v (.func (.func 62) ⟨SV.vals []⟩ ⟨SV.vals []⟩), .v (.func (.func 63) ⟨SV.vals []⟩ ⟨SV.vals []⟩)], Ow e8 A_x_n_e_held n_x_n_e_held c_x_n_e_held x_n_e_held]) (r : (Vec UInt64 8 × UInt64 × UInt64 × List UInt8 × Int × Int × Int × List UInt8 × List UInt8 × Bool × UInt64 × Int × Int × UInt32 × UInt64 × Bool × List UInt8 × List UInt8 × List UInt8 × UInt64 × Vec UInt8 64 × Int)) (hm : m_xof_Stream_none x_s_kind x_s_full x_s_code x_s_total x_s_known x_key x_salt x_personal x_n_kind x_n_digest x_n_block x_n_key x_n_last x_n_written x_n_e_h x_n_e_count_Lo x_n_e_count_Hi x_n_e_held x_n_e_block x_at x_now x_have = some r) :
    Calls Try.prog 16 (vals [pt g_x 0]) w (fun e w' => ∃ A n c A1 n1 c1 A2 n2 c2 A3 n3 c3 A4 n4 c4 A5 n5 c5, r.2.2.2.1.length = n ∧ r.2.2.2.2.2.2.2.1.length = n1 ∧ r.2.2.2.2.2.2.2.2.1.length = n2 ∧ r.2.2.2.2.2.2.2.2.2.2.2.2.2.2.2.2.1.length = n3 ∧ r.2.2.2.2.2.2.2.2.2.2.2.2.2.2.2.2.2.1.length = n4 ∧ r.2.2.2.2.2.2.2.2.2.2.2.2.2.2.2.2.2.2.1.length = n5 ∧ e = .returned (SV.val (.b false)) ∧ Cx F O w w' [Bx 120 g_x_n_e [.ar e64 r.1, .u64 r.2.1, .u64 r.2.2.1, sl A n c, I r.2.2.2.2.1, .v (.func (.func 62) ⟨SV.vals []⟩ ⟨SV.vals []⟩), .v (.func (.func 63) ⟨SV.vals []⟩ ⟨SV.vals []⟩)], Ow e8 A n c r.2.2.2.1, Bx 77 g_x_n [I r.2.2.2.2.2.1, I r.2.2.2.2.2.2.1, sl A1 n1 c1, sl A2 n2 c2, .b r.2.2.2.2.2.2.2.2.2.1, .u64 r.2.2.2.2.2.2.2.2.2.2.1, .v (.iface 114 (SV.val (pt g_x_n_e 0)))], Ow e8 A1 n1 c1 r.2.2.2.2.2.2.2.1, Ow e8 A2 n2 c2 r.2.2.2.2.2.2.2.2.1, Bx 52 g_x [I r.2.2.2.2.2.2.2.2.2.2.2.1, I r.2.2.2.2.2.2.2.2.2.2.2.2.1, .u32 r.2.2.2.2.2.2.2.2.2.2.2.2.2.1, .u64 r.2.2.2.2.2.2.2.2.2.2.2.2.2.2.1, .b r.2.2.2.2.2.2.2.2.2.2.2.2.2.2.2.1, sl A3 n3 c3, sl A4 n4 c4, sl A5 n5 c5, pt g_x_n 0, sl none 0 0, .u64 r.2.2.2.2.2.2.2.2.2.2.2.2.2.2.2.2.2.2.2.1, .ar e8 r.2.2.2.2.2.2.2.2.2.2.2.2.2.2.2.2.2.2.2.2.1, I r.2.2.2.2.2.2.2.2.2.2.2.2.2.2.2.2.2.2.2.2.2, .v (.func (.func 28) ⟨SV.vals [pt g_x 0]⟩ ⟨SV.vals []⟩)], Ow e8 A3 n3 c3 r.2.2.2.2.2.2.2.2.2.2.2.2.2.2.2.2.1, Ow e8 A4 n4 c4 r.2.2.2.2.2.2.2.2.2.2.2.2.2.2.2.2.2.1, Ow e8 A5 n5 c5 r.2.2.2.2.2.2.2.2.2.2.2.2.2.2.2.2.2.2.1]) := by
 unfold m_xof_Stream_none at hm
 obtain rfl := k.len 1 rfl
 obtain rfl := k.len 2 rfl
 obtain rfl := k.len 3 rfl
 obtain rfl := k.len 5 rfl
 obtain rfl := k.len 6 rfl
 obtain rfl := k.len 8 rfl
 refine calz [pt g_x 0] Try.func16 rfl ?_
 refine W_seq <| Wq .a ?_
 refine W_seq <| W_q [5] (.n 2 (.b false) .z) (qs g_x 0 <| qs g_x 0 <| qB k 0 rfl 76 (.v (.func (.func 28) ⟨SV.vals [pt g_x 0]⟩ ⟨SV.vals []⟩)) (by kernel_rfl) <| qe) (by kernel_rfl) ?_
 refine At_go <| W_ret ?_
 obtain rfl := si hm
 refine At_rz [.b false] qe ?_
 have k_ := ((((((((k.pk (.t (.t (.t .h)))).pk (.t (.t (.t .h)))).pk (.t (.t (.t .h)))).pk (.t (.t (.t .h)))).pk (.t (.t (.t (.t (.t (.t .h))))))).pk (.t (.t (.t (.t (.t (.t .h))))))).pk (.t (.t (.t (.t (.t (.t .h))))))).pk (.t (.t (.t (.t (.t (.t (.t (.t .h))))))))).pk (.t (.t (.t (.t (.t (.t (.t (.t .h))))))))
 exact ⟨A_x_n_e_held, x_n_e_held.length, c_x_n_e_held, A_x_n_block, x_n_block.length, c_x_n_block, A_x_n_key, x_n_key.length, c_x_n_key, A_x_key, x_key.length, c_x_key, A_x_salt, x_salt.length, c_x_salt, A_x_personal, x_personal.length, c_x_personal, k_.len 1 rfl, k_.len 3 rfl, k_.len 4 rfl, k_.len 6 rfl, k_.len 7 rfl, k_.len 8 rfl, rfl, k_⟩
theorem c_node_Node_none (n_kind : Int) (n_digest : Int) (n_block : List UInt8) (n_key : List UInt8) (n_last : Bool) (n_written : UInt64) (n_e_h : Vec UInt64 8) (n_e_count_Lo : UInt64) (n_e_count_Hi : UInt64) (n_e_held : List UInt8) (n_e_block : Int) (g_n : Nat) (A_n_block : Option Addr) (n_n_block : Nat) (c_n_block : Nat) (A_n_key : Option Addr) (n_n_key : Nat) (c_n_key : Nat) (g_n_e : Nat) (A_n_e_held : Option Addr) (n_n_e_held : Nat) (c_n_e_held : Nat) (k : Cx F O w w [Bx 77 g_n [I n_kind, I n_digest, sl A_n_block n_n_block c_n_block, sl A_n_key n_n_key c_n_key, .b n_last, .u64 n_written, .v (.iface 114 (SV.val (pt g_n_e 0)))], Ow e8 A_n_block n_n_block c_n_block n_block, Ow e8 A_n_key n_n_key c_n_key n_key, Bx 120 g_n_e [.ar e64 n_e_h, .u64 n_e_count_Lo, .u64 n_e_count_Hi, sl A_n_e_held n_n_e_held c_n_e_held, I n_e_block, .v (.func (.func 62) ⟨SV.vals []⟩ ⟨SV.vals []⟩), .v (.func (.func 63) ⟨SV.vals []⟩ ⟨SV.vals []⟩)], Ow e8 A_n_e_held n_n_e_held c_n_e_held n_e_held]) (r : (Vec UInt64 8 × UInt64 × UInt64 × List UInt8 × Int × Int × Int × List UInt8 × List UInt8 × Bool × UInt64)) (hm : m_node_Node_none n_kind n_digest n_block n_key n_last n_written n_e_h n_e_count_Lo n_e_count_Hi n_e_held n_e_block = some r) :
    Calls Try.prog 39 (vals [pt g_n 0]) w (fun e w' => ∃ A n c A1 n1 c1 A2 n2 c2, r.2.2.2.1.length = n ∧ r.2.2.2.2.2.2.2.1.length = n1 ∧ r.2.2.2.2.2.2.2.2.1.length = n2 ∧ e = .returned (SV.val (.b false)) ∧ Cx F O w w' [Bx 120 g_n_e [.ar e64 r.1, .u64 r.2.1, .u64 r.2.2.1, sl A n c, I r.2.2.2.2.1, .v (.func (.func 62) ⟨SV.vals []⟩ ⟨SV.vals []⟩), .v (.func (.func 63) ⟨SV.vals []⟩ ⟨SV.vals []⟩)], Ow e8 A n c r.2.2.2.1, Bx 77 g_n [I r.2.2.2.2.2.1, I r.2.2.2.2.2.2.1, sl A1 n1 c1, sl A2 n2 c2, .b r.2.2.2.2.2.2.2.2.2.1, .u64 r.2.2.2.2.2.2.2.2.2.2, .v (.iface 114 (SV.val (pt g_n_e 0)))], Ow e8 A1 n1 c1 r.2.2.2.2.2.2.2.1, Ow e8 A2 n2 c2 r.2.2.2.2.2.2.2.2.1]) := by
 unfold m_node_Node_none at hm
 obtain rfl := k.len 1 rfl
 obtain rfl := k.len 2 rfl
 obtain rfl := k.len 4 rfl
 refine calz [pt g_n 0] Try.func39 rfl ?_
 refine W_seq <| Wq .a ?_
 refine W_seq <| W_q [5] (.n 2 (.b false) .z) (qs g_n 0 <| qs g_n 0 <| qB k 0 rfl 6 (.v (.iface 114 (SV.val (pt g_n_e 0)))) (by kernel_rfl) <| qe) (by kernel_rfl) ?_
 refine At_go <| W_ret ?_
 obtain rfl := si hm
 refine At_rz [.b false] qe ?_
 have k_ := ((((k.pk (.t (.t .h))).pk (.t (.t .h))).pk (.t (.t .h))).pk (.t (.t (.t (.t .h))))).pk (.t (.t (.t (.t .h))))
 exact ⟨A_n_e_held, n_e_held.length, c_n_e_held, A_n_block, n_block.length, c_n_block, A_n_key, n_key.length, c_n_key, k_.len 1 rfl, k_.len 3 rfl, k_.len 4 rfl, rfl, k_⟩
theorem c_node_Node_Write (n_kind : Int) (n_digest : Int) (n_block : List UInt8) (n_key : List UInt8) (n_last : Bool) (n_written : UInt64) (n_e_h : Vec UInt64 8) (n_e_count_Lo : UInt64) (n_e_count_Hi : UInt64) (n_e_held : List UInt8) (n_e_block : Int) (b : List UInt8) (g_n : Nat) (A_n_block : Option Addr) (n_n_block : Nat) (c_n_block : Nat) (A_n_key : Option Addr) (n_n_key : Nat) (c_n_key : Nat) (g_n_e : Nat) (A_n_e_held : Option Addr) (n_n_e_held : Nat) (c_n_e_held : Nat) (A_b : Option Addr) (n_b : Nat) (c_b : Nat) (h_b : Ro F w A_b (e8.all b)) (hn_b : b.length = n_b) (hc_b : n_b ≤ c_b) (k : Cx F O w w [Bx 77 g_n [I n_kind, I n_digest, sl A_n_block n_n_block c_n_block, sl A_n_key n_n_key c_n_key, .b n_last, .u64 n_written, .v (.iface 114 (SV.val (pt g_n_e 0)))], Ow e8 A_n_block n_n_block c_n_block n_block, Ow e8 A_n_key n_n_key c_n_key n_key, Bx 120 g_n_e [.ar e64 n_e_h, .u64 n_e_count_Lo, .u64 n_e_count_Hi, sl A_n_e_held n_n_e_held c_n_e_held, I n_e_block, .v (.func (.func 62) ⟨SV.vals []⟩ ⟨SV.vals []⟩), .v (.func (.func 63) ⟨SV.vals []⟩ ⟨SV.vals []⟩)], Ow e8 A_n_e_held n_n_e_held c_n_e_held n_e_held]) (r : (Vec UInt64 8 × UInt64 × UInt64 × List UInt8 × Int × Int × Int × List UInt8 × List UInt8 × Bool × UInt64)) (hm : m_node_Node_Write n_kind n_digest n_block n_key n_last n_written n_e_h n_e_count_Lo n_e_count_Hi n_e_held n_e_block b = some r) :
    Calls Try.prog 38 (vals [pt g_n 0, sl A_b n_b c_b]) w (fun e w' => ∃ A n c A1 n1 c1 A2 n2 c2, r.2.2.2.1.length = n ∧ r.2.2.2.2.2.2.2.1.length = n1 ∧ r.2.2.2.2.2.2.2.2.1.length = n2 ∧ e = .returned (SV.val (I 0)) ∧ Cx F O w w' [Bx 120 g_n_e [.ar e64 r.1, .u64 r.2.1, .u64 r.2.2.1, sl A n c, I r.2.2.2.2.1, .v (.func (.func 62) ⟨SV.vals []⟩ ⟨SV.vals []⟩), .v (.func (.func 63) ⟨SV.vals []⟩ ⟨SV.vals []⟩)], Ow e8 A n c r.2.2.2.1, Bx 77 g_n [I r.2.2.2.2.2.1, I r.2.2.2.2.2.2.1, sl A1 n1 c1, sl A2 n2 c2, .b r.2.2.2.2.2.2.2.2.2.1, .u64 r.2.2.2.2.2.2.2.2.2.2, .v (.iface 114 (SV.val (pt g_n_e 0)))], Ow e8 A1 n1 c1 r.2.2.2.2.2.2.2.1, Ow e8 A2 n2 c2 r.2.2.2.2.2.2.2.2.1]) := by
 unfold m_node_Node_Write at hm
 obtain rfl := k.len 1 rfl
 obtain rfl := k.len 2 rfl
 obtain rfl := k.len 4 rfl
 subst hn_b
 refine calz [pt g_n 0, sl A_b b.length c_b] Try.func38 rfl ?_
 refine W_seq <| Wq .a ?_
 refine W_seq <| W_seq <| W_reg <| We 1 (.n 5 (pt g_n 0) .a) ?_
 refine WL_op ?_
 obtain ⟨r_, h_r_, hm⟩ := ob hm
 obtain ⟨F1, O1, kin, hO, hre, hF, hb⟩ := k.go (.i (.i (.i (.i (.i .e)))))
 refine Op_cz 6 ws_go39 (c_node_Node_none (F := F1) (O := O1) _ _ _ _ _ _ _ _ _ _ _ _ _ _ _ _ _ _ _ _ _ _ kin _ h_r_) ?_
 rintro e_ w_ ⟨A0, _, c0, A3, _, c3, A4, _, c4, rfl, rfl, rfl, rfl, k_⟩
 have k_1 := hb w_ _ _ k_ (.c (.c (.c (.c (.c .n)))))
 refine ⟨.b false, rfl, ?_⟩
 refine Wn <| W_cond false (by kernel_rfl) (fun h => by cases h) (fun _ => ?_)
 refine W_skip <| At_go <| W_seq <| W_reg <| Wl 5 (.n 10 (.v (.iface 114 (SV.val (pt g_n_e 0)))) (.n 11 (sl A_b b.length c_b) (.ss .a))) (qs g_n 0 <| qs g_n 0 <| qB k_1 2 rfl 6 (.v (.iface 114 (SV.val (pt g_n_e 0)))) (by kernel_rfl) <| qe) ?_
 refine WL_op ?_
 obtain ⟨r_1, h_r_1, hm⟩ := ob hm
 obtain ⟨F11, O11, kin1, hO1, hre1, hF1, hb1⟩ := k_1.go (.i (.i (.r (.r (.r .e)))))
 refine Op_invoke [] 12 114 (pt g_n_e 0) [sl A_b b.length c_b] ws_inv114_node_write rfl (by kernel_rfl) (c_node_half_uint64_write (F := F11) (O := O11) _ _ _ _ _ _ _ _ _ _ _ _ _ (Ro.of_old h_b k_1 hF1) rfl hc_b kin1 _ h_r_1) ?_
 rintro e_ w_1 ⟨A5, _, c5, rfl, rfl, k_2⟩
 have k_3 := hb1 w_1 _ _ k_2 (.c (.c .n))
 refine ⟨.tup [], rfl, ?_⟩
 refine Wn <| W_seq <| W_reg <| Wl 10 (.n 20 (.u64 (r_.2.2.2.2.2.2.2.2.2.2 + (UInt64.ofInt (b.length : Int)))) (.n 22 (pt g_n 5) .z)) (qs g_n 0 <| qs g_n 0 <| qB k_3 2 rfl 5 (.u64 r_.2.2.2.2.2.2.2.2.2.2) (by kernel_rfl) <| qs g_n 0 <| qs g_n 0 <| qe) ?_
 refine WL_op <| Op_bz 2 (.u64 (r_.2.2.2.2.2.2.2.2.2.2 + (UInt64.ofInt (b.length : Int)))) [.u64 (r_.2.2.2.2.2.2.2.2.2.2 + (UInt64.ofInt (b.length : Int)))] (Pt.at g_n 5) k_3 rfl (.kkkk (.k .h)) ?_
 intro w_2 k_4
 refine Wn <| W_seq <| Wq (.n 4 (I 0) .z) ?_
 refine W_ret ?_
 obtain rfl := si hm
 refine At_rz [I 0] qe ?_
 exact ⟨A5, r_1.2.2.2.1.length, c5, A3, r_.2.2.2.2.2.2.2.1.length, c3, A4, r_.2.2.2.2.2.2.2.2.1.length, c4, k_4.len 1 rfl, k_4.len 3 rfl, k_4.len 4 rfl, rfl, k_4⟩
theorem c_xof_Stream_takes (x_s_kind : Int) (x_s_full : Int) (x_s_code : UInt32) (x_s_total : UInt64) (x_s_known : Bool) (x_key : List UInt8) (x_salt : List UInt8) (x_personal : List UInt8) (x_n_kind : Int) (x_n_digest : Int) (x_n_block : List UInt8) (x_n_key : List UInt8) (x_n_last : Bool) (x_n_written : UInt64) (x_n_e_h : Vec UInt64 8) (x_n_e_count_Lo : UInt64) (x_n_e_count_Hi : UInt64) (x_n_e_held : List UInt8) (x_n_e_block : Int) (x_at : UInt64) (x_now : Vec UInt8 64) (x_have : Int) (b : List UInt8) (g_x : Nat) (A_x_key : Option Addr) (n_x_key : Nat) (c_x_key : Nat) (A_x_salt : Option Addr) (n_x_salt : Nat) (c_x_salt : Nat) (A_x_personal : Option Addr) (n_x_personal : Nat) (c_x_personal : Nat) (g_x_n : Nat) (A_x_n_block : Option Addr) (n_x_n_block : Nat) (c_x_n_block : Nat) (A_x_n_key : Option Addr) (n_x_n_key : Nat) (c_x_n_key : Nat) (g_x_n_e : Nat) (A_x_n_e_held : Option Addr) (n_x_n_e_held : Nat) (c_x_n_e_held : Nat) (A_b : Option Addr) (n_b : Nat) (c_b : Nat) (h_b : Ro F w A_b (e8.all b)) (hn_b : b.length = n_b) (hc_b : n_b ≤ c_b) (k : Cx F O w w [Bx 52 g_x [I x_s_kind, I x_s_full, .u32 x_s_code, .u64 x_s_total, .b x_s_known, sl A_x_key n_x_key c_x_key, sl A_x_salt n_x_salt c_x_salt, sl A_x_personal n_x_personal c_x_personal, pt g_x_n 0, sl none 0 0, .u64 x_at, .ar e8 x_now, I x_have, .v (.func (.func 28) ⟨SV.vals [pt g_x 0]⟩ ⟨SV.vals []⟩)], Ow e8 A_x_key n_x_key c_x_key x_key, Ow e8 A_x_salt n_x_salt c_x_salt x_salt, Ow e8 A_x_personal n_x_personal c_x_personal x_personal, Bx 77 g_x_n [I x_n_kind, I x_n_digest, sl A_x_n_block n_x_n_block c_x_n_block, sl A_x_n_key n_x_n_key c_x_n_key, .b x_n_last, .u64 x_n_written, .v (.iface 114 (SV.val (pt g_x_n_e 0)))], Ow e8 A_x_n_block n_x_n_block c_x_n_block x_n_block, Ow e8 A_x_n_key n_x_n_key c_x_n_key x_n_key, Bx 120 g_x_n_e [.ar e64 x_n_e_h, .u64 x_n_e_count_Lo, .u64 x_n_e_count_Hi, sl A_x_n_e_held n_x_n_e_held c_x_n_e_held, I x_n_e_block, .v (.func (.func 62) ⟨SV.vals []⟩ ⟨SV.vals []⟩), .v (.func (.func 63) ⟨SV.vals []⟩ ⟨SV.vals []⟩)], Ow e8 A_x_n_e_held n_x_n_e_held c_x_n_e_held x_n_e_held]) (r : (Vec UInt64 8 × UInt64 × UInt64 × List UInt8 × Int × Int × Int × List UInt8 × List UInt8 × Bool × UInt64 × Int × Int × UInt32 × UInt64 × Bool × List UInt8 × List UInt8 × List UInt8 × UInt64 × Vec UInt8 64 × Int)) (hm : m_xof_Stream_takes x_s_kind x_s_full x_s_code x_s_total x_s_known x_key x_salt x_personal x_n_kind x_n_digest x_n_block x_n_key x_n_last x_n_written x_n_e_h x_n_e_count_Lo x_n_e_count_Hi x_n_e_held x_n_e_block x_at x_now x_have b = some r) :
    Calls Try.prog 28 (vals [pt g_x 0, sl A_b n_b c_b]) w (fun e w' => ∃ A n c A1 n1 c1 A2 n2 c2 A3 n3 c3 A4 n4 c4 A5 n5 c5, r.2.2.2.1.length = n ∧ r.2.2.2.2.2.2.2.1.length = n1 ∧ r.2.2.2.2.2.2.2.2.1.length = n2 ∧ r.2.2.2.2.2.2.2.2.2.2.2.2.2.2.2.2.1.length = n3 ∧ r.2.2.2.2.2.2.2.2.2.2.2.2.2.2.2.2.2.1.length = n4 ∧ r.2.2.2.2.2.2.2.2.2.2.2.2.2.2.2.2.2.2.1.length = n5 ∧ e = .returned (SV.val (I 0)) ∧ Cx F O w w' [Bx 120 g_x_n_e [.ar e64 r.1, .u64 r.2.1, .u64 r.2.2.1, sl A n c, I r.2.2.2.2.1, .v (.func (.func 62) ⟨SV.vals []⟩ ⟨SV.vals []⟩), .v (.func (.func 63) ⟨SV.vals []⟩ ⟨SV.vals []⟩)], Ow e8 A n c r.2.2.2.1, Bx 77 g_x_n [I r.2.2.2.2.2.1, I r.2.2.2.2.2.2.1, sl A1 n1 c1, sl A2 n2 c2, .b r.2.2.2.2.2.2.2.2.2.1, .u64 r.2.2.2.2.2.2.2.2.2.2.1, .v (.iface 114 (SV.val (pt g_x_n_e 0)))], Ow e8 A1 n1 c1 r.2.2.2.2.2.2.2.1, Ow e8 A2 n2 c2 r.2.2.2.2.2.2.2.2.1, Bx 52 g_x [I r.2.2.2.2.2.2.2.2.2.2.2.1, I r.2.2.2.2.2.2.2.2.2.2.2.2.1, .u32 r.2.2.2.2.2.2.2.2.2.2.2.2.2.1, .u64 r.2.2.2.2.2.2.2.2.2.2.2.2.2.2.1, .b r.2.2.2.2.2.2.2.2.2.2.2.2.2.2.2.1, sl A3 n3 c3, sl A4 n4 c4, sl A5 n5 c5, pt g_x_n 0, sl none 0 0, .u64 r.2.2.2.2.2.2.2.2.2.2.2.2.2.2.2.2.2.2.2.1, .ar e8 r.2.2.2.2.2.2.2.2.2.2.2.2.2.2.2.2.2.2.2.2.1, I r.2.2.2.2.2.2.2.2.2.2.2.2.2.2.2.2.2.2.2.2.2, .v (.func (.func 28) ⟨SV.vals [pt g_x 0]⟩ ⟨SV.vals []⟩)], Ow e8 A3 n3 c3 r.2.2.2.2.2.2.2.2.2.2.2.2.2.2.2.2.1, Ow e8 A4 n4 c4 r.2.2.2.2.2.2.2.2.2.2.2.2.2.2.2.2.2.1, Ow e8 A5 n5 c5 r.2.2.2.2.2.2.2.2.2.2.2.2.2.2.2.2.2.2.1]) := by
 unfold m_xof_Stream_takes at hm
 obtain rfl := k.len 1 rfl
 obtain rfl := k.len 2 rfl
 obtain rfl := k.len 3 rfl
 obtain rfl := k.len 5 rfl
 obtain rfl := k.len 6 rfl
 obtain rfl := k.len 8 rfl
 subst hn_b
 refine calz [pt g_x 0, sl A_b b.length c_b] Try.func28 rfl ?_
 refine W_seq <| Wq .a ?_
 refine W_seq <| W_reg <| Wl 5 (.n 8 (pt g_x_n 0) (.n 9 (sl A_b b.length c_b) .z)) (qs g_x 0 <| qs g_x 0 <| qB k 0 rfl 8 (pt g_x_n 0) (by kernel_rfl) <| qe) ?_
 refine WL_op ?_
 obtain ⟨r_, h_r_, hm⟩ := ob hm
 obtain ⟨F1, O1, kin, hO, hre, hF, hb⟩ := k.go (.r (.r (.r (.r (.i (.i (.i (.i (.i .e)))))))))
 refine Op_cz 10 ws_go38 (c_node_Node_Write (F := F1) (O := O1) _ _ _ _ _ _ _ _ _ _ _ _ _ _ _ _ _ _ _ _ _ _ _ _ _ _ (Ro.of_old h_b k hF) rfl hc_b kin _ h_r_) ?_
 rintro e_ w_ ⟨A0, _, c0, A6, _, c6, A7, _, c7, rfl, rfl, rfl, rfl, k_⟩
 have k_1 := hb w_ _ _ k_ (.c (.c (.c (.c (.c .n)))))
 refine ⟨I 0, rfl, ?_⟩
 refine We 1 (.n 4 (I 0) .z) ?_
 refine Wn <| W_ret ?_
 obtain rfl := si hm
 refine At_rz [I 0] qe ?_
 exact ⟨A0, r_.2.2.2.1.length, c0, A6, r_.2.2.2.2.2.2.2.1.length, c6, A7, r_.2.2.2.2.2.2.2.2.1.length, c7, A_x_key, x_key.length, c_x_key, A_x_salt, x_salt.length, c_x_salt, A_x_personal, x_personal.length, c_x_personal, k_1.len 1 rfl, k_1.len 3 rfl, k_1.len 4 rfl, k_1.len 6 rfl, k_1.len 7 rfl, k_1.len 8 rfl, rfl, k_1⟩
theorem c_xof_Stream_Write (x_s_kind : Int) (x_s_full : Int) (x_s_code : UInt32) (x_s_total : UInt64) (x_s_known : Bool) (x_key : List UInt8) (x_salt : List UInt8) (x_personal : List UInt8) (x_n_kind : Int) (x_n_digest : Int) (x_n_block : List UInt8) (x_n_key : List UInt8) (x_n_last : Bool) (x_n_written : UInt64) (x_n_e_h : Vec UInt64 8) (x_n_e_count_Lo : UInt64) (x_n_e_count_Hi : UInt64) (x_n_e_held : List UInt8) (x_n_e_block : Int) (x_at : UInt64) (x_now : Vec UInt8 64) (x_have : Int) (b : List UInt8) (g_x : Nat) (A_x_key : Option Addr) (n_x_key : Nat) (c_x_key : Nat) (A_x_salt : Option Addr) (n_x_salt : Nat) (c_x_salt : Nat) (A_x_personal : Option Addr) (n_x_personal : Nat) (c_x_personal : Nat) (g_x_n : Nat) (A_x_n_block : Option Addr) (n_x_n_block : Nat) (c_x_n_block : Nat) (A_x_n_key : Option Addr) (n_x_n_key : Nat) (c_x_n_key : Nat) (g_x_n_e : Nat) (A_x_n_e_held : Option Addr) (n_x_n_e_held : Nat) (c_x_n_e_held : Nat) (A_b : Option Addr) (n_b : Nat) (c_b : Nat) (h_b : Ro F w A_b (e8.all b)) (hn_b : b.length = n_b) (hc_b : n_b ≤ c_b) (k : Cx F O w w [Bx 52 g_x [I x_s_kind, I x_s_full, .u32 x_s_code, .u64 x_s_total, .b x_s_known, sl A_x_key n_x_key c_x_key, sl A_x_salt n_x_salt c_x_salt, sl A_x_personal n_x_personal c_x_personal, pt g_x_n 0, sl none 0 0, .u64 x_at, .ar e8 x_now, I x_have, .v (.func (.func 28) ⟨SV.vals [pt g_x 0]⟩ ⟨SV.vals []⟩)], Ow e8 A_x_key n_x_key c_x_key x_key, Ow e8 A_x_salt n_x_salt c_x_salt x_salt, Ow e8 A_x_personal n_x_personal c_x_personal x_personal, Bx 77 g_x_n [I x_n_kind, I x_n_digest, sl A_x_n_block n_x_n_block c_x_n_block, sl A_x_n_key n_x_n_key c_x_n_key, .b x_n_last, .u64 x_n_written, .v (.iface 114 (SV.val (pt g_x_n_e 0)))], Ow e8 A_x_n_block n_x_n_block c_x_n_block x_n_block, Ow e8 A_x_n_key n_x_n_key c_x_n_key x_n_key, Bx 120 g_x_n_e [.ar e64 x_n_e_h, .u64 x_n_e_count_Lo, .u64 x_n_e_count_Hi, sl A_x_n_e_held n_x_n_e_held c_x_n_e_held, I x_n_e_block, .v (.func (.func 62) ⟨SV.vals []⟩ ⟨SV.vals []⟩), .v (.func (.func 63) ⟨SV.vals []⟩ ⟨SV.vals []⟩)], Ow e8 A_x_n_e_held n_x_n_e_held c_x_n_e_held x_n_e_held]) (r : (Vec UInt64 8 × UInt64 × UInt64 × List UInt8 × Int × Int × Int × List UInt8 × List UInt8 × Bool × UInt64 × Int × Int × UInt32 × UInt64 × Bool × List UInt8 × List UInt8 × List UInt8 × UInt64 × Vec UInt8 64 × Int)) (hm : m_xof_Stream_Write x_s_kind x_s_full x_s_code x_s_total x_s_known x_key x_salt x_personal x_n_kind x_n_digest x_n_block x_n_key x_n_last x_n_written x_n_e_h x_n_e_count_Lo x_n_e_count_Hi x_n_e_held x_n_e_block x_at x_now x_have b = some r) :
    Calls Try.prog 6 (vals [pt g_x 0, sl A_b n_b c_b]) w (fun e w' => ∃ A n c A1 n1 c1 A2 n2 c2 A3 n3 c3 A4 n4 c4 A5 n5 c5, r.2.2.2.1.length = n ∧ r.2.2.2.2.2.2.2.1.length = n1 ∧ r.2.2.2.2.2.2.2.2.1.length = n2 ∧ r.2.2.2.2.2.2.2.2.2.2.2.2.2.2.2.2.1.length = n3 ∧ r.2.2.2.2.2.2.2.2.2.2.2.2.2.2.2.2.2.1.length = n4 ∧ r.2.2.2.2.2.2.2.2.2.2.2.2.2.2.2.2.2.2.1.length = n5 ∧ e = .returned (SV.val (I 0)) ∧ Cx F O w w' [Bx 120 g_x_n_e [.ar e64 r.1, .u64 r.2.1, .u64 r.2.2.1, sl A n c, I r.2.2.2.2.1, .v (.func (.func 62) ⟨SV.vals []⟩ ⟨SV.vals []⟩), .v (.func (.func 63) ⟨SV.vals []⟩ ⟨SV.vals []⟩)], Ow e8 A n c r.2.2.2.1, Bx 77 g_x_n [I r.2.2.2.2.2.1, I r.2.2.2.2.2.2.1, sl A1 n1 c1, sl A2 n2 c2, .b r.2.2.2.2.2.2.2.2.2.1, .u64 r.2.2.2.2.2.2.2.2.2.2.1, .v (.iface 114 (SV.val (pt g_x_n_e 0)))], Ow e8 A1 n1 c1 r.2.2.2.2.2.2.2.1, Ow e8 A2 n2 c2 r.2.2.2.2.2.2.2.2.1, Bx 52 g_x [I r.2.2.2.2.2.2.2.2.2.2.2.1, I r.2.2.2.2.2.2.2.2.2.2.2.2.1, .u32 r.2.2.2.2.2.2.2.2.2.2.2.2.2.1, .u64 r.2.2.2.2.2.2.2.2.2.2.2.2.2.2.1, .b r.2.2.2.2.2.2.2.2.2.2.2.2.2.2.2.1, sl A3 n3 c3, sl A4 n4 c4, sl A5 n5 c5, pt g_x_n 0, sl none 0 0, .u64 r.2.2.2.2.2.2.2.2.2.2.2.2.2.2.2.2.2.2.2.1, .ar e8 r.2.2.2.2.2.2.2.2.2.2.2.2.2.2.2.2.2.2.2.2.1, I r.2.2.2.2.2.2.2.2.2.2.2.2.2.2.2.2.2.2.2.2.2, .v (.func (.func 28) ⟨SV.vals [pt g_x 0]⟩ ⟨SV.vals []⟩)], Ow e8 A3 n3 c3 r.2.2.2.2.2.2.2.2.2.2.2.2.2.2.2.2.1, Ow e8 A4 n4 c4 r.2.2.2.2.2.2.2.2.2.2.2.2.2.2.2.2.2.1, Ow e8 A5 n5 c5 r.2.2.2.2.2.2.2.2.2.2.2.2.2.2.2.2.2.2.1]) := by
 unfold m_xof_Stream_Write at hm
 obtain rfl := k.len 1 rfl
 obtain rfl := k.len 2 rfl
 obtain rfl := k.len 3 rfl
 obtain rfl := k.len 5 rfl
 obtain rfl := k.len 6 rfl
 obtain rfl := k.len 8 rfl
 subst hn_b
 refine calz [pt g_x 0, sl A_b b.length c_b] Try.func6 rfl ?_
 refine W_seq <| Wq .a ?_
 refine W_seq <| W_seq <| W_reg <| We 1 (.n 5 (pt g_x 0) .a) ?_
 refine WL_op ?_
 obtain ⟨r_, h_r_, hm⟩ := ob hm
 obtain ⟨F1, O1, kin, hO, hre, hF, hb⟩ := k.go (.i (.i (.i (.i (.i (.i (.i (.i (.i .e)))))))))
 refine Op_cz 6 ws_go16 (c_xof_Stream_none (F := F1) (O := O1) _ _ _ _ _ _ _ _ _ _ _ _ _ _ _ _ _ _ _ _ _ _ _ _ _ _ _ _ _ _ _ _ _ _ _ _ _ _ _ _ _ _ _ kin _ h_r_) ?_
 rintro e_ w_ ⟨A0, _, c0, A6, _, c6, A7, _, c7, A8, _, c8, A9, _, c9, A10, _, c10, rfl, rfl, rfl, rfl, rfl, rfl, rfl, k_⟩
 have k_1 := hb w_ _ _ k_ (.c (.c (.c (.c (.c (.c (.c (.c (.c .n)))))))))
 refine ⟨.b false, rfl, ?_⟩
 refine Wn <| W_cond false (by kernel_rfl) (fun h => by cases h) (fun _ => ?_)
 refine W_skip <| At_go <| W_seq <| W_reg <| Wl 5 (.n 10 (.v (.func (.func 28) ⟨SV.vals [pt g_x 0]⟩ ⟨SV.vals []⟩)) (.n 11 (sl A_b b.length c_b) .z)) (qs g_x 0 <| qs g_x 0 <| qB k_1 5 rfl 76 (.v (.func (.func 28) ⟨SV.vals [pt g_x 0]⟩ ⟨SV.vals []⟩)) (by kernel_rfl) <| qe) ?_
 refine WL_op ?_
 obtain ⟨r_1, h_r_1, hm⟩ := ob hm
 have k_2 := ((((((((k_1.pk (.t .h)).pk (.t .h)).pk (.t (.t (.t (.t .h))))).pk (.t (.t (.t (.t .h))))).pk (.t (.t (.t (.t .h))))).pk (.t (.t (.t (.t (.t (.t (.t (.t .h))))))))).pk (.t (.t (.t (.t (.t (.t (.t (.t .h))))))))).pk (.t (.t (.t (.t (.t (.t (.t (.t .h))))))))).pk (.t (.t (.t (.t (.t (.t (.t (.t .h))))))))
 obtain ⟨F11, O11, kin1, hO1, hre1, hF1, hb1⟩ := k_2.go (.i (.i (.i (.i (.i (.i (.i (.i (.i .e)))))))))
 refine Op_callv [] 12 [pt g_x 0] [sl A_b b.length c_b] [] ws_go28 (by kernel_rfl) (c_xof_Stream_takes (F := F11) (O := O11) _ _ _ _ _ _ _ _ _ _ _ _ _ _ _ _ _ _ _ _ _ _ _ _ _ _ _ _ _ _ _ _ _ _ _ _ _ _ _ _ _ _ _ _ _ _ _ (Ro.of_old h_b k_2 hF1) rfl hc_b kin1 _ h_r_1) ?_
 rintro e_ w_1 ⟨A11, _, c11, A12, _, c12, A13, _, c13, A14, _, c14, A15, _, c15, A16, _, c16, rfl, rfl, rfl, rfl, rfl, rfl, rfl, k_3⟩
 have k_4 := hb1 w_1 _ _ k_3 (.c (.c (.c (.c (.c (.c (.c (.c (.c .n)))))))))
 refine ⟨I 0, rfl, ?_⟩
 refine We 1 (.n 4 (I 0) .z) ?_
 refine Wn <| W_ret ?_
 obtain rfl := si hm
 refine At_rz [I 0] qe ?_
 exact ⟨A11, r_1.2.2.2.1.length, c11, A12, r_1.2.2.2.2.2.2.2.1.length, c12, A13, r_1.2.2.2.2.2.2.2.2.1.length, c13, A14, r_1.2.2.2.2.2.2.2.2.2.2.2.2.2.2.2.2.1.length, c14, A15, r_1.2.2.2.2.2.2.2.2.2.2.2.2.2.2.2.2.2.1.length, c15, A16, r_1.2.2.2.2.2.2.2.2.2.2.2.2.2.2.2.2.2.2.1.length, c16, k_4.len 1 rfl, k_4.len 3 rfl, k_4.len 4 rfl, k_4.len 6 rfl, k_4.len 7 rfl, k_4.len 8 rfl, rfl, k_4⟩
theorem c_word_Store64 (w_ : UInt64) (k : Cx F O w w []) (r : (List UInt8)) (hm : m_word_Store64 w_ = some r) :
    Calls Try.prog 72 (vals [.u64 w_]) w (fun e w' => ∃ A n c, r.length = n ∧ e = .returned (SV.val (sl A n c)) ∧ Cx F O w w' [Ow e8 A n c r]) := by
 unfold m_word_Store64 at hm
 refine calz [.u64 w_] Try.func72 rfl ?_
 refine W_seq <| Wq .a ?_
 refine W_seq <| W_reg <| WL_op <| Op_make ws_tf23 e8 (0 : UInt8) rfl [] 5 (I 8) (I 8) (8 : Int) (8 : Int) (by kernel_rfl) (by omega) (by omega) (by omega) k ?_
 intro A0 w_1 k_
 refine We 1 (.n 3 (sl A0 (Int.toNat (8 : Int)) (Int.toNat (8 : Int))) (.s .a)) ?_
 refine Wn <| W_seq <| W_seq <| Wq (.n 6 (I 0) .a) ?_
 refine W_block <| W_lp (m_word_Store64_l0 w_) (fun s L wr => ∃ (b : List UInt8) (x_0 : Int), (b, x_0) = s ∧ L = [(0, .u64 w_), (3, sl A0 (Int.toNat (8 : Int)) (Int.toNat (8 : Int))), (6, I x_0)] ∧ Cx F O w wr [Ow e8 A0 (Int.toNat (8 : Int)) (Int.toNat (8 : Int)) b]) (List.replicate (Int.toNat (8 : Int)) (0 : UInt8), (0 : Int)) r hm ⟨List.replicate (Int.toNat (8 : Int)) (0 : UInt8), (0 : Int), rfl, rfl, k_⟩ (by kernel_rfl) ?_
 intro s0_ L_ w_2 y0 hrel hstep hr0
 obtain ⟨b, x_0, rfl, rfl, k_1⟩ := hrel
 have hm := hstep; simp only [m_word_Store64_l0] at hm
 clear hstep
 refine W_seq <| Wq (.n 7 (.b (decide (x_0 < 8))) .a) ?_
 refine W_seq <| W_pz (x_0 < 8) (fun hc => ?_) fun hc => ?_
 · rw [if_pos hc] at hm
   refine W_skip <| At_go <| W_seq <| W_block <| W_seq <| Wq (.n 4 (I x_0) (.s .a)) ?_
   refine W_reg ?_
   obtain ⟨u, h_u, hm⟩ := ob hm
   obtain ⟨x_1, zh1, hm⟩ := ob hm
   refine Wl 8 (.n 15 (.u8 (UInt8.ofNat (shr64 w_ (Int.toNat (w64 (8 * x_0)))).toNat)) (.n 16 (.v (.pointer (ixA A0 x_0 1))) (.s .a))) (qp (0 ≤ w64 (8 * x_0)) (need_some h_u) <| qJ (k_1.rd 0 rfl) zh1 (k_1.len 0 rfl) <| qe) ?_
   refine WL_op <| Op_ost (E := e8) (kk := 0) (sv := .u8 (UInt8.ofNat (shr64 w_ (Int.toNat (w64 (8 * x_0)))).toNat)) (svs := [.u8 (UInt8.ofNat (shr64 w_ (Int.toNat (w64 (8 * x_0)))).toNat)]) [] 0 (UInt8.ofNat (shr64 w_ (Int.toNat (w64 (8 * x_0)))).toNat) (by kernel_rfl) (Pt.ix1 A0 x_0 1) k_1 rfl (geti_some zh1).2 (E_ix (E := e8) (k_1.rd 0 rfl) (by decide) (geti_lt zh1).1 (geti_some zh1).2) rfl (Nat.le_of_ble_eq_true (by kernel_rfl)) ?_
   intro w_3 k_2
   refine WL_nil <| At_in <| At_go <| W_q [] (.n 6 (I (w64 (x_0 + 1))) (.ss (.kk .z))) qe (by kernel_rfl) ?_
   exact At_rd (b.set (Int.toNat x_0) (UInt8.ofNat (shr64 w_ (Int.toNat (w64 (8 * x_0)))).toNat), w64 (x_0 + 1)) (Option.some.inj hm).symm ⟨b.set (Int.toNat x_0) (UInt8.ofNat (shr64 w_ (Int.toNat (w64 (8 * x_0)))).toNat), w64 (x_0 + 1), rfl, rfl, k_2⟩ (by kernel_rfl)
 rw [if_neg hc] at hm
 refine W_exit (At_te (At_te (At_ie ?_)))
 have hm := exit_of hm hr0
 refine At_go <| W_seq <| Wq (.n 2 (sl A0 (Int.toNat (8 : Int)) (Int.toNat (8 : Int))) .z) ?_
 refine W_ret ?_
 obtain rfl := si hm
 refine At_rz [sl A0 (Int.toNat (8 : Int)) (Int.toNat (8 : Int))] qe ?_
 exact ⟨A0, Int.toNat (8 : Int), Int.toNat (8 : Int), k_1.len 0 rfl, rfl, k_1⟩
theorem c_mixb_Bytes (h : Vec UInt64 8) (k : Cx F O w w []) (r : (List UInt8)) (hm : m_mixb_Bytes h = some r) :
    Calls Try.prog 63 (vals [.agg [.ar e64 h]]) w (fun e w' => ∃ A n c, r.length = n ∧ e = .returned (SV.val (sl A n c)) ∧ Cx F O w w' [Ow e8 A n c r]) := by
 unfold m_mixb_Bytes at hm
 refine calz [.agg [.ar e64 h]] Try.func63 rfl ?_
 refine W_seq <| W_reg <| WL_op <| Op_box [] 1 (.agg [.ar e64 h]) [.ar e64 h] (by kernel_rfl) k ?_
 intro g w_ k_
 refine We 1 (.k .z) ?_
 refine Wn <| W_seq <| W_reg <| WL_op <| Op_make ws_tf23 e8 (0 : UInt8) rfl [] 6 (I 0) (I 64) (0 : Int) (64 : Int) (by kernel_rfl) (by omega) (by omega) (by omega) k_ ?_
 intro A0 w_1 k_1
 refine We 1 (.n 3 (sl A0 (Int.toNat (0 : Int)) (Int.toNat (64 : Int))) (.s .a)) ?_
 refine Wn <| W_seq <| W_seq <| Wa (.n 7 (.agg [.ar e64 h]) (.n 8 (I 0) (.k .z))) (qT k_1 0 rfl 0 8 [.ar e64 h] (by kernel_rfl) (by decide) <| qe) ?_
 refine W_block ?_
 have k_3 := k_1.sel (.s (.k .e))
 refine W_lp (m_mixb_Bytes_l0 h) (fun s L wr => ∃ (b : List UInt8) (x_0 : Int) (A1 : Option Addr) (n0 : Nat) (c0 : Nat), (b, x_0) = s ∧ L = [(3, sl A1 n0 c0), (7, .agg [.ar e64 h]), (8, I x_0)] ∧ b.length = n0 ∧ Cx F O w wr [Ow e8 A1 n0 c0 b]) (List.replicate (Int.toNat (0 : Int)) (0 : UInt8), (0 : Int)) r hm ⟨List.replicate (Int.toNat (0 : Int)) (0 : UInt8), (0 : Int), A0, Int.toNat (0 : Int), Int.toNat (64 : Int), rfl, rfl, k_3.len 0 rfl, k_3⟩ (by kernel_rfl) ?_
 intro s0_ L_ w_2 y0 hrel hstep hr0
 obtain ⟨b, x_0, A1, _, c0, rfl, rfl, rfl, k_2⟩ := hrel
 have hm := hstep; simp only [m_mixb_Bytes_l0] at hm
 clear hstep
 refine W_seq <| Wq (.n 9 (.b (decide (x_0 < 8))) .a) ?_
 refine W_seq <| W_pz (x_0 < 8) (fun hc => ?_) fun hc => ?_
 · rw [if_pos hc] at hm
   refine W_skip <| At_go <| W_seq <| W_block <| W_seq ?_
   obtain ⟨x_1, zh1, hm⟩ := ob hm
   refine Wa (.n 5 (.u64 x_1) (.s .a)) (qo (.u64 x_1) <| qp ((0 ≤ x_0 ∧ x_0 < ((8 : Nat) : Int)) ∧ (SV.cl [.ar e64 h])[Int.toNat x_0 * 1]? = some (SV.val (.u64 x_1))) (ar_ix (E := e64) zh1 rfl) <| qe) ?_
   refine W_reg <| We 2 (.n 11 (sl A1 b.length c0) (.n 12 (.u64 x_1) (.s .a))) ?_
   refine WL_op ?_
   obtain ⟨r_, h_r_, hm⟩ := ob hm
   refine Op_cz 13 ws_go72 (c_word_Store64 (F := N0) (O := N0) _ (Cx.refl _) _ h_r_) ?_
   rintro e_ w_3 ⟨A2, _, c1, rfl, rfl, k_4⟩
   have k_5 := k_2.call k_4
   refine ⟨sl A2 r_.length c1, rfl, ?_⟩
   refine WL_op ?_
   obtain ⟨b1, h_b1, hm⟩ := ob hm
   obtain ⟨hz, hl⟩ := app_some h_b1
   refine Op_append (E := e8) (v := sl A2 r_.length c1) (ys := r_) ws_tf23 [] 14 0 (by kernel_rfl) k_5 rfl (Src.sl (k_5.rd 1 rfl) (k_5.len 1 rfl) (by rfl)) (k_5.len 1 rfl) (by have := k_5.len 0 rfl; have := (k_5.len 1 rfl); omega) ?_
   intro A3 c2 w_4 k_6
   rw [← hl] at k_6
   have k_7 := k_6.sel (.k .z)
   refine We 1 (.n 3 (sl A3 (b.length + r_.length) c2) (.ssss (.s .a))) ?_
   refine WL_nil <| At_in <| At_go <| W_q [] (.n 8 (I (w64 (x_0 + 1))) (.kk .z)) qe (by kernel_rfl) ?_
   exact At_rd (b1, w64 (x_0 + 1)) (Option.some.inj hm).symm ⟨b1, w64 (x_0 + 1), A3, b.length + r_.length, c2, rfl, rfl, k_7.len 0 rfl, k_7⟩ (by kernel_rfl)
 rw [if_neg hc] at hm
 refine W_exit (At_te (At_te (At_ie ?_)))
 have hm := exit_of hm hr0
 refine At_go <| W_seq <| Wq (.n 2 (sl A1 b.length c0) .z) ?_
 refine W_ret ?_
 obtain rfl := si hm
 refine At_rz [sl A1 b.length c0] qe ?_
 exact ⟨A1, b.length, c0, k_2.len 0 rfl, rfl, k_2⟩
theorem c_node_half_uint64_out (x_h : Vec UInt64 8) (x_count_Lo : UInt64) (x_count_Hi : UInt64) (x_held : List UInt8) (x_block : Int) (node : Bool) (g_x : Nat) (A_x_held : Option Addr) (n_x_held : Nat) (c_x_held : Nat) (k : Cx F O w w [Bx 120 g_x [.ar e64 x_h, .u64 x_count_Lo, .u64 x_count_Hi, sl A_x_held n_x_held c_x_held, I x_block, .v (.func (.func 62) ⟨SV.vals []⟩ ⟨SV.vals []⟩), .v (.func (.func 63) ⟨SV.vals []⟩ ⟨SV.vals []⟩)], Ow e8 A_x_held n_x_held c_x_held x_held]) (r : (List UInt8 × Vec UInt64 8 × UInt64 × UInt64 × List UInt8 × Int)) (hm : m_node_half_uint64_out x_h x_count_Lo x_count_Hi x_held x_block node = some r) :
    Calls Try.prog 110 (vals [pt g_x 0, .b node]) w (fun e w' => ∃ A n c A1 n1 c1, r.1.length = n ∧ r.2.2.2.2.1.length = n1 ∧ e = .returned (SV.val (sl A n c)) ∧ Cx F O w w' [Ow e8 A n c r.1, Bx 120 g_x [.ar e64 r.2.1, .u64 r.2.2.1, .u64 r.2.2.2.1, sl A1 n1 c1, I r.2.2.2.2.2, .v (.func (.func 62) ⟨SV.vals []⟩ ⟨SV.vals []⟩), .v (.func (.func 63) ⟨SV.vals []⟩ ⟨SV.vals []⟩)], Ow e8 A1 n1 c1 r.2.2.2.2.1]) := by
 unfold m_node_half_uint64_out at hm
 obtain rfl := k.len 1 rfl
 refine calz [pt g_x 0, .b node] Try.func110 rfl ?_
 refine W_seq <| Wq .a ?_
 refine W_seq <| W_cutr (fun L wr => ∃ (c0 : UInt64) (c2 : UInt64) (g : Nat), m_node_half_uint64_out_j0 x_h x_count_Lo x_count_Hi x_held x_block node c0 c2 = some r ∧ L = [(0, pt g_x 0), (1, .b node), (5, pt g 0)] ∧ Cx F O w wr [Bx 120 g_x [.ar e64 x_h, .u64 x_count_Lo, .u64 x_count_Hi, sl A_x_held x_held.length c_x_held, I x_block, .v (.func (.func 62) ⟨SV.vals []⟩ ⟨SV.vals []⟩), .v (.func (.func 63) ⟨SV.vals []⟩ ⟨SV.vals []⟩)], Ow e8 A_x_held x_held.length c_x_held x_held, Bx 118 g [.u64 c0, .u64 c2]]) ?_ ?_
 ·
  have k_ := k.drew 1
  refine W_m ws_mixed (.q 0 2 (.q 1 2 (.q 2 1 (.q 3 1 (.q 4 2 (.q 5 2 (.q 6 2 (.q 7 2 (.q 8 1 (.q 9 1 (.br 10 14 (.q 11 2 (.q 12 2 (.q 13 3 (.op 14 (.op 15 (.q 16 3 .nil)))))) (.op 10 (.q 11 2 (.q 12 2 (.q 13 3 (.op 15 (.q 16 3 .nil))))))))))))))))) [10, 14, 15] k_ (.c (.kk .e) (.c (.kk .e) (.c (.kk .e) .l))) (by kernel_rfl) (fun _ => ?_)
  refine MXz 2 2 (.n 9 (pt g_x 0) .a) (fun x hx => qs g_x 0 <| qe) fun _ => ?_
  refine MXz 2 1 (.n 11 (.agg [.u64 x_count_Lo, .u64 x_count_Hi]) (.s .a)) (fun x hx => qs g_x 0 <| qT hx 0 rfl 8 2 [.u64 x_count_Lo, .u64 x_count_Hi] (by kernel_rfl) (by decide) <| qe) fun _ => ?_
  refine MXz 4 2 (.n 15 (sl A_x_held x_held.length c_x_held) .a) (fun x hx => qs g_x 0 <| qs g_x 0 <| qB hx 0 rfl 10 (sl A_x_held x_held.length c_x_held) (by kernel_rfl) <| qe) fun _ => ?_
  refine MXz 2 1 (.n 17 (.u64 (UInt64.ofInt (x_held.length : Int))) (.s .a)) (fun x hx => qe) fun _ => ?_
  refine MX_br (by kernel_rfl) (by kernel_rfl) rfl rfl ?_ ?_
  ·
   obtain ⟨r_, h_r_, hm⟩ := ob hm
   refine Op_cz 18 ws_go113 (c_word_Add (F := N0) (O := N0) _ _ _ (Cx.refl _) _ h_r_) ?_
   rintro e_ w_ ⟨rfl, k_1⟩
   have k_2 := k_.call k_1
   refine ⟨.tup [.agg [.u64 r_.1, .u64 r_.2.1], .b r_.2.2], rfl, ?_⟩
   refine ⟨k_2, fun _ => ?_⟩
   refine MXz 2 2 (.n 7 (.tup [.agg [.u64 r_.1, .u64 r_.2.1], .b r_.2.2]) (.n 19 (.agg [.u64 r_.1, .u64 r_.2.1]) (.sss .a))) (fun x hx => qe) fun _ => ?_
   refine MXz 1 3 (.n 20 (.b r_.2.2) (.s .a)) (fun x hx => qe) fun _ => ?_
   refine MX_op (by kernel_rfl) rfl <| Op_alloc [] 5 [.u64 0, .u64 0] (by kernel_rfl) k_2 ?_
   intro g1 w_1 k_3
   refine ⟨(k_3.sel (.kk .z)), fun _ => ?_⟩
   refine MX_op (by kernel_rfl) rfl <| Op_bz 2 (.agg [.u64 r_.1, .u64 r_.2.1]) [.u64 r_.1, .u64 r_.2.1] (Pt.at g1 0) k_3 rfl .all ?_
   intro w_2 k_4
   refine ⟨(k_4.sel (.kk .z)), fun _ => ?_⟩
   refine MXz 1 3 (.k (.ss .a)) (fun x hx => qe) fun _ => ?_
   refine MX_nil ?_
   exact At_cz ⟨r_.1, r_.2.1, g1, hm, rfl, k_4⟩
  ·
   refine Op_alloc [] 5 [.u64 0, .u64 0] (by kernel_rfl) k_ ?_
   intro g1 w_ k_1
   refine ⟨(k_1.sel (.kk .z)), fun _ => ?_⟩
   refine MX_op (by kernel_rfl) rfl ?_
   obtain ⟨r_, h_r_, hm⟩ := ob hm
   refine Op_cz 18 ws_go113 (c_word_Add (F := N0) (O := N0) _ _ _ (Cx.refl _) _ h_r_) ?_
   rintro e_ w_1 ⟨rfl, k_2⟩
   have k_3 := k_1.call k_2
   refine ⟨.tup [.agg [.u64 r_.1, .u64 r_.2.1], .b r_.2.2], rfl, ?_⟩
   refine ⟨(k_3.sel (.kk .z)), fun _ => ?_⟩
   refine MXz 2 2 (.n 7 (.tup [.agg [.u64 r_.1, .u64 r_.2.1], .b r_.2.2]) (.n 19 (.agg [.u64 r_.1, .u64 r_.2.1]) (.s (.k (.ss .a))))) (fun x hx => qe) fun _ => ?_
   refine MXz 1 3 (.n 20 (.b r_.2.2) (.s .a)) (fun x hx => qe) fun _ => ?_
   refine MX_op (by kernel_rfl) rfl <| Op_bz 2 (.agg [.u64 r_.1, .u64 r_.2.1]) [.u64 r_.1, .u64 r_.2.1] (Pt.at g1 0) k_3 rfl .all ?_
   intro w_2 k_4
   refine ⟨(k_4.sel (.kk .z)), fun _ => ?_⟩
   refine MXz 1 3 (.ss .a) (fun x hx => qe) fun _ => ?_
   refine MX_nil ?_
   exact At_cz ⟨r_.1, r_.2.1, g1, hm, rfl, k_4⟩
 rintro L_ w_3 ⟨c0, c2, g, hm, rfl, k_5⟩
 simp only [m_node_half_uint64_out_j0] at hm
 refine At_go <| W_seq ?_
 have k_6 := k_5.drew 1
 refine W_m ws_mixed (.q 21 1 (.q 22 1 (.q 0 3 (.q 1 3 (.q 2 2 (.q 3 2 (.q 4 3 (.q 5 3 (.q 6 2 (.q 7 1 (.q 8 3 (.q 9 3 (.q 10 2 (.q 11 1 (.q 12 3 (.q 13 3 (.q 14 2 (.q 15 1 (.q 16 3 (.q 17 3 (.q 18 2 (.q 19 1 (.op 20 (.op 23 (.op 24 (.q 25 3 .nil)))))))))))))))))))))))))) [20, 23, 24] k_6 (.c (.kk (.k .e)) (.c (.kk (.k .e)) (.c (.kk (.k .e)) .l))) (by kernel_rfl) (fun _ => ?_)
 refine MXz 2 1 (.n 42 (.agg [.u64 c0, .u64 c2]) (.n 43 (.b node) (.k .z))) (fun x hx => qT hx 2 rfl 0 2 [.u64 c0, .u64 c2] (by kernel_rfl) (by decide) <| qe) fun _ => ?_
 refine MXz 2 3 (.n 22 (pt g_x 0) .a) (fun x hx => qs g_x 0 <| qe) fun _ => ?_
 refine MXz 2 2 (.n 24 (.v (.func (.func 63) ⟨SV.vals []⟩ ⟨SV.vals []⟩)) (.s .a)) (fun x hx => qs g_x 0 <| qB hx 0 rfl 13 (.v (.func (.func 63) ⟨SV.vals []⟩ ⟨SV.vals []⟩)) (by kernel_rfl) <| qe) fun _ => ?_
 refine MXz 2 3 (.n 26 (pt g_x 0) .a) (fun x hx => qs g_x 0 <| qe) fun _ => ?_
 refine MXz 1 2 (.n 27 (pt g_x 12) (.s .a)) (fun x hx => qs g_x 0 <| qe) fun _ => ?_
 refine MXz 1 1 (.n 28 (.v (.func (.func 62) ⟨SV.vals []⟩ ⟨SV.vals []⟩)) (.s .a)) (fun x hx => qB hx 0 rfl 12 (.v (.func (.func 62) ⟨SV.vals []⟩ ⟨SV.vals []⟩)) (by kernel_rfl) <| qe) fun _ => ?_
 refine MXz 2 3 (.n 30 (pt g_x 0) .a) (fun x hx => qs g_x 0 <| qe) fun _ => ?_
 refine MXz 1 2 (.n 31 (pt g_x 0) (.s .a)) (fun x hx => qs g_x 0 <| qe) fun _ => ?_
 refine MXz 1 1 (.n 32 (.agg [.ar e64 x_h]) (.s .a)) (fun x hx => qT hx 0 rfl 0 8 [.ar e64 x_h] (by kernel_rfl) (by decide) <| qe) fun _ => ?_
 refine MXz 2 3 (.n 34 (pt g_x 0) .a) (fun x hx => qs g_x 0 <| qe) fun _ => ?_
 refine MXz 1 2 (.n 35 (pt g_x 10) (.s .a)) (fun x hx => qs g_x 0 <| qe) fun _ => ?_
 refine MXz 1 1 (.n 36 (sl A_x_held x_held.length c_x_held) (.s .a)) (fun x hx => qB hx 0 rfl 10 (sl A_x_held x_held.length c_x_held) (by kernel_rfl) <| qe) fun _ => ?_
 refine MXz 2 3 (.n 38 (pt g_x 0) (.kkkk (.kk .z))) (fun x hx => qs g_x 0 <| qe) fun _ => ?_
 refine MXz 1 2 (.n 39 (pt g_x 11) (.s .a)) (fun x hx => qs g_x 0 <| qe) fun _ => ?_
 refine MXz 1 1 (.n 40 (I x_block) (.s .a)) (fun x hx => qB hx 0 rfl 11 (I x_block) (by kernel_rfl) <| qe) fun _ => ?_
 refine MX_op (by kernel_rfl) rfl ?_
 obtain ⟨r_1, h_r_1, hm⟩ := ob hm
 refine Op_cz 41 ws_go56 (c_node_padded (F := N0) (O := N0) _ _ _ _ _ (Ro.n0 (k_6.rd 1 rfl)) (k_6.len 1 rfl) (k_6.lec 1 rfl) (Cx.refl _) _ h_r_1) ?_
 rintro e_ w_4 ⟨A0, _, c3, rfl, rfl, k_7⟩
 have k_8 := k_6.call k_7
 refine ⟨sl A0 r_1.length c3, rfl, ?_⟩
 refine ⟨(k_8.sel (.kk (.k .z))), fun _ => ?_⟩
 refine MX_op (by kernel_rfl) rfl ?_
 obtain ⟨r_2, h_r_2, hm⟩ := ob hm
 refine Op_callv [] 44 [] [.agg [.ar e64 x_h], sl A0 r_1.length c3, .agg [.u64 c0, .u64 c2], .b true, .b node] [] ws_go62 (by kernel_rfl) (c_node_mixBig (F := N0) (O := N0) _ _ _ _ _ _ _ _ _ (Ro.n0 (k_8.rd 3 rfl)) (k_8.len 3 rfl) (k_8.lec 3 rfl) (Cx.refl _) _ h_r_2) ?_
 rintro e_ w_5 ⟨rfl, k_9⟩
 have k_10 := k_8.call k_9
 refine ⟨.agg [.ar e64 r_2], rfl, ?_⟩
 have k_11 := k_10.sel (.kk (.k .z))
 refine ⟨k_11, fun _ => ?_⟩
 refine MX_op (by kernel_rfl) rfl ?_
 obtain ⟨r_3, h_r_3, hm⟩ := ob hm
 refine Op_callv [] 45 [] [.agg [.ar e64 r_2]] [] ws_go63 (by kernel_rfl) (c_mixb_Bytes (F := N0) (O := N0) _ (Cx.refl _) _ h_r_3) ?_
 rintro e_ w_6 ⟨A2, _, c4, rfl, rfl, k_12⟩
 have k_13 := k_11.call k_12
 refine ⟨sl A2 r_3.length c4, rfl, ?_⟩
 refine ⟨(k_13.sel (.kk (.k .z))), fun _ => ?_⟩
 refine MXz 1 3 (.n 4 (sl A2 r_3.length c4) .z) (fun x hx => qe) fun _ => ?_
 refine MX_nil <| At_go <| W_ret ?_
 obtain rfl := si hm
 refine At_rz [sl A2 r_3.length c4] qe ?_
 have k_14 := (((k_13.pk (.t .h)).pk (.t .h)).pk (.t (.t (.t .h)))).sel (.kk (.k .z))
 exact ⟨A2, r_3.length, c4, A_x_held, x_held.length, c_x_held, k_14.len 0 rfl, k_14.len 2 rfl, rfl, k_14⟩
theorem c_node_Node_Out (n_kind : Int) (n_digest : Int) (n_block : List UInt8) (n_key : List UInt8) (n_last : Bool) (n_written : UInt64) (n_e_h : Vec UInt64 8) (n_e_count_Lo : UInt64) (n_e_count_Hi : UInt64) (n_e_held : List UInt8) (n_e_block : Int) (most : Int) (g_n : Nat) (A_n_block : Option Addr) (n_n_block : Nat) (c_n_block : Nat) (A_n_key : Option Addr) (n_n_key : Nat) (c_n_key : Nat) (g_n_e : Nat) (A_n_e_held : Option Addr) (n_n_e_held : Nat) (c_n_e_held : Nat) (k : Cx F O w w [Bx 77 g_n [I n_kind, I n_digest, sl A_n_block n_n_block c_n_block, sl A_n_key n_n_key c_n_key, .b n_last, .u64 n_written, .v (.iface 114 (SV.val (pt g_n_e 0)))], Ow e8 A_n_block n_n_block c_n_block n_block, Ow e8 A_n_key n_n_key c_n_key n_key, Bx 120 g_n_e [.ar e64 n_e_h, .u64 n_e_count_Lo, .u64 n_e_count_Hi, sl A_n_e_held n_n_e_held c_n_e_held, I n_e_block, .v (.func (.func 62) ⟨SV.vals []⟩ ⟨SV.vals []⟩), .v (.func (.func 63) ⟨SV.vals []⟩ ⟨SV.vals []⟩)], Ow e8 A_n_e_held n_n_e_held c_n_e_held n_e_held]) (r : (List UInt8 × Int × Vec UInt64 8 × UInt64 × UInt64 × List UInt8 × Int × Int × Int × List UInt8 × List UInt8 × Bool × UInt64)) (hm : m_node_Node_Out n_kind n_digest n_block n_key n_last n_written n_e_h n_e_count_Lo n_e_count_Hi n_e_held n_e_block most = some r) :
    Calls Try.prog 29 (vals [pt g_n 0, I most]) w (fun e w' => ∃ A n c A1 n1 c1 A2 n2 c2 A3 n3 c3, r.1.length = n ∧ r.2.2.2.2.2.1.length = n1 ∧ r.2.2.2.2.2.2.2.2.2.1.length = n2 ∧ r.2.2.2.2.2.2.2.2.2.2.1.length = n3 ∧ e = .returned (SV.val (.tup [sl A n c, I r.2.1])) ∧ Cx F O w w' [Ow e8 A n c r.1, Bx 120 g_n_e [.ar e64 r.2.2.1, .u64 r.2.2.2.1, .u64 r.2.2.2.2.1, sl A1 n1 c1, I r.2.2.2.2.2.2.1, .v (.func (.func 62) ⟨SV.vals []⟩ ⟨SV.vals []⟩), .v (.func (.func 63) ⟨SV.vals []⟩ ⟨SV.vals []⟩)], Ow e8 A1 n1 c1 r.2.2.2.2.2.1, Bx 77 g_n [I r.2.2.2.2.2.2.2.1, I r.2.2.2.2.2.2.2.2.1, sl A2 n2 c2, sl A3 n3 c3, .b r.2.2.2.2.2.2.2.2.2.2.2.1, .u64 r.2.2.2.2.2.2.2.2.2.2.2.2, .v (.iface 114 (SV.val (pt g_n_e 0)))], Ow e8 A2 n2 c2 r.2.2.2.2.2.2.2.2.2.1, Ow e8 A3 n3 c3 r.2.2.2.2.2.2.2.2.2.2.1]) := by
 unfold m_node_Node_Out at hm
 obtain rfl := k.len 1 rfl
 obtain rfl := k.len 2 rfl
 obtain rfl := k.len 4 rfl
 refine calz [pt g_n 0, I most] Try.func29 rfl ?_
 refine W_seq <| Wq .a ?_
 refine W_seq <| W_seq <| W_reg <| We 1 (.n 6 (pt g_n 0) .a) ?_
 refine WL_op ?_
 obtain ⟨r_, h_r_, hm⟩ := ob hm
 obtain ⟨F1, O1, kin, hO, hre, hF, hb⟩ := k.go (.i (.i (.i (.i (.i .e)))))
 refine Op_cz 7 ws_go39 (c_node_Node_none (F := F1) (O := O1) _ _ _ _ _ _ _ _ _ _ _ _ _ _ _ _ _ _ _ _ _ _ kin _ h_r_) ?_
 rintro e_ w_ ⟨A0, _, c0, A4, _, c4, A5, _, c5, rfl, rfl, rfl, rfl, k_⟩
 have k_1 := hb w_ _ _ k_ (.c (.c (.c (.c (.c .n)))))
 refine ⟨.b false, rfl, ?_⟩
 refine Wn <| W_cond false (by kernel_rfl) (fun h => by cases h) (fun _ => ?_)
 refine W_skip <| At_go <| W_seq <| W_seq <| W_reg <| We 3 (.n 10 (.b (decide (most < 1))) (.ss .a)) ?_
 refine WL_sp 10 (decide (most < 1)) (.s .a) (by kernel_rfl) (fun hg => ?_) (fun hg => ?_)
 · rw [if_pos (of_decide_eq_true hg)] at hm
   refine WLs 9 [10] (.n 19 (.b true) (.s .a)) qe (by kernel_rfl) ?_
   refine Wn <| W_cond true (by kernel_rfl) (fun _ => ?_) (fun h => by cases h)
   refine W_seq <| Wq (.n 4 (sl none 0 0) (.n 5 (I 1) .z)) ?_
   refine W_ret (At_tr ?_)
   have k_2 := k_1.nil e8
   obtain rfl := si hm
   refine At_rz [sl none 0 0, I 1] qe ?_
   have k_3 := (((((k_2.pk (.t (.t (.t (.t .h))))).pk (.t (.t (.t (.t .h))))).pk (.t (.t (.t (.t .h))))).pk (.t (.t (.t (.t .h))))).pk (.t (.t (.t (.t .h))))).pk (.t (.t (.t (.t (.t .h)))))
   exact ⟨none, 0, 0, A0, r_.2.2.2.1.length, c0, A4, r_.2.2.2.2.2.2.2.1.length, c4, A5, r_.2.2.2.2.2.2.2.2.1.length, c5, k_3.len 0 rfl, k_3.len 2 rfl, k_3.len 4 rfl, k_3.len 5 rfl, rfl, k_3⟩
 · rw [if_neg (of_decide_eq_false hg)] at hm
   refine WLs 5 [10] (.n 11 (I most) (.n 15 (I r_.2.2.2.2.2.1) .a)) (qs g_n 0 <| qs g_n 0 <| qB k_1 2 rfl 0 (I r_.2.2.2.2.2.1) (by kernel_rfl) <| qe) (by kernel_rfl) ?_
   refine WL_op ?_
   obtain ⟨r_1, h_r_1, hm⟩ := ob hm
   refine Op_call [10] 16 _ ws_go40 (by kernel_rfl) (c_node_blockOf (F := N0) (O := N0) _ (Cx.refl _) _ h_r_1) ?_
   rintro e_ w_1 ⟨rfl, k_4⟩
   have k_5 := k_1.call k_4
   refine ⟨I r_1, rfl, ?_⟩
   refine WLs 3 [10] (.n 19 (.b (decide ((w64 (Int.tdiv r_1 2)) < most))) (.ssss .a)) (qp ((2 : Int) ≠ (0 : Int)) (by omega) <| qe) (by kernel_rfl) ?_
   refine Wn <| W_pz ((w64 (Int.tdiv r_1 2)) < most) (fun hc => ?_) fun hc => ?_
   · rw [if_pos hc] at hm
     refine W_seq <| Wq (.n 4 (sl none 0 0) (.n 5 (I 1) .z)) ?_
     refine W_ret (At_tr ?_)
     have k_6 := k_5.nil e8
     obtain rfl := si hm
     refine At_rz [sl none 0 0, I 1] qe ?_
     have k_7 := (((((k_6.pk (.t (.t (.t (.t .h))))).pk (.t (.t (.t (.t .h))))).pk (.t (.t (.t (.t .h))))).pk (.t (.t (.t (.t .h))))).pk (.t (.t (.t (.t .h))))).pk (.t (.t (.t (.t (.t .h)))))
     exact ⟨none, 0, 0, A0, r_.2.2.2.1.length, c0, A4, r_.2.2.2.2.2.2.2.1.length, c4, A5, r_.2.2.2.2.2.2.2.2.1.length, c5, k_7.len 0 rfl, k_7.len 2 rfl, k_7.len 4 rfl, k_7.len 5 rfl, rfl, k_7⟩
   rw [if_neg hc] at hm
   refine W_skip <| At_go <| W_seq ?_
   have k_8 := k_5.drew 1
   refine W_m ws_mixed (.q 0 1 (.q 1 1 (.q 2 1 (.q 3 0 (.q 8 0 (.q 9 0 (.q 4 1 (.q 5 1 (.q 6 0 (.q 7 0 (.q 11 1 (.q 12 1 (.op 10 (.q 13 1 (.q 14 1 (.q 15 1 .nil)))))))))))))))) [10] k_8 (.c (.ss (.kk (.k .e))) .l) (by kernel_rfl) (fun _ => ?_)
   refine MXz 3 1 (.n 22 (pt g_n 6) (.s .a)) (fun x hx => qs g_n 0 <| qs g_n 0 <| qe) fun _ => ?_
   refine MXz 3 0 (.n 29 (.v (.iface 114 (SV.val (pt g_n_e 0)))) (.s .a)) (fun x hx => qB hx 2 rfl 6 (.v (.iface 114 (SV.val (pt g_n_e 0)))) (by kernel_rfl) <| qe) fun _ => ?_
   refine MXz 2 1 (.n 25 (pt g_n 0) (.k (.s .a))) (fun x hx => qs g_n 0 <| qe) fun _ => ?_
   refine MXz 2 0 (.n 27 (.b r_.2.2.2.2.2.2.2.2.2.1) (.s .a)) (fun x hx => qs g_n 0 <| qB hx 2 rfl 4 (.b r_.2.2.2.2.2.2.2.2.2.1) (by kernel_rfl) <| qe) fun _ => ?_
   refine MXz 2 1 (.n 31 (I most) (.n 32 (I most) (.kk .z))) (fun x hx => qe) fun _ => ?_
   refine MX_op (by kernel_rfl) rfl ?_
   obtain ⟨r_2, h_r_2, hm⟩ := ob hm
   obtain ⟨F11, O11, kin1, hO1, hre1, hF1, hb1⟩ := k_8.go (.i (.i (.r (.r (.r .e)))))
   refine Op_invoke [] 30 114 (pt g_n_e 0) [.b r_.2.2.2.2.2.2.2.2.2.1] ws_inv114_node_out rfl (by kernel_rfl) (c_node_half_uint64_out (F := F11) (O := O11) _ _ _ _ _ _ _ _ _ _ kin1 _ h_r_2) ?_
   rintro e_ w_2 ⟨A6, _, c6, A7, _, c7, rfl, rfl, rfl, k_9⟩
   have k_10 := hb1 w_2 _ _ k_9 (.c (.c (.c .n)))
   refine ⟨sl A6 r_2.1.length c6, rfl, ?_⟩
   refine ⟨(k_10.sel (.ss (.s (.kk (.k .e))))), fun _ => ?_⟩
   obtain ⟨b, h_b, hm⟩ := ob hm
   have hs := slc_some h_b
   have hl := slc_len h_b
   have hn : r_2.1.length = r_2.1.length := (k_10.len 0 rfl)
   have hc1 : r_2.1.length ≤ c6 := (k_10.lec 0 rfl)
   obtain ⟨u, h_u, hm⟩ := ob hm
   have hq := need_some h_u
   have hc2 : b.length ≤ Int.toNat most := by omega
   refine MXz 3 1 (.n 4 (sl A6 b.length (Int.toNat most)) (.n 5 (I 0) .z)) (fun x hx => qp (0 ≤ most ∧ most ≤ (c6 : Int)) (by omega) <| qp (0 ≤ most ∧ most ≤ ((Int.toNat most : Nat) : Int)) (by omega) <| qo (.v (.slice A6 b.length (Int.toNat most))) <| qp (Value.slice (slA A6 0 (Int.toNat most) 1) (Int.toNat most - 0) (Int.toNat most - 0) = .slice A6 b.length (Int.toNat most)) (slx0 _ _ _ _ _ (by omega)) <| qe) fun _ => ?_
   refine MX_nil <| At_go <| W_ret ?_
   have k_11 := k_10.pre 0 rfl b.length (Int.toNat most) b (by omega) (by omega) (by omega) (slc_pre h_b rfl)
   obtain rfl := si hm
   refine At_rz [sl A6 b.length (Int.toNat most), I 0] qe ?_
   exact ⟨A6, b.length, Int.toNat most, A7, r_2.2.2.2.2.1.length, c7, A4, r_.2.2.2.2.2.2.2.1.length, c4, A5, r_.2.2.2.2.2.2.2.2.1.length, c5, k_11.len 0 rfl, k_11.len 2 rfl, k_11.len 4 rfl, k_11.len 5 rfl, rfl, k_11⟩
theorem c_xof_Stream_give (x_s_kind : Int) (x_s_full : Int) (x_s_code : UInt32) (x_s_total : UInt64) (x_s_known : Bool) (x_key : List UInt8) (x_salt : List UInt8) (x_personal : List UInt8) (x_n_kind : Int) (x_n_digest : Int) (x_n_block : List UInt8) (x_n_key : List UInt8) (x_n_last : Bool) (x_n_written : UInt64) (x_n_e_h : Vec UInt64 8) (x_n_e_count_Lo : UInt64) (x_n_e_count_Hi : UInt64) (x_n_e_held : List UInt8) (x_n_e_block : Int) (x_at : UInt64) (x_now : Vec UInt8 64) (x_have : Int) (g_x : Nat) (A_x_key : Option Addr) (n_x_key : Nat) (c_x_key : Nat) (A_x_salt : Option Addr) (n_x_salt : Nat) (c_x_salt : Nat) (A_x_personal : Option Addr) (n_x_personal : Nat) (c_x_personal : Nat) (g_x_n : Nat) (A_x_n_block : Option Addr) (n_x_n_block : Nat) (c_x_n_block : Nat) (A_x_n_key : Option Addr) (n_x_n_key : Nat) (c_x_n_key : Nat) (g_x_n_e : Nat) (A_x_n_e_held : Option Addr) (n_x_n_e_held : Nat) (c_x_n_e_held : Nat) (k : Cx F O w w [Bx 52 g_x [I x_s_kind, I x_s_full, .u32 x_s_code, .u64 x_s_total, .b x_s_known, sl A_x_key n_x_key c_x_key, sl A_x_salt n_x_salt c_x_salt, sl A_x_personal n_x_personal c_x_personal, pt g_x_n 0, sl none 0 0, .u64 x_at, .ar e8 x_now, I x_have, .v (.func (.func 28) ⟨SV.vals [pt g_x 0]⟩ ⟨SV.vals []⟩)], Ow e8 A_x_key n_x_key c_x_key x_key, Ow e8 A_x_salt n_x_salt c_x_salt x_salt, Ow e8 A_x_personal n_x_personal c_x_personal x_personal, Bx 77 g_x_n [I x_n_kind, I x_n_digest, sl A_x_n_block n_x_n_block c_x_n_block, sl A_x_n_key n_x_n_key c_x_n_key, .b x_n_last, .u64 x_n_written, .v (.iface 114 (SV.val (pt g_x_n_e 0)))], Ow e8 A_x_n_block n_x_n_block c_x_n_block x_n_block, Ow e8 A_x_n_key n_x_n_key c_x_n_key x_n_key, Bx 120 g_x_n_e [.ar e64 x_n_e_h, .u64 x_n_e_count_Lo, .u64 x_n_e_count_Hi, sl A_x_n_e_held n_x_n_e_held c_x_n_e_held, I x_n_e_block, .v (.func (.func 62) ⟨SV.vals []⟩ ⟨SV.vals []⟩), .v (.func (.func 63) ⟨SV.vals []⟩ ⟨SV.vals []⟩)], Ow e8 A_x_n_e_held n_x_n_e_held c_x_n_e_held x_n_e_held]) (r : (Vec UInt64 8 × UInt64 × UInt64 × List UInt8 × Int × Int × Int × List UInt8 × List UInt8 × Bool × UInt64 × Int × Int × UInt32 × UInt64 × Bool × List UInt8 × List UInt8 × List UInt8 × List UInt8 × UInt64 × Vec UInt8 64 × Int)) (hm : m_xof_Stream_give x_s_kind x_s_full x_s_code x_s_total x_s_known x_key x_salt x_personal x_n_kind x_n_digest x_n_block x_n_key x_n_last x_n_written x_n_e_h x_n_e_count_Lo x_n_e_count_Hi x_n_e_held x_n_e_block x_at x_now x_have = some r) :
    Calls Try.prog 17 (vals [pt g_x 0]) w (fun e w' => ∃ A n c A1 n1 c1 A2 n2 c2 A3 n3 c3 A4 n4 c4 A5 n5 c5 g n6 c6, r.2.2.2.1.length = n ∧ r.2.2.2.2.2.2.2.1.length = n1 ∧ r.2.2.2.2.2.2.2.2.1.length = n2 ∧ r.2.2.2.2.2.2.2.2.2.2.2.2.2.2.2.2.1.length = n3 ∧ r.2.2.2.2.2.2.2.2.2.2.2.2.2.2.2.2.2.1.length = n4 ∧ r.2.2.2.2.2.2.2.2.2.2.2.2.2.2.2.2.2.2.1.length = n5 ∧ r.2.2.2.2.2.2.2.2.2.2.2.2.2.2.2.2.2.2.2.1.length = n6 ∧ e = .returned (SV.val (.tup [])) ∧ Cx F O w w' [Bx 120 g_x_n_e [.ar e64 r.1, .u64 r.2.1, .u64 r.2.2.1, sl A n c, I r.2.2.2.2.1, .v (.func (.func 62) ⟨SV.vals []⟩ ⟨SV.vals []⟩), .v (.func (.func 63) ⟨SV.vals []⟩ ⟨SV.vals []⟩)], Ow e8 A n c r.2.2.2.1, Bx 77 g_x_n [I r.2.2.2.2.2.1, I r.2.2.2.2.2.2.1, sl A1 n1 c1, sl A2 n2 c2, .b r.2.2.2.2.2.2.2.2.2.1, .u64 r.2.2.2.2.2.2.2.2.2.2.1, .v (.iface 114 (SV.val (pt g_x_n_e 0)))], Ow e8 A1 n1 c1 r.2.2.2.2.2.2.2.1, Ow e8 A2 n2 c2 r.2.2.2.2.2.2.2.2.1, Bx 52 g_x [I r.2.2.2.2.2.2.2.2.2.2.2.1, I r.2.2.2.2.2.2.2.2.2.2.2.2.1, .u32 r.2.2.2.2.2.2.2.2.2.2.2.2.2.1, .u64 r.2.2.2.2.2.2.2.2.2.2.2.2.2.2.1, .b r.2.2.2.2.2.2.2.2.2.2.2.2.2.2.2.1, sl A3 n3 c3, sl A4 n4 c4, sl A5 n5 c5, pt g_x_n 0, sl (some ⟨g, 0, none⟩) n6 c6, .u64 r.2.2.2.2.2.2.2.2.2.2.2.2.2.2.2.2.2.2.2.2.1, .ar e8 r.2.2.2.2.2.2.2.2.2.2.2.2.2.2.2.2.2.2.2.2.2.1, I r.2.2.2.2.2.2.2.2.2.2.2.2.2.2.2.2.2.2.2.2.2.2, .v (.func (.func 30) ⟨SV.vals [pt g_x 0]⟩ ⟨SV.vals []⟩)], Ow e8 A3 n3 c3 r.2.2.2.2.2.2.2.2.2.2.2.2.2.2.2.2.1, Ow e8 A4 n4 c4 r.2.2.2.2.2.2.2.2.2.2.2.2.2.2.2.2.2.1, Ow e8 A5 n5 c5 r.2.2.2.2.2.2.2.2.2.2.2.2.2.2.2.2.2.2.1, Sh (SH e8) [((some ⟨g, 0, none⟩), n6, c6)] [r.2.2.2.2.2.2.2.2.2.2.2.2.2.2.2.2.2.2.2.1]]) := by
 unfold m_xof_Stream_give at hm
 obtain rfl := k.len 1 rfl
 obtain rfl := k.len 2 rfl
 obtain rfl := k.len 3 rfl
 obtain rfl := k.len 5 rfl
 obtain rfl := k.len 6 rfl
 obtain rfl := k.len 8 rfl
 refine calz [pt g_x 0] Try.func17 rfl ?_
 refine W_seq <| Wa (.n 6 (.b true) .a) (qs g_x 0 <| qs g_x 0 <| qB k 0 rfl 9 (sl none 0 0) (by kernel_rfl) <| qe) ?_
 refine W_cond true (by kernel_rfl) (fun _ => ?_) (fun h => by cases h)
 refine W_seq ?_
 have k_ := k.drew 1
 refine W_m ws_mixed (.q 0 1 (.q 1 1 (.q 2 1 (.q 3 0 (.q 4 0 (.q 5 1 (.q 6 1 (.q 7 1 (.q 8 0 (.q 9 0 (.op 10 (.q 11 1 (.q 12 1 (.q 14 1 (.q 15 1 (.q 13 2 (.op 16 .nil))))))))))))))))) [10, 16] k_ (.c (.kkkk .z) (.c (.s (.kk (.k .e))) .l)) (by kernel_rfl) (fun _ => ?_)
 refine MXz 3 1 (.n 8 (pt g_x 0) (.n 10 (pt g_x 0) (.s .a))) (fun x hx => qs g_x 0 <| qe) fun _ => ?_
 refine MXz 2 0 (.n 12 (pt g_x_n 0) (.k (.s .a))) (fun x hx => qs g_x 0 <| qB hx 0 rfl 8 (pt g_x_n 0) (by kernel_rfl) <| qe) fun _ => ?_
 refine MXz 3 1 (.n 15 (pt g_x 0) .a) (fun x hx => qs g_x 0 <| qs g_x 0 <| qe) fun _ => ?_
 refine MXz 2 0 (.n 17 (I x_s_full) (.s .a)) (fun x hx => qs g_x 0 <| qB hx 0 rfl 1 (I x_s_full) (by kernel_rfl) <| qe) fun _ => ?_
 refine MX_op (by kernel_rfl) rfl ?_
 obtain ⟨r_, h_r_, hm⟩ := ob hm
 obtain ⟨F1, O1, kin, hO, hre, hF, hb⟩ := k_.go (.r (.r (.r (.r (.i (.i (.i (.i (.i .e)))))))))
 refine Op_cz 18 ws_go29 (c_node_Node_Out (F := F1) (O := O1) _ _ _ _ _ _ _ _ _ _ _ _ _ _ _ _ _ _ _ _ _ _ _ kin _ h_r_) ?_
 rintro e_ w_ ⟨A0, _, c0, A6, _, c7, A7, _, c8, A8, _, c9, rfl, rfl, rfl, rfl, rfl, k_1⟩
 have k_2 := hb w_ _ _ k_1 (.c (.c (.c (.c (.c (.c .n))))))
 refine ⟨.tup [sl A0 r_.1.length c0, I r_.2.1], rfl, ?_⟩
 refine ⟨(k_2.sel (.ssss (.ss (.kkkk .e)))), fun _ => ?_⟩
 refine MXz 4 1 (.n 7 (.tup [sl A0 r_.1.length c0, I r_.2.1]) (.n 19 (sl A0 r_.1.length c0) (.n 22 (pt g_x 9) (.ssss .a)))) (fun x hx => qs g_x 0 <| qs g_x 0 <| qe) fun _ => ?_
 refine MXz 1 2 (.s .a) (fun x hx => qe) fun _ => ?_
 refine MX_op (by kernel_rfl) rfl ?_
 obtain ⟨u, h_u, hm⟩ := ob hm
 obtain ⟨g0, rfl⟩ := k_2.owsome 0 rfl (need_some h_u)
 have k_3 := k_2.share
 refine Op_bz 6 (sl (some ⟨g0, 0, none⟩) r_.1.length c0) [sl (some ⟨g0, 0, none⟩) r_.1.length c0] (Pt.at g_x 9) k_3 rfl (.kkkk (.kkkk (.k .h))) ?_
 intro w_1 k_4
 refine ⟨(k_4.sel (.ssss (.ss (.s (.kk (.k .e)))))), fun _ => ?_⟩
 refine MX_nil <| At_go <| W_reg <| Wl 5 (.n 25 (.v (.func (.func 30) ⟨SV.vals [pt g_x 0]⟩ ⟨SV.vals []⟩)) (.n 27 (pt g_x 76) .z)) (qs g_x 0 <| qs g_x 0 <| qe) ?_
 refine WL_op <| Op_bz 6 (.v (.func (.func 30) ⟨SV.vals [pt g_x 0]⟩ ⟨SV.vals []⟩)) [.v (.func (.func 30) ⟨SV.vals [pt g_x 0]⟩ ⟨SV.vals []⟩)] (Pt.at g_x 76) k_4 rfl (.kkkk (.kkkk (.kkkk (.k .h)))) ?_
 intro w_2 k_5
 refine WL_nil ?_
 obtain rfl := si hm
 refine At_en [] qe (by kernel_rfl) ?_
 have k_6 := (((((((((k_5.pk .h).pk (.t (.t (.t (.t (.t (.t (.t (.t (.t .h)))))))))).pk (.t (.t (.t (.t (.t (.t (.t (.t (.t .h)))))))))).pk (.t (.t (.t (.t (.t (.t (.t (.t (.t .h)))))))))).pk (.t (.t (.t (.t (.t (.t (.t (.t (.t .h)))))))))).pk (.t (.t (.t (.t (.t (.t (.t (.t (.t .h)))))))))).pk (.t (.t (.t (.t (.t (.t (.t (.t (.t .h)))))))))).pk (.t (.t (.t (.t (.t (.t (.t (.t (.t .h)))))))))).pk (.t (.t (.t (.t (.t (.t (.t (.t (.t .h)))))))))).pk (.t (.t (.t (.t (.t (.t (.t (.t (.t .h)))))))))
 exact ⟨A6, r_.2.2.2.2.2.1.length, c7, A7, r_.2.2.2.2.2.2.2.2.2.1.length, c8, A8, r_.2.2.2.2.2.2.2.2.2.2.1.length, c9, A_x_key, x_key.length, c_x_key, A_x_salt, x_salt.length, c_x_salt, A_x_personal, x_personal.length, c_x_personal, g0, r_.1.length, c0, k_6.len 1 rfl, k_6.len 3 rfl, k_6.len 4 rfl, k_6.len 6 rfl, k_6.len 7 rfl, k_6.len 8 rfl, k_6.shlen 9 rfl, rfl, k_6⟩
theorem c_xof_Stream_Skip (x_s_kind : Int) (x_s_full : Int) (x_s_code : UInt32) (x_s_total : UInt64) (x_s_known : Bool) (x_key : List UInt8) (x_salt : List UInt8) (x_personal : List UInt8) (x_n_kind : Int) (x_n_digest : Int) (x_n_block : List UInt8) (x_n_key : List UInt8) (x_n_last : Bool) (x_n_written : UInt64) (x_n_e_h : Vec UInt64 8) (x_n_e_count_Lo : UInt64) (x_n_e_count_Hi : UInt64) (x_n_e_held : List UInt8) (x_n_e_block : Int) (x_at : UInt64) (x_now : Vec UInt8 64) (x_have : Int) (n : UInt64) (g_x : Nat) (A_x_key : Option Addr) (n_x_key : Nat) (c_x_key : Nat) (A_x_salt : Option Addr) (n_x_salt : Nat) (c_x_salt : Nat) (A_x_personal : Option Addr) (n_x_personal : Nat) (c_x_personal : Nat) (g_x_n : Nat) (A_x_n_block : Option Addr) (n_x_n_block : Nat) (c_x_n_block : Nat) (A_x_n_key : Option Addr) (n_x_n_key : Nat) (c_x_n_key : Nat) (g_x_n_e : Nat) (A_x_n_e_held : Option Addr) (n_x_n_e_held : Nat) (c_x_n_e_held : Nat) (k : Cx F O w w [Bx 52 g_x [I x_s_kind, I x_s_full, .u32 x_s_code, .u64 x_s_total, .b x_s_known, sl A_x_key n_x_key c_x_key, sl A_x_salt n_x_salt c_x_salt, sl A_x_personal n_x_personal c_x_personal, pt g_x_n 0, sl none 0 0, .u64 x_at, .ar e8 x_now, I x_have, .v (.func (.func 28) ⟨SV.vals [pt g_x 0]⟩ ⟨SV.vals []⟩)], Ow e8 A_x_key n_x_key c_x_key x_key, Ow e8 A_x_salt n_x_salt c_x_salt x_salt, Ow e8 A_x_personal n_x_personal c_x_personal x_personal, Bx 77 g_x_n [I x_n_kind, I x_n_digest, sl A_x_n_block n_x_n_block c_x_n_block, sl A_x_n_key n_x_n_key c_x_n_key, .b x_n_last, .u64 x_n_written, .v (.iface 114 (SV.val (pt g_x_n_e 0)))], Ow e8 A_x_n_block n_x_n_block c_x_n_block x_n_block, Ow e8 A_x_n_key n_x_n_key c_x_n_key x_n_key, Bx 120 g_x_n_e [.ar e64 x_n_e_h, .u64 x_n_e_count_Lo, .u64 x_n_e_count_Hi, sl A_x_n_e_held n_x_n_e_held c_x_n_e_held, I x_n_e_block, .v (.func (.func 62) ⟨SV.vals []⟩ ⟨SV.vals []⟩), .v (.func (.func 63) ⟨SV.vals []⟩ ⟨SV.vals []⟩)], Ow e8 A_x_n_e_held n_x_n_e_held c_x_n_e_held x_n_e_held]) (r : (UInt64 × Int × Vec UInt64 8 × UInt64 × UInt64 × List UInt8 × Int × Int × Int × List UInt8 × List UInt8 × Bool × UInt64 × Int × Int × UInt32 × UInt64 × Bool × List UInt8 × List UInt8 × List UInt8 × List UInt8 × UInt64 × Vec UInt8 64 × Int)) (hm : m_xof_Stream_Skip x_s_kind x_s_full x_s_code x_s_total x_s_known x_key x_salt x_personal x_n_kind x_n_digest x_n_block x_n_key x_n_last x_n_written x_n_e_h x_n_e_count_Lo x_n_e_count_Hi x_n_e_held x_n_e_block x_at x_now x_have n = some r) :
    Calls Try.prog 20 (vals [pt g_x 0, .u64 n]) w (fun e w' => ∃ A n1 c A1 n2 c1 A2 n3 c2 A3 n4 c3 A4 n5 c4 A5 n6 c5 g n7 c6, r.2.2.2.2.2.1.length = n1 ∧ r.2.2.2.2.2.2.2.2.2.1.length = n2 ∧ r.2.2.2.2.2.2.2.2.2.2.1.length = n3 ∧ r.2.2.2.2.2.2.2.2.2.2.2.2.2.2.2.2.2.2.1.length = n4 ∧ r.2.2.2.2.2.2.2.2.2.2.2.2.2.2.2.2.2.2.2.1.length = n5 ∧ r.2.2.2.2.2.2.2.2.2.2.2.2.2.2.2.2.2.2.2.2.1.length = n6 ∧ r.2.2.2.2.2.2.2.2.2.2.2.2.2.2.2.2.2.2.2.2.2.1.length = n7 ∧ e = .returned (SV.val (.tup [.u64 r.1, I r.2.1])) ∧ Cx F O w w' [Bx 120 g_x_n_e [.ar e64 r.2.2.1, .u64 r.2.2.2.1, .u64 r.2.2.2.2.1, sl A n1 c, I r.2.2.2.2.2.2.1, .v (.func (.func 62) ⟨SV.vals []⟩ ⟨SV.vals []⟩), .v (.func (.func 63) ⟨SV.vals []⟩ ⟨SV.vals []⟩)], Ow e8 A n1 c r.2.2.2.2.2.1, Bx 77 g_x_n [I r.2.2.2.2.2.2.2.1, I r.2.2.2.2.2.2.2.2.1, sl A1 n2 c1, sl A2 n3 c2, .b r.2.2.2.2.2.2.2.2.2.2.2.1, .u64 r.2.2.2.2.2.2.2.2.2.2.2.2.1, .v (.iface 114 (SV.val (pt g_x_n_e 0)))], Ow e8 A1 n2 c1 r.2.2.2.2.2.2.2.2.2.1, Ow e8 A2 n3 c2 r.2.2.2.2.2.2.2.2.2.2.1, Bx 52 g_x [I r.2.2.2.2.2.2.2.2.2.2.2.2.2.1, I r.2.2.2.2.2.2.2.2.2.2.2.2.2.2.1, .u32 r.2.2.2.2.2.2.2.2.2.2.2.2.2.2.2.1, .u64 r.2.2.2.2.2.2.2.2.2.2.2.2.2.2.2.2.1, .b r.2.2.2.2.2.2.2.2.2.2.2.2.2.2.2.2.2.1, sl A3 n4 c3, sl A4 n5 c4, sl A5 n6 c5, pt g_x_n 0, sl (some ⟨g, 0, none⟩) n7 c6, .u64 r.2.2.2.2.2.2.2.2.2.2.2.2.2.2.2.2.2.2.2.2.2.2.1, .ar e8 r.2.2.2.2.2.2.2.2.2.2.2.2.2.2.2.2.2.2.2.2.2.2.2.1, I r.2.2.2.2.2.2.2.2.2.2.2.2.2.2.2.2.2.2.2.2.2.2.2.2, .v (.func (.func 30) ⟨SV.vals [pt g_x 0]⟩ ⟨SV.vals []⟩)], Ow e8 A3 n4 c3 r.2.2.2.2.2.2.2.2.2.2.2.2.2.2.2.2.2.2.1, Ow e8 A4 n5 c4 r.2.2.2.2.2.2.2.2.2.2.2.2.2.2.2.2.2.2.2.1, Ow e8 A5 n6 c5 r.2.2.2.2.2.2.2.2.2.2.2.2.2.2.2.2.2.2.2.2.1, Sh (SH e8) [((some ⟨g, 0, none⟩), n7, c6)] [r.2.2.2.2.2.2.2.2.2.2.2.2.2.2.2.2.2.2.2.2.2.1]]) := by
 unfold m_xof_Stream_Skip at hm
 obtain rfl := k.len 1 rfl
 obtain rfl := k.len 2 rfl
 obtain rfl := k.len 3 rfl
 obtain rfl := k.len 5 rfl
 obtain rfl := k.len 6 rfl
 obtain rfl := k.len 8 rfl
 refine calz [pt g_x 0, .u64 n] Try.func20 rfl ?_
 refine W_seq <| Wq .a ?_
 refine W_seq <| W_seq <| W_reg <| We 1 (.n 7 (pt g_x 0) .a) ?_
 refine WL_op ?_
 obtain ⟨r_, h_r_, hm⟩ := ob hm
 obtain ⟨F1, O1, kin, hO, hre, hF, hb⟩ := k.go (.i (.i (.i (.i (.i (.i (.i (.i (.i .e)))))))))
 refine Op_cz 8 ws_go16 (c_xof_Stream_none (F := F1) (O := O1) _ _ _ _ _ _ _ _ _ _ _ _ _ _ _ _ _ _ _ _ _ _ _ _ _ _ _ _ _ _ _ _ _ _ _ _ _ _ _ _ _ _ _ kin _ h_r_) ?_
 rintro e_ w_ ⟨A0, _, c0, A6, _, c7, A7, _, c8, A8, _, c9, A9, _, c10, A10, _, c11, rfl, rfl, rfl, rfl, rfl, rfl, rfl, k_⟩
 have k_1 := hb w_ _ _ k_ (.c (.c (.c (.c (.c (.c (.c (.c (.c .n)))))))))
 refine ⟨.b false, rfl, ?_⟩
 refine Wn <| W_cond false (by kernel_rfl) (fun h => by cases h) (fun _ => ?_)
 refine W_skip <| At_go <| W_seq <| W_reg <| We 1 (.n 9 (pt g_x 0) (.ss .a)) ?_
 refine WL_op ?_
 obtain ⟨r_1, h_r_1, hm⟩ := ob hm
 have k_2 := ((((((((k_1.pk (.t .h)).pk (.t .h)).pk (.t (.t (.t (.t .h))))).pk (.t (.t (.t (.t .h))))).pk (.t (.t (.t (.t .h))))).pk (.t (.t (.t (.t (.t (.t (.t (.t .h))))))))).pk (.t (.t (.t (.t (.t (.t (.t (.t .h))))))))).pk (.t (.t (.t (.t (.t (.t (.t (.t .h))))))))).pk (.t (.t (.t (.t (.t (.t (.t (.t .h))))))))
 obtain ⟨F11, O11, kin1, hO1, hre1, hF1, hb1⟩ := k_2.go (.i (.i (.i (.i (.i (.i (.i (.i (.i .e)))))))))
 refine Op_cz 10 ws_go17 (c_xof_Stream_give (F := F11) (O := O11) _ _ _ _ _ _ _ _ _ _ _ _ _ _ _ _ _ _ _ _ _ _ _ _ _ _ _ _ _ _ _ _ _ _ _ _ _ _ _ _ _ _ _ kin1 _ h_r_1) ?_
 rintro e_ w_1 ⟨A11, _, c12, A12, _, c13, A13, _, c14, A14, _, c15, A15, _, c16, A16, _, c17, g0, _, c18, rfl, rfl, rfl, rfl, rfl, rfl, rfl, rfl, k_3⟩
 have k_4 := hb1 w_1 _ _ k_3 (.c (.c (.c (.c (.c (.c (.c (.c (.c (.c .n))))))))))
 refine ⟨.tup [], rfl, ?_⟩
 refine Wn <| W_seq <| W_d ws_mixed (by kernel_rfl) (.n 6 (.u64 (r_1.2.2.2.2.2.2.2.2.2.2.2.2.2.2.1 - r_1.2.2.2.2.2.2.2.2.2.2.2.2.2.2.2.2.2.2.2.2.1)) (.ss .a)) (fun m => qs g_x 0 <| qs g_x 0 <| qs g_x 0 <| qB (k_4.drew m) 5 rfl 3 (.u64 r_1.2.2.2.2.2.2.2.2.2.2.2.2.2.2.1) (by kernel_rfl) <| qs g_x 0 <| qs g_x 0 <| qB (k_4.drew m) 5 rfl 10 (.u64 r_1.2.2.2.2.2.2.2.2.2.2.2.2.2.2.2.2.2.2.2.2.1) (by kernel_rfl) <| qe) (by kernel_rfl) (fun m_ => ?_)
 have k_5 := k_4.drew m_
 refine At_go <| W_seq <| W_seq <| Wq (.n 26 (.b ((decide ((0 : UInt64) < n)) && (decide ((r_1.2.2.2.2.2.2.2.2.2.2.2.2.2.2.1 - r_1.2.2.2.2.2.2.2.2.2.2.2.2.2.2.2.2.2.2.2.2.1) = 0)))) .a) ?_
 refine W_cz ((decide ((0 : UInt64) < n)) && (decide ((r_1.2.2.2.2.2.2.2.2.2.2.2.2.2.2.1 - r_1.2.2.2.2.2.2.2.2.2.2.2.2.2.2.2.2.2.2.2.2.1) = 0))) (fun hc => ?_) fun hc => ?_
 · rw [if_pos hc] at hm
   refine W_seq <| Wq (.n 4 (.u64 0) (.n 5 (I 70) .z)) ?_
   refine W_ret (At_tr ?_)
   obtain rfl := si hm
   refine At_rz [.u64 0, I 70] qe ?_
   exact ⟨A11, r_1.2.2.2.1.length, c12, A12, r_1.2.2.2.2.2.2.2.1.length, c13, A13, r_1.2.2.2.2.2.2.2.2.1.length, c14, A14, r_1.2.2.2.2.2.2.2.2.2.2.2.2.2.2.2.2.1.length, c15, A15, r_1.2.2.2.2.2.2.2.2.2.2.2.2.2.2.2.2.2.1.length, c16, A16, r_1.2.2.2.2.2.2.2.2.2.2.2.2.2.2.2.2.2.2.1.length, c17, g0, r_1.2.2.2.2.2.2.2.2.2.2.2.2.2.2.2.2.2.2.2.1.length, c18, k_5.len 1 rfl, k_5.len 3 rfl, k_5.len 4 rfl, k_5.len 6 rfl, k_5.len 7 rfl, k_5.len 8 rfl, k_5.shlen 9 rfl, rfl, k_5⟩
 rw [if_neg (by rw [hc]; decide)] at hm
 refine W_skip <| At_go <| W_seq <| Wq (.n 1 (.u64 (umin n (r_1.2.2.2.2.2.2.2.2.2.2.2.2.2.2.1 - r_1.2.2.2.2.2.2.2.2.2.2.2.2.2.2.2.2.2.2.2.2.1))) (.ss (.k .z))) ?_
 refine W_seq <| W_reg <| Wl 8 (.n 35 (.u64 (r_1.2.2.2.2.2.2.2.2.2.2.2.2.2.2.2.2.2.2.2.2.1 + (umin n (r_1.2.2.2.2.2.2.2.2.2.2.2.2.2.2.1 - r_1.2.2.2.2.2.2.2.2.2.2.2.2.2.2.2.2.2.2.2.2.1)))) (.n 37 (pt g_x 10) (.k .z))) (qs g_x 0 <| qs g_x 0 <| qB k_5 5 rfl 10 (.u64 r_1.2.2.2.2.2.2.2.2.2.2.2.2.2.2.2.2.2.2.2.2.1) (by kernel_rfl) <| qs g_x 0 <| qs g_x 0 <| qe) ?_
 refine WL_op <| Op_bz 5 (.u64 (r_1.2.2.2.2.2.2.2.2.2.2.2.2.2.2.2.2.2.2.2.2.1 + (umin n (r_1.2.2.2.2.2.2.2.2.2.2.2.2.2.2.1 - r_1.2.2.2.2.2.2.2.2.2.2.2.2.2.2.2.2.2.2.2.2.1)))) [.u64 (r_1.2.2.2.2.2.2.2.2.2.2.2.2.2.2.2.2.2.2.2.2.1 + (umin n (r_1.2.2.2.2.2.2.2.2.2.2.2.2.2.2.1 - r_1.2.2.2.2.2.2.2.2.2.2.2.2.2.2.2.2.2.2.2.2.1)))] (Pt.at g_x 10) k_5 rfl (.kkkk (.kkkk (.kk .h))) ?_
 intro w_2 k_6
 refine Wn <| W_seq <| Wq (.n 4 (.u64 (umin n (r_1.2.2.2.2.2.2.2.2.2.2.2.2.2.2.1 - r_1.2.2.2.2.2.2.2.2.2.2.2.2.2.2.2.2.2.2.2.2.1))) (.n 5 (I 0) .z)) ?_
 refine W_ret ?_
 obtain rfl := si hm
 refine At_rz [.u64 (umin n (r_1.2.2.2.2.2.2.2.2.2.2.2.2.2.2.1 - r_1.2.2.2.2.2.2.2.2.2.2.2.2.2.2.2.2.2.2.2.2.1)), I 0] qe ?_
 exact ⟨A11, r_1.2.2.2.1.length, c12, A12, r_1.2.2.2.2.2.2.2.1.length, c13, A13, r_1.2.2.2.2.2.2.2.2.1.length, c14, A14, r_1.2.2.2.2.2.2.2.2.2.2.2.2.2.2.2.2.1.length, c15, A15, r_1.2.2.2.2.2.2.2.2.2.2.2.2.2.2.2.2.2.1.length, c16, A16, r_1.2.2.2.2.2.2.2.2.2.2.2.2.2.2.2.2.2.2.1.length, c17, g0, r_1.2.2.2.2.2.2.2.2.2.2.2.2.2.2.2.2.2.2.2.1.length, c18, k_6.len 1 rfl, k_6.len 3 rfl, k_6.len 4 rfl, k_6.len 6 rfl, k_6.len 7 rfl, k_6.len 8 rfl, k_6.shlen 9 rfl, rfl, k_6⟩
theorem c_xof_Stream_none_s1 (x_s_kind : Int) (x_s_full : Int) (x_s_code : UInt32) (x_s_total : UInt64) (x_s_known : Bool) (x_key : List UInt8) (x_salt : List UInt8) (x_personal : List UInt8) (x_n_kind : Int) (x_n_digest : Int) (x_n_block : List UInt8) (x_n_key : List UInt8) (x_n_last : Bool) (x_n_written : UInt64) (x_n_e_h : Vec UInt64 8) (x_n_e_count_Lo : UInt64) (x_n_e_count_Hi : UInt64) (x_n_e_held : List UInt8) (x_n_e_block : Int) (x_root : List UInt8) (x_at : UInt64) (x_now : Vec UInt8 64) (x_have : Int) (g_x : Nat) (A_x_key : Option Addr) (n_x_key : Nat) (c_x_key : Nat) (A_x_salt : Option Addr) (n_x_salt : Nat) (c_x_salt : Nat) (A_x_personal : Option Addr) (n_x_personal : Nat) (c_x_personal : Nat) (g_x_n : Nat) (A_x_n_block : Option Addr) (n_x_n_block : Nat) (c_x_n_block : Nat) (A_x_n_key : Option Addr) (n_x_n_key : Nat) (c_x_n_key : Nat) (g_x_n_e : Nat) (A_x_n_e_held : Option Addr) (n_x_n_e_held : Nat) (c_x_n_e_held : Nat) (g_x_root : Nat) (n_x_root : Nat) (c_x_root : Nat) (h_x_root : Ro F w (some ⟨g_x_root, 0, none⟩) (e8.all x_root)) (hn_x_root : x_root.length = n_x_root) (hc_x_root : n_x_root ≤ c_x_root) (k : Cx F O w w [Bx 52 g_x [I x_s_kind, I x_s_full, .u32 x_s_code, .u64 x_s_total, .b x_s_known, sl A_x_key n_x_key c_x_key, sl A_x_salt n_x_salt c_x_salt, sl A_x_personal n_x_personal c_x_personal, pt g_x_n 0, sl (some ⟨g_x_root, 0, none⟩) n_x_root c_x_root, .u64 x_at, .ar e8 x_now, I x_have, .v (.func (.func 30) ⟨SV.vals [pt g_x 0]⟩ ⟨SV.vals []⟩)], Ow e8 A_x_key n_x_key c_x_key x_key, Ow e8 A_x_salt n_x_salt c_x_salt x_salt, Ow e8 A_x_personal n_x_personal c_x_personal x_personal, Bx 77 g_x_n [I x_n_kind, I x_n_digest, sl A_x_n_block n_x_n_block c_x_n_block, sl A_x_n_key n_x_n_key c_x_n_key, .b x_n_last, .u64 x_n_written, .v (.iface 114 (SV.val (pt g_x_n_e 0)))], Ow e8 A_x_n_block n_x_n_block c_x_n_block x_n_block, Ow e8 A_x_n_key n_x_n_key c_x_n_key x_n_key, Bx 120 g_x_n_e [.ar e64 x_n_e_h, .u64 x_n_e_count_Lo, .u64 x_n_e_count_Hi, sl A_x_n_e_held n_x_n_e_held c_x_n_e_held, I x_n_e_block, .v (.func (.func 62) ⟨SV.vals []⟩ ⟨SV.vals []⟩), .v (.func (.func 63) ⟨SV.vals []⟩ ⟨SV.vals []⟩)], Ow e8 A_x_n_e_held n_x_n_e_held c_x_n_e_held x_n_e_held]) (r : (Vec UInt64 8 × UInt64 × UInt64 × List UInt8 × Int × Int × Int × List UInt8 × List UInt8 × Bool × UInt64 × Int × Int × UInt32 × UInt64 × Bool × List UInt8 × List UInt8 × List UInt8 × UInt64 × Vec UInt8 64 × Int)) (hm : m_xof_Stream_none_s1 x_s_kind x_s_full x_s_code x_s_total x_s_known x_key x_salt x_personal x_n_kind x_n_digest x_n_block x_n_key x_n_last x_n_written x_n_e_h x_n_e_count_Lo x_n_e_count_Hi x_n_e_held x_n_e_block x_root x_at x_now x_have = some r) :
    Calls Try.prog 16 (vals [pt g_x 0]) w (fun e w' => ∃ A n c A1 n1 c1 A2 n2 c2 A3 n3 c3 A4 n4 c4 A5 n5 c5, r.2.2.2.1.length = n ∧ r.2.2.2.2.2.2.2.1.length = n1 ∧ r.2.2.2.2.2.2.2.2.1.length = n2 ∧ r.2.2.2.2.2.2.2.2.2.2.2.2.2.2.2.2.1.length = n3 ∧ r.2.2.2.2.2.2.2.2.2.2.2.2.2.2.2.2.2.1.length = n4 ∧ r.2.2.2.2.2.2.2.2.2.2.2.2.2.2.2.2.2.2.1.length = n5 ∧ e = .returned (SV.val (.b false)) ∧ Cx F O w w' [Bx 120 g_x_n_e [.ar e64 r.1, .u64 r.2.1, .u64 r.2.2.1, sl A n c, I r.2.2.2.2.1, .v (.func (.func 62) ⟨SV.vals []⟩ ⟨SV.vals []⟩), .v (.func (.func 63) ⟨SV.vals []⟩ ⟨SV.vals []⟩)], Ow e8 A n c r.2.2.2.1, Bx 77 g_x_n [I r.2.2.2.2.2.1, I r.2.2.2.2.2.2.1, sl A1 n1 c1, sl A2 n2 c2, .b r.2.2.2.2.2.2.2.2.2.1, .u64 r.2.2.2.2.2.2.2.2.2.2.1, .v (.iface 114 (SV.val (pt g_x_n_e 0)))], Ow e8 A1 n1 c1 r.2.2.2.2.2.2.2.1, Ow e8 A2 n2 c2 r.2.2.2.2.2.2.2.2.1, Bx 52 g_x [I r.2.2.2.2.2.2.2.2.2.2.2.1, I r.2.2.2.2.2.2.2.2.2.2.2.2.1, .u32 r.2.2.2.2.2.2.2.2.2.2.2.2.2.1, .u64 r.2.2.2.2.2.2.2.2.2.2.2.2.2.2.1, .b r.2.2.2.2.2.2.2.2.2.2.2.2.2.2.2.1, sl A3 n3 c3, sl A4 n4 c4, sl A5 n5 c5, pt g_x_n 0, sl (some ⟨g_x_root, 0, none⟩) n_x_root c_x_root, .u64 r.2.2.2.2.2.2.2.2.2.2.2.2.2.2.2.2.2.2.2.1, .ar e8 r.2.2.2.2.2.2.2.2.2.2.2.2.2.2.2.2.2.2.2.2.1, I r.2.2.2.2.2.2.2.2.2.2.2.2.2.2.2.2.2.2.2.2.2, .v (.func (.func 30) ⟨SV.vals [pt g_x 0]⟩ ⟨SV.vals []⟩)], Ow e8 A3 n3 c3 r.2.2.2.2.2.2.2.2.2.2.2.2.2.2.2.2.1, Ow e8 A4 n4 c4 r.2.2.2.2.2.2.2.2.2.2.2.2.2.2.2.2.2.1, Ow e8 A5 n5 c5 r.2.2.2.2.2.2.2.2.2.2.2.2.2.2.2.2.2.2.1]) := by
 unfold m_xof_Stream_none_s1 at hm
 obtain rfl := k.len 1 rfl
 obtain rfl := k.len 2 rfl
 obtain rfl := k.len 3 rfl
 obtain rfl := k.len 5 rfl
 obtain rfl := k.len 6 rfl
 obtain rfl := k.len 8 rfl
 subst hn_x_root
 refine calz [pt g_x 0] Try.func16 rfl ?_
 refine W_seq <| Wq .a ?_
 refine W_seq <| W_q [5] (.n 2 (.b false) .z) (qs g_x 0 <| qs g_x 0 <| qB k 0 rfl 76 (.v (.func (.func 30) ⟨SV.vals [pt g_x 0]⟩ ⟨SV.vals []⟩)) (by kernel_rfl) <| qe) (by kernel_rfl) ?_
 refine At_go <| W_ret ?_
 obtain rfl := si hm
 refine At_rz [.b false] qe ?_
 have k_ := ((((((((k.pk (.t (.t (.t .h)))).pk (.t (.t (.t .h)))).pk (.t (.t (.t .h)))).pk (.t (.t (.t .h)))).pk (.t (.t (.t (.t (.t (.t .h))))))).pk (.t (.t (.t (.t (.t (.t .h))))))).pk (.t (.t (.t (.t (.t (.t .h))))))).pk (.t (.t (.t (.t (.t (.t (.t (.t .h))))))))).pk (.t (.t (.t (.t (.t (.t (.t (.t .h))))))))
 exact ⟨A_x_n_e_held, x_n_e_held.length, c_x_n_e_held, A_x_n_block, x_n_block.length, c_x_n_block, A_x_n_key, x_n_key.length, c_x_n_key, A_x_key, x_key.length, c_x_key, A_x_salt, x_salt.length, c_x_salt, A_x_personal, x_personal.length, c_x_personal, k_.len 1 rfl, k_.len 3 rfl, k_.len 4 rfl, k_.len 6 rfl, k_.len 7 rfl, k_.len 8 rfl, rfl, k_⟩
theorem c_xof_Stream_give_s1 (x_s_kind : Int) (x_s_full : Int) (x_s_code : UInt32) (x_s_total : UInt64) (x_s_known : Bool) (x_key : List UInt8) (x_salt : List UInt8) (x_personal : List UInt8) (x_n_kind : Int) (x_n_digest : Int) (x_n_block : List UInt8) (x_n_key : List UInt8) (x_n_last : Bool) (x_n_written : UInt64) (x_n_e_h : Vec UInt64 8) (x_n_e_count_Lo : UInt64) (x_n_e_count_Hi : UInt64) (x_n_e_held : List UInt8) (x_n_e_block : Int) (x_root : List UInt8) (x_at : UInt64) (x_now : Vec UInt8 64) (x_have : Int) (g_x : Nat) (A_x_key : Option Addr) (n_x_key : Nat) (c_x_key : Nat) (A_x_salt : Option Addr) (n_x_salt : Nat) (c_x_salt : Nat) (A_x_personal : Option Addr) (n_x_personal : Nat) (c_x_personal : Nat) (g_x_n : Nat) (A_x_n_block : Option Addr) (n_x_n_block : Nat) (c_x_n_block : Nat) (A_x_n_key : Option Addr) (n_x_n_key : Nat) (c_x_n_key : Nat) (g_x_n_e : Nat) (A_x_n_e_held : Option Addr) (n_x_n_e_held : Nat) (c_x_n_e_held : Nat) (g_x_root : Nat) (n_x_root : Nat) (c_x_root : Nat) (h_x_root : Ro F w (some ⟨g_x_root, 0, none⟩) (e8.all x_root)) (hn_x_root : x_root.length = n_x_root) (hc_x_root : n_x_root ≤ c_x_root) (k : Cx F O w w [Bx 52 g_x [I x_s_kind, I x_s_full, .u32 x_s_code, .u64 x_s_total, .b x_s_known, sl A_x_key n_x_key c_x_key, sl A_x_salt n_x_salt c_x_salt, sl A_x_personal n_x_personal c_x_personal, pt g_x_n 0, sl (some ⟨g_x_root, 0, none⟩) n_x_root c_x_root, .u64 x_at, .ar e8 x_now, I x_have, .v (.func (.func 30) ⟨SV.vals [pt g_x 0]⟩ ⟨SV.vals []⟩)], Ow e8 A_x_key n_x_key c_x_key x_key, Ow e8 A_x_salt n_x_salt c_x_salt x_salt, Ow e8 A_x_personal n_x_personal c_x_personal x_personal, Bx 77 g_x_n [I x_n_kind, I x_n_digest, sl A_x_n_block n_x_n_block c_x_n_block, sl A_x_n_key n_x_n_key c_x_n_key, .b x_n_last, .u64 x_n_written, .v (.iface 114 (SV.val (pt g_x_n_e 0)))], Ow e8 A_x_n_block n_x_n_block c_x_n_block x_n_block, Ow e8 A_x_n_key n_x_n_key c_x_n_key x_n_key, Bx 120 g_x_n_e [.ar e64 x_n_e_h, .u64 x_n_e_count_Lo, .u64 x_n_e_count_Hi, sl A_x_n_e_held n_x_n_e_held c_x_n_e_held, I x_n_e_block, .v (.func (.func 62) ⟨SV.vals []⟩ ⟨SV.vals []⟩), .v (.func (.func 63) ⟨SV.vals []⟩ ⟨SV.vals []⟩)], Ow e8 A_x_n_e_held n_x_n_e_held c_x_n_e_held x_n_e_held]) (r : (Vec UInt64 8 × UInt64 × UInt64 × List UInt8 × Int × Int × Int × List UInt8 × List UInt8 × Bool × UInt64 × Int × Int × UInt32 × UInt64 × Bool × List UInt8 × List UInt8 × List UInt8 × UInt64 × Vec UInt8 64 × Int)) (hm : m_xof_Stream_give_s1 x_s_kind x_s_full x_s_code x_s_total x_s_known x_key x_salt x_personal x_n_kind x_n_digest x_n_block x_n_key x_n_last x_n_written x_n_e_h x_n_e_count_Lo x_n_e_count_Hi x_n_e_held x_n_e_block x_root x_at x_now x_have = some r) :
    Calls Try.prog 17 (vals [pt g_x 0]) w (fun e w' => ∃ A n c A1 n1 c1 A2 n2 c2 A3 n3 c3 A4 n4 c4 A5 n5 c5, r.2.2.2.1.length = n ∧ r.2.2.2.2.2.2.2.1.length = n1 ∧ r.2.2.2.2.2.2.2.2.1.length = n2 ∧ r.2.2.2.2.2.2.2.2.2.2.2.2.2.2.2.2.1.length = n3 ∧ r.2.2.2.2.2.2.2.2.2.2.2.2.2.2.2.2.2.1.length = n4 ∧ r.2.2.2.2.2.2.2.2.2.2.2.2.2.2.2.2.2.2.1.length = n5 ∧ e = .returned (SV.val (.tup [])) ∧ Cx F O w w' [Bx 120 g_x_n_e [.ar e64 r.1, .u64 r.2.1, .u64 r.2.2.1, sl A n c, I r.2.2.2.2.1, .v (.func (.func 62) ⟨SV.vals []⟩ ⟨SV.vals []⟩), .v (.func (.func 63) ⟨SV.vals []⟩ ⟨SV.vals []⟩)], Ow e8 A n c r.2.2.2.1, Bx 77 g_x_n [I r.2.2.2.2.2.1, I r.2.2.2.2.2.2.1, sl A1 n1 c1, sl A2 n2 c2, .b r.2.2.2.2.2.2.2.2.2.1, .u64 r.2.2.2.2.2.2.2.2.2.2.1, .v (.iface 114 (SV.val (pt g_x_n_e 0)))], Ow e8 A1 n1 c1 r.2.2.2.2.2.2.2.1, Ow e8 A2 n2 c2 r.2.2.2.2.2.2.2.2.1, Bx 52 g_x [I r.2.2.2.2.2.2.2.2.2.2.2.1, I r.2.2.2.2.2.2.2.2.2.2.2.2.1, .u32 r.2.2.2.2.2.2.2.2.2.2.2.2.2.1, .u64 r.2.2.2.2.2.2.2.2.2.2.2.2.2.2.1, .b r.2.2.2.2.2.2.2.2.2.2.2.2.2.2.2.1, sl A3 n3 c3, sl A4 n4 c4, sl A5 n5 c5, pt g_x_n 0, sl (some ⟨g_x_root, 0, none⟩) n_x_root c_x_root, .u64 r.2.2.2.2.2.2.2.2.2.2.2.2.2.2.2.2.2.2.2.1, .ar e8 r.2.2.2.2.2.2.2.2.2.2.2.2.2.2.2.2.2.2.2.2.1, I r.2.2.2.2.2.2.2.2.2.2.2.2.2.2.2.2.2.2.2.2.2, .v (.func (.func 30) ⟨SV.vals [pt g_x 0]⟩ ⟨SV.vals []⟩)], Ow e8 A3 n3 c3 r.2.2.2.2.2.2.2.2.2.2.2.2.2.2.2.2.1, Ow e8 A4 n4 c4 r.2.2.2.2.2.2.2.2.2.2.2.2.2.2.2.2.2.1, Ow e8 A5 n5 c5 r.2.2.2.2.2.2.2.2.2.2.2.2.2.2.2.2.2.2.1]) := by
 unfold m_xof_Stream_give_s1 at hm
 obtain rfl := k.len 1 rfl
 obtain rfl := k.len 2 rfl
 obtain rfl := k.len 3 rfl
 obtain rfl := k.len 5 rfl
 obtain rfl := k.len 6 rfl
 obtain rfl := k.len 8 rfl
 subst hn_x_root
 refine calz [pt g_x 0] Try.func17 rfl ?_
 refine W_seq <| Wa (.n 6 (.b false) .a) (qs g_x 0 <| qs g_x 0 <| qB k 0 rfl 9 (sl (some ⟨g_x_root, 0, none⟩) x_root.length c_x_root) (by kernel_rfl) <| qe) ?_
 refine W_cond false (by kernel_rfl) (fun h => by cases h) (fun _ => ?_)
 refine W_skip ?_
 obtain rfl := si hm
 refine At_en [] qe (by kernel_rfl) ?_
 have k_ := ((((((((k.pk (.t (.t (.t .h)))).pk (.t (.t (.t .h)))).pk (.t (.t (.t .h)))).pk (.t (.t (.t .h)))).pk (.t (.t (.t (.t (.t (.t .h))))))).pk (.t (.t (.t (.t (.t (.t .h))))))).pk (.t (.t (.t (.t (.t (.t .h))))))).pk (.t (.t (.t (.t (.t (.t (.t (.t .h))))))))).pk (.t (.t (.t (.t (.t (.t (.t (.t .h))))))))
 exact ⟨A_x_n_e_held, x_n_e_held.length, c_x_n_e_held, A_x_n_block, x_n_block.length, c_x_n_block, A_x_n_key, x_n_key.length, c_x_n_key, A_x_key, x_key.length, c_x_key, A_x_salt, x_salt.length, c_x_salt, A_x_personal, x_personal.length, c_x_personal, k_.len 1 rfl, k_.len 3 rfl, k_.len 4 rfl, k_.len 6 rfl, k_.len 7 rfl, k_.len 8 rfl, rfl, k_⟩
theorem c_node_Node_none_s1 (n_kind : Int) (n_digest : Int) (n_block : List UInt8) (n_key : List UInt8) (n_last : Bool) (n_written : UInt64) (n_e_h : Vec UInt32 8) (n_e_count_Lo : UInt64) (n_e_count_Hi : UInt64) (n_e_held : List UInt8) (n_e_block : Int) (g_n : Nat) (A_n_block : Option Addr) (n_n_block : Nat) (c_n_block : Nat) (A_n_key : Option Addr) (n_n_key : Nat) (c_n_key : Nat) (g_n_e : Nat) (A_n_e_held : Option Addr) (n_n_e_held : Nat) (c_n_e_held : Nat) (k : Cx F O w w [Bx 77 g_n [I n_kind, I n_digest, sl A_n_block n_n_block c_n_block, sl A_n_key n_n_key c_n_key, .b n_last, .u64 n_written, .v (.iface 124 (SV.val (pt g_n_e 0)))], Ow e8 A_n_block n_n_block c_n_block n_block, Ow e8 A_n_key n_n_key c_n_key n_key, Bx 128 g_n_e [.ar e32 n_e_h, .u64 n_e_count_Lo, .u64 n_e_count_Hi, sl A_n_e_held n_n_e_held c_n_e_held, I n_e_block, .v (.func (.func 65) ⟨SV.vals []⟩ ⟨SV.vals []⟩), .v (.func (.func 66) ⟨SV.vals []⟩ ⟨SV.vals []⟩)], Ow e8 A_n_e_held n_n_e_held c_n_e_held n_e_held]) (r : (Vec UInt32 8 × UInt64 × UInt64 × List UInt8 × Int × Int × Int × List UInt8 × List UInt8 × Bool × UInt64)) (hm : m_node_Node_none_s1 n_kind n_digest n_block n_key n_last n_written n_e_h n_e_count_Lo n_e_count_Hi n_e_held n_e_block = some r) :
    Calls Try.prog 39 (vals [pt g_n 0]) w (fun e w' => ∃ A n c A1 n1 c1 A2 n2 c2, r.2.2.2.1.length = n ∧ r.2.2.2.2.2.2.2.1.length = n1 ∧ r.2.2.2.2.2.2.2.2.1.length = n2 ∧ e = .returned (SV.val (.b false)) ∧ Cx F O w w' [Bx 128 g_n_e [.ar e32 r.1, .u64 r.2.1, .u64 r.2.2.1, sl A n c, I r.2.2.2.2.1, .v (.func (.func 65) ⟨SV.vals []⟩ ⟨SV.vals []⟩), .v (.func (.func 66) ⟨SV.vals []⟩ ⟨SV.vals []⟩)], Ow e8 A n c r.2.2.2.1, Bx 77 g_n [I r.2.2.2.2.2.1, I r.2.2.2.2.2.2.1, sl A1 n1 c1, sl A2 n2 c2, .b r.2.2.2.2.2.2.2.2.2.1, .u64 r.2.2.2.2.2.2.2.2.2.2, .v (.iface 124 (SV.val (pt g_n_e 0)))], Ow e8 A1 n1 c1 r.2.2.2.2.2.2.2.1, Ow e8 A2 n2 c2 r.2.2.2.2.2.2.2.2.1]) := by
 unfold m_node_Node_none_s1 at hm
 obtain rfl := k.len 1 rfl
 obtain rfl := k.len 2 rfl
 obtain rfl := k.len 4 rfl
 refine calz [pt g_n 0] Try.func39 rfl ?_
 refine W_seq <| Wq .a ?_
 refine W_seq <| W_q [5] (.n 2 (.b false) .z) (qs g_n 0 <| qs g_n 0 <| qB k 0 rfl 6 (.v (.iface 124 (SV.val (pt g_n_e 0)))) (by kernel_rfl) <| qe) (by kernel_rfl) ?_
 refine At_go <| W_ret ?_
 obtain rfl := si hm
 refine At_rz [.b false] qe ?_
 have k_ := ((((k.pk (.t (.t .h))).pk (.t (.t .h))).pk (.t (.t .h))).pk (.t (.t (.t (.t .h))))).pk (.t (.t (.t (.t .h))))
 exact ⟨A_n_e_held, n_e_held.length, c_n_e_held, A_n_block, n_block.length, c_n_block, A_n_key, n_key.length, c_n_key, k_.len 1 rfl, k_.len 3 rfl, k_.len 4 rfl, rfl, k_⟩
theorem c_mixs_Bytes (h : Vec UInt32 8) (k : Cx F O w w []) (r : (List UInt8)) (hm : m_mixs_Bytes h = some r) :
    Calls Try.prog 66 (vals [.agg [.ar e32 h]]) w (fun e w' => ∃ A n c, r.length = n ∧ e = .returned (SV.val (sl A n c)) ∧ Cx F O w w' [Ow e8 A n c r]) := by
 unfold m_mixs_Bytes at hm
 refine calz [.agg [.ar e32 h]] Try.func66 rfl ?_
 refine W_seq <| W_reg <| WL_op <| Op_box [] 1 (.agg [.ar e32 h]) [.ar e32 h] (by kernel_rfl) k ?_
 intro g w_ k_
 refine We 1 (.k .z) ?_
 refine Wn <| W_seq <| W_reg <| WL_op <| Op_make ws_tf23 e8 (0 : UInt8) rfl [] 6 (I 0) (I 32) (0 : Int) (32 : Int) (by kernel_rfl) (by omega) (by omega) (by omega) k_ ?_
 intro A0 w_1 k_1
 refine We 1 (.n 3 (sl A0 (Int.toNat (0 : Int)) (Int.toNat (32 : Int))) (.s .a)) ?_
 refine Wn <| W_seq <| W_seq <| Wa (.n 7 (.agg [.ar e32 h]) (.n 8 (I 0) (.k .z))) (qT k_1 0 rfl 0 8 [.ar e32 h] (by kernel_rfl) (by decide) <| qe) ?_
 refine W_block ?_
 have k_3 := k_1.sel (.s (.k .e))
 refine W_lp (m_mixs_Bytes_l0 h) (fun s L wr => ∃ (b : List UInt8) (x_0 : Int) (A1 : Option Addr) (n0 : Nat) (c0 : Nat), (b, x_0) = s ∧ L = [(3, sl A1 n0 c0), (7, .agg [.ar e32 h]), (8, I x_0)] ∧ b.length = n0 ∧ Cx F O w wr [Ow e8 A1 n0 c0 b]) (List.replicate (Int.toNat (0 : Int)) (0 : UInt8), (0 : Int)) r hm ⟨List.replicate (Int.toNat (0 : Int)) (0 : UInt8), (0 : Int), A0, Int.toNat (0 : Int), Int.toNat (32 : Int), rfl, rfl, k_3.len 0 rfl, k_3⟩ (by kernel_rfl) ?_
 intro s0_ L_ w_2 y0 hrel hstep hr0
 obtain ⟨b, x_0, A1, _, c0, rfl, rfl, rfl, k_2⟩ := hrel
 have hm := hstep; simp only [m_mixs_Bytes_l0] at hm
 clear hstep
 refine W_seq <| Wq (.n 9 (.b (decide (x_0 < 8))) .a) ?_
 refine W_seq <| W_pz (x_0 < 8) (fun hc => ?_) fun hc => ?_
 · rw [if_pos hc] at hm
   refine W_skip <| At_go <| W_seq <| W_block <| W_seq ?_
   obtain ⟨x_1, zh1, hm⟩ := ob hm
   refine Wa (.n 5 (.u32 x_1) (.s .a)) (qo (.u32 x_1) <| qp ((0 ≤ x_0 ∧ x_0 < ((8 : Nat) : Int)) ∧ (SV.cl [.ar e32 h])[Int.toNat x_0 * 1]? = some (SV.val (.u32 x_1))) (ar_ix (E := e32) zh1 rfl) <| qe) ?_
   refine W_reg <| We 12 (.n 11 (sl A1 b.length c0) (.n 13 (.u8 (UInt8.ofNat x_1.toNat)) (.n 16 (.u8 (UInt8.ofNat (shr32 x_1 ((8 : UInt64).toNat)).toNat)) (.n 19 (.u8 (UInt8.ofNat (shr32 x_1 ((16 : UInt64).toNat)).toNat)) (.n 22 (.u8 (UInt8.ofNat (shr32 x_1 ((24 : UInt64).toNat)).toNat)) (.s .a)))))) ?_
   refine WL_op <| Op_mk ws_tf23 e8 [] 23 ([UInt8.ofNat x_1.toNat, UInt8.ofNat (shr32 x_1 ((8 : UInt64).toNat)).toNat, UInt8.ofNat (shr32 x_1 ((16 : UInt64).toNat)).toNat, UInt8.ofNat (shr32 x_1 ((24 : UInt64).toNat)).toNat] : List UInt8) [(0, .u8 (UInt8.ofNat x_1.toNat)), (1, .u8 (UInt8.ofNat (shr32 x_1 ((8 : UInt64).toNat)).toNat)), (2, .u8 (UInt8.ofNat (shr32 x_1 ((16 : UInt64).toNat)).toNat)), (3, .u8 (UInt8.ofNat (shr32 x_1 ((24 : UInt64).toNat)).toNat))] [.u8 (UInt8.ofNat x_1.toNat), .u8 (UInt8.ofNat (shr32 x_1 ((8 : UInt64).toNat)).toNat), .u8 (UInt8.ofNat (shr32 x_1 ((16 : UInt64).toNat)).toNat), .u8 (UInt8.ofNat (shr32 x_1 ((24 : UInt64).toNat)).toNat)] (by kernel_rfl) (by kernel_rfl) (by kernel_rfl) k_2 ?_
   intro A2 w_3 k_4
   refine WL_op ?_
   obtain ⟨b1, h_b1, hm⟩ := ob hm
   obtain ⟨hz, hl⟩ := app_some h_b1
   refine Op_append (E := e8) (v := sl A2 4 4) (ys := ([UInt8.ofNat x_1.toNat, UInt8.ofNat (shr32 x_1 ((8 : UInt64).toNat)).toNat, UInt8.ofNat (shr32 x_1 ((16 : UInt64).toNat)).toNat, UInt8.ofNat (shr32 x_1 ((24 : UInt64).toNat)).toNat] : List UInt8)) ws_tf23 [] 24 0 (by kernel_rfl) k_4 rfl (Src.sl (k_4.rd 1 rfl) (k_4.len 1 rfl) (by rfl)) (k_4.len 1 rfl) (by have := k_4.len 0 rfl; have := (k_4.len 1 rfl); omega) ?_
   intro A3 c1 w_4 k_5
   rw [← hl] at k_5
   have k_6 := k_5.sel (.k .z)
   refine We 1 (.n 3 (sl A3 (b.length + 4) c1) (.ssss (.ssss .a))) ?_
   refine WL_nil <| At_in <| At_go <| W_q [] (.n 8 (I (w64 (x_0 + 1))) (.kk .z)) qe (by kernel_rfl) ?_
   exact At_rd (b1, w64 (x_0 + 1)) (Option.some.inj hm).symm ⟨b1, w64 (x_0 + 1), A3, b.length + 4, c1, rfl, rfl, k_6.len 0 rfl, k_6⟩ (by kernel_rfl)
 rw [if_neg hc] at hm
 refine W_exit (At_te (At_te (At_ie ?_)))
 have hm := exit_of hm hr0
 refine At_go <| W_seq <| Wq (.n 2 (sl A1 b.length c0) .z) ?_
 refine W_ret ?_
 obtain rfl := si hm
 refine At_rz [sl A1 b.length c0] qe ?_
 exact ⟨A1, b.length, c0, k_2.len 0 rfl, rfl, k_2⟩
theorem c_node_half_uint32_out (x_h : Vec UInt32 8) (x_count_Lo : UInt64) (x_count_Hi : UInt64) (x_held : List UInt8) (x_block : Int) (node : Bool) (g_x : Nat) (A_x_held : Option Addr) (n_x_held : Nat) (c_x_held : Nat) (k : Cx F O w w [Bx 128 g_x [.ar e32 x_h, .u64 x_count_Lo, .u64 x_count_Hi, sl A_x_held n_x_held c_x_held, I x_block, .v (.func (.func 65) ⟨SV.vals []⟩ ⟨SV.vals []⟩), .v (.func (.func 66) ⟨SV.vals []⟩ ⟨SV.vals []⟩)], Ow e8 A_x_held n_x_held c_x_held x_held]) (r : (List UInt8 × Vec UInt32 8 × UInt64 × UInt64 × List UInt8 × Int)) (hm : m_node_half_uint32_out x_h x_count_Lo x_count_Hi x_held x_block node = some r) :
    Calls Try.prog 116 (vals [pt g_x 0, .b node]) w (fun e w' => ∃ A n c A1 n1 c1, r.1.length = n ∧ r.2.2.2.2.1.length = n1 ∧ e = .returned (SV.val (sl A n c)) ∧ Cx F O w w' [Ow e8 A n c r.1, Bx 128 g_x [.ar e32 r.2.1, .u64 r.2.2.1, .u64 r.2.2.2.1, sl A1 n1 c1, I r.2.2.2.2.2, .v (.func (.func 65) ⟨SV.vals []⟩ ⟨SV.vals []⟩), .v (.func (.func 66) ⟨SV.vals []⟩ ⟨SV.vals []⟩)], Ow e8 A1 n1 c1 r.2.2.2.2.1]) := by
 unfold m_node_half_uint32_out at hm
 obtain rfl := k.len 1 rfl
 refine calz [pt g_x 0, .b node] Try.func116 rfl ?_
 refine W_seq <| Wq .a ?_
 refine W_seq <| W_cutr (fun L wr => ∃ (c0 : UInt64) (c2 : UInt64) (g : Nat), m_node_half_uint32_out_j0 x_h x_count_Lo x_count_Hi x_held x_block node c0 c2 = some r ∧ L = [(0, pt g_x 0), (1, .b node), (5, pt g 0)] ∧ Cx F O w wr [Bx 128 g_x [.ar e32 x_h, .u64 x_count_Lo, .u64 x_count_Hi, sl A_x_held x_held.length c_x_held, I x_block, .v (.func (.func 65) ⟨SV.vals []⟩ ⟨SV.vals []⟩), .v (.func (.func 66) ⟨SV.vals []⟩ ⟨SV.vals []⟩)], Ow e8 A_x_held x_held.length c_x_held x_held, Bx 118 g [.u64 c0, .u64 c2]]) ?_ ?_
 ·
  have k_ := k.drew 1
  refine W_m ws_mixed (.q 0 2 (.q 1 2 (.q 2 1 (.q 3 1 (.q 4 2 (.q 5 2 (.q 6 2 (.q 7 2 (.q 8 1 (.q 9 1 (.br 10 14 (.q 11 2 (.q 12 2 (.q 13 3 (.op 14 (.op 15 (.q 16 3 .nil)))))) (.op 10 (.q 11 2 (.q 12 2 (.q 13 3 (.op 15 (.q 16 3 .nil))))))))))))))))) [10, 14, 15] k_ (.c (.kk .e) (.c (.kk .e) (.c (.kk .e) .l))) (by kernel_rfl) (fun _ => ?_)
  refine MXz 2 2 (.n 9 (pt g_x 0) .a) (fun x hx => qs g_x 0 <| qe) fun _ => ?_
  refine MXz 2 1 (.n 11 (.agg [.u64 x_count_Lo, .u64 x_count_Hi]) (.s .a)) (fun x hx => qs g_x 0 <| qT hx 0 rfl 8 2 [.u64 x_count_Lo, .u64 x_count_Hi] (by kernel_rfl) (by decide) <| qe) fun _ => ?_
  refine MXz 4 2 (.n 15 (sl A_x_held x_held.length c_x_held) .a) (fun x hx => qs g_x 0 <| qs g_x 0 <| qB hx 0 rfl 10 (sl A_x_held x_held.length c_x_held) (by kernel_rfl) <| qe) fun _ => ?_
  refine MXz 2 1 (.n 17 (.u64 (UInt64.ofInt (x_held.length : Int))) (.s .a)) (fun x hx => qe) fun _ => ?_
  refine MX_br (by kernel_rfl) (by kernel_rfl) rfl rfl ?_ ?_
  ·
   obtain ⟨r_, h_r_, hm⟩ := ob hm
   refine Op_cz 18 ws_go113 (c_word_Add (F := N0) (O := N0) _ _ _ (Cx.refl _) _ h_r_) ?_
   rintro e_ w_ ⟨rfl, k_1⟩
   have k_2 := k_.call k_1
   refine ⟨.tup [.agg [.u64 r_.1, .u64 r_.2.1], .b r_.2.2], rfl, ?_⟩
   refine ⟨k_2, fun _ => ?_⟩
   refine MXz 2 2 (.n 7 (.tup [.agg [.u64 r_.1, .u64 r_.2.1], .b r_.2.2]) (.n 19 (.agg [.u64 r_.1, .u64 r_.2.1]) (.sss .a))) (fun x hx => qe) fun _ => ?_
   refine MXz 1 3 (.n 20 (.b r_.2.2) (.s .a)) (fun x hx => qe) fun _ => ?_
   refine MX_op (by kernel_rfl) rfl <| Op_alloc [] 5 [.u64 0, .u64 0] (by kernel_rfl) k_2 ?_
   intro g1 w_1 k_3
   refine ⟨(k_3.sel (.kk .z)), fun _ => ?_⟩
   refine MX_op (by kernel_rfl) rfl <| Op_bz 2 (.agg [.u64 r_.1, .u64 r_.2.1]) [.u64 r_.1, .u64 r_.2.1] (Pt.at g1 0) k_3 rfl .all ?_
   intro w_2 k_4
   refine ⟨(k_4.sel (.kk .z)), fun _ => ?_⟩
   refine MXz 1 3 (.k (.ss .a)) (fun x hx => qe) fun _ => ?_
   refine MX_nil ?_
   exact At_cz ⟨r_.1, r_.2.1, g1, hm, rfl, k_4⟩
  ·
   refine Op_alloc [] 5 [.u64 0, .u64 0] (by kernel_rfl) k_ ?_
   intro g1 w_ k_1
   refine ⟨(k_1.sel (.kk .z)), fun _ => ?_⟩
   refine MX_op (by kernel_rfl) rfl ?_
   obtain ⟨r_, h_r_, hm⟩ := ob hm
   refine Op_cz 18 ws_go113 (c_word_Add (F := N0) (O := N0) _ _ _ (Cx.refl _) _ h_r_) ?_
   rintro e_ w_1 ⟨rfl, k_2⟩
   have k_3 := k_1.call k_2
   refine ⟨.tup [.agg [.u64 r_.1, .u64 r_.2.1], .b r_.2.2], rfl, ?_⟩
   refine ⟨(k_3.sel (.kk .z)), fun _ => ?_⟩
   refine MXz 2 2 (.n 7 (.tup [.agg [.u64 r_.1, .u64 r_.2.1], .b r_.2.2]) (.n 19 (.agg [.u64 r_.1, .u64 r_.2.1]) (.s (.k (.ss .a))))) (fun x hx => qe) fun _ => ?_
   refine MXz 1 3 (.n 20 (.b r_.2.2) (.s .a)) (fun x hx => qe) fun _ => ?_
   refine MX_op (by kernel_rfl) rfl <| Op_bz 2 (.agg [.u64 r_.1, .u64 r_.2.1]) [.u64 r_.1, .u64 r_.2.1] (Pt.at g1 0) k_3 rfl .all ?_
   intro w_2 k_4
   refine ⟨(k_4.sel (.kk .z)), fun _ => ?_⟩
   refine MXz 1 3 (.ss .a) (fun x hx => qe) fun _ => ?_
   refine MX_nil ?_
   exact At_cz ⟨r_.1, r_.2.1, g1, hm, rfl, k_4⟩
 rintro L_ w_3 ⟨c0, c2, g, hm, rfl, k_5⟩
 simp only [m_node_half_uint32_out_j0] at hm
 refine At_go <| W_seq ?_
 have k_6 := k_5.drew 1
 refine W_m ws_mixed (.q 21 1 (.q 22 1 (.q 0 3 (.q 1 3 (.q 2 2 (.q 3 2 (.q 4 3 (.q 5 3 (.q 6 2 (.q 7 1 (.q 8 3 (.q 9 3 (.q 10 2 (.q 11 1 (.q 12 3 (.q 13 3 (.q 14 2 (.q 15 1 (.q 16 3 (.q 17 3 (.q 18 2 (.q 19 1 (.op 20 (.op 23 (.op 24 (.q 25 3 .nil)))))))))))))))))))))))))) [20, 23, 24] k_6 (.c (.kk (.k .e)) (.c (.kk (.k .e)) (.c (.kk (.k .e)) .l))) (by kernel_rfl) (fun _ => ?_)
 refine MXz 2 1 (.n 42 (.agg [.u64 c0, .u64 c2]) (.n 43 (.b node) (.k .z))) (fun x hx => qT hx 2 rfl 0 2 [.u64 c0, .u64 c2] (by kernel_rfl) (by decide) <| qe) fun _ => ?_
 refine MXz 2 3 (.n 22 (pt g_x 0) .a) (fun x hx => qs g_x 0 <| qe) fun _ => ?_
 refine MXz 2 2 (.n 24 (.v (.func (.func 66) ⟨SV.vals []⟩ ⟨SV.vals []⟩)) (.s .a)) (fun x hx => qs g_x 0 <| qB hx 0 rfl 13 (.v (.func (.func 66) ⟨SV.vals []⟩ ⟨SV.vals []⟩)) (by kernel_rfl) <| qe) fun _ => ?_
 refine MXz 2 3 (.n 26 (pt g_x 0) .a) (fun x hx => qs g_x 0 <| qe) fun _ => ?_
 refine MXz 1 2 (.n 27 (pt g_x 12) (.s .a)) (fun x hx => qs g_x 0 <| qe) fun _ => ?_
 refine MXz 1 1 (.n 28 (.v (.func (.func 65) ⟨SV.vals []⟩ ⟨SV.vals []⟩)) (.s .a)) (fun x hx => qB hx 0 rfl 12 (.v (.func (.func 65) ⟨SV.vals []⟩ ⟨SV.vals []⟩)) (by kernel_rfl) <| qe) fun _ => ?_
 refine MXz 2 3 (.n 30 (pt g_x 0) .a) (fun x hx => qs g_x 0 <| qe) fun _ => ?_
 refine MXz 1 2 (.n 31 (pt g_x 0) (.s .a)) (fun x hx => qs g_x 0 <| qe) fun _ => ?_
 refine MXz 1 1 (.n 32 (.agg [.ar e32 x_h]) (.s .a)) (fun x hx => qT hx 0 rfl 0 8 [.ar e32 x_h] (by kernel_rfl) (by decide) <| qe) fun _ => ?_
 refine MXz 2 3 (.n 34 (pt g_x 0) .a) (fun x hx => qs g_x 0 <| qe) fun _ => ?_
 refine MXz 1 2 (.n 35 (pt g_x 10) (.s .a)) (fun x hx => qs g_x 0 <| qe) fun _ => ?_
 refine MXz 1 1 (.n 36 (sl A_x_held x_held.length c_x_held) (.s .a)) (fun x hx => qB hx 0 rfl 10 (sl A_x_held x_held.length c_x_held) (by kernel_rfl) <| qe) fun _ => ?_
 refine MXz 2 3 (.n 38 (pt g_x 0) (.kkkk (.kk .z))) (fun x hx => qs g_x 0 <| qe) fun _ => ?_
 refine MXz 1 2 (.n 39 (pt g_x 11) (.s .a)) (fun x hx => qs g_x 0 <| qe) fun _ => ?_
 refine MXz 1 1 (.n 40 (I x_block) (.s .a)) (fun x hx => qB hx 0 rfl 11 (I x_block) (by kernel_rfl) <| qe) fun _ => ?_
 refine MX_op (by kernel_rfl) rfl ?_
 obtain ⟨r_1, h_r_1, hm⟩ := ob hm
 refine Op_cz 41 ws_go56 (c_node_padded (F := N0) (O := N0) _ _ _ _ _ (Ro.n0 (k_6.rd 1 rfl)) (k_6.len 1 rfl) (k_6.lec 1 rfl) (Cx.refl _) _ h_r_1) ?_
 rintro e_ w_4 ⟨A0, _, c3, rfl, rfl, k_7⟩
 have k_8 := k_6.call k_7
 refine ⟨sl A0 r_1.length c3, rfl, ?_⟩
 refine ⟨(k_8.sel (.kk (.k .z))), fun _ => ?_⟩
 refine MX_op (by kernel_rfl) rfl ?_
 obtain ⟨r_2, h_r_2, hm⟩ := ob hm
 refine Op_callv [] 44 [] [.agg [.ar e32 x_h], sl A0 r_1.length c3, .agg [.u64 c0, .u64 c2], .b true, .b node] [] ws_go65 (by kernel_rfl) (c_node_mixSmall (F := N0) (O := N0) _ _ _ _ _ _ _ _ _ (Ro.n0 (k_8.rd 3 rfl)) (k_8.len 3 rfl) (k_8.lec 3 rfl) (Cx.refl _) _ h_r_2) ?_
 rintro e_ w_5 ⟨rfl, k_9⟩
 have k_10 := k_8.call k_9
 refine ⟨.agg [.ar e32 r_2], rfl, ?_⟩
 have k_11 := k_10.sel (.kk (.k .z))
 refine ⟨k_11, fun _ => ?_⟩
 refine MX_op (by kernel_rfl) rfl ?_
 obtain ⟨r_3, h_r_3, hm⟩ := ob hm
 refine Op_callv [] 45 [] [.agg [.ar e32 r_2]] [] ws_go66 (by kernel_rfl) (c_mixs_Bytes (F := N0) (O := N0) _ (Cx.refl _) _ h_r_3) ?_
 rintro e_ w_6 ⟨A2, _, c4, rfl, rfl, k_12⟩
 have k_13 := k_11.call k_12
 refine ⟨sl A2 r_3.length c4, rfl, ?_⟩
 refine ⟨(k_13.sel (.kk (.k .z))), fun _ => ?_⟩
 refine MXz 1 3 (.n 4 (sl A2 r_3.length c4) .z) (fun x hx => qe) fun _ => ?_
 refine MX_nil <| At_go <| W_ret ?_
 obtain rfl := si hm
 refine At_rz [sl A2 r_3.length c4] qe ?_
 have k_14 := (((k_13.pk (.t .h)).pk (.t .h)).pk (.t (.t (.t .h)))).sel (.kk (.k .z))
 exact ⟨A2, r_3.length, c4, A_x_held, x_held.length, c_x_held, k_14.len 0 rfl, k_14.len 2 rfl, rfl, k_14⟩
theorem c_node_Node_Out_s1 (n_kind : Int) (n_digest : Int) (n_block : List UInt8) (n_key : List UInt8) (n_last : Bool) (n_written : UInt64) (n_e_h : Vec UInt32 8) (n_e_count_Lo : UInt64) (n_e_count_Hi : UInt64) (n_e_held : List UInt8) (n_e_block : Int) (most : Int) (g_n : Nat) (A_n_block : Option Addr) (n_n_block : Nat) (c_n_block : Nat) (A_n_key : Option Addr) (n_n_key : Nat) (c_n_key : Nat) (g_n_e : Nat) (A_n_e_held : Option Addr) (n_n_e_held : Nat) (c_n_e_held : Nat) (k : Cx F O w w [Bx 77 g_n [I n_kind, I n_digest, sl A_n_block n_n_block c_n_block, sl A_n_key n_n_key c_n_key, .b n_last, .u64 n_written, .v (.iface 124 (SV.val (pt g_n_e 0)))], Ow e8 A_n_block n_n_block c_n_block n_block, Ow e8 A_n_key n_n_key c_n_key n_key, Bx 128 g_n_e [.ar e32 n_e_h, .u64 n_e_count_Lo, .u64 n_e_count_Hi, sl A_n_e_held n_n_e_held c_n_e_held, I n_e_block, .v (.func (.func 65) ⟨SV.vals []⟩ ⟨SV.vals []⟩), .v (.func (.func 66) ⟨SV.vals []⟩ ⟨SV.vals []⟩)], Ow e8 A_n_e_held n_n_e_held c_n_e_held n_e_held]) (r : (List UInt8 × Int × Vec UInt32 8 × UInt64 × UInt64 × List UInt8 × Int × Int × Int × List UInt8 × List UInt8 × Bool × UInt64)) (hm : m_node_Node_Out_s1 n_kind n_digest n_block n_key n_last n_written n_e_h n_e_count_Lo n_e_count_Hi n_e_held n_e_block most = some r) :
    Calls Try.prog 29 (vals [pt g_n 0, I most]) w (fun e w' => ∃ A n c A1 n1 c1 A2 n2 c2 A3 n3 c3, r.1.length = n ∧ r.2.2.2.2.2.1.length = n1 ∧ r.2.2.2.2.2.2.2.2.2.1.length = n2 ∧ r.2.2.2.2.2.2.2.2.2.2.1.length = n3 ∧ e = .returned (SV.val (.tup [sl A n c, I r.2.1])) ∧ Cx F O w w' [Ow e8 A n c r.1, Bx 128 g_n_e [.ar e32 r.2.2.1, .u64 r.2.2.2.1, .u64 r.2.2.2.2.1, sl A1 n1 c1, I r.2.2.2.2.2.2.1, .v (.func (.func 65) ⟨SV.vals []⟩ ⟨SV.vals []⟩), .v (.func (.func 66) ⟨SV.vals []⟩ ⟨SV.vals []⟩)], Ow e8 A1 n1 c1 r.2.2.2.2.2.1, Bx 77 g_n [I r.2.2.2.2.2.2.2.1, I r.2.2.2.2.2.2.2.2.1, sl A2 n2 c2, sl A3 n3 c3, .b r.2.2.2.2.2.2.2.2.2.2.2.1, .u64 r.2.2.2.2.2.2.2.2.2.2.2.2, .v (.iface 124 (SV.val (pt g_n_e 0)))], Ow e8 A2 n2 c2 r.2.2.2.2.2.2.2.2.2.1, Ow e8 A3 n3 c3 r.2.2.2.2.2.2.2.2.2.2.1]) := by
 unfold m_node_Node_Out_s1 at hm
 obtain rfl := k.len 1 rfl
 obtain rfl := k.len 2 rfl
 obtain rfl := k.len 4 rfl
 refine calz [pt g_n 0, I most] Try.func29 rfl ?_
 refine W_seq <| Wq .a ?_
 refine W_seq <| W_seq <| W_reg <| We 1 (.n 6 (pt g_n 0) .a) ?_
 refine WL_op ?_
 obtain ⟨r_, h_r_, hm⟩ := ob hm
 obtain ⟨F1, O1, kin, hO, hre, hF, hb⟩ := k.go (.i (.i (.i (.i (.i .e)))))
 refine Op_cz 7 ws_go39 (c_node_Node_none_s1 (F := F1) (O := O1) _ _ _ _ _ _ _ _ _ _ _ _ _ _ _ _ _ _ _ _ _ _ kin _ h_r_) ?_
 rintro e_ w_ ⟨A0, _, c0, A4, _, c4, A5, _, c5, rfl, rfl, rfl, rfl, k_⟩
 have k_1 := hb w_ _ _ k_ (.c (.c (.c (.c (.c .n)))))
 refine ⟨.b false, rfl, ?_⟩
 refine Wn <| W_cond false (by kernel_rfl) (fun h => by cases h) (fun _ => ?_)
 refine W_skip <| At_go <| W_seq <| W_seq <| W_reg <| We 3 (.n 10 (.b (decide (most < 1))) (.ss .a)) ?_
 refine WL_sp 10 (decide (most < 1)) (.s .a) (by kernel_rfl) (fun hg => ?_) (fun hg => ?_)
 · rw [if_pos (of_decide_eq_true hg)] at hm
   refine WLs 9 [10] (.n 19 (.b true) (.s .a)) qe (by kernel_rfl) ?_
   refine Wn <| W_cond true (by kernel_rfl) (fun _ => ?_) (fun h => by cases h)
   refine W_seq <| Wq (.n 4 (sl none 0 0) (.n 5 (I 1) .z)) ?_
   refine W_ret (At_tr ?_)
   have k_2 := k_1.nil e8
   obtain rfl := si hm
   refine At_rz [sl none 0 0, I 1] qe ?_
   have k_3 := (((((k_2.pk (.t (.t (.t (.t .h))))).pk (.t (.t (.t (.t .h))))).pk (.t (.t (.t (.t .h))))).pk (.t (.t (.t (.t .h))))).pk (.t (.t (.t (.t .h))))).pk (.t (.t (.t (.t (.t .h)))))
   exact ⟨none, 0, 0, A0, r_.2.2.2.1.length, c0, A4, r_.2.2.2.2.2.2.2.1.length, c4, A5, r_.2.2.2.2.2.2.2.2.1.length, c5, k_3.len 0 rfl, k_3.len 2 rfl, k_3.len 4 rfl, k_3.len 5 rfl, rfl, k_3⟩
 · rw [if_neg (of_decide_eq_false hg)] at hm
   refine WLs 5 [10] (.n 11 (I most) (.n 15 (I r_.2.2.2.2.2.1) .a)) (qs g_n 0 <| qs g_n 0 <| qB k_1 2 rfl 0 (I r_.2.2.2.2.2.1) (by kernel_rfl) <| qe) (by kernel_rfl) ?_
   refine WL_op ?_
   obtain ⟨r_1, h_r_1, hm⟩ := ob hm
   refine Op_call [10] 16 _ ws_go40 (by kernel_rfl) (c_node_blockOf (F := N0) (O := N0) _ (Cx.refl _) _ h_r_1) ?_
   rintro e_ w_1 ⟨rfl, k_4⟩
   have k_5 := k_1.call k_4
   refine ⟨I r_1, rfl, ?_⟩
   refine WLs 3 [10] (.n 19 (.b (decide ((w64 (Int.tdiv r_1 2)) < most))) (.ssss .a)) (qp ((2 : Int) ≠ (0 : Int)) (by omega) <| qe) (by kernel_rfl) ?_
   refine Wn <| W_pz ((w64 (Int.tdiv r_1 2)) < most) (fun hc => ?_) fun hc => ?_
   · rw [if_pos hc] at hm
     refine W_seq <| Wq (.n 4 (sl none 0 0) (.n 5 (I 1) .z)) ?_
     refine W_ret (At_tr ?_)
     have k_6 := k_5.nil e8
     obtain rfl := si hm
     refine At_rz [sl none 0 0, I 1] qe ?_
     have k_7 := (((((k_6.pk (.t (.t (.t (.t .h))))).pk (.t (.t (.t (.t .h))))).pk (.t (.t (.t (.t .h))))).pk (.t (.t (.t (.t .h))))).pk (.t (.t (.t (.t .h))))).pk (.t (.t (.t (.t (.t .h)))))
     exact ⟨none, 0, 0, A0, r_.2.2.2.1.length, c0, A4, r_.2.2.2.2.2.2.2.1.length, c4, A5, r_.2.2.2.2.2.2.2.2.1.length, c5, k_7.len 0 rfl, k_7.len 2 rfl, k_7.len 4 rfl, k_7.len 5 rfl, rfl, k_7⟩
   rw [if_neg hc] at hm
   refine W_skip <| At_go <| W_seq ?_
   have k_8 := k_5.drew 1
   refine W_m ws_mixed (.q 0 1 (.q 1 1 (.q 2 1 (.q 3 0 (.q 8 0 (.q 9 0 (.q 4 1 (.q 5 1 (.q 6 0 (.q 7 0 (.q 11 1 (.q 12 1 (.op 10 (.q 13 1 (.q 14 1 (.q 15 1 .nil)))))))))))))))) [10] k_8 (.c (.ss (.kk (.k .e))) .l) (by kernel_rfl) (fun _ => ?_)
   refine MXz 3 1 (.n 22 (pt g_n 6) (.s .a)) (fun x hx => qs g_n 0 <| qs g_n 0 <| qe) fun _ => ?_
   refine MXz 3 0 (.n 29 (.v (.iface 124 (SV.val (pt g_n_e 0)))) (.s .a)) (fun x hx => qB hx 2 rfl 6 (.v (.iface 124 (SV.val (pt g_n_e 0)))) (by kernel_rfl) <| qe) fun _ => ?_
   refine MXz 2 1 (.n 25 (pt g_n 0) (.k (.s .a))) (fun x hx => qs g_n 0 <| qe) fun _ => ?_
   refine MXz 2 0 (.n 27 (.b r_.2.2.2.2.2.2.2.2.2.1) (.s .a)) (fun x hx => qs g_n 0 <| qB hx 2 rfl 4 (.b r_.2.2.2.2.2.2.2.2.2.1) (by kernel_rfl) <| qe) fun _ => ?_
   refine MXz 2 1 (.n 31 (I most) (.n 32 (I most) (.kk .z))) (fun x hx => qe) fun _ => ?_
   refine MX_op (by kernel_rfl) rfl ?_
   obtain ⟨r_2, h_r_2, hm⟩ := ob hm
   obtain ⟨F11, O11, kin1, hO1, hre1, hF1, hb1⟩ := k_8.go (.i (.i (.r (.r (.r .e)))))
   refine Op_invoke [] 30 124 (pt g_n_e 0) [.b r_.2.2.2.2.2.2.2.2.2.1] ws_inv124_node_out rfl (by kernel_rfl) (c_node_half_uint32_out (F := F11) (O := O11) _ _ _ _ _ _ _ _ _ _ kin1 _ h_r_2) ?_
   rintro e_ w_2 ⟨A6, _, c6, A7, _, c7, rfl, rfl, rfl, k_9⟩
   have k_10 := hb1 w_2 _ _ k_9 (.c (.c (.c .n)))
   refine ⟨sl A6 r_2.1.length c6, rfl, ?_⟩
   refine ⟨(k_10.sel (.ss (.s (.kk (.k .e))))), fun _ => ?_⟩
   obtain ⟨b, h_b, hm⟩ := ob hm
   have hs := slc_some h_b
   have hl := slc_len h_b
   have hn : r_2.1.length = r_2.1.length := (k_10.len 0 rfl)
   have hc1 : r_2.1.length ≤ c6 := (k_10.lec 0 rfl)
   obtain ⟨u, h_u, hm⟩ := ob hm
   have hq := need_some h_u
   have hc2 : b.length ≤ Int.toNat most := by omega
   refine MXz 3 1 (.n 4 (sl A6 b.length (Int.toNat most)) (.n 5 (I 0) .z)) (fun x hx => qp (0 ≤ most ∧ most ≤ (c6 : Int)) (by omega) <| qp (0 ≤ most ∧ most ≤ ((Int.toNat most : Nat) : Int)) (by omega) <| qo (.v (.slice A6 b.length (Int.toNat most))) <| qp (Value.slice (slA A6 0 (Int.toNat most) 1) (Int.toNat most - 0) (Int.toNat most - 0) = .slice A6 b.length (Int.toNat most)) (slx0 _ _ _ _ _ (by omega)) <| qe) fun _ => ?_
   refine MX_nil <| At_go <| W_ret ?_
   have k_11 := k_10.pre 0 rfl b.length (Int.toNat most) b (by omega) (by omega) (by omega) (slc_pre h_b rfl)
   obtain rfl := si hm
   refine At_rz [sl A6 b.length (Int.toNat most), I 0] qe ?_
   exact ⟨A6, b.length, Int.toNat most, A7, r_2.2.2.2.2.1.length, c7, A4, r_.2.2.2.2.2.2.2.1.length, c4, A5, r_.2.2.2.2.2.2.2.2.1.length, c5, k_11.len 0 rfl, k_11.len 2 rfl, k_11.len 4 rfl, k_11.len 5 rfl, rfl, k_11⟩
theorem c_node_Hash (k_ : Int) (p_Digest : Int) (p_Key : Int) (p_Fanout : Int) (p_Depth : Int) (p_Leaf : UInt32) (p_Offset : UInt64) (p_Xof : UInt32) (p_NodeDepth : Int) (p_Inner : Int) (p_Salt : List UInt8) (p_Personal : List UInt8) (key : List UInt8) (last : Bool) (out : Int) (data : List UInt8) (A_p_Salt : Option Addr) (n_p_Salt : Nat) (c_p_Salt : Nat) (A_p_Personal : Option Addr) (n_p_Personal : Nat) (c_p_Personal : Nat) (A_key : Option Addr) (n_key : Nat) (c_key : Nat) (g_data : Nat) (n_data : Nat) (c_data : Nat) (h_p_Salt : Ro F w A_p_Salt (e8.all p_Salt)) (hn_p_Salt : p_Salt.length = n_p_Salt) (hc_p_Salt : n_p_Salt ≤ c_p_Salt) (h_p_Personal : Ro F w A_p_Personal (e8.all p_Personal)) (hn_p_Personal : p_Personal.length = n_p_Personal) (hc_p_Personal : n_p_Personal ≤ c_p_Personal) (h_key : Ro F w A_key (e8.all key)) (hn_key : key.length = n_key) (hc_key : n_key ≤ c_key) (h_data : Ro F w (some ⟨g_data, 0, none⟩) (e8.all data)) (hn_data : data.length = n_data) (hc_data : n_data ≤ c_data) (k : Cx F O w w []) (r : (List UInt8 × Int)) (hm : m_node_Hash k_ p_Digest p_Key p_Fanout p_Depth p_Leaf p_Offset p_Xof p_NodeDepth p_Inner p_Salt p_Personal key last out data = some r) :
    Calls Try.prog 31 (vals [I k_, .agg [I p_Digest, I p_Key, I p_Fanout, I p_Depth, .u32 p_Leaf, .u64 p_Offset, .u32 p_Xof, I p_NodeDepth, I p_Inner, sl A_p_Salt n_p_Salt c_p_Salt, sl A_p_Personal n_p_Personal c_p_Personal], sl A_key n_key c_key, .b last, I out, sl (some ⟨g_data, 0, none⟩) n_data c_data]) w (fun e w' => ∃ A n c, r.1.length = n ∧ e = .returned (SV.val (.tup [sl A n c, I r.2])) ∧ Cx F O w w' [Ow e8 A n c r.1]) := by
 unfold m_node_Hash at hm
 subst hn_p_Salt
 subst hn_p_Personal
 subst hn_key
 subst hn_data
 refine calz [I k_, .agg [I p_Digest, I p_Key, I p_Fanout, I p_Depth, .u32 p_Leaf, .u64 p_Offset, .u32 p_Xof, I p_NodeDepth, I p_Inner, sl A_p_Salt p_Salt.length c_p_Salt, sl A_p_Personal p_Personal.length c_p_Personal], sl A_key key.length c_key, .b last, I out, sl (some ⟨g_data, 0, none⟩) data.length c_data] Try.func31 rfl ?_
 refine W_seq <| W_reg <| WL_op <| Op_box [] 7 (.agg [I p_Digest, I p_Key, I p_Fanout, I p_Depth, .u32 p_Leaf, .u64 p_Offset, .u32 p_Xof, I p_NodeDepth, I p_Inner, sl A_p_Salt p_Salt.length c_p_Salt, sl A_p_Personal p_Personal.length c_p_Personal]) [I p_Digest, I p_Key, I p_Fanout, I p_Depth, .u32 p_Leaf, .u64 p_Offset, .u32 p_Xof, I p_NodeDepth, I p_Inner, sl A_p_Salt p_Salt.length c_p_Salt, sl A_p_Personal p_Personal.length c_p_Personal] (by kernel_rfl) k ?_
 intro g w_ k_1
 refine We 2 (.kk (.s .a)) ?_
 refine Wn <| W_seq <| W_reg <| Wl 3 (.n 17 (I k_) (.n 18 (.agg [I p_Digest, I p_Key, I p_Fanout, I p_Depth, .u32 p_Leaf, .u64 p_Offset, .u32 p_Xof, I p_NodeDepth, I p_Inner, sl A_p_Salt p_Salt.length c_p_Salt, sl A_p_Personal p_Personal.length c_p_Personal]) (.n 19 (sl A_key key.length c_key) (.sss .a)))) (qT k_1 0 rfl 0 11 [I p_Digest, I p_Key, I p_Fanout, I p_Depth, .u32 p_Leaf, .u64 p_Offset, .u32 p_Xof, I p_NodeDepth, I p_Inner, sl A_p_Salt p_Salt.length c_p_Salt, sl A_p_Personal p_Personal.length c_p_Personal] (by kernel_rfl) (by decide) <| qe) ?_
 refine WL_op ?_
 obtain ⟨r_, h_r_, hm⟩ := ob hm
 refine Op_cz 20 ws_go27 (c_node_New (F := N0) (O := N0) _ _ _ _ _ _ _ _ _ _ _ _ _ _ _ _ _ _ _ _ _ _ (Ro.n0 (h_p_Salt.cx k_1)) rfl hc_p_Salt (Ro.n0 (h_p_Personal.cx k_1)) rfl hc_p_Personal (Ro.n0 (h_key.cx k_1)) rfl hc_key (Cx.refl _) _ h_r_) ?_
 rcases r_ with r_1 | r_2 | r_3
 · simp only [Sum.elim_inl, Sum.elim_inr] at hm
   rintro e_ w_1 ⟨rfl, k_2⟩
   have k_3 := k_1.call k_2
   refine ⟨.tup [.v (.pointer none), I r_1], rfl, ?_⟩
   have k_4 := k_3.sel .z
   refine We 5 (.n 14 (.v (.pointer none)) (.n 15 (I r_1) (.ssss .a))) ?_
   refine Wn <| W_seq <| W_seq <| Wq (.n 24 (.b (decide (r_1 ≠ 0))) .a) ?_
   refine W_pz (r_1 ≠ 0) (fun hc => ?_) fun hc => ?_
   · rw [if_pos hc] at hm
     refine W_seq <| Wq (.n 12 (sl none 0 0) (.n 13 (I r_1) .z)) ?_
     refine W_ret (At_tr ?_)
     have k_5 := k_4.nil e8
     obtain rfl := si hm
     refine At_rz [sl none 0 0, I r_1] qe ?_
     exact ⟨none, 0, 0, k_5.len 0 rfl, rfl, k_5⟩
   rw [if_neg hc] at hm
   cases hm
 · simp only [Sum.elim_inl, Sum.elim_inr] at hm
   rintro e_ w_2 ⟨g1, A0, _, c0, A1, _, c1, g2, A2, _, c2, rfl, rfl, rfl, rfl, k_6⟩
   have k_7 := k_1.call k_6
   refine ⟨.tup [pt g1 0, I 0], rfl, ?_⟩
   have k_8 := k_7.sel (.s (.kkkk (.k .e)))
   refine We 5 (.n 14 (pt g1 0) (.n 15 (I 0) (.ssss .a))) ?_
   refine Wn <| W_seq <| W_seq <| Wq (.n 24 (.b (decide (0 ≠ 0))) .a) ?_
   refine W_pz (0 ≠ 0) (fun hc0 => ?_) fun hc0 => ?_
   · rw [if_pos hc0] at hm
     refine W_seq <| Wq (.n 12 (sl none 0 0) (.n 13 (I 0) .z)) ?_
     refine W_ret (At_tr ?_)
     have k_9 := k_8.nil e8
     obtain rfl := si hm
     refine At_rz [sl none 0 0, I 0] qe ?_
     have k_10 := k_9.sel (.ssss (.s (.k .e)))
     exact ⟨none, 0, 0, k_10.len 0 rfl, rfl, k_10⟩
   rw [if_neg hc0] at hm
   refine W_skip <| At_go <| W_seq <| W_reg <| Wl 4 (.n 27 (.b last) (.n 29 (pt g1 4) (.s (.k (.ss .a))))) (qs g1 0 <| qs g1 0 <| qe) ?_
   refine WL_op <| Op_bz 0 (.b last) [.b last] (Pt.at g1 4) k_8 rfl (.kkkk .h) ?_
   intro w_3 k_11
   refine Wn <| W_seq <| W_reg <| Wl 5 (.n 33 (.v (.iface 114 (SV.val (pt g2 0)))) (.n 34 (sl (some ⟨g_data, 0, none⟩) data.length c_data) (.ss (.kk .z)))) (qs g1 0 <| qs g1 0 <| qB k_11 0 rfl 6 (.v (.iface 114 (SV.val (pt g2 0)))) (by kernel_rfl) <| qe) ?_
   refine WL_op ?_
   obtain ⟨r_4, h_r_4, hm⟩ := ob hm
   obtain ⟨F1, O1, kin, hO, hre, hF, hb⟩ := k_11.go (.r (.r (.r (.i (.i .e)))))
   refine Op_invoke [] 35 114 (pt g2 0) [sl (some ⟨g_data, 0, none⟩) data.length c_data] ws_inv114_node_write rfl (by kernel_rfl) (c_node_half_uint64_write (F := F1) (O := O1) _ _ _ _ _ _ _ _ _ _ _ _ _ (Ro.of_old h_data k_11 hF) rfl hc_data kin _ h_r_4) ?_
   rintro e_ w_4 ⟨A3, _, c3, rfl, rfl, k_12⟩
   have k_13 := hb w_4 _ _ k_12 (.c (.c .n))
   refine ⟨.tup [], rfl, ?_⟩
   refine Wn <| W_seq <| W_reg <| We 2 (.n 36 (pt g1 0) (.n 37 (I out) .z)) ?_
   refine WL_op ?_
   have k_14 := k_13.sel (.kkkk (.k .e))
   obtain ⟨r_5, h_r_5, hm⟩ := ob hm
   have k_15 := ((((k_14.pk (.t .h)).pk (.t .h)).pk (.t (.t (.t (.t .h))))).pk (.t (.t (.t (.t .h))))).pk (.t (.t (.t (.t .h))))
   obtain ⟨F11, O11, kin1, hO1, hre1, hF1, hb1⟩ := k_15.go (.i (.i (.i (.i (.i .e)))))
   refine Op_cz 38 ws_go29 (c_node_Node_Out (F := F11) (O := O11) _ _ _ _ _ _ _ _ _ _ _ _ _ _ _ _ _ _ _ _ _ _ _ kin1 _ h_r_5) ?_
   rintro e_ w_5 ⟨A4, _, c4, A5, _, c5, A6, _, c6, A7, _, c7, rfl, rfl, rfl, rfl, rfl, k_16⟩
   have k_17 := hb1 w_5 _ _ k_16 (.c (.c (.c (.c (.c (.c .n))))))
   refine ⟨.tup [sl A4 r_5.1.length c4, I r_5.2.1], rfl, ?_⟩
   have k_18 := k_17.sel (.k .z)
   refine We 4 (.n 12 (sl A4 r_5.1.length c4) (.n 13 (I r_5.2.1) .z)) ?_
   refine Wn <| W_ret ?_
   obtain rfl := si hm
   refine At_rz [sl A4 r_5.1.length c4, I r_5.2.1] qe ?_
   exact ⟨A4, r_5.1.length, c4, k_18.len 0 rfl, rfl, k_18⟩
 · simp only [Sum.elim_inl, Sum.elim_inr] at hm
   rintro e_ w_6 ⟨g3, A8, _, c8, A9, _, c9, g4, A10, _, c10, rfl, rfl, rfl, rfl, k_19⟩
   have k_20 := k_1.call k_19
   refine ⟨.tup [pt g3 0, I 0], rfl, ?_⟩
   have k_21 := k_20.sel (.s (.kkkk (.k .e)))
   refine We 5 (.n 14 (pt g3 0) (.n 15 (I 0) (.ssss .a))) ?_
   refine Wn <| W_seq <| W_seq <| Wq (.n 24 (.b (decide (0 ≠ 0))) .a) ?_
   refine W_pz (0 ≠ 0) (fun hc1 => ?_) fun hc1 => ?_
   · rw [if_pos hc1] at hm
     refine W_seq <| Wq (.n 12 (sl none 0 0) (.n 13 (I 0) .z)) ?_
     refine W_ret (At_tr ?_)
     have k_22 := k_21.nil e8
     obtain rfl := si hm
     refine At_rz [sl none 0 0, I 0] qe ?_
     have k_23 := k_22.sel (.ssss (.s (.k .e)))
     exact ⟨none, 0, 0, k_23.len 0 rfl, rfl, k_23⟩
   rw [if_neg hc1] at hm
   refine W_skip <| At_go <| W_seq <| W_reg <| Wl 4 (.n 27 (.b last) (.n 29 (pt g3 4) (.s (.k (.ss .a))))) (qs g3 0 <| qs g3 0 <| qe) ?_
   refine WL_op <| Op_bz 0 (.b last) [.b last] (Pt.at g3 4) k_21 rfl (.kkkk .h) ?_
   intro w_7 k_24
   refine Wn <| W_seq <| W_reg <| Wl 5 (.n 33 (.v (.iface 124 (SV.val (pt g4 0)))) (.n 34 (sl (some ⟨g_data, 0, none⟩) data.length c_data) (.ss (.kk .z)))) (qs g3 0 <| qs g3 0 <| qB k_24 0 rfl 6 (.v (.iface 124 (SV.val (pt g4 0)))) (by kernel_rfl) <| qe) ?_
   refine WL_op ?_
   obtain ⟨r_6, h_r_6, hm⟩ := ob hm
   obtain ⟨F10, O10, kin0, hO0, hre0, hF0, hb0⟩ := k_24.go (.r (.r (.r (.i (.i .e)))))
   refine Op_invoke [] 35 124 (pt g4 0) [sl (some ⟨g_data, 0, none⟩) data.length c_data] ws_inv124_node_write rfl (by kernel_rfl) (c_node_half_uint32_write (F := F10) (O := O10) _ _ _ _ _ _ _ _ _ _ _ _ _ (Ro.of_old h_data k_24 hF0) rfl hc_data kin0 _ h_r_6) ?_
   rintro e_ w_8 ⟨A11, _, c11, rfl, rfl, k_25⟩
   have k_26 := hb0 w_8 _ _ k_25 (.c (.c .n))
   refine ⟨.tup [], rfl, ?_⟩
   refine Wn <| W_seq <| W_reg <| We 2 (.n 36 (pt g3 0) (.n 37 (I out) .z)) ?_
   refine WL_op ?_
   have k_27 := k_26.sel (.kkkk (.k .e))
   obtain ⟨r_7, h_r_7, hm⟩ := ob hm
   have k_28 := ((((k_27.pk (.t .h)).pk (.t .h)).pk (.t (.t (.t (.t .h))))).pk (.t (.t (.t (.t .h))))).pk (.t (.t (.t (.t .h))))
   obtain ⟨F12, O12, kin2, hO2, hre2, hF2, hb2⟩ := k_28.go (.i (.i (.i (.i (.i .e)))))
   refine Op_cz 38 ws_go29 (c_node_Node_Out_s1 (F := F12) (O := O12) _ _ _ _ _ _ _ _ _ _ _ _ _ _ _ _ _ _ _ _ _ _ _ kin2 _ h_r_7) ?_
   rintro e_ w_9 ⟨A12, _, c12, A13, _, c13, A14, _, c14, A15, _, c15, rfl, rfl, rfl, rfl, rfl, k_29⟩
   have k_30 := hb2 w_9 _ _ k_29 (.c (.c (.c (.c (.c (.c .n))))))
   refine ⟨.tup [sl A12 r_7.1.length c12, I r_7.2.1], rfl, ?_⟩
   have k_31 := k_30.sel (.k .z)
   refine We 4 (.n 12 (sl A12 r_7.1.length c12) (.n 13 (I r_7.2.1) .z)) ?_
   refine Wn <| W_ret ?_
   obtain rfl := si hm
   refine At_rz [sl A12 r_7.1.length c12, I r_7.2.1] qe ?_
   exact ⟨A12, r_7.1.length, c12, k_31.len 0 rfl, rfl, k_31⟩
theorem c_xof_shape_piece (s_kind : Int) (s_full : Int) (s_code : UInt32) (s_total : UInt64) (s_known : Bool) (salt : List UInt8) (personal : List UInt8) (root : List UInt8) (i : UInt64) (A_salt : Option Addr) (n_salt : Nat) (c_salt : Nat) (A_personal : Option Addr) (n_personal : Nat) (c_personal : Nat) (g_root : Nat) (n_root : Nat) (c_root : Nat) (h_salt : Ro F w A_salt (e8.all salt)) (hn_salt : salt.length = n_salt) (hc_salt : n_salt ≤ c_salt) (h_personal : Ro F w A_personal (e8.all personal)) (hn_personal : personal.length = n_personal) (hc_personal : n_personal ≤ c_personal) (h_root : Ro F w (some ⟨g_root, 0, none⟩) (e8.all root)) (hn_root : root.length = n_root) (hc_root : n_root ≤ c_root) (k : Cx F O w w []) (r : (List UInt8)) (hm : m_xof_shape_piece s_kind s_full s_code s_total s_known salt personal root i = some r) :
    Calls Try.prog 18 (vals [.agg [I s_kind, I s_full, .u32 s_code, .u64 s_total, .b s_known], sl A_salt n_salt c_salt, sl A_personal n_personal c_personal, sl (some ⟨g_root, 0, none⟩) n_root c_root, .u64 i]) w (fun e w' => ∃ A n c, r.length = n ∧ e = .returned (SV.val (sl A n c)) ∧ Cx F O w w' [Ow e8 A n c r]) := by
 unfold m_xof_shape_piece at hm
 subst hn_salt
 subst hn_personal
 subst hn_root
 refine calz [.agg [I s_kind, I s_full, .u32 s_code, .u64 s_total, .b s_known], sl A_salt salt.length c_salt, sl A_personal personal.length c_personal, sl (some ⟨g_root, 0, none⟩) root.length c_root, .u64 i] Try.func18 rfl ?_
 refine W_seq <| W_reg <| WL_op <| Op_box [] 5 (.agg [I s_kind, I s_full, .u32 s_code, .u64 s_total, .b s_known]) [I s_kind, I s_full, .u32 s_code, .u64 s_total, .b s_known] (by kernel_rfl) k ?_
 intro g w_ k_
 refine We 1 (.k (.s .a)) ?_
 refine Wn <| W_seq <| W_reg <| Wl 13 (.n 27 (.agg [I s_full, I 0, I 0, I 0, .u32 (UInt32.ofInt s_full), .u64 i, .u32 s_code, I 0, I s_full, sl A_salt salt.length c_salt, sl A_personal personal.length c_personal]) (.k (.ss .a))) (qs g 0 <| qB k_ 0 rfl 1 (I s_full) (by kernel_rfl) <| qs g 0 <| qB k_ 0 rfl 1 (I s_full) (by kernel_rfl) <| qs g 0 <| qB k_ 0 rfl 2 (.u32 s_code) (by kernel_rfl) <| qs g 0 <| qB k_ 0 rfl 1 (I s_full) (by kernel_rfl) <| qe) ?_
 refine WL_op <| Op_alloc [] 11 [I 0, I 0, I 0, I 0, .u32 0, .u64 0, .u32 0, I 0, I 0, sl none 0 0, sl none 0 0] (by kernel_rfl) k_ ?_
 intro g1 w_1 k_1
 refine WL_op <| Op_bz 1 (.agg [I s_full, I 0, I 0, I 0, .u32 (UInt32.ofInt s_full), .u64 i, .u32 s_code, I 0, I s_full, sl A_salt salt.length c_salt, sl A_personal personal.length c_personal]) [I s_full, I 0, I 0, I 0, .u32 (UInt32.ofInt s_full), .u64 i, .u32 s_code, I 0, I s_full, sl A_salt salt.length c_salt, sl A_personal personal.length c_personal] (Pt.at g1 0) k_1 rfl .all ?_
 intro w_2 k_2
 refine Wn <| W_cut (fun L wr => ∃ (p : Int), m_xof_shape_piece_j0 s_kind s_full s_code salt personal root i p = some r ∧ L = [(3, sl (some ⟨g_root, 0, none⟩) root.length c_root), (5, pt g 0), (11, pt g1 0)] ∧ Cx F O w wr [Bx 45 g [I s_kind, I s_full, .u32 s_code, .u64 s_total, .b s_known], Bx 61 g1 [I p, I 0, I 0, I 0, .u32 (UInt32.ofInt s_full), .u64 i, .u32 s_code, I 0, I s_full, sl A_salt salt.length c_salt, sl A_personal personal.length c_personal]]) ?_ ?_
 ·
  refine W_seq <| Wa (.n 12 (.u64 (s_total - (i * (UInt64.ofInt s_full)))) (.k (.s (.kk .z)))) (qs g 0 <| qB k_2 0 rfl 3 (.u64 s_total) (by kernel_rfl) <| qs g 0 <| qB k_2 0 rfl 1 (I s_full) (by kernel_rfl) <| qe) ?_
  refine W_seq <| Wa (.n 40 (.b (decide ((s_total - (i * (UInt64.ofInt s_full))) < (UInt64.ofInt s_full)))) .a) (qs g 0 <| qB k_2 0 rfl 1 (I s_full) (by kernel_rfl) <| qe) ?_
  refine W_pz ((s_total - (i * (UInt64.ofInt s_full))) < (UInt64.ofInt s_full)) (fun hc => ?_) fun hc => ?_
  · rw [if_pos hc] at hm
    refine W_reg <| Wl 3 (.n 42 (I (w64 (s_total - (i * (UInt64.ofInt s_full))).toNat)) (.n 43 (pt g1 0) (.ss .a))) (qs g1 0 <| qe) ?_
    refine WL_op <| Op_bz 1 (I (w64 (s_total - (i * (UInt64.ofInt s_full))).toNat)) [I (w64 (s_total - (i * (UInt64.ofInt s_full))).toNat)] (Pt.at g1 0) k_2 rfl .h ?_
    intro w_3 k_3
    refine WL_nil ?_
    exact At_cz ⟨w64 (s_total - (i * (UInt64.ofInt s_full))).toNat, hm, rfl, k_3⟩
  rw [if_neg hc] at hm
  refine W_skip ?_
  exact At_cz ⟨s_full, hm, rfl, k_2⟩
 rintro L_ w_4 ⟨p, hm, rfl, k_4⟩
 simp only [m_xof_shape_piece_j0] at hm
 refine W_seq <| W_reg <| Wl 6 (.n 46 (I s_kind) (.n 47 (.agg [I p, I 0, I 0, I 0, .u32 (UInt32.ofInt s_full), .u64 i, .u32 s_code, I 0, I s_full, sl A_salt salt.length c_salt, sl A_personal personal.length c_personal]) (.n 49 (I p) (.n 50 (sl (some ⟨g_root, 0, none⟩) root.length c_root) .z)))) (qs g 0 <| qB k_4 0 rfl 0 (I s_kind) (by kernel_rfl) <| qT k_4 1 rfl 0 11 [I p, I 0, I 0, I 0, .u32 (UInt32.ofInt s_full), .u64 i, .u32 s_code, I 0, I s_full, sl A_salt salt.length c_salt, sl A_personal personal.length c_personal] (by kernel_rfl) (by decide) <| qs g1 0 <| qB k_4 1 rfl 0 (I p) (by kernel_rfl) <| qe) ?_
 refine WL_op ?_
 obtain ⟨r_, h_r_, hm⟩ := ob hm
 refine Op_cz 51 ws_go31 (c_node_Hash (F := N0) (O := N0) _ _ _ _ _ _ _ _ _ _ _ _ _ _ _ _ _ _ _ _ _ _ _ _ _ _ _ _ (Ro.n0 (h_salt.cx k_4)) rfl hc_salt (Ro.n0 (h_personal.cx k_4)) rfl hc_personal (Ro.nilE e8) rfl (Nat.le_refl 0) (Ro.n0 (h_root.cx k_4)) rfl hc_root (Cx.refl _) _ h_r_) ?_
 rintro e_ w_5 ⟨A0, _, c0, rfl, rfl, k_5⟩
 have k_6 := k_4.call k_5
 refine ⟨.tup [sl A0 r_.1.length c0, I r_.2], rfl, ?_⟩
 have k_7 := k_6.sel (.ss (.k .e))
 refine We 5 (.n 13 (sl A0 r_.1.length c0) .z) ?_
 refine Wn <| W_seq <| Wq (.n 10 (sl A0 r_.1.length c0) .z) ?_
 refine W_ret ?_
 obtain rfl := si hm
 refine At_rz [sl A0 r_.1.length c0] qe ?_
 exact ⟨A0, r_.1.length, c0, k_7.len 0 rfl, rfl, k_7⟩
theorem c_xof_Stream_Read (x_s_kind : Int) (x_s_full : Int) (x_s_code : UInt32) (x_s_total : UInt64) (x_s_known : Bool) (x_key : List UInt8) (x_salt : List UInt8) (x_personal : List UInt8) (x_n_kind : Int) (x_n_digest : Int) (x_n_block : List UInt8) (x_n_key : List UInt8) (x_n_last : Bool) (x_n_written : UInt64) (x_n_e_h : Vec UInt64 8) (x_n_e_count_Lo : UInt64) (x_n_e_count_Hi : UInt64) (x_n_e_held : List UInt8) (x_n_e_block : Int) (x_root : List UInt8) (x_at : UInt64) (x_now : Vec UInt8 64) (x_have : Int) (n : Int) (g_x : Nat) (A_x_key : Option Addr) (n_x_key : Nat) (c_x_key : Nat) (A_x_salt : Option Addr) (n_x_salt : Nat) (c_x_salt : Nat) (A_x_personal : Option Addr) (n_x_personal : Nat) (c_x_personal : Nat) (g_x_n : Nat) (A_x_n_block : Option Addr) (n_x_n_block : Nat) (c_x_n_block : Nat) (A_x_n_key : Option Addr) (n_x_n_key : Nat) (c_x_n_key : Nat) (g_x_n_e : Nat) (A_x_n_e_held : Option Addr) (n_x_n_e_held : Nat) (c_x_n_e_held : Nat) (g_x_root : Nat) (n_x_root : Nat) (c_x_root : Nat) (h_x_root : Ro F w (some ⟨g_x_root, 0, none⟩) (e8.all x_root)) (hn_x_root : x_root.length = n_x_root) (hc_x_root : n_x_root ≤ c_x_root) (k : Cx F O w w [Bx 52 g_x [I x_s_kind, I x_s_full, .u32 x_s_code, .u64 x_s_total, .b x_s_known, sl A_x_key n_x_key c_x_key, sl A_x_salt n_x_salt c_x_salt, sl A_x_personal n_x_personal c_x_personal, pt g_x_n 0, sl (some ⟨g_x_root, 0, none⟩) n_x_root c_x_root, .u64 x_at, .ar e8 x_now, I x_have, .v (.func (.func 30) ⟨SV.vals [pt g_x 0]⟩ ⟨SV.vals []⟩)], Ow e8 A_x_key n_x_key c_x_key x_key, Ow e8 A_x_salt n_x_salt c_x_salt x_salt, Ow e8 A_x_personal n_x_personal c_x_personal x_personal, Bx 77 g_x_n [I x_n_kind, I x_n_digest, sl A_x_n_block n_x_n_block c_x_n_block, sl A_x_n_key n_x_n_key c_x_n_key, .b x_n_last, .u64 x_n_written, .v (.iface 114 (SV.val (pt g_x_n_e 0)))], Ow e8 A_x_n_block n_x_n_block c_x_n_block x_n_block, Ow e8 A_x_n_key n_x_n_key c_x_n_key x_n_key, Bx 120 g_x_n_e [.ar e64 x_n_e_h, .u64 x_n_e_count_Lo, .u64 x_n_e_count_Hi, sl A_x_n_e_held n_x_n_e_held c_x_n_e_held, I x_n_e_block, .v (.func (.func 62) ⟨SV.vals []⟩ ⟨SV.vals []⟩), .v (.func (.func 63) ⟨SV.vals []⟩ ⟨SV.vals []⟩)], Ow e8 A_x_n_e_held n_x_n_e_held c_x_n_e_held x_n_e_held]) (r : (List UInt8 × Int × Vec UInt64 8 × UInt64 × UInt64 × List UInt8 × Int × Int × Int × List UInt8 × List UInt8 × Bool × UInt64 × Int × Int × UInt32 × UInt64 × Bool × List UInt8 × List UInt8 × List UInt8 × UInt64 × Vec UInt8 64 × Int)) (hm : m_xof_Stream_Read x_s_kind x_s_full x_s_code x_s_total x_s_known x_key x_salt x_personal x_n_kind x_n_digest x_n_block x_n_key x_n_last x_n_written x_n_e_h x_n_e_count_Lo x_n_e_count_Hi x_n_e_held x_n_e_block x_root x_at x_now x_have n = some r) :
    Calls Try.prog 7 (vals [pt g_x 0, I n]) w (fun e w' => ∃ A n1 c A1 n2 c1 A2 n3 c2 A3 n4 c3 A4 n5 c4 A5 n6 c5 A6 n7 c6, r.1.length = n1 ∧ r.2.2.2.2.2.1.length = n2 ∧ r.2.2.2.2.2.2.2.2.2.1.length = n3 ∧ r.2.2.2.2.2.2.2.2.2.2.1.length = n4 ∧ r.2.2.2.2.2.2.2.2.2.2.2.2.2.2.2.2.2.2.1.length = n5 ∧ r.2.2.2.2.2.2.2.2.2.2.2.2.2.2.2.2.2.2.2.1.length = n6 ∧ r.2.2.2.2.2.2.2.2.2.2.2.2.2.2.2.2.2.2.2.2.1.length = n7 ∧ e = .returned (SV.val (.tup [sl A n1 c, I r.2.1])) ∧ Cx F O w w' [Ow e8 A n1 c r.1, Bx 120 g_x_n_e [.ar e64 r.2.2.1, .u64 r.2.2.2.1, .u64 r.2.2.2.2.1, sl A1 n2 c1, I r.2.2.2.2.2.2.1, .v (.func (.func 62) ⟨SV.vals []⟩ ⟨SV.vals []⟩), .v (.func (.func 63) ⟨SV.vals []⟩ ⟨SV.vals []⟩)], Ow e8 A1 n2 c1 r.2.2.2.2.2.1, Bx 77 g_x_n [I r.2.2.2.2.2.2.2.1, I r.2.2.2.2.2.2.2.2.1, sl A2 n3 c2, sl A3 n4 c3, .b r.2.2.2.2.2.2.2.2.2.2.2.1, .u64 r.2.2.2.2.2.2.2.2.2.2.2.2.1, .v (.iface 114 (SV.val (pt g_x_n_e 0)))], Ow e8 A2 n3 c2 r.2.2.2.2.2.2.2.2.2.1, Ow e8 A3 n4 c3 r.2.2.2.2.2.2.2.2.2.2.1, Bx 52 g_x [I r.2.2.2.2.2.2.2.2.2.2.2.2.2.1, I r.2.2.2.2.2.2.2.2.2.2.2.2.2.2.1, .u32 r.2.2.2.2.2.2.2.2.2.2.2.2.2.2.2.1, .u64 r.2.2.2.2.2.2.2.2.2.2.2.2.2.2.2.2.1, .b r.2.2.2.2.2.2.2.2.2.2.2.2.2.2.2.2.2.1, sl A4 n5 c4, sl A5 n6 c5, sl A6 n7 c6, pt g_x_n 0, sl (some ⟨g_x_root, 0, none⟩) n_x_root c_x_root, .u64 r.2.2.2.2.2.2.2.2.2.2.2.2.2.2.2.2.2.2.2.2.2.1, .ar e8 r.2.2.2.2.2.2.2.2.2.2.2.2.2.2.2.2.2.2.2.2.2.2.1, I r.2.2.2.2.2.2.2.2.2.2.2.2.2.2.2.2.2.2.2.2.2.2.2, .v (.func (.func 30) ⟨SV.vals [pt g_x 0]⟩ ⟨SV.vals []⟩)], Ow e8 A4 n5 c4 r.2.2.2.2.2.2.2.2.2.2.2.2.2.2.2.2.2.2.1, Ow e8 A5 n6 c5 r.2.2.2.2.2.2.2.2.2.2.2.2.2.2.2.2.2.2.2.1, Ow e8 A6 n7 c6 r.2.2.2.2.2.2.2.2.2.2.2.2.2.2.2.2.2.2.2.2.1]) := by
 unfold m_xof_Stream_Read at hm
 obtain rfl := k.len 1 rfl
 obtain rfl := k.len 2 rfl
 obtain rfl := k.len 3 rfl
 obtain rfl := k.len 5 rfl
 obtain rfl := k.len 6 rfl
 obtain rfl := k.len 8 rfl
 subst hn_x_root
 refine calz [pt g_x 0, I n] Try.func7 rfl ?_
 refine W_seq <| Wq .a ?_
 refine W_seq <| W_seq <| W_reg <| We 1 (.n 11 (pt g_x 0) .a) ?_
 refine WL_op ?_
 obtain ⟨r_, h_r_, hm⟩ := ob hm
 obtain ⟨F1, O1, kin, hO, hre, hF, hb⟩ := k.go (.i (.i (.i (.i (.i (.i (.i (.i (.i .e)))))))))
 refine Op_cz 12 ws_go16 (c_xof_Stream_none_s1 (F := F1) (O := O1) _ _ _ _ _ _ _ _ _ _ _ _ _ _ _ _ _ _ _ _ _ _ _ _ _ _ _ _ _ _ _ _ _ _ _ _ _ _ _ _ _ _ _ _ _ _ _ (Ro.of_old h_x_root k hF) rfl hc_x_root kin _ h_r_) ?_
 rintro e_ w_ ⟨A0, _, c0, A7, _, c7, A8, _, c8, A9, _, c9, A10, _, c10, A11, _, c11, rfl, rfl, rfl, rfl, rfl, rfl, rfl, k_⟩
 have k_1 := hb w_ _ _ k_ (.c (.c (.c (.c (.c (.c (.c (.c (.c .n)))))))))
 refine ⟨.b false, rfl, ?_⟩
 refine Wn <| W_cond false (by kernel_rfl) (fun h => by cases h) (fun _ => ?_)
 refine W_skip <| At_go <| W_seq <| W_seq <| Wq (.n 18 (.b ((decide (n < 0)) || (decide (65536 < n)))) (.ss .a)) ?_
 refine W_cz ((decide (n < 0)) || (decide (65536 < n))) (fun hc => ?_) fun hc => ?_
 · rw [if_pos hc] at hm
   refine W_seq <| Wq (.n 4 (sl none 0 0) (.n 5 (I 1) .z)) ?_
   refine W_ret (At_tr ?_)
   have k_2 := k_1.nil e8
   obtain rfl := si hm
   refine At_rz [sl none 0 0, I 1] qe ?_
   have k_3 := (((((((((k_2.pk (.t (.t (.t (.t (.t (.t (.t (.t .h))))))))).pk (.t (.t (.t (.t (.t (.t (.t (.t .h))))))))).pk (.t (.t (.t (.t (.t (.t (.t (.t .h))))))))).pk (.t (.t (.t (.t (.t (.t (.t (.t .h))))))))).pk (.t (.t (.t (.t (.t (.t (.t (.t .h))))))))).pk (.t (.t (.t (.t (.t (.t (.t (.t .h))))))))).pk (.t (.t (.t (.t (.t (.t (.t (.t .h))))))))).pk (.t (.t (.t (.t (.t (.t (.t (.t .h))))))))).pk (.t (.t (.t (.t (.t (.t (.t (.t .h))))))))).pk (.t (.t (.t (.t (.t (.t (.t (.t (.t .h)))))))))
   exact ⟨none, 0, 0, A0, r_.2.2.2.1.length, c0, A7, r_.2.2.2.2.2.2.2.1.length, c7, A8, r_.2.2.2.2.2.2.2.2.1.length, c8, A9, r_.2.2.2.2.2.2.2.2.2.2.2.2.2.2.2.2.1.length, c9, A10, r_.2.2.2.2.2.2.2.2.2.2.2.2.2.2.2.2.2.1.length, c10, A11, r_.2.2.2.2.2.2.2.2.2.2.2.2.2.2.2.2.2.2.1.length, c11, k_3.len 0 rfl, k_3.len 2 rfl, k_3.len 4 rfl, k_3.len 5 rfl, k_3.len 7 rfl, k_3.len 8 rfl, k_3.len 9 rfl, rfl, k_3⟩
 rw [if_neg (by rw [hc]; decide)] at hm
 refine W_skip <| At_go <| W_seq <| W_reg <| We 1 (.n 19 (pt g_x 0) (.s .a)) ?_
 refine WL_op ?_
 obtain ⟨r_1, h_r_1, hm⟩ := ob hm
 have k_4 := ((((((((k_1.pk (.t .h)).pk (.t .h)).pk (.t (.t (.t (.t .h))))).pk (.t (.t (.t (.t .h))))).pk (.t (.t (.t (.t .h))))).pk (.t (.t (.t (.t (.t (.t (.t (.t .h))))))))).pk (.t (.t (.t (.t (.t (.t (.t (.t .h))))))))).pk (.t (.t (.t (.t (.t (.t (.t (.t .h))))))))).pk (.t (.t (.t (.t (.t (.t (.t (.t .h))))))))
 obtain ⟨F11, O11, kin1, hO1, hre1, hF1, hb1⟩ := k_4.go (.i (.i (.i (.i (.i (.i (.i (.i (.i .e)))))))))
 refine Op_cz 20 ws_go17 (c_xof_Stream_give_s1 (F := F11) (O := O11) _ _ _ _ _ _ _ _ _ _ _ _ _ _ _ _ _ _ _ _ _ _ _ _ _ _ _ _ _ _ _ _ _ _ _ _ _ _ _ _ _ _ _ _ _ _ _ (Ro.of_old h_x_root k_4 hF1) rfl hc_x_root kin1 _ h_r_1) ?_
 rintro e_ w_1 ⟨A12, _, c12, A13, _, c13, A14, _, c14, A15, _, c15, A16, _, c16, A17, _, c17, rfl, rfl, rfl, rfl, rfl, rfl, rfl, k_5⟩
 have k_6 := hb1 w_1 _ _ k_5 (.c (.c (.c (.c (.c (.c (.c (.c (.c .n)))))))))
 refine ⟨.tup [], rfl, ?_⟩
 refine Wn <| W_seq <| W_d ws_mixed (by kernel_rfl) (.n 6 (.u64 (r_1.2.2.2.2.2.2.2.2.2.2.2.2.2.2.1 - r_1.2.2.2.2.2.2.2.2.2.2.2.2.2.2.2.2.2.2.2.1)) (.ss .a)) (fun m => qs g_x 0 <| qs g_x 0 <| qs g_x 0 <| qB (k_6.drew m) 5 rfl 3 (.u64 r_1.2.2.2.2.2.2.2.2.2.2.2.2.2.2.1) (by kernel_rfl) <| qs g_x 0 <| qs g_x 0 <| qB (k_6.drew m) 5 rfl 10 (.u64 r_1.2.2.2.2.2.2.2.2.2.2.2.2.2.2.2.2.2.2.2.1) (by kernel_rfl) <| qe) (by kernel_rfl) (fun m_ => ?_)
 have k_7 := k_6.drew m_
 refine At_go <| W_seq <| W_seq <| Wq (.n 36 (.b ((decide (0 < n)) && (decide ((r_1.2.2.2.2.2.2.2.2.2.2.2.2.2.2.1 - r_1.2.2.2.2.2.2.2.2.2.2.2.2.2.2.2.2.2.2.2.1) = 0)))) .a) ?_
 refine W_cz ((decide (0 < n)) && (decide ((r_1.2.2.2.2.2.2.2.2.2.2.2.2.2.2.1 - r_1.2.2.2.2.2.2.2.2.2.2.2.2.2.2.2.2.2.2.2.1) = 0))) (fun hc1 => ?_) fun hc1 => ?_
 · rw [if_pos hc1] at hm
   refine W_seq <| Wq (.n 4 (sl none 0 0) (.n 5 (I 70) .z)) ?_
   refine W_ret (At_tr ?_)
   have k_8 := k_7.nil e8
   obtain rfl := si hm
   refine At_rz [sl none 0 0, I 70] qe ?_
   have k_9 := (((((((((k_8.pk (.t (.t (.t (.t (.t (.t (.t (.t .h))))))))).pk (.t (.t (.t (.t (.t (.t (.t (.t .h))))))))).pk (.t (.t (.t (.t (.t (.t (.t (.t .h))))))))).pk (.t (.t (.t (.t (.t (.t (.t (.t .h))))))))).pk (.t (.t (.t (.t (.t (.t (.t (.t .h))))))))).pk (.t (.t (.t (.t (.t (.t (.t (.t .h))))))))).pk (.t (.t (.t (.t (.t (.t (.t (.t .h))))))))).pk (.t (.t (.t (.t (.t (.t (.t (.t .h))))))))).pk (.t (.t (.t (.t (.t (.t (.t (.t .h))))))))).pk (.t (.t (.t (.t (.t (.t (.t (.t (.t .h)))))))))
   exact ⟨none, 0, 0, A12, r_1.2.2.2.1.length, c12, A13, r_1.2.2.2.2.2.2.2.1.length, c13, A14, r_1.2.2.2.2.2.2.2.2.1.length, c14, A15, r_1.2.2.2.2.2.2.2.2.2.2.2.2.2.2.2.2.1.length, c15, A16, r_1.2.2.2.2.2.2.2.2.2.2.2.2.2.2.2.2.2.1.length, c16, A17, r_1.2.2.2.2.2.2.2.2.2.2.2.2.2.2.2.2.2.2.1.length, c17, k_9.len 0 rfl, k_9.len 2 rfl, k_9.len 4 rfl, k_9.len 5 rfl, k_9.len 7 rfl, k_9.len 8 rfl, k_9.len 9 rfl, rfl, k_9⟩
 rw [if_neg (by rw [hc1]; decide)] at hm
 refine W_skip <| At_go <| W_cut (fun L wr => ∃ (n8 : Int), m_xof_Stream_Read_j0 x_root r_1 n8 = some r ∧ L = [(0, pt g_x 0), (1, I n8)] ∧ Cx F O w wr [Bx 52 g_x [I r_1.2.2.2.2.2.2.2.2.2.2.2.1, I r_1.2.2.2.2.2.2.2.2.2.2.2.2.1, .u32 r_1.2.2.2.2.2.2.2.2.2.2.2.2.2.1, .u64 r_1.2.2.2.2.2.2.2.2.2.2.2.2.2.2.1, .b r_1.2.2.2.2.2.2.2.2.2.2.2.2.2.2.2.1, sl A15 r_1.2.2.2.2.2.2.2.2.2.2.2.2.2.2.2.2.1.length c15, sl A16 r_1.2.2.2.2.2.2.2.2.2.2.2.2.2.2.2.2.2.1.length c16, sl A17 r_1.2.2.2.2.2.2.2.2.2.2.2.2.2.2.2.2.2.2.1.length c17, pt g_x_n 0, sl (some ⟨g_x_root, 0, none⟩) x_root.length c_x_root, .u64 r_1.2.2.2.2.2.2.2.2.2.2.2.2.2.2.2.2.2.2.2.1, .ar e8 r_1.2.2.2.2.2.2.2.2.2.2.2.2.2.2.2.2.2.2.2.2.1, I r_1.2.2.2.2.2.2.2.2.2.2.2.2.2.2.2.2.2.2.2.2.2, .v (.func (.func 30) ⟨SV.vals [pt g_x 0]⟩ ⟨SV.vals []⟩)], Ow e8 A15 r_1.2.2.2.2.2.2.2.2.2.2.2.2.2.2.2.2.1.length c15 r_1.2.2.2.2.2.2.2.2.2.2.2.2.2.2.2.2.1, Ow e8 A16 r_1.2.2.2.2.2.2.2.2.2.2.2.2.2.2.2.2.2.1.length c16 r_1.2.2.2.2.2.2.2.2.2.2.2.2.2.2.2.2.2.1, Ow e8 A17 r_1.2.2.2.2.2.2.2.2.2.2.2.2.2.2.2.2.2.2.1.length c17 r_1.2.2.2.2.2.2.2.2.2.2.2.2.2.2.2.2.2.2.1, Bx 77 g_x_n [I r_1.2.2.2.2.2.1, I r_1.2.2.2.2.2.2.1, sl A13 r_1.2.2.2.2.2.2.2.1.length c13, sl A14 r_1.2.2.2.2.2.2.2.2.1.length c14, .b r_1.2.2.2.2.2.2.2.2.2.1, .u64 r_1.2.2.2.2.2.2.2.2.2.2.1, .v (.iface 114 (SV.val (pt g_x_n_e 0)))], Ow e8 A13 r_1.2.2.2.2.2.2.2.1.length c13 r_1.2.2.2.2.2.2.2.1, Ow e8 A14 r_1.2.2.2.2.2.2.2.2.1.length c14 r_1.2.2.2.2.2.2.2.2.1, Bx 120 g_x_n_e [.ar e64 r_1.1, .u64 r_1.2.1, .u64 r_1.2.2.1, sl A12 r_1.2.2.2.1.length c12, I r_1.2.2.2.2.1, .v (.func (.func 62) ⟨SV.vals []⟩ ⟨SV.vals []⟩), .v (.func (.func 63) ⟨SV.vals []⟩ ⟨SV.vals []⟩)], Ow e8 A12 r_1.2.2.2.1.length c12 r_1.2.2.2.1]) ?_ ?_
 ·
  refine W_seq <| Wq (.n 40 (.b (decide ((r_1.2.2.2.2.2.2.2.2.2.2.2.2.2.2.1 - r_1.2.2.2.2.2.2.2.2.2.2.2.2.2.2.2.2.2.2.2.1) < (UInt64.ofInt n)))) (.s .a)) ?_
  refine W_pz ((r_1.2.2.2.2.2.2.2.2.2.2.2.2.2.2.1 - r_1.2.2.2.2.2.2.2.2.2.2.2.2.2.2.2.2.2.2.2.1) < (UInt64.ofInt n)) (fun hc2 => ?_) fun hc2 => ?_
  · rw [if_pos hc2] at hm
    refine W_q [] (.n 1 (I (w64 (r_1.2.2.2.2.2.2.2.2.2.2.2.2.2.2.1 - r_1.2.2.2.2.2.2.2.2.2.2.2.2.2.2.2.2.2.2.2.1).toNat)) (.ss (.k .z))) qe (by kernel_rfl) ?_
    have k_10 := ((((((((k_7.pk (.t .h)).pk (.t .h)).pk (.t (.t (.t (.t .h))))).pk (.t (.t (.t (.t .h))))).pk (.t (.t (.t (.t .h))))).pk (.t (.t (.t (.t (.t (.t (.t (.t .h))))))))).pk (.t (.t (.t (.t (.t (.t (.t (.t .h))))))))).pk (.t (.t (.t (.t (.t (.t (.t (.t .h))))))))).pk (.t (.t (.t (.t (.t (.t (.t (.t .h))))))))
    exact At_cz ⟨w64 (r_1.2.2.2.2.2.2.2.2.2.2.2.2.2.2.1 - r_1.2.2.2.2.2.2.2.2.2.2.2.2.2.2.2.2.2.2.2.1).toNat, hm, rfl, k_10⟩
  rw [if_neg hc2] at hm
  refine W_skip ?_
  have k_11 := ((((((((k_7.pk (.t .h)).pk (.t .h)).pk (.t (.t (.t (.t .h))))).pk (.t (.t (.t (.t .h))))).pk (.t (.t (.t (.t .h))))).pk (.t (.t (.t (.t (.t (.t (.t (.t .h))))))))).pk (.t (.t (.t (.t (.t (.t (.t (.t .h))))))))).pk (.t (.t (.t (.t (.t (.t (.t (.t .h))))))))).pk (.t (.t (.t (.t (.t (.t (.t (.t .h))))))))
  exact At_cz ⟨n, hm, rfl, k_11⟩
 rintro L_ w_2 ⟨n8, hm, rfl, k_12⟩
 simp only [m_xof_Stream_Read_j0] at hm
 refine W_seq <| Wq (.n 7 (sl none 0 0) .a) ?_
 refine W_seq <| W_block ?_
 have k_14 := k_12.nil e8
 refine W_lp (m_xof_Stream_Read_l0 x_root r_1 n8) (fun s L wr => ∃ (x_0 : UInt64) (x_24 : Vec UInt8 64) (x_25 : Int) (out : List UInt8) (A18 : Option Addr) (n9 : Nat) (c18 : Nat), (x_0, x_24, x_25, out) = s ∧ L = [(0, pt g_x 0), (1, I n8), (7, sl A18 n9 c18)] ∧ out.length = n9 ∧ Cx F O w wr [Bx 52 g_x [I r_1.2.2.2.2.2.2.2.2.2.2.2.1, I r_1.2.2.2.2.2.2.2.2.2.2.2.2.1, .u32 r_1.2.2.2.2.2.2.2.2.2.2.2.2.2.1, .u64 r_1.2.2.2.2.2.2.2.2.2.2.2.2.2.2.1, .b r_1.2.2.2.2.2.2.2.2.2.2.2.2.2.2.2.1, sl A15 r_1.2.2.2.2.2.2.2.2.2.2.2.2.2.2.2.2.1.length c15, sl A16 r_1.2.2.2.2.2.2.2.2.2.2.2.2.2.2.2.2.2.1.length c16, sl A17 r_1.2.2.2.2.2.2.2.2.2.2.2.2.2.2.2.2.2.2.1.length c17, pt g_x_n 0, sl (some ⟨g_x_root, 0, none⟩) x_root.length c_x_root, .u64 x_0, .ar e8 x_24, I x_25, .v (.func (.func 30) ⟨SV.vals [pt g_x 0]⟩ ⟨SV.vals []⟩)], Ow e8 A15 r_1.2.2.2.2.2.2.2.2.2.2.2.2.2.2.2.2.1.length c15 r_1.2.2.2.2.2.2.2.2.2.2.2.2.2.2.2.2.1, Ow e8 A16 r_1.2.2.2.2.2.2.2.2.2.2.2.2.2.2.2.2.2.1.length c16 r_1.2.2.2.2.2.2.2.2.2.2.2.2.2.2.2.2.2.1, Ow e8 A17 r_1.2.2.2.2.2.2.2.2.2.2.2.2.2.2.2.2.2.2.1.length c17 r_1.2.2.2.2.2.2.2.2.2.2.2.2.2.2.2.2.2.2.1, Bx 77 g_x_n [I r_1.2.2.2.2.2.1, I r_1.2.2.2.2.2.2.1, sl A13 r_1.2.2.2.2.2.2.2.1.length c13, sl A14 r_1.2.2.2.2.2.2.2.2.1.length c14, .b r_1.2.2.2.2.2.2.2.2.2.1, .u64 r_1.2.2.2.2.2.2.2.2.2.2.1, .v (.iface 114 (SV.val (pt g_x_n_e 0)))], Ow e8 A13 r_1.2.2.2.2.2.2.2.1.length c13 r_1.2.2.2.2.2.2.2.1, Ow e8 A14 r_1.2.2.2.2.2.2.2.2.1.length c14 r_1.2.2.2.2.2.2.2.2.1, Bx 120 g_x_n_e [.ar e64 r_1.1, .u64 r_1.2.1, .u64 r_1.2.2.1, sl A12 r_1.2.2.2.1.length c12, I r_1.2.2.2.2.1, .v (.func (.func 62) ⟨SV.vals []⟩ ⟨SV.vals []⟩), .v (.func (.func 63) ⟨SV.vals []⟩ ⟨SV.vals []⟩)], Ow e8 A12 r_1.2.2.2.1.length c12 r_1.2.2.2.1, Ow e8 A18 n9 c18 out]) (r_1.2.2.2.2.2.2.2.2.2.2.2.2.2.2.2.2.2.2.2.1, r_1.2.2.2.2.2.2.2.2.2.2.2.2.2.2.2.2.2.2.2.2.1, r_1.2.2.2.2.2.2.2.2.2.2.2.2.2.2.2.2.2.2.2.2.2, ([] : List UInt8)) r hm ⟨r_1.2.2.2.2.2.2.2.2.2.2.2.2.2.2.2.2.2.2.2.1, r_1.2.2.2.2.2.2.2.2.2.2.2.2.2.2.2.2.2.2.2.2.1, r_1.2.2.2.2.2.2.2.2.2.2.2.2.2.2.2.2.2.2.2.2.2, ([] : List UInt8), none, 0, 0, rfl, rfl, k_14.len 9 rfl, k_14⟩ (by kernel_rfl) ?_
 intro s0_ L_ w_3 y0 hrel hstep hr0
 obtain ⟨x_0, x_24, x_25, out, A18, _, c18, rfl, rfl, rfl, k_13⟩ := hrel
 have hm := hstep; simp only [m_xof_Stream_Read_l0] at hm
 clear hstep
 refine W_seq <| W_seq <| Wq (.n 46 (.b (decide ((out.length : Int) < n8))) .a) ?_
 refine W_pz ((out.length : Int) < n8) (fun hc3 => ?_) fun hc3 => ?_
 · rw [if_pos hc3] at hm
   refine W_skip <| At_go <| W_block <| W_seq ?_
   obtain ⟨u, h_u, hm⟩ := ob hm
   refine W_d ws_mixed (by kernel_rfl) (.n 8 (.u64 (x_0 / (UInt64.ofInt r_1.2.2.2.2.2.2.2.2.2.2.2.2.1))) (.s .a)) (fun m => qs g_x 0 <| qs g_x 0 <| qB (k_13.drew m) 0 rfl 10 (.u64 x_0) (by kernel_rfl) <| qs g_x 0 <| qs g_x 0 <| qs g_x 0 <| qB (k_13.drew m) 0 rfl 1 (I r_1.2.2.2.2.2.2.2.2.2.2.2.2.1) (by kernel_rfl) <| qp ((UInt64.ofInt r_1.2.2.2.2.2.2.2.2.2.2.2.2.1) ≠ 0) (need_some h_u) <| qe) (by kernel_rfl) (fun m_1 => ?_)
   have k_15 := k_13.drew m_1
   refine At_go <| W_cut (fun L wr => ∃ (x_26 : Vec UInt8 64) (x_27 : Int), m_xof_Stream_Read_j1 r_1 n8 x_0 out x_26 x_27 = some y0 ∧ L = [(0, pt g_x 0), (1, I n8), (7, sl A18 out.length c18)] ∧ Cx F O w wr [Bx 52 g_x [I r_1.2.2.2.2.2.2.2.2.2.2.2.1, I r_1.2.2.2.2.2.2.2.2.2.2.2.2.1, .u32 r_1.2.2.2.2.2.2.2.2.2.2.2.2.2.1, .u64 r_1.2.2.2.2.2.2.2.2.2.2.2.2.2.2.1, .b r_1.2.2.2.2.2.2.2.2.2.2.2.2.2.2.2.1, sl A15 r_1.2.2.2.2.2.2.2.2.2.2.2.2.2.2.2.2.1.length c15, sl A16 r_1.2.2.2.2.2.2.2.2.2.2.2.2.2.2.2.2.2.1.length c16, sl A17 r_1.2.2.2.2.2.2.2.2.2.2.2.2.2.2.2.2.2.2.1.length c17, pt g_x_n 0, sl (some ⟨g_x_root, 0, none⟩) x_root.length c_x_root, .u64 x_0, .ar e8 x_26, I x_27, .v (.func (.func 30) ⟨SV.vals [pt g_x 0]⟩ ⟨SV.vals []⟩)], Ow e8 A15 r_1.2.2.2.2.2.2.2.2.2.2.2.2.2.2.2.2.1.length c15 r_1.2.2.2.2.2.2.2.2.2.2.2.2.2.2.2.2.1, Ow e8 A16 r_1.2.2.2.2.2.2.2.2.2.2.2.2.2.2.2.2.2.1.length c16 r_1.2.2.2.2.2.2.2.2.2.2.2.2.2.2.2.2.2.1, Ow e8 A17 r_1.2.2.2.2.2.2.2.2.2.2.2.2.2.2.2.2.2.2.1.length c17 r_1.2.2.2.2.2.2.2.2.2.2.2.2.2.2.2.2.2.2.1, Bx 77 g_x_n [I r_1.2.2.2.2.2.1, I r_1.2.2.2.2.2.2.1, sl A13 r_1.2.2.2.2.2.2.2.1.length c13, sl A14 r_1.2.2.2.2.2.2.2.2.1.length c14, .b r_1.2.2.2.2.2.2.2.2.2.1, .u64 r_1.2.2.2.2.2.2.2.2.2.2.1, .v (.iface 114 (SV.val (pt g_x_n_e 0)))], Ow e8 A13 r_1.2.2.2.2.2.2.2.1.length c13 r_1.2.2.2.2.2.2.2.1, Ow e8 A14 r_1.2.2.2.2.2.2.2.2.1.length c14 r_1.2.2.2.2.2.2.2.2.1, Bx 120 g_x_n_e [.ar e64 r_1.1, .u64 r_1.2.1, .u64 r_1.2.2.1, sl A12 r_1.2.2.2.1.length c12, I r_1.2.2.2.2.1, .v (.func (.func 62) ⟨SV.vals []⟩ ⟨SV.vals []⟩), .v (.func (.func 63) ⟨SV.vals []⟩ ⟨SV.vals []⟩)], Ow e8 A12 r_1.2.2.2.1.length c12 r_1.2.2.2.1, Ow e8 A18 out.length c18 out]) ?_ ?_
   ·
    refine W_seq <| Wa (.n 64 (.b (decide (x_25 ≠ (w64 (x_0 / (UInt64.ofInt r_1.2.2.2.2.2.2.2.2.2.2.2.2.1)).toNat)))) .a) (qs g_x 0 <| qs g_x 0 <| qB k_15 0 rfl 75 (I x_25) (by kernel_rfl) <| qe) ?_
    refine W_pz (x_25 ≠ (w64 (x_0 / (UInt64.ofInt r_1.2.2.2.2.2.2.2.2.2.2.2.2.1)).toNat)) (fun hc4 => ?_) fun hc4 => ?_
    · rw [if_pos hc4] at hm
      refine W_seq ?_
      have k_16 := k_15.drew 1
      refine W_m ws_mixed (.q 20 0 (.q 0 2 (.q 1 2 (.q 2 1 (.q 3 1 (.q 4 2 (.q 5 2 (.q 6 1 (.q 7 0 (.q 8 2 (.q 9 2 (.q 10 1 (.q 11 0 (.q 12 2 (.q 13 2 (.q 14 1 (.q 15 0 (.q 16 2 (.q 17 2 (.q 18 1 (.q 19 0 (.op 21 (.op 22 .nil))))))))))))))))))))))) [21, 22] k_16 (.c (.kkkk (.kkkk (.kk .e))) (.c (.s (.kkkk (.kkkk (.k .e)))) .l)) (by kernel_rfl) (fun _ => ?_)
      refine MXz 1 0 (.n 85 (.u64 (x_0 / (UInt64.ofInt r_1.2.2.2.2.2.2.2.2.2.2.2.2.1))) (.s .a)) (fun x hx => qe) fun _ => ?_
      refine MXz 2 2 (.n 66 (pt g_x 0) .a) (fun x hx => qs g_x 0 <| qe) fun _ => ?_
      refine MXz 2 1 (.n 68 (sl (some ⟨g_x, 11, none⟩) 64 64) (.s .a)) (fun x hx => qs g_x 0 <| qo (.v (.slice (some ⟨g_x, 11, none⟩) 64 64)) <| qp (((some ⟨g_x, 11, none⟩) : Option Addr).isSome = true ∧ Value.slice (slA (some ⟨g_x, 11, none⟩) 0 64 1) (64 - 0) (64 - 0) = .slice (some ⟨g_x, 11, none⟩) 64 64) ⟨rfl, slx0 _ _ _ _ _ rfl⟩ <| qe) fun _ => ?_
      refine MXz 2 2 (.n 70 (pt g_x 0) .a) (fun x hx => qs g_x 0 <| qe) fun _ => ?_
      refine MXz 1 1 (.n 71 (pt g_x 0) (.s .a)) (fun x hx => qs g_x 0 <| qe) fun _ => ?_
      refine MXz 1 0 (.n 72 (.agg [I r_1.2.2.2.2.2.2.2.2.2.2.2.1, I r_1.2.2.2.2.2.2.2.2.2.2.2.2.1, .u32 r_1.2.2.2.2.2.2.2.2.2.2.2.2.2.1, .u64 r_1.2.2.2.2.2.2.2.2.2.2.2.2.2.2.1, .b r_1.2.2.2.2.2.2.2.2.2.2.2.2.2.2.2.1]) (.s .a)) (fun x hx => qT hx 0 rfl 0 5 [I r_1.2.2.2.2.2.2.2.2.2.2.2.1, I r_1.2.2.2.2.2.2.2.2.2.2.2.2.1, .u32 r_1.2.2.2.2.2.2.2.2.2.2.2.2.2.1, .u64 r_1.2.2.2.2.2.2.2.2.2.2.2.2.2.2.1, .b r_1.2.2.2.2.2.2.2.2.2.2.2.2.2.2.2.1] (by kernel_rfl) (by decide) <| qe) fun _ => ?_
      refine MXz 2 2 (.n 74 (pt g_x 0) .a) (fun x hx => qs g_x 0 <| qe) fun _ => ?_
      refine MXz 1 1 (.n 75 (pt g_x 6) (.s .a)) (fun x hx => qs g_x 0 <| qe) fun _ => ?_
      refine MXz 1 0 (.n 76 (sl A16 r_1.2.2.2.2.2.2.2.2.2.2.2.2.2.2.2.2.2.1.length c16) (.s .a)) (fun x hx => qB hx 0 rfl 6 (sl A16 r_1.2.2.2.2.2.2.2.2.2.2.2.2.2.2.2.2.2.1.length c16) (by kernel_rfl) <| qe) fun _ => ?_
      refine MXz 2 2 (.n 78 (pt g_x 0) .a) (fun x hx => qs g_x 0 <| qe) fun _ => ?_
      refine MXz 1 1 (.n 79 (pt g_x 7) (.s .a)) (fun x hx => qs g_x 0 <| qe) fun _ => ?_
      refine MXz 1 0 (.n 80 (sl A17 r_1.2.2.2.2.2.2.2.2.2.2.2.2.2.2.2.2.2.2.1.length c17) (.s .a)) (fun x hx => qB hx 0 rfl 7 (sl A17 r_1.2.2.2.2.2.2.2.2.2.2.2.2.2.2.2.2.2.2.1.length c17) (by kernel_rfl) <| qe) fun _ => ?_
      refine MXz 2 2 (.n 82 (pt g_x 0) .a) (fun x hx => qs g_x 0 <| qe) fun _ => ?_
      refine MXz 1 1 (.n 83 (pt g_x 9) (.s .a)) (fun x hx => qs g_x 0 <| qe) fun _ => ?_
      refine MXz 1 0 (.n 84 (sl (some ⟨g_x_root, 0, none⟩) x_root.length c_x_root) (.s .a)) (fun x hx => qB hx 0 rfl 9 (sl (some ⟨g_x_root, 0, none⟩) x_root.length c_x_root) (by kernel_rfl) <| qe) fun _ => ?_
      refine MX_op (by kernel_rfl) rfl ?_
      obtain ⟨r_2, h_r_2, hm⟩ := ob hm
      refine Op_cz 86 ws_go18 (c_xof_shape_piece (F := N0) (O := N0) _ _ _ _ _ _ _ _ _ _ _ _ _ _ _ _ _ _ (Ro.n0 (k_16.rd 2 rfl)) (k_16.len 2 rfl) (k_16.lec 2 rfl) (Ro.n0 (k_16.rd 3 rfl)) (k_16.len 3 rfl) (k_16.lec 3 rfl) (Ro.n0 (h_x_root.cx k_16)) rfl hc_x_root (Cx.refl _) _ h_r_2) ?_
      rintro e_ w_4 ⟨A19, _, c19, rfl, rfl, k_17⟩
      have k_18 := k_16.call k_17
      refine ⟨sl A19 r_2.length c19, rfl, ?_⟩
      refine ⟨(k_18.sel (.kkkk (.kkkk (.kk .z)))), fun _ => ?_⟩
      refine MX_op (by kernel_rfl) rfl <| Op_vcp (E := e8) (dn := 64) (dc := 64) (v := sl A19 r_2.length c19) (src := r_2) (lo := 0) (m' := 64) ws_tf23 [] 87 0 [I r_1.2.2.2.2.2.2.2.2.2.2.2.1, I r_1.2.2.2.2.2.2.2.2.2.2.2.2.1, .u32 r_1.2.2.2.2.2.2.2.2.2.2.2.2.2.1, .u64 r_1.2.2.2.2.2.2.2.2.2.2.2.2.2.2.1, .b r_1.2.2.2.2.2.2.2.2.2.2.2.2.2.2.2.1, sl A15 r_1.2.2.2.2.2.2.2.2.2.2.2.2.2.2.2.2.1.length c15, sl A16 r_1.2.2.2.2.2.2.2.2.2.2.2.2.2.2.2.2.2.1.length c16, sl A17 r_1.2.2.2.2.2.2.2.2.2.2.2.2.2.2.2.2.2.2.1.length c17, pt g_x_n 0, sl (some ⟨g_x_root, 0, none⟩) x_root.length c_x_root, .u64 x_0] [I x_25, .v (.func (.func 30) ⟨SV.vals [pt g_x 0]⟩ ⟨SV.vals []⟩)] x_24 (by kernel_rfl) (slA_zero _ _ _).symm k_18 rfl (Src.sl (k_18.rd 10 rfl) (k_18.len 10 rfl) (by rfl)) (k_18.len 10 rfl) (by have := x_24.h; omega) (by omega) (by omega) ?_
      intro w_5 k_19
      refine ⟨(k_19.sel (.s (.kkkk (.kkkk (.k .z))))), fun _ => ?_⟩
      refine MX_nil <| At_go <| W_reg <| Wl 5 (.n 90 (I (w64 (x_0 / (UInt64.ofInt r_1.2.2.2.2.2.2.2.2.2.2.2.2.1)).toNat)) (.n 92 (pt g_x 75) (.ssss (.ssss (.s .a))))) (qs g_x 0 <| qs g_x 0 <| qe) ?_
      refine WL_op <| Op_bz 0 (I (w64 (x_0 / (UInt64.ofInt r_1.2.2.2.2.2.2.2.2.2.2.2.2.1)).toNat)) [I (w64 (x_0 / (UInt64.ofInt r_1.2.2.2.2.2.2.2.2.2.2.2.2.1)).toNat)] (Pt.at g_x 75) k_19 rfl (.kkkk (.kkkk (.kkkk .h))) ?_
      intro w_6 k_20
      have k_21 := k_20.sel (.kkkk (.kkkk (.kk .z)))
      refine WL_nil ?_
      exact At_cz ⟨(vcp x_24 0 64 r_2), w64 (x_0 / (UInt64.ofInt r_1.2.2.2.2.2.2.2.2.2.2.2.2.1)).toNat, hm, rfl, k_21⟩
    rw [if_neg hc4] at hm
    refine W_skip ?_
    exact At_cz ⟨x_24, x_25, hm, rfl, k_15⟩
   rintro L_ w_7 ⟨x_26, x_27, hm, rfl, k_22⟩
   simp only [m_xof_Stream_Read_j1] at hm
   refine W_seq ?_
   obtain ⟨u1, h_u1, hm⟩ := ob hm
   refine W_d ws_mixed (by kernel_rfl) (.n 9 (I (w64 (x_0 % (UInt64.ofInt r_1.2.2.2.2.2.2.2.2.2.2.2.2.1)).toNat)) .a) (fun m => qs g_x 0 <| qs g_x 0 <| qB (k_22.drew m) 0 rfl 10 (.u64 x_0) (by kernel_rfl) <| qs g_x 0 <| qs g_x 0 <| qs g_x 0 <| qB (k_22.drew m) 0 rfl 1 (I r_1.2.2.2.2.2.2.2.2.2.2.2.2.1) (by kernel_rfl) <| qp ((UInt64.ofInt r_1.2.2.2.2.2.2.2.2.2.2.2.2.1) ≠ 0) (need_some h_u1) <| qe) (by kernel_rfl) (fun m_2 => ?_)
   have k_23 := k_22.drew m_2
   refine At_go <| W_seq <| Wa (.n 10 (I (if w64 (r_1.2.2.2.2.2.2.2.2.2.2.2.2.1 - (w64 (x_0 % (UInt64.ofInt r_1.2.2.2.2.2.2.2.2.2.2.2.2.1)).toNat)) < w64 (n8 - (out.length : Int)) then w64 (r_1.2.2.2.2.2.2.2.2.2.2.2.2.1 - (w64 (x_0 % (UInt64.ofInt r_1.2.2.2.2.2.2.2.2.2.2.2.2.1)).toNat)) else w64 (n8 - (out.length : Int)))) .a) (qs g_x 0 <| qs g_x 0 <| qs g_x 0 <| qB k_23 0 rfl 1 (I r_1.2.2.2.2.2.2.2.2.2.2.2.2.1) (by kernel_rfl) <| qe) ?_
   refine W_seq <| W_reg ?_
   obtain ⟨b, h_b, hm⟩ := ob hm
   have hs := slc_some h_b
   have hl := slc_len h_b
   have hn : x_26.l.length = 64 := x_26.h
   have hc5 : 64 ≤ 64 := (Nat.le_refl _)
   obtain ⟨A20, c20, e_, hc6, hA, hc7⟩ := slx (some ⟨g_x, 11, none⟩) (Int.toNat (w64 (x_0 % (UInt64.ofInt r_1.2.2.2.2.2.2.2.2.2.2.2.2.1)).toNat)) 64 1 (Int.toNat (w64 ((w64 (x_0 % (UInt64.ofInt r_1.2.2.2.2.2.2.2.2.2.2.2.2.1)).toNat) + (if w64 (r_1.2.2.2.2.2.2.2.2.2.2.2.2.1 - (w64 (x_0 % (UInt64.ofInt r_1.2.2.2.2.2.2.2.2.2.2.2.2.1)).toNat)) < w64 (n8 - (out.length : Int)) then w64 (r_1.2.2.2.2.2.2.2.2.2.2.2.2.1 - (w64 (x_0 % (UInt64.ofInt r_1.2.2.2.2.2.2.2.2.2.2.2.2.1)).toNat)) else w64 (n8 - (out.length : Int))))) - Int.toNat (w64 (x_0 % (UInt64.ofInt r_1.2.2.2.2.2.2.2.2.2.2.2.2.1)).toNat)) b.length (by omega) (by omega)
   refine Wl 9 (.n 117 (sl A18 out.length c18) (.n 125 (sl A20 b.length c20) (.k (.s .a)))) (qs g_x 0 <| qs g_x 0 <| qp (0 ≤ w64 ((w64 (x_0 % (UInt64.ofInt r_1.2.2.2.2.2.2.2.2.2.2.2.2.1)).toNat) + (if w64 (r_1.2.2.2.2.2.2.2.2.2.2.2.2.1 - (w64 (x_0 % (UInt64.ofInt r_1.2.2.2.2.2.2.2.2.2.2.2.2.1)).toNat)) < w64 (n8 - (out.length : Int)) then w64 (r_1.2.2.2.2.2.2.2.2.2.2.2.2.1 - (w64 (x_0 % (UInt64.ofInt r_1.2.2.2.2.2.2.2.2.2.2.2.2.1)).toNat)) else w64 (n8 - (out.length : Int)))) ∧ w64 ((w64 (x_0 % (UInt64.ofInt r_1.2.2.2.2.2.2.2.2.2.2.2.2.1)).toNat) + (if w64 (r_1.2.2.2.2.2.2.2.2.2.2.2.2.1 - (w64 (x_0 % (UInt64.ofInt r_1.2.2.2.2.2.2.2.2.2.2.2.2.1)).toNat)) < w64 (n8 - (out.length : Int)) then w64 (r_1.2.2.2.2.2.2.2.2.2.2.2.2.1 - (w64 (x_0 % (UInt64.ofInt r_1.2.2.2.2.2.2.2.2.2.2.2.2.1)).toNat)) else w64 (n8 - (out.length : Int)))) ≤ ((64 : Nat) : Int)) (by omega) <| qp (0 ≤ w64 (x_0 % (UInt64.ofInt r_1.2.2.2.2.2.2.2.2.2.2.2.2.1)).toNat ∧ w64 (x_0 % (UInt64.ofInt r_1.2.2.2.2.2.2.2.2.2.2.2.2.1)).toNat ≤ ((Int.toNat (w64 ((w64 (x_0 % (UInt64.ofInt r_1.2.2.2.2.2.2.2.2.2.2.2.2.1)).toNat) + (if w64 (r_1.2.2.2.2.2.2.2.2.2.2.2.2.1 - (w64 (x_0 % (UInt64.ofInt r_1.2.2.2.2.2.2.2.2.2.2.2.2.1)).toNat)) < w64 (n8 - (out.length : Int)) then w64 (r_1.2.2.2.2.2.2.2.2.2.2.2.2.1 - (w64 (x_0 % (UInt64.ofInt r_1.2.2.2.2.2.2.2.2.2.2.2.2.1)).toNat)) else w64 (n8 - (out.length : Int))))) : Nat) : Int)) (by omega) <| qo (.v (.slice A20 b.length c20)) <| qp (((some ⟨g_x, 11, none⟩) : Option Addr).isSome = true ∧ Value.slice (slA (some ⟨g_x, 11, none⟩) (Int.toNat (w64 (x_0 % (UInt64.ofInt r_1.2.2.2.2.2.2.2.2.2.2.2.2.1)).toNat)) 64 1) (Int.toNat (w64 ((w64 (x_0 % (UInt64.ofInt r_1.2.2.2.2.2.2.2.2.2.2.2.2.1)).toNat) + (if w64 (r_1.2.2.2.2.2.2.2.2.2.2.2.2.1 - (w64 (x_0 % (UInt64.ofInt r_1.2.2.2.2.2.2.2.2.2.2.2.2.1)).toNat)) < w64 (n8 - (out.length : Int)) then w64 (r_1.2.2.2.2.2.2.2.2.2.2.2.2.1 - (w64 (x_0 % (UInt64.ofInt r_1.2.2.2.2.2.2.2.2.2.2.2.2.1)).toNat)) else w64 (n8 - (out.length : Int))))) - Int.toNat (w64 (x_0 % (UInt64.ofInt r_1.2.2.2.2.2.2.2.2.2.2.2.2.1)).toNat)) (64 - Int.toNat (w64 (x_0 % (UInt64.ofInt r_1.2.2.2.2.2.2.2.2.2.2.2.2.1)).toNat)) = .slice A20 b.length c20) ⟨rfl, e_⟩ <| qe) ?_
   refine WL_op ?_
   obtain ⟨out1, h_out1, hm⟩ := ob hm
   obtain ⟨hz, hl1⟩ := app_some h_out1
   refine Op_append (E := e8) (v := sl A20 b.length c20) (ys := b) ws_tf23 [] 126 9 (by kernel_rfl) k_23 rfl (Src.sl (Rd.cut (Rd.vec (k_23.brd 0 rfl) (c := Enc.all e8 x_26.l) (off := 11) (by kernel_rfl)) h_b rfl (by rfl) hA (by omega)) rfl (by rfl)) rfl (by have := k_23.len 9 rfl; have := hm; omega) ?_
   intro A21 c21 w_8 k_24
   rw [← hl1] at k_24
   refine We 1 (.n 7 (sl A21 (out.length + b.length) c21) (.sss (.kkk .z))) ?_
   refine Wn <| W_reg <| Wl 9 (.n 133 (.u64 (x_0 + (UInt64.ofInt (if w64 (r_1.2.2.2.2.2.2.2.2.2.2.2.2.1 - (w64 (x_0 % (UInt64.ofInt r_1.2.2.2.2.2.2.2.2.2.2.2.2.1)).toNat)) < w64 (n8 - (out.length : Int)) then w64 (r_1.2.2.2.2.2.2.2.2.2.2.2.2.1 - (w64 (x_0 % (UInt64.ofInt r_1.2.2.2.2.2.2.2.2.2.2.2.2.1)).toNat)) else w64 (n8 - (out.length : Int)))))) (.n 135 (pt g_x 10) (.k (.s .a)))) (qs g_x 0 <| qs g_x 0 <| qB k_24 0 rfl 10 (.u64 x_0) (by kernel_rfl) <| qs g_x 0 <| qs g_x 0 <| qe) ?_
   refine WL_op <| Op_bz 0 (.u64 (x_0 + (UInt64.ofInt (if w64 (r_1.2.2.2.2.2.2.2.2.2.2.2.2.1 - (w64 (x_0 % (UInt64.ofInt r_1.2.2.2.2.2.2.2.2.2.2.2.2.1)).toNat)) < w64 (n8 - (out.length : Int)) then w64 (r_1.2.2.2.2.2.2.2.2.2.2.2.2.1 - (w64 (x_0 % (UInt64.ofInt r_1.2.2.2.2.2.2.2.2.2.2.2.2.1)).toNat)) else w64 (n8 - (out.length : Int)))))) [.u64 (x_0 + (UInt64.ofInt (if w64 (r_1.2.2.2.2.2.2.2.2.2.2.2.2.1 - (w64 (x_0 % (UInt64.ofInt r_1.2.2.2.2.2.2.2.2.2.2.2.2.1)).toNat)) < w64 (n8 - (out.length : Int)) then w64 (r_1.2.2.2.2.2.2.2.2.2.2.2.2.1 - (w64 (x_0 % (UInt64.ofInt r_1.2.2.2.2.2.2.2.2.2.2.2.2.1)).toNat)) else w64 (n8 - (out.length : Int)))))] (Pt.at g_x 10) k_24 rfl (.kkkk (.kkkk (.kk .h))) ?_
   intro w_9 k_25
   refine WL_nil <| At_in ?_
   exact At_rd (x_0 + (UInt64.ofInt (if w64 (r_1.2.2.2.2.2.2.2.2.2.2.2.2.1 - (w64 (x_0 % (UInt64.ofInt r_1.2.2.2.2.2.2.2.2.2.2.2.2.1)).toNat)) < w64 (n8 - (out.length : Int)) then w64 (r_1.2.2.2.2.2.2.2.2.2.2.2.2.1 - (w64 (x_0 % (UInt64.ofInt r_1.2.2.2.2.2.2.2.2.2.2.2.2.1)).toNat)) else w64 (n8 - (out.length : Int)))), x_26, x_27, out1) (Option.some.inj hm).symm ⟨x_0 + (UInt64.ofInt (if w64 (r_1.2.2.2.2.2.2.2.2.2.2.2.2.1 - (w64 (x_0 % (UInt64.ofInt r_1.2.2.2.2.2.2.2.2.2.2.2.2.1)).toNat)) < w64 (n8 - (out.length : Int)) then w64 (r_1.2.2.2.2.2.2.2.2.2.2.2.2.1 - (w64 (x_0 % (UInt64.ofInt r_1.2.2.2.2.2.2.2.2.2.2.2.2.1)).toNat)) else w64 (n8 - (out.length : Int)))), x_26, x_27, out1, A21, out.length + b.length, c21, rfl, rfl, k_25.len 9 rfl, k_25⟩ (by kernel_rfl)
 rw [if_neg hc3] at hm
 refine W_exit (At_te (At_te (At_ie ?_)))
 have hm := exit_of hm hr0
 refine At_go <| W_seq <| Wq (.n 4 (sl A18 out.length c18) (.n 5 (I 0) .z)) ?_
 refine W_ret ?_
 obtain rfl := si hm
 refine At_rz [sl A18 out.length c18, I 0] qe ?_
 have k_26 := (((((((((k_13.pk (.t (.t (.t .h)))).pk (.t (.t (.t .h)))).pk (.t (.t (.t .h)))).pk (.t (.t (.t .h)))).pk (.t (.t (.t (.t (.t (.t .h))))))).pk (.t (.t (.t (.t (.t (.t .h))))))).pk (.t (.t (.t (.t (.t (.t .h))))))).pk (.t (.t (.t (.t (.t (.t (.t (.t .h))))))))).pk (.t (.t (.t (.t (.t (.t (.t (.t .h))))))))).pk (.t (.t (.t (.t (.t (.t (.t (.t (.t .h)))))))))
 exact ⟨A18, out.length, c18, A12, r_1.2.2.2.1.length, c12, A13, r_1.2.2.2.2.2.2.2.1.length, c13, A14, r_1.2.2.2.2.2.2.2.2.1.length, c14, A15, r_1.2.2.2.2.2.2.2.2.2.2.2.2.2.2.2.2.1.length, c15, A16, r_1.2.2.2.2.2.2.2.2.2.2.2.2.2.2.2.2.2.1.length, c16, A17, r_1.2.2.2.2.2.2.2.2.2.2.2.2.2.2.2.2.2.2.1.length, c17, k_26.len 0 rfl, k_26.len 2 rfl, k_26.len 4 rfl, k_26.len 5 rfl, k_26.len 7 rfl, k_26.len 8 rfl, k_26.len 9 rfl, rfl, k_26⟩
theorem c_xof_Stream_none_s2 (x_s_kind : Int) (x_s_full : Int) (x_s_code : UInt32) (x_s_total : UInt64) (x_s_known : Bool) (x_key : List UInt8) (x_salt : List UInt8) (x_personal : List UInt8) (x_n_kind : Int) (x_n_digest : Int) (x_n_block : List UInt8) (x_n_key : List UInt8) (x_n_last : Bool) (x_n_written : UInt64) (x_n_e_h : Vec UInt32 8) (x_n_e_count_Lo : UInt64) (x_n_e_count_Hi : UInt64) (x_n_e_held : List UInt8) (x_n_e_block : Int) (x_at : UInt64) (x_now : Vec UInt8 64) (x_have : Int) (g_x : Nat) (A_x_key : Option Addr) (n_x_key : Nat) (c_x_key : Nat) (A_x_salt : Option Addr) (n_x_salt : Nat) (c_x_salt : Nat) (A_x_personal : Option Addr) (n_x_personal : Nat) (c_x_personal : Nat) (g_x_n : Nat) (A_x_n_block : Option Addr) (n_x_n_block : Nat) (c_x_n_block : Nat) (A_x_n_key : Option Addr) (n_x_n_key : Nat) (c_x_n_key : Nat) (g_x_n_e : Nat) (A_x_n_e_held : Option Addr) (n_x_n_e_held : Nat) (c_x_n_e_held : Nat) (k : Cx F O w w [Bx 52 g_x [I x_s_kind, I x_s_full, .u32 x_s_code, .u64 x_s_total, .b x_s_known, sl A_x_key n_x_key c_x_key, sl A_x_salt n_x_salt c_x_salt, sl A_x_personal n_x_personal c_x_personal, pt g_x_n 0, sl none 0 0, .u64 x_at, .ar e8 x_now, I x_have, .v (.func (.func 28) ⟨SV.vals [pt g_x 0]⟩ ⟨SV.vals []⟩)], Ow e8 A_x_key n_x_key c_x_key x_key, Ow e8 A_x_salt n_x_salt c_x_salt x_salt, Ow e8 A_x_personal n_x_personal c_x_personal x_personal, Bx 77 g_x_n [I x_n_kind, I x_n_digest, sl A_x_n_block n_x_n_block c_x_n_block, sl A_x_n_key n_x_n_key c_x_n_key, .b x_n_last, .u64 x_n_written, .v (.iface 124 (SV.val (pt g_x_n_e 0)))], Ow e8 A_x_n_block n_x_n_block c_x_n_block x_n_block, Ow e8 A_x_n_key n_x_n_key c_x_n_key x_n_key, Bx 128 g_x_n_e [.ar e32 x_n_e_h, .u64 x_n_e_count_Lo, .u64 x_n_e_count_Hi, sl A_x_n_e_held n_x_n_e_held c_x_n_e_held, I x_n_e_block, .v (.func (.func 65) ⟨SV.vals []⟩ ⟨SV.vals []⟩), .v (.func (.func 66) ⟨SV.vals []⟩ ⟨SV.vals []⟩)], Ow e8 A_x_n_e_held n_x_n_e_held c_x_n_e_held x_n_e_held]) (r : (Vec UInt32 8 × UInt64 × UInt64 × List UInt8 × Int × Int × Int × List UInt8 × List UInt8 × Bool × UInt64 × Int × Int × UInt32 × UInt64 × Bool × List UInt8 × List UInt8 × List UInt8 × UInt64 × Vec UInt8 64 × Int)) (hm : m_xof_Stream_none_s2 x_s_kind x_s_full x_s_code x_s_total x_s_known x_key x_salt x_personal x_n_kind x_n_digest x_n_block x_n_key x_n_last x_n_written x_n_e_h x_n_e_count_Lo x_n_e_count_Hi x_n_e_held x_n_e_block x_at x_now x_have = some r) :
    Calls Try.prog 16 (vals [pt g_x 0]) w (fun e w' => ∃ A n c A1 n1 c1 A2 n2 c2 A3 n3 c3 A4 n4 c4 A5 n5 c5, r.2.2.2.1.length = n ∧ r.2.2.2.2.2.2.2.1.length = n1 ∧ r.2.2.2.2.2.2.2.2.1.length = n2 ∧ r.2.2.2.2.2.2.2.2.2.2.2.2.2.2.2.2.1.length = n3 ∧ r.2.2.2.2.2.2.2.2.2.2.2.2.2.2.2.2.2.1.length = n4 ∧ r.2.2.2.2.2.2.2.2.2.2.2.2.2.2.2.2.2.2.1.length = n5 ∧ e = .returned (SV.val (.b false)) ∧ Cx F O w w' [Bx 128 g_x_n_e [.ar e32 r.1, .u64 r.2.1, .u64 r.2.2.1, sl A n c, I r.2.2.2.2.1, .v (.func (.func 65) ⟨SV.vals []⟩ ⟨SV.vals []⟩), .v (.func (.func 66) ⟨SV.vals []⟩ ⟨SV.vals []⟩)], Ow e8 A n c r.2.2.2.1, Bx 77 g_x_n [I r.2.2.2.2.2.1, I r.2.2.2.2.2.2.1, sl A1 n1 c1, sl A2 n2 c2, .b r.2.2.2.2.2.2.2.2.2.1, .u64 r.2.2.2.2.2.2.2.2.2.2.1, .v (.iface 124 (SV.val (pt g_x_n_e 0)))], Ow e8 A1 n1 c1 r.2.2.2.2.2.2.2.1, Ow e8 A2 n2 c2 r.2.2.2.2.2.2.2.2.1, Bx 52 g_x [I r.2.2.2.2.2.2.2.2.2.2.2.1, I r.2.2.2.2.2.2.2.2.2.2.2.2.1, .u32 r.2.2.2.2.2.2.2.2.2.2.2.2.2.1, .u64 r.2.2.2.2.2.2.2.2.2.2.2.2.2.2.1, .b r.2.2.2.2.2.2.2.2.2.2.2.2.2.2.2.1, sl A3 n3 c3, sl A4 n4 c4, sl A5 n5 c5, pt g_x_n 0, sl none 0 0, .u64 r.2.2.2.2.2.2.2.2.2.2.2.2.2.2.2.2.2.2.2.1, .ar e8 r.2.2.2.2.2.2.2.2.2.2.2.2.2.2.2.2.2.2.2.2.1, I r.2.2.2.2.2.2.2.2.2.2.2.2.2.2.2.2.2.2.2.2.2, .v (.func (.func 28) ⟨SV.vals [pt g_x 0]⟩ ⟨SV.vals []⟩)], Ow e8 A3 n3 c3 r.2.2.2.2.2.2.2.2.2.2.2.2.2.2.2.2.1, Ow e8 A4 n4 c4 r.2.2.2.2.2.2.2.2.2.2.2.2.2.2.2.2.2.1, Ow e8 A5 n5 c5 r.2.2.2.2.2.2.2.2.2.2.2.2.2.2.2.2.2.2.1]) := by
 unfold m_xof_Stream_none_s2 at hm
 obtain rfl := k.len 1 rfl
 obtain rfl := k.len 2 rfl
 obtain rfl := k.len 3 rfl
 obtain rfl := k.len 5 rfl
 obtain rfl := k.len 6 rfl
 obtain rfl := k.len 8 rfl
 refine calz [pt g_x 0] Try.func16 rfl ?_
 refine W_seq <| Wq .a ?_
 refine W_seq <| W_q [5] (.n 2 (.b false) .z) (qs g_x 0 <| qs g_x 0 <| qB k 0 rfl 76 (.v (.func (.func 28) ⟨SV.vals [pt g_x 0]⟩ ⟨SV.vals []⟩)) (by kernel_rfl) <| qe) (by kernel_rfl) ?_
 refine At_go <| W_ret ?_
 obtain rfl := si hm
 refine At_rz [.b false] qe ?_
 have k_ := ((((((((k.pk (.t (.t (.t .h)))).pk (.t (.t (.t .h)))).pk (.t (.t (.t .h)))).pk (.t (.t (.t .h)))).pk (.t (.t (.t (.t (.t (.t .h))))))).pk (.t (.t (.t (.t (.t (.t .h))))))).pk (.t (.t (.t (.t (.t (.t .h))))))).pk (.t (.t (.t (.t (.t (.t (.t (.t .h))))))))).pk (.t (.t (.t (.t (.t (.t (.t (.t .h))))))))
 exact ⟨A_x_n_e_held, x_n_e_held.length, c_x_n_e_held, A_x_n_block, x_n_block.length, c_x_n_block, A_x_n_key, x_n_key.length, c_x_n_key, A_x_key, x_key.length, c_x_key, A_x_salt, x_salt.length, c_x_salt, A_x_personal, x_personal.length, c_x_personal, k_.len 1 rfl, k_.len 3 rfl, k_.len 4 rfl, k_.len 6 rfl, k_.len 7 rfl, k_.len 8 rfl, rfl, k_⟩
theorem c_node_Node_Write_s1 (n_kind : Int) (n_digest : Int) (n_block : List UInt8) (n_key : List UInt8) (n_last : Bool) (n_written : UInt64) (n_e_h : Vec UInt32 8) (n_e_count_Lo : UInt64) (n_e_count_Hi : UInt64) (n_e_held : List UInt8) (n_e_block : Int) (b : List UInt8) (g_n : Nat) (A_n_block : Option Addr) (n_n_block : Nat) (c_n_block : Nat) (A_n_key : Option Addr) (n_n_key : Nat) (c_n_key : Nat) (g_n_e : Nat) (A_n_e_held : Option Addr) (n_n_e_held : Nat) (c_n_e_held : Nat) (A_b : Option Addr) (n_b : Nat) (c_b : Nat) (h_b : Ro F w A_b (e8.all b)) (hn_b : b.length = n_b) (hc_b : n_b ≤ c_b) (k : Cx F O w w [Bx 77 g_n [I n_kind, I n_digest, sl A_n_block n_n_block c_n_block, sl A_n_key n_n_key c_n_key, .b n_last, .u64 n_written, .v (.iface 124 (SV.val (pt g_n_e 0)))], Ow e8 A_n_block n_n_block c_n_block n_block, Ow e8 A_n_key n_n_key c_n_key n_key, Bx 128 g_n_e [.ar e32 n_e_h, .u64 n_e_count_Lo, .u64 n_e_count_Hi, sl A_n_e_held n_n_e_held c_n_e_held, I n_e_block, .v (.func (.func 65) ⟨SV.vals []⟩ ⟨SV.vals []⟩), .v (.func (.func 66) ⟨SV.vals []⟩ ⟨SV.vals []⟩)], Ow e8 A_n_e_held n_n_e_held c_n_e_held n_e_held]) (r : (Vec UInt32 8 × UInt64 × UInt64 × List UInt8 × Int × Int × Int × List UInt8 × List UInt8 × Bool × UInt64)) (hm : m_node_Node_Write_s1 n_kind n_digest n_block n_key n_last n_written n_e_h n_e_count_Lo n_e_count_Hi n_e_held n_e_block b = some r) :
    Calls Try.prog 38 (vals [pt g_n 0, sl A_b n_b c_b]) w (fun e w' => ∃ A n c A1 n1 c1 A2 n2 c2, r.2.2.2.1.length = n ∧ r.2.2.2.2.2.2.2.1.length = n1 ∧ r.2.2.2.2.2.2.2.2.1.length = n2 ∧ e = .returned (SV.val (I 0)) ∧ Cx F O w w' [Bx 128 g_n_e [.ar e32 r.1, .u64 r.2.1, .u64 r.2.2.1, sl A n c, I r.2.2.2.2.1, .v (.func (.func 65) ⟨SV.vals []⟩ ⟨SV.vals []⟩), .v (.func (.func 66) ⟨SV.vals []⟩ ⟨SV.vals []⟩)], Ow e8 A n c r.2.2.2.1, Bx 77 g_n [I r.2.2.2.2.2.1, I r.2.2.2.2.2.2.1, sl A1 n1 c1, sl A2 n2 c2, .b r.2.2.2.2.2.2.2.2.2.1, .u64 r.2.2.2.2.2.2.2.2.2.2, .v (.iface 124 (SV.val (pt g_n_e 0)))], Ow e8 A1 n1 c1 r.2.2.2.2.2.2.2.1, Ow e8 A2 n2 c2 r.2.2.2.2.2.2.2.2.1]) := by
 unfold m_node_Node_Write_s1 at hm
 obtain rfl := k.len 1 rfl
 obtain rfl := k.len 2 rfl
 obtain rfl := k.len 4 rfl
 subst hn_b
 refine calz [pt g_n 0, sl A_b b.length c_b] Try.func38 rfl ?_
 refine W_seq <| Wq .a ?_
 refine W_seq <| W_seq <| W_reg <| We 1 (.n 5 (pt g_n 0) .a) ?_
 refine WL_op ?_
 obtain ⟨r_, h_r_, hm⟩ := ob hm
 obtain ⟨F1, O1, kin, hO, hre, hF, hb⟩ := k.go (.i (.i (.i (.i (.i .e)))))
 refine Op_cz 6 ws_go39 (c_node_Node_none_s1 (F := F1) (O := O1) _ _ _ _ _ _ _ _ _ _ _ _ _ _ _ _ _ _ _ _ _ _ kin _ h_r_) ?_
 rintro e_ w_ ⟨A0, _, c0, A3, _, c3, A4, _, c4, rfl, rfl, rfl, rfl, k_⟩
 have k_1 := hb w_ _ _ k_ (.c (.c (.c (.c (.c .n)))))
 refine ⟨.b false, rfl, ?_⟩
 refine Wn <| W_cond false (by kernel_rfl) (fun h => by cases h) (fun _ => ?_)
 refine W_skip <| At_go <| W_seq <| W_reg <| Wl 5 (.n 10 (.v (.iface 124 (SV.val (pt g_n_e 0)))) (.n 11 (sl A_b b.length c_b) (.ss .a))) (qs g_n 0 <| qs g_n 0 <| qB k_1 2 rfl 6 (.v (.iface 124 (SV.val (pt g_n_e 0)))) (by kernel_rfl) <| qe) ?_
 refine WL_op ?_
 obtain ⟨r_1, h_r_1, hm⟩ := ob hm
 obtain ⟨F11, O11, kin1, hO1, hre1, hF1, hb1⟩ := k_1.go (.i (.i (.r (.r (.r .e)))))
 refine Op_invoke [] 12 124 (pt g_n_e 0) [sl A_b b.length c_b] ws_inv124_node_write rfl (by kernel_rfl) (c_node_half_uint32_write (F := F11) (O := O11) _ _ _ _ _ _ _ _ _ _ _ _ _ (Ro.of_old h_b k_1 hF1) rfl hc_b kin1 _ h_r_1) ?_
 rintro e_ w_1 ⟨A5, _, c5, rfl, rfl, k_2⟩
 have k_3 := hb1 w_1 _ _ k_2 (.c (.c .n))
 refine ⟨.tup [], rfl, ?_⟩
 refine Wn <| W_seq <| W_reg <| Wl 10 (.n 20 (.u64 (r_.2.2.2.2.2.2.2.2.2.2 + (UInt64.ofInt (b.length : Int)))) (.n 22 (pt g_n 5) .z)) (qs g_n 0 <| qs g_n 0 <| qB k_3 2 rfl 5 (.u64 r_.2.2.2.2.2.2.2.2.2.2) (by kernel_rfl) <| qs g_n 0 <| qs g_n 0 <| qe) ?_
 refine WL_op <| Op_bz 2 (.u64 (r_.2.2.2.2.2.2.2.2.2.2 + (UInt64.ofInt (b.length : Int)))) [.u64 (r_.2.2.2.2.2.2.2.2.2.2 + (UInt64.ofInt (b.length : Int)))] (Pt.at g_n 5) k_3 rfl (.kkkk (.k .h)) ?_
 intro w_2 k_4
 refine Wn <| W_seq <| Wq (.n 4 (I 0) .z) ?_
 refine W_ret ?_
 obtain rfl := si hm
 refine At_rz [I 0] qe ?_
 exact ⟨A5, r_1.2.2.2.1.length, c5, A3, r_.2.2.2.2.2.2.2.1.length, c3, A4, r_.2.2.2.2.2.2.2.2.1.length, c4, k_4.len 1 rfl, k_4.len 3 rfl, k_4.len 4 rfl, rfl, k_4⟩
theorem c_xof_Stream_takes_s1 (x_s_kind : Int) (x_s_full : Int) (x_s_code : UInt32) (x_s_total : UInt64) (x_s_known : Bool) (x_key : List UInt8) (x_salt : List UInt8) (x_personal : List UInt8) (x_n_kind : Int) (x_n_digest : Int) (x_n_block : List UInt8) (x_n_key : List UInt8) (x_n_last : Bool) (x_n_written : UInt64) (x_n_e_h : Vec UInt32 8) (x_n_e_count_Lo : UInt64) (x_n_e_count_Hi : UInt64) (x_n_e_held : List UInt8) (x_n_e_block : Int) (x_at : UInt64) (x_now : Vec UInt8 64) (x_have : Int) (b : List UInt8) (g_x : Nat) (A_x_key : Option Addr) (n_x_key : Nat) (c_x_key : Nat) (A_x_salt : Option Addr) (n_x_salt : Nat) (c_x_salt : Nat) (A_x_personal : Option Addr) (n_x_personal : Nat) (c_x_personal : Nat) (g_x_n : Nat) (A_x_n_block : Option Addr) (n_x_n_block : Nat) (c_x_n_block : Nat) (A_x_n_key : Option Addr) (n_x_n_key : Nat) (c_x_n_key : Nat) (g_x_n_e : Nat) (A_x_n_e_held : Option Addr) (n_x_n_e_held : Nat) (c_x_n_e_held : Nat) (A_b : Option Addr) (n_b : Nat) (c_b : Nat) (h_b : Ro F w A_b (e8.all b)) (hn_b : b.length = n_b) (hc_b : n_b ≤ c_b) (k : Cx F O w w [Bx 52 g_x [I x_s_kind, I x_s_full, .u32 x_s_code, .u64 x_s_total, .b x_s_known, sl A_x_key n_x_key c_x_key, sl A_x_salt n_x_salt c_x_salt, sl A_x_personal n_x_personal c_x_personal, pt g_x_n 0, sl none 0 0, .u64 x_at, .ar e8 x_now, I x_have, .v (.func (.func 28) ⟨SV.vals [pt g_x 0]⟩ ⟨SV.vals []⟩)], Ow e8 A_x_key n_x_key c_x_key x_key, Ow e8 A_x_salt n_x_salt c_x_salt x_salt, Ow e8 A_x_personal n_x_personal c_x_personal x_personal, Bx 77 g_x_n [I x_n_kind, I x_n_digest, sl A_x_n_block n_x_n_block c_x_n_block, sl A_x_n_key n_x_n_key c_x_n_key, .b x_n_last, .u64 x_n_written, .v (.iface 124 (SV.val (pt g_x_n_e 0)))], Ow e8 A_x_n_block n_x_n_block c_x_n_block x_n_block, Ow e8 A_x_n_key n_x_n_key c_x_n_key x_n_key, Bx 128 g_x_n_e [.ar e32 x_n_e_h, .u64 x_n_e_count_Lo, .u64 x_n_e_count_Hi, sl A_x_n_e_held n_x_n_e_held c_x_n_e_held, I x_n_e_block, .v (.func (.func 65) ⟨SV.vals []⟩ ⟨SV.vals []⟩), .v (.func (.func 66) ⟨SV.vals []⟩ ⟨SV.vals []⟩)], Ow e8 A_x_n_e_held n_x_n_e_held c_x_n_e_held x_n_e_held]) (r : (Vec UInt32 8 × UInt64 × UInt64 × List UInt8 × Int × Int × Int × List UInt8 × List UInt8 × Bool × UInt64 × Int × Int × UInt32 × UInt64 × Bool × List UInt8 × List UInt8 × List UInt8 × UInt64 × Vec UInt8 64 × Int)) (hm : m_xof_Stream_takes_s1 x_s_kind x_s_full x_s_code x_s_total x_s_known x_key x_salt x_personal x_n_kind x_n_digest x_n_block x_n_key x_n_last x_n_written x_n_e_h x_n_e_count_Lo x_n_e_count_Hi x_n_e_held x_n_e_block x_at x_now x_have b = some r) :
    Calls Try.prog 28 (vals [pt g_x 0, sl A_b n_b c_b]) w (fun e w' => ∃ A n c A1 n1 c1 A2 n2 c2 A3 n3 c3 A4 n4 c4 A5 n5 c5, r.2.2.2.1.length = n ∧ r.2.2.2.2.2.2.2.1.length = n1 ∧ r.2.2.2.2.2.2.2.2.1.length = n2 ∧ r.2.2.2.2.2.2.2.2.2.2.2.2.2.2.2.2.1.length = n3 ∧ r.2.2.2.2.2.2.2.2.2.2.2.2.2.2.2.2.2.1.length = n4 ∧ r.2.2.2.2.2.2.2.2.2.2.2.2.2.2.2.2.2.2.1.length = n5 ∧ e = .returned (SV.val (I 0)) ∧ Cx F O w w' [Bx 128 g_x_n_e [.ar e32 r.1, .u64 r.2.1, .u64 r.2.2.1, sl A n c, I r.2.2.2.2.1, .v (.func (.func 65) ⟨SV.vals []⟩ ⟨SV.vals []⟩), .v (.func (.func 66) ⟨SV.vals []⟩ ⟨SV.vals []⟩)], Ow e8 A n c r.2.2.2.1, Bx 77 g_x_n [I r.2.2.2.2.2.1, I r.2.2.2.2.2.2.1, sl A1 n1 c1, sl A2 n2 c2, .b r.2.2.2.2.2.2.2.2.2.1, .u64 r.2.2.2.2.2.2.2.2.2.2.1, .v (.iface 124 (SV.val (pt g_x_n_e 0)))], Ow e8 A1 n1 c1 r.2.2.2.2.2.2.2.1, Ow e8 A2 n2 c2 r.2.2.2.2.2.2.2.2.1, Bx 52 g_x [I r.2.2.2.2.2.2.2.2.2.2.2.1, I r.2.2.2.2.2.2.2.2.2.2.2.2.1, .u32 r.2.2.2.2.2.2.2.2.2.2.2.2.2.1, .u64 r.2.2.2.2.2.2.2.2.2.2.2.2.2.2.1, .b r.2.2.2.2.2.2.2.2.2.2.2.2.2.2.2.1, sl A3 n3 c3, sl A4 n4 c4, sl A5 n5 c5, pt g_x_n 0, sl none 0 0, .u64 r.2.2.2.2.2.2.2.2.2.2.2.2.2.2.2.2.2.2.2.1, .ar e8 r.2.2.2.2.2.2.2.2.2.2.2.2.2.2.2.2.2.2.2.2.1, I r.2.2.2.2.2.2.2.2.2.2.2.2.2.2.2.2.2.2.2.2.2, .v (.func (.func 28) ⟨SV.vals [pt g_x 0]⟩ ⟨SV.vals []⟩)], Ow e8 A3 n3 c3 r.2.2.2.2.2.2.2.2.2.2.2.2.2.2.2.2.1, Ow e8 A4 n4 c4 r.2.2.2.2.2.2.2.2.2.2.2.2.2.2.2.2.2.1, Ow e8 A5 n5 c5 r.2.2.2.2.2.2.2.2.2.2.2.2.2.2.2.2.2.2.1]) := by
 unfold m_xof_Stream_takes_s1 at hm
 obtain rfl := k.len 1 rfl
 obtain rfl := k.len 2 rfl
 obtain rfl := k.len 3 rfl
 obtain rfl := k.len 5 rfl
 obtain rfl := k.len 6 rfl
 obtain rfl := k.len 8 rfl
 subst hn_b
 refine calz [pt g_x 0, sl A_b b.length c_b] Try.func28 rfl ?_
 refine W_seq <| Wq .a ?_
 refine W_seq <| W_reg <| Wl 5 (.n 8 (pt g_x_n 0) (.n 9 (sl A_b b.length c_b) .z)) (qs g_x 0 <| qs g_x 0 <| qB k 0 rfl 8 (pt g_x_n 0) (by kernel_rfl) <| qe) ?_
 refine WL_op ?_
 obtain ⟨r_, h_r_, hm⟩ := ob hm
 obtain ⟨F1, O1, kin, hO, hre, hF, hb⟩ := k.go (.r (.r (.r (.r (.i (.i (.i (.i (.i .e)))))))))
 refine Op_cz 10 ws_go38 (c_node_Node_Write_s1 (F := F1) (O := O1) _ _ _ _ _ _ _ _ _ _ _ _ _ _ _ _ _ _ _ _ _ _ _ _ _ _ (Ro.of_old h_b k hF) rfl hc_b kin _ h_r_) ?_
 rintro e_ w_ ⟨A0, _, c0, A6, _, c6, A7, _, c7, rfl, rfl, rfl, rfl, k_⟩
 have k_1 := hb w_ _ _ k_ (.c (.c (.c (.c (.c .n)))))
 refine ⟨I 0, rfl, ?_⟩
 refine We 1 (.n 4 (I 0) .z) ?_
 refine Wn <| W_ret ?_
 obtain rfl := si hm
 refine At_rz [I 0] qe ?_
 exact ⟨A0, r_.2.2.2.1.length, c0, A6, r_.2.2.2.2.2.2.2.1.length, c6, A7, r_.2.2.2.2.2.2.2.2.1.length, c7, A_x_key, x_key.length, c_x_key, A_x_salt, x_salt.length, c_x_salt, A_x_personal, x_personal.length, c_x_personal, k_1.len 1 rfl, k_1.len 3 rfl, k_1.len 4 rfl, k_1.len 6 rfl, k_1.len 7 rfl, k_1.len 8 rfl, rfl, k_1⟩
theorem c_xof_Stream_Write_s1 (x_s_kind : Int) (x_s_full : Int) (x_s_code : UInt32) (x_s_total : UInt64) (x_s_known : Bool) (x_key : List UInt8) (x_salt : List UInt8) (x_personal : List UInt8) (x_n_kind : Int) (x_n_digest : Int) (x_n_block : List UInt8) (x_n_key : List UInt8) (x_n_last : Bool) (x_n_written : UInt64) (x_n_e_h : Vec UInt32 8) (x_n_e_count_Lo : UInt64) (x_n_e_count_Hi : UInt64) (x_n_e_held : List UInt8) (x_n_e_block : Int) (x_at : UInt64) (x_now : Vec UInt8 64) (x_have : Int) (b : List UInt8) (g_x : Nat) (A_x_key : Option Addr) (n_x_key : Nat) (c_x_key : Nat) (A_x_salt : Option Addr) (n_x_salt : Nat) (c_x_salt : Nat) (A_x_personal : Option Addr) (n_x_personal : Nat) (c_x_personal : Nat) (g_x_n : Nat) (A_x_n_block : Option Addr) (n_x_n_block : Nat) (c_x_n_block : Nat) (A_x_n_key : Option Addr) (n_x_n_key : Nat) (c_x_n_key : Nat) (g_x_n_e : Nat) (A_x_n_e_held : Option Addr) (n_x_n_e_held : Nat) (c_x_n_e_held : Nat) (A_b : Option Addr) (n_b : Nat) (c_b : Nat) (h_b : Ro F w A_b (e8.all b)) (hn_b : b.length = n_b) (hc_b : n_b ≤ c_b) (k : Cx F O w w [Bx 52 g_x [I x_s_kind, I x_s_full, .u32 x_s_code, .u64 x_s_total, .b x_s_known, sl A_x_key n_x_key c_x_key, sl A_x_salt n_x_salt c_x_salt, sl A_x_personal n_x_personal c_x_personal, pt g_x_n 0, sl none 0 0, .u64 x_at, .ar e8 x_now, I x_have, .v (.func (.func 28) ⟨SV.vals [pt g_x 0]⟩ ⟨SV.vals []⟩)], Ow e8 A_x_key n_x_key c_x_key x_key, Ow e8 A_x_salt n_x_salt c_x_salt x_salt, Ow e8 A_x_personal n_x_personal c_x_personal x_personal, Bx 77 g_x_n [I x_n_kind, I x_n_digest, sl A_x_n_block n_x_n_block c_x_n_block, sl A_x_n_key n_x_n_key c_x_n_key, .b x_n_last, .u64 x_n_written, .v (.iface 124 (SV.val (pt g_x_n_e 0)))], Ow e8 A_x_n_block n_x_n_block c_x_n_block x_n_block, Ow e8 A_x_n_key n_x_n_key c_x_n_key x_n_key, Bx 128 g_x_n_e [.ar e32 x_n_e_h, .u64 x_n_e_count_Lo, .u64 x_n_e_count_Hi, sl A_x_n_e_held n_x_n_e_held c_x_n_e_held, I x_n_e_block, .v (.func (.func 65) ⟨SV.vals []⟩ ⟨SV.vals []⟩), .v (.func (.func 66) ⟨SV.vals []⟩ ⟨SV.vals []⟩)], Ow e8 A_x_n_e_held n_x_n_e_held c_x_n_e_held x_n_e_held]) (r : (Vec UInt32 8 × UInt64 × UInt64 × List UInt8 × Int × Int × Int × List UInt8 × List UInt8 × Bool × UInt64 × Int × Int × UInt32 × UInt64 × Bool × List UInt8 × List UInt8 × List UInt8 × UInt64 × Vec UInt8 64 × Int)) (hm : m_xof_Stream_Write_s1 x_s_kind x_s_full x_s_code x_s_total x_s_known x_key x_salt x_personal x_n_kind x_n_digest x_n_block x_n_key x_n_last x_n_written x_n_e_h x_n_e_count_Lo x_n_e_count_Hi x_n_e_held x_n_e_block x_at x_now x_have b = some r) :
    Calls Try.prog 6 (vals [pt g_x 0, sl A_b n_b c_b]) w (fun e w' => ∃ A n c A1 n1 c1 A2 n2 c2 A3 n3 c3 A4 n4 c4 A5 n5 c5, r.2.2.2.1.length = n ∧ r.2.2.2.2.2.2.2.1.length = n1 ∧ r.2.2.2.2.2.2.2.2.1.length = n2 ∧ r.2.2.2.2.2.2.2.2.2.2.2.2.2.2.2.2.1.length = n3 ∧ r.2.2.2.2.2.2.2.2.2.2.2.2.2.2.2.2.2.1.length = n4 ∧ r.2.2.2.2.2.2.2.2.2.2.2.2.2.2.2.2.2.2.1.length = n5 ∧ e = .returned (SV.val (I 0)) ∧ Cx F O w w' [Bx 128 g_x_n_e [.ar e32 r.1, .u64 r.2.1, .u64 r.2.2.1, sl A n c, I r.2.2.2.2.1, .v (.func (.func 65) ⟨SV.vals []⟩ ⟨SV.vals []⟩), .v (.func (.func 66) ⟨SV.vals []⟩ ⟨SV.vals []⟩)], Ow e8 A n c r.2.2.2.1, Bx 77 g_x_n [I r.2.2.2.2.2.1, I r.2.2.2.2.2.2.1, sl A1 n1 c1, sl A2 n2 c2, .b r.2.2.2.2.2.2.2.2.2.1, .u64 r.2.2.2.2.2.2.2.2.2.2.1, .v (.iface 124 (SV.val (pt g_x_n_e 0)))], Ow e8 A1 n1 c1 r.2.2.2.2.2.2.2.1, Ow e8 A2 n2 c2 r.2.2.2.2.2.2.2.2.1, Bx 52 g_x [I r.2.2.2.2.2.2.2.2.2.2.2.1, I r.2.2.2.2.2.2.2.2.2.2.2.2.1, .u32 r.2.2.2.2.2.2.2.2.2.2.2.2.2.1, .u64 r.2.2.2.2.2.2.2.2.2.2.2.2.2.2.1, .b r.2.2.2.2.2.2.2.2.2.2.2.2.2.2.2.1, sl A3 n3 c3, sl A4 n4 c4, sl A5 n5 c5, pt g_x_n 0, sl none 0 0, .u64 r.2.2.2.2.2.2.2.2.2.2.2.2.2.2.2.2.2.2.2.1, .ar e8 r.2.2.2.2.2.2.2.2.2.2.2.2.2.2.2.2.2.2.2.2.1, I r.2.2.2.2.2.2.2.2.2.2.2.2.2.2.2.2.2.2.2.2.2, .v (.func (.func 28) ⟨SV.vals [pt g_x 0]⟩ ⟨SV.vals []⟩)], Ow e8 A3 n3 c3 r.2.2.2.2.2.2.2.2.2.2.2.2.2.2.2.2.1, Ow e8 A4 n4 c4 r.2.2.2.2.2.2.2.2.2.2.2.2.2.2.2.2.2.1, Ow e8 A5 n5 c5 r.2.2.2.2.2.2.2.2.2.2.2.2.2.2.2.2.2.2.1]) := by
 unfold m_xof_Stream_Write_s1 at hm
 obtain rfl := k.len 1 rfl
 obtain rfl := k.len 2 rfl
 obtain rfl := k.len 3 rfl
 obtain rfl := k.len 5 rfl
 obtain rfl := k.len 6 rfl
 obtain rfl := k.len 8 rfl
 subst hn_b
 refine calz [pt g_x 0, sl A_b b.length c_b] Try.func6 rfl ?_
 refine W_seq <| Wq .a ?_
 refine W_seq <| W_seq <| W_reg <| We 1 (.n 5 (pt g_x 0) .a) ?_
 refine WL_op ?_
 obtain ⟨r_, h_r_, hm⟩ := ob hm
 obtain ⟨F1, O1, kin, hO, hre, hF, hb⟩ := k.go (.i (.i (.i (.i (.i (.i (.i (.i (.i .e)))))))))
 refine Op_cz 6 ws_go16 (c_xof_Stream_none_s2 (F := F1) (O := O1) _ _ _ _ _ _ _ _ _ _ _ _ _ _ _ _ _ _ _ _ _ _ _ _ _ _ _ _ _ _ _ _ _ _ _ _ _ _ _ _ _ _ _ kin _ h_r_) ?_
 rintro e_ w_ ⟨A0, _, c0, A6, _, c6, A7, _, c7, A8, _, c8, A9, _, c9, A10, _, c10, rfl, rfl, rfl, rfl, rfl, rfl, rfl, k_⟩
 have k_1 := hb w_ _ _ k_ (.c (.c (.c (.c (.c (.c (.c (.c (.c .n)))))))))
 refine ⟨.b false, rfl, ?_⟩
 refine Wn <| W_cond false (by kernel_rfl) (fun h => by cases h) (fun _ => ?_)
 refine W_skip <| At_go <| W_seq <| W_reg <| Wl 5 (.n 10 (.v (.func (.func 28) ⟨SV.vals [pt g_x 0]⟩ ⟨SV.vals []⟩)) (.n 11 (sl A_b b.length c_b) .z)) (qs g_x 0 <| qs g_x 0 <| qB k_1 5 rfl 76 (.v (.func (.func 28) ⟨SV.vals [pt g_x 0]⟩ ⟨SV.vals []⟩)) (by kernel_rfl) <| qe) ?_
 refine WL_op ?_
 obtain ⟨r_1, h_r_1, hm⟩ := ob hm
 have k_2 := ((((((((k_1.pk (.t .h)).pk (.t .h)).pk (.t (.t (.t (.t .h))))).pk (.t (.t (.t (.t .h))))).pk (.t (.t (.t (.t .h))))).pk (.t (.t (.t (.t (.t (.t (.t (.t .h))))))))).pk (.t (.t (.t (.t (.t (.t (.t (.t .h))))))))).pk (.t (.t (.t (.t (.t (.t (.t (.t .h))))))))).pk (.t (.t (.t (.t (.t (.t (.t (.t .h))))))))
 obtain ⟨F11, O11, kin1, hO1, hre1, hF1, hb1⟩ := k_2.go (.i (.i (.i (.i (.i (.i (.i (.i (.i .e)))))))))
 refine Op_callv [] 12 [pt g_x 0] [sl A_b b.length c_b] [] ws_go28 (by kernel_rfl) (c_xof_Stream_takes_s1 (F := F11) (O := O11) _ _ _ _ _ _ _ _ _ _ _ _ _ _ _ _ _ _ _ _ _ _ _ _ _ _ _ _ _ _ _ _ _ _ _ _ _ _ _ _ _ _ _ _ _ _ _ (Ro.of_old h_b k_2 hF1) rfl hc_b kin1 _ h_r_1) ?_
 rintro e_ w_1 ⟨A11, _, c11, A12, _, c12, A13, _, c13, A14, _, c14, A15, _, c15, A16, _, c16, rfl, rfl, rfl, rfl, rfl, rfl, rfl, k_3⟩
 have k_4 := hb1 w_1 _ _ k_3 (.c (.c (.c (.c (.c (.c (.c (.c (.c .n)))))))))
 refine ⟨I 0, rfl, ?_⟩
 refine We 1 (.n 4 (I 0) .z) ?_
 refine Wn <| W_ret ?_
 obtain rfl := si hm
 refine At_rz [I 0] qe ?_
 exact ⟨A11, r_1.2.2.2.1.length, c11, A12, r_1.2.2.2.2.2.2.2.1.length, c12, A13, r_1.2.2.2.2.2.2.2.2.1.length, c13, A14, r_1.2.2.2.2.2.2.2.2.2.2.2.2.2.2.2.2.1.length, c14, A15, r_1.2.2.2.2.2.2.2.2.2.2.2.2.2.2.2.2.2.1.length, c15, A16, r_1.2.2.2.2.2.2.2.2.2.2.2.2.2.2.2.2.2.2.1.length, c16, k_4.len 1 rfl, k_4.len 3 rfl, k_4.len 4 rfl, k_4.len 6 rfl, k_4.len 7 rfl, k_4.len 8 rfl, rfl, k_4⟩
end Go.Sx

