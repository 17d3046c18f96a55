import Derived.Test.YtmknbdnofogmdaaW1
namespace Go.Sx
open Go.RowKit Go.Proofs
set_option linter.unusedVariables false
set_option linter.unusedSimpArgs false
set_option maxRecDepth 20000

-- (*quern/node.Node).begin
theorem c_node_Node_begin {F O : Nat → Prop} {w : World} (n_kind : Int) (n_digest : Int) (n_block : List UInt8) (n_key : List UInt8) (n_last : Bool) (n_written : UInt64) (g_n : Nat) (A_n_block : Option Addr) (n_n_block : Nat) (c_n_block : Nat) (A_n_key : Option Addr) (n_n_key : Nat) (c_n_key : Nat) (k : Cx F O w w [Bx 108 g_n [I n_kind, I n_digest, sl A_n_block n_n_block c_n_block, sl A_n_key n_n_key c_n_key, .b n_last, .u64 n_written, .v .nilIface], Ow e8 A_n_block n_n_block c_n_block n_block, Ow e8 A_n_key n_n_key c_n_key n_key]) (r : (Int × Int × List UInt8 × List UInt8 × Vec UInt64 8 × UInt64 × UInt64 × List UInt8 × Int) ⊕ (Int × Int × List UInt8 × List UInt8 × Vec UInt32 8 × UInt64 × UInt64 × List UInt8 × Int)) (hm : m_node_Node_begin n_kind n_digest n_block n_key n_last n_written = some r) :
    Calls Try.prog 84 (vals [pt g_n 0]) w (fun e w' => match r with | .inl r0 => ∃ A n c A1 n1 c1 g A2 n2 c2, r0.2.2.1.length = n ∧ r0.2.2.2.1.length = n1 ∧ r0.2.2.2.2.2.2.2.1.length = n2 ∧ e = .returned (SV.val (.tup [])) ∧ Cx F O w w' [Bx 108 g_n [I r0.1, I r0.2.1, sl A n c, sl A1 n1 c1, .b false, .u64 0, .v (.iface 144 (SV.val (pt g 0)))], Ow e8 A n c r0.2.2.1, Ow e8 A1 n1 c1 r0.2.2.2.1, Bx 150 g [.ar e64 r0.2.2.2.2.1, .u64 r0.2.2.2.2.2.1, .u64 r0.2.2.2.2.2.2.1, sl A2 n2 c2, I r0.2.2.2.2.2.2.2.2, .v (.func (.func 89) ⟨SV.vals []⟩ ⟨SV.vals []⟩), .v (.func (.func 90) ⟨SV.vals []⟩ ⟨SV.vals []⟩)], Ow e8 A2 n2 c2 r0.2.2.2.2.2.2.2.1] | .inr r1 => ∃ A3 n3 c3 A4 n4 c4 g1 A5 n5 c5, r1.2.2.1.length = n3 ∧ r1.2.2.2.1.length = n4 ∧ r1.2.2.2.2.2.2.2.1.length = n5 ∧ e = .returned (SV.val (.tup [])) ∧ Cx F O w w' [Bx 108 g_n [I r1.1, I r1.2.1, sl A3 n3 c3, sl A4 n4 c4, .b false, .u64 0, .v (.iface 154 (SV.val (pt g1 0)))], Ow e8 A3 n3 c3 r1.2.2.1, Ow e8 A4 n4 c4 r1.2.2.2.1, Bx 158 g1 [.ar e32 r1.2.2.2.2.1, .u64 r1.2.2.2.2.2.1, .u64 r1.2.2.2.2.2.2.1, sl A5 n5 c5, I r1.2.2.2.2.2.2.2.2, .v (.func (.func 92) ⟨SV.vals []⟩ ⟨SV.vals []⟩), .v (.func (.func 93) ⟨SV.vals []⟩ ⟨SV.vals []⟩)], Ow e8 A5 n5 c5 r1.2.2.2.2.2.2.2.1]) := by
 unfold m_node_Node_begin at hm
 obtain rfl := k.len 1 rfl
 obtain rfl := k.len 2 rfl
 refine calls [pt g_n 0] Try.func84 rfl (of_decide_eq_true (by kernel_rfl)) ?_
 refine W_seq ?_
 have k_ := k.drew 1
 refine W_m mo_mixed (.q 0 1 (.q 1 1 (.q 2 1 (.q 3 1 (.q 4 0 (.q 5 1 (.q 6 1 (.q 7 1 (.q 8 0 (.op 9 (.q 10 2 (.q 11 1 (.op 12 .nil))))))))))))) [9, 12] k_ (.c (.kk (.k .e)) (.c (.s (.kk .e)) .l)) (by kernel_rfl) (fun _ => ?_)
 refine MXq 4 1 [] (.n 2 (pt g_n 0) (.n 5 (pt g_n 0) .a)) (fun x hx => qs g_n 0 <| qs g_n 0 <| qe) (by kernel_rfl) (fun _ => ?_)
 refine MXq 1 0 [] (.n 6 (I n_kind) (.k (.s .a))) (fun x hx => qB hx 0 rfl 0 (I n_kind) (by kernel_rfl) <| qe) (by kernel_rfl) (fun _ => ?_)
 refine MXq 3 1 [] (.n 9 (pt g_n 2) .a) (fun x hx => qs g_n 0 <| qs g_n 0 <| qe) (by kernel_rfl) (fun _ => ?_)
 refine MXq 1 0 [] (.n 10 (sl A_n_block n_block.length c_n_block) (.s .a)) (fun x hx => qB hx 0 rfl 2 (sl A_n_block n_block.length c_n_block) (by kernel_rfl) <| qe) (by kernel_rfl) (fun _ => ?_)
 refine MX_op (by kernel_rfl) rfl ?_
 obtain ⟨r_, h_r_, hm⟩ := ob hm
 refine Op_call [] 11 _ mo_go86 (by kernel_rfl) (c_node_begun (F := N0) (O := N0) _ _ _ _ _ (Ro.n0 (k_.rd 1 rfl)) (k_.len 1 rfl) (k_.lec 1 rfl) (Cx.refl _) _ h_r_) ?_
 rcases r_ with r_1 | r_2
 · simp only [Sum.elim_inl, Sum.elim_inr] at hm
   rintro e_ w_ ⟨g0, A0, _, c0, rfl, rfl, k_1⟩
   have k_2 := k_.call k_1
   refine ⟨.v (.iface 144 (SV.val (pt g0 0))), rfl, ?_⟩
   refine ⟨(k_2.sel (.kk (.k .z))), fun _ => ?_⟩
   refine MXq 1 2 [] (.n 12 (pt g_n 0) (.k (.sss .a))) (fun x hx => qs g_n 0 <| qe) (by kernel_rfl) (fun _ => ?_)
   refine MXq 1 1 [] (.n 13 (pt g_n 6) (.s .a)) (fun x hx => qs g_n 0 <| qe) (by kernel_rfl) (fun _ => ?_)
   refine MX_op (by kernel_rfl) rfl <| Op_b [] 0 (.v (.iface 144 (SV.val (pt g0 0)))) [.v (.iface 144 (SV.val (pt g0 0)))] (Pt.at g_n 6) k_2 rfl (.kkkk (.kk .h)) (by kernel_rfl) (by kernel_rfl) ?_
   intro w_1 k_3
   refine ⟨(k_3.sel (.s (.kk .z))), fun _ => ?_⟩
   refine MX_nil <| At_go <| W_seq <| W_reg <| WLs 3 [] (.n 16 (pt g_n 4) (.ss .a)) (qs g_n 0 <| qs g_n 0 <| qe) (by kernel_rfl) ?_
   refine WL_op <| Op_b [] 0 (.b false) [.b false] (Pt.at g_n 4) k_3 rfl (.kkkk .h) (by kernel_rfl) (by kernel_rfl) ?_
   intro w_2 k_4
   refine WL_nil <| At_go <| W_seq <| W_reg <| WLs 3 [] (.n 19 (pt g_n 5) (.s .a)) (qs g_n 0 <| qs g_n 0 <| qe) (by kernel_rfl) ?_
   refine WL_op <| Op_b [] 0 (.u64 0) [.u64 0] (Pt.at g_n 5) k_4 rfl (.kkkk (.k .h)) (by kernel_rfl) (by kernel_rfl) ?_
   intro w_3 k_5
   refine WL_nil <| At_go <| W_seq <| W_q [] (.n 25 (.b (decide (0 < ((n_key.length : Nat) : Int)))) (.s .a)) (qs g_n 0 <| qs g_n 0 <| qB k_5 0 rfl 3 (sl A_n_key n_key.length c_n_key) (by kernel_rfl) <| qe) (by kernel_rfl) ?_
   refine At_go <| W_condp (0 < ((n_key.length : Nat) : Int)) (by kernel_rfl) (fun hc => ?_) (fun hc => ?_)
   · rw [if_pos hc] at hm
     have k_6 := k_5.drew 1
     refine W_m mo_mixed (.q 0 3 (.q 1 3 (.q 2 3 (.q 3 3 (.q 4 3 (.q 5 3 (.q 6 3 (.q 7 2 (.q 8 3 (.q 9 3 (.q 10 3 (.q 11 2 (.q 14 3 (.q 15 2 (.op 12 (.op 13 (.op 16 .nil))))))))))))))))) [12, 13, 16] k_6 (.c (.kkkk (.k .e)) (.c (.kkkk (.k .e)) (.c (.kk (.k .z)) .l))) (by kernel_rfl) (fun _ => ?_)
     refine MXq 7 3 [] (.n 29 (.v (.iface 144 (SV.val (pt g0 0)))) (.n 32 (pt g_n 3) (.s .a))) (fun x hx => qs g_n 0 <| qs g_n 0 <| qB hx 0 rfl 6 (.v (.iface 144 (SV.val (pt g0 0)))) (by kernel_rfl) <| qs g_n 0 <| qs g_n 0 <| qe) (by kernel_rfl) (fun _ => ?_)
     refine MXq 1 2 [] (.n 33 (sl A_n_key n_key.length c_n_key) (.k (.s .a))) (fun x hx => qB hx 0 rfl 3 (sl A_n_key n_key.length c_n_key) (by kernel_rfl) <| qe) (by kernel_rfl) (fun _ => ?_)
     refine MXq 3 3 [] (.n 36 (pt g_n 0) (.kk .z)) (fun x hx => qs g_n 0 <| qs g_n 0 <| qe) (by kernel_rfl) (fun _ => ?_)
     refine MXq 1 2 [] (.n 37 (I n_kind) (.s .a)) (fun x hx => qB hx 0 rfl 0 (I n_kind) (by kernel_rfl) <| qe) (by kernel_rfl) (fun _ => ?_)
     refine MXq 1 3 [] .a (fun x hx => qe) (by kernel_rfl) (fun _ => ?_)
     refine MXq 1 2 [] (.n 41 (.v (.iface 144 (SV.val (pt g0 0)))) (.kk .z)) (fun x hx => qe) (by kernel_rfl) (fun _ => ?_)
     refine MX_op (by kernel_rfl) rfl ?_
     have k_7 := k_6.sel (.kkkk (.k .e))
     obtain ⟨r_3, h_r_3, hm⟩ := ob hm
     refine Op_call [] 38 _ mo_go74 (by kernel_rfl) (c_node_blockOf (F := N0) (O := N0) _ (Cx.refl _) _ h_r_3) ?_
     rintro e_ w_4 ⟨rfl, k_8⟩
     have k_9 := k_7.call k_8
     refine ⟨I r_3, rfl, ?_⟩
     refine ⟨k_9, fun _ => ?_⟩
     refine MX_op (by kernel_rfl) rfl ?_
     obtain ⟨r_4, h_r_4, hm⟩ := ob hm
     refine Op_call [] 39 _ mo_go87 (by kernel_rfl) (c_node_padded (F := N0) (O := N0) _ _ _ _ _ (Ro.n0 (k_9.rd 2 rfl)) (k_9.len 2 rfl) (k_9.lec 2 rfl) (Cx.refl _) _ h_r_4) ?_
     rintro e_ w_5 ⟨A6, _, c6, rfl, rfl, k_10⟩
     have k_11 := k_9.call k_10
     refine ⟨sl A6 r_4.length c6, rfl, ?_⟩
     refine ⟨(k_11.sel (.kkkk (.k .z))), fun _ => ?_⟩
     refine MX_op (by kernel_rfl) rfl ?_
     obtain ⟨r_5, h_r_5, hm⟩ := ob hm
     obtain ⟨F1, O1, kin, hO, hre, hF, hb⟩ := k_11.go (.r (.r (.r (.i (.i (.r .e))))))
     refine Op_invoke [] 42 144 (pt g0 0) [sl A6 r_4.length c6] mo_inv144_node_write rfl (by kernel_rfl) (c_node_half_uint64_write (F := F1) (O := O1) _ _ _ _ _ _ _ _ _ _ _ _ _ (Ro.of_rest hre 3 rfl) (k_11.len 5 rfl) (k_11.lec 5 rfl) kin _ h_r_5) ?_
     rintro e_ w_6 ⟨A7, _, c7, rfl, rfl, k_12⟩
     have k_13 := hb w_6 _ _ k_12 (.c (.c .n))
     refine ⟨.tup [], rfl, ?_⟩
     have k_14 := k_13.sel (.kkkk (.k .z))
     refine ⟨(k_14.sel (.ss (.kk (.k .e)))), fun _ => ?_⟩
     refine MX_nil ?_
     obtain rfl := Option.some.inj hm
     refine At_en [] qe (by kernel_rfl) ?_
     have k_15 := ((((k_14.pk (.t .h)).pk (.t .h)).pk (.t (.t (.t (.t .h))))).pk (.t (.t (.t (.t .h))))).pk (.t (.t (.t (.t .h))))
     exact ⟨A_n_block, n_block.length, c_n_block, A_n_key, n_key.length, c_n_key, g0, A7, r_5.2.2.2.1.length, c7, k_15.len 1 rfl, k_15.len 2 rfl, k_15.len 4 rfl, rfl, k_15⟩
   rw [if_neg hc] at hm
   refine W_skip ?_
   obtain rfl := Option.some.inj hm
   refine At_en [] qe (by kernel_rfl) ?_
   exact ⟨A_n_block, n_block.length, c_n_block, A_n_key, n_key.length, c_n_key, g0, A0, r_1.2.length, c0, k_5.len 1 rfl, k_5.len 2 rfl, k_5.len 4 rfl, rfl, k_5⟩
 · simp only [Sum.elim_inl, Sum.elim_inr] at hm
   rintro e_ w_0 ⟨g2, A8, _, c8, rfl, rfl, k_16⟩
   have k_17 := k_.call k_16
   refine ⟨.v (.iface 154 (SV.val (pt g2 0))), rfl, ?_⟩
   refine ⟨(k_17.sel (.kk (.k .z))), fun _ => ?_⟩
   refine MXq 1 2 [] (.n 12 (pt g_n 0) (.k (.sss .a))) (fun x hx => qs g_n 0 <| qe) (by kernel_rfl) (fun _ => ?_)
   refine MXq 1 1 [] (.n 13 (pt g_n 6) (.s .a)) (fun x hx => qs g_n 0 <| qe) (by kernel_rfl) (fun _ => ?_)
   refine MX_op (by kernel_rfl) rfl <| Op_b [] 0 (.v (.iface 154 (SV.val (pt g2 0)))) [.v (.iface 154 (SV.val (pt g2 0)))] (Pt.at g_n 6) k_17 rfl (.kkkk (.kk .h)) (by kernel_rfl) (by kernel_rfl) ?_
   intro w_7 k_18
   refine ⟨(k_18.sel (.s (.kk .z))), fun _ => ?_⟩
   refine MX_nil <| At_go <| W_seq <| W_reg <| WLs 3 [] (.n 16 (pt g_n 4) (.ss .a)) (qs g_n 0 <| qs g_n 0 <| qe) (by kernel_rfl) ?_
   refine WL_op <| Op_b [] 0 (.b false) [.b false] (Pt.at g_n 4) k_18 rfl (.kkkk .h) (by kernel_rfl) (by kernel_rfl) ?_
   intro w_8 k_19
   refine WL_nil <| At_go <| W_seq <| W_reg <| WLs 3 [] (.n 19 (pt g_n 5) (.s .a)) (qs g_n 0 <| qs g_n 0 <| qe) (by kernel_rfl) ?_
   refine WL_op <| Op_b [] 0 (.u64 0) [.u64 0] (Pt.at g_n 5) k_19 rfl (.kkkk (.k .h)) (by kernel_rfl) (by kernel_rfl) ?_
   intro w_9 k_20
   refine WL_nil <| At_go <| W_seq <| W_q [] (.n 25 (.b (decide (0 < ((n_key.length : Nat) : Int)))) (.s .a)) (qs g_n 0 <| qs g_n 0 <| qB k_20 0 rfl 3 (sl A_n_key n_key.length c_n_key) (by kernel_rfl) <| qe) (by kernel_rfl) ?_
   refine At_go <| W_condp (0 < ((n_key.length : Nat) : Int)) (by kernel_rfl) (fun hc0 => ?_) (fun hc0 => ?_)
   · rw [if_pos hc0] at hm
     have k_21 := k_20.drew 1
     refine W_m mo_mixed (.q 0 3 (.q 1 3 (.q 2 3 (.q 3 3 (.q 4 3 (.q 5 3 (.q 6 3 (.q 7 2 (.q 8 3 (.q 9 3 (.q 10 3 (.q 11 2 (.q 14 3 (.q 15 2 (.op 12 (.op 13 (.op 16 .nil))))))))))))))))) [12, 13, 16] k_21 (.c (.kkkk (.k .e)) (.c (.kkkk (.k .e)) (.c (.kk (.k .z)) .l))) (by kernel_rfl) (fun _ => ?_)
     refine MXq 7 3 [] (.n 29 (.v (.iface 154 (SV.val (pt g2 0)))) (.n 32 (pt g_n 3) (.s .a))) (fun x hx => qs g_n 0 <| qs g_n 0 <| qB hx 0 rfl 6 (.v (.iface 154 (SV.val (pt g2 0)))) (by kernel_rfl) <| qs g_n 0 <| qs g_n 0 <| qe) (by kernel_rfl) (fun _ => ?_)
     refine MXq 1 2 [] (.n 33 (sl A_n_key n_key.length c_n_key) (.k (.s .a))) (fun x hx => qB hx 0 rfl 3 (sl A_n_key n_key.length c_n_key) (by kernel_rfl) <| qe) (by kernel_rfl) (fun _ => ?_)
     refine MXq 3 3 [] (.n 36 (pt g_n 0) (.kk .z)) (fun x hx => qs g_n 0 <| qs g_n 0 <| qe) (by kernel_rfl) (fun _ => ?_)
     refine MXq 1 2 [] (.n 37 (I n_kind) (.s .a)) (fun x hx => qB hx 0 rfl 0 (I n_kind) (by kernel_rfl) <| qe) (by kernel_rfl) (fun _ => ?_)
     refine MXq 1 3 [] .a (fun x hx => qe) (by kernel_rfl) (fun _ => ?_)
     refine MXq 1 2 [] (.n 41 (.v (.iface 154 (SV.val (pt g2 0)))) (.kk .z)) (fun x hx => qe) (by kernel_rfl) (fun _ => ?_)
     refine MX_op (by kernel_rfl) rfl ?_
     have k_22 := k_21.sel (.kkkk (.k .e))
     obtain ⟨r_6, h_r_6, hm⟩ := ob hm
     refine Op_call [] 38 _ mo_go74 (by kernel_rfl) (c_node_blockOf (F := N0) (O := N0) _ (Cx.refl _) _ h_r_6) ?_
     rintro e_ w_10 ⟨rfl, k_23⟩
     have k_24 := k_22.call k_23
     refine ⟨I r_6, rfl, ?_⟩
     refine ⟨k_24, fun _ => ?_⟩
     refine MX_op (by kernel_rfl) rfl ?_
     obtain ⟨r_7, h_r_7, hm⟩ := ob hm
     refine Op_call [] 39 _ mo_go87 (by kernel_rfl) (c_node_padded (F := N0) (O := N0) _ _ _ _ _ (Ro.n0 (k_24.rd 2 rfl)) (k_24.len 2 rfl) (k_24.lec 2 rfl) (Cx.refl _) _ h_r_7) ?_
     rintro e_ w_11 ⟨A9, _, c9, rfl, rfl, k_25⟩
     have k_26 := k_24.call k_25
     refine ⟨sl A9 r_7.length c9, rfl, ?_⟩
     refine ⟨(k_26.sel (.kkkk (.k .z))), fun _ => ?_⟩
     refine MX_op (by kernel_rfl) rfl ?_
     obtain ⟨r_8, h_r_8, hm⟩ := ob hm
     obtain ⟨F10, O10, kin0, hO0, hre0, hF0, hb0⟩ := k_26.go (.r (.r (.r (.i (.i (.r .e))))))
     refine Op_invoke [] 42 154 (pt g2 0) [sl A9 r_7.length c9] mo_inv154_node_write rfl (by kernel_rfl) (c_node_half_uint32_write (F := F10) (O := O10) _ _ _ _ _ _ _ _ _ _ _ _ _ (Ro.of_rest hre0 3 rfl) (k_26.len 5 rfl) (k_26.lec 5 rfl) kin0 _ h_r_8) ?_
     rintro e_ w_12 ⟨A10, _, c10, rfl, rfl, k_27⟩
     have k_28 := hb0 w_12 _ _ k_27 (.c (.c .n))
     refine ⟨.tup [], rfl, ?_⟩
     have k_29 := k_28.sel (.kkkk (.k .z))
     refine ⟨(k_29.sel (.ss (.kk (.k .e)))), fun _ => ?_⟩
     refine MX_nil ?_
     obtain rfl := Option.some.inj hm
     refine At_en [] qe (by kernel_rfl) ?_
     have k_30 := ((((k_29.pk (.t .h)).pk (.t .h)).pk (.t (.t (.t (.t .h))))).pk (.t (.t (.t (.t .h))))).pk (.t (.t (.t (.t .h))))
     exact ⟨A_n_block, n_block.length, c_n_block, A_n_key, n_key.length, c_n_key, g2, A10, r_8.2.2.2.1.length, c10, k_30.len 1 rfl, k_30.len 2 rfl, k_30.len 4 rfl, rfl, k_30⟩
   rw [if_neg hc0] at hm
   refine W_skip ?_
   obtain rfl := Option.some.inj hm
   refine At_en [] qe (by kernel_rfl) ?_
   exact ⟨A_n_block, n_block.length, c_n_block, A_n_key, n_key.length, c_n_key, g2, A8, r_2.2.length, c8, k_20.len 1 rfl, k_20.len 2 rfl, k_20.len 4 rfl, rfl, k_20⟩

-- quern/node.made
theorem c_node_made {F O : Nat → Prop} {w : World} (k_ : Int) (block : List UInt8) (digest : Int) (key : List UInt8) (A_block : Option Addr) (n_block : Nat) (c_block : Nat) (A_key : Option Addr) (n_key : Nat) (c_key : Nat) (h_block : Ro F w A_block (e8.all block)) (hn_block : block.length = n_block) (hc_block : n_block ≤ c_block) (h_key : Ro F w A_key (e8.all key)) (hn_key : key.length = n_key) (hc_key : n_key ≤ c_key) (k : Cx F O w w []) (r : (Int × Int × List UInt8 × List UInt8 × Vec UInt64 8 × UInt64 × UInt64 × List UInt8 × Int) ⊕ (Int × Int × List UInt8 × List UInt8 × Vec UInt32 8 × UInt64 × UInt64 × List UInt8 × Int)) (hm : m_node_made k_ block digest key = some r) :
    Calls Try.prog 72 (vals [I k_, sl A_block n_block c_block, I digest, sl A_key n_key c_key]) w (fun e w' => match r with | .inl r0 => ∃ g A n c A1 n1 c1 g1 A2 n2 c2, r0.2.2.1.length = n ∧ r0.2.2.2.1.length = n1 ∧ r0.2.2.2.2.2.2.2.1.length = n2 ∧ e = .returned (SV.val (pt g 0)) ∧ Cx F O w w' [Bx 108 g [I r0.1, I r0.2.1, sl A n c, sl A1 n1 c1, .b false, .u64 0, .v (.iface 144 (SV.val (pt g1 0)))], Ow e8 A n c r0.2.2.1, Ow e8 A1 n1 c1 r0.2.2.2.1, Bx 150 g1 [.ar e64 r0.2.2.2.2.1, .u64 r0.2.2.2.2.2.1, .u64 r0.2.2.2.2.2.2.1, sl A2 n2 c2, I r0.2.2.2.2.2.2.2.2, .v (.func (.func 89) ⟨SV.vals []⟩ ⟨SV.vals []⟩), .v (.func (.func 90) ⟨SV.vals []⟩ ⟨SV.vals []⟩)], Ow e8 A2 n2 c2 r0.2.2.2.2.2.2.2.1] | .inr r1 => ∃ g2 A3 n3 c3 A4 n4 c4 g3 A5 n5 c5, r1.2.2.1.length = n3 ∧ r1.2.2.2.1.length = n4 ∧ r1.2.2.2.2.2.2.2.1.length = n5 ∧ e = .returned (SV.val (pt g2 0)) ∧ Cx F O w w' [Bx 108 g2 [I r1.1, I r1.2.1, sl A3 n3 c3, sl A4 n4 c4, .b false, .u64 0, .v (.iface 154 (SV.val (pt g3 0)))], Ow e8 A3 n3 c3 r1.2.2.1, Ow e8 A4 n4 c4 r1.2.2.2.1, Bx 158 g3 [.ar e32 r1.2.2.2.2.1, .u64 r1.2.2.2.2.2.1, .u64 r1.2.2.2.2.2.2.1, sl A5 n5 c5, I r1.2.2.2.2.2.2.2.2, .v (.func (.func 92) ⟨SV.vals []⟩ ⟨SV.vals []⟩), .v (.func (.func 93) ⟨SV.vals []⟩ ⟨SV.vals []⟩)], Ow e8 A5 n5 c5 r1.2.2.2.2.2.2.2.1]) := by
 unfold m_node_made at hm
 subst hn_block
 subst hn_key
 refine calls [I k_, sl A_block block.length c_block, I digest, sl A_key key.length c_key] Try.func72 rfl (of_decide_eq_true (by kernel_rfl)) ?_
 refine W_seq <| W_q [] .a qe (by kernel_rfl) ?_
 refine At_go <| W_seq <| W_reg <| WLs 3 [] (.n 10 (I k_) (.n 11 (I digest) (.n 12 (sl A_block block.length c_block) (.sss .a)))) qe (by kernel_rfl) ?_
 refine WL_op ?_
 have k_1 := k.nil e8
 obtain ⟨b, h_b, hm⟩ := ob hm
 obtain ⟨hz, hl⟩ := app_some h_b
 refine Op_append (E := e8) (v := sl A_block block.length c_block) (ys := block) mo_tf22 [] 13 0 (by kernel_rfl) k_1 rfl (Src.sl (h_block.cx k_1) rfl (by rfl)) rfl (by have := k_1.len 0 rfl; have := hm; omega) ?_
 intro A0 c0 w_ k_2
 rw [← hl] at k_2
 refine WLs 1 [] (.n 14 (sl A_key key.length c_key) (.kkk .z)) qe (by kernel_rfl) ?_
 refine WL_op ?_
 have k_3 := k_2.nil e8
 obtain ⟨b1, h_b1, hm⟩ := ob hm
 obtain ⟨hz1, hl1⟩ := app_some h_b1
 refine Op_append (E := e8) (v := sl A_key key.length c_key) (ys := key) mo_tf22 [] 15 1 (by kernel_rfl) k_3 rfl (Src.sl (h_key.cx k_3) rfl (by rfl)) rfl (by have := k_3.len 1 rfl; have := hm; omega) ?_
 intro A6 c6 w_1 k_4
 rw [← hl1] at k_4
 refine WLs 1 [] (.n 16 (.agg [I k_, I digest, sl A0 (0 + block.length) c0, sl A6 (0 + key.length) c6, .b false, .u64 0, .v .nilIface]) .z) qe (by kernel_rfl) ?_
 refine WL_op <| Op_box [] 17 (.agg [I k_, I digest, sl A0 (0 + block.length) c0, sl A6 (0 + key.length) c6, .b false, .u64 0, .v .nilIface]) [I k_, I digest, sl A0 (0 + block.length) c0, sl A6 (0 + key.length) c6, .b false, .u64 0, .v .nilIface] (by kernel_rfl) k_4 ?_
 intro g0 w_2 k_5
 refine WLs 1 [] (.n 9 (pt g0 0) .z) qe (by kernel_rfl) ?_
 refine WL_nil <| At_go <| W_seq <| W_reg <| WLs 1 [] (.n 18 (pt g0 0) .a) qe (by kernel_rfl) ?_
 refine WL_op ?_
 obtain ⟨r_, h_r_, hm⟩ := ob hm
 have k_6 := ((k_5.pk (.t .h)).pk (.t .h)).pk (.t (.t .h))
 obtain ⟨F1, O1, kin, hO, hre, hF, hb⟩ := k_6.go (.i (.i (.i .e)))
 refine Op_call [] 19 _ mo_go84 (by kernel_rfl) (c_node_Node_begin (F := F1) (O := O1) _ _ _ _ _ _ _ _ _ _ _ _ _ kin _ h_r_) ?_
 rcases r_ with r_1 | r_2
 · simp only [Sum.elim_inl, Sum.elim_inr] at hm
   rintro e_ w_3 ⟨A7, _, c7, A8, _, c8, g4, A9, _, c9, rfl, rfl, rfl, rfl, k_7⟩
   have k_8 := hb w_3 _ _ k_7 (.c (.c (.c (.c (.c .n)))))
   refine ⟨.tup [], rfl, ?_⟩
   refine WL_nil <| At_go <| W_seq <| W_q [] (.n 8 (pt g0 0) .z) qe (by kernel_rfl) ?_
   refine At_go <| W_ret ?_
   obtain rfl := Option.some.inj hm
   refine At_rt [pt g0 0] qe (by kernel_rfl) ?_
   exact ⟨g0, A7, r_1.2.2.1.length, c7, A8, r_1.2.2.2.1.length, c8, g4, A9, r_1.2.2.2.2.2.2.2.1.length, c9, k_8.len 1 rfl, k_8.len 2 rfl, k_8.len 4 rfl, rfl, k_8⟩
 · simp only [Sum.elim_inl, Sum.elim_inr] at hm
   rintro e_ w_4 ⟨A10, _, c10, A11, _, c11, g5, A12, _, c12, rfl, rfl, rfl, rfl, k_9⟩
   have k_10 := hb w_4 _ _ k_9 (.c (.c (.c (.c (.c .n)))))
   refine ⟨.tup [], rfl, ?_⟩
   refine WL_nil <| At_go <| W_seq <| W_q [] (.n 8 (pt g0 0) .z) qe (by kernel_rfl) ?_
   refine At_go <| W_ret ?_
   obtain rfl := Option.some.inj hm
   refine At_rt [pt g0 0] qe (by kernel_rfl) ?_
   exact ⟨g0, A10, r_2.2.2.1.length, c10, A11, r_2.2.2.2.1.length, c11, g5, A12, r_2.2.2.2.2.2.2.2.1.length, c12, k_10.len 1 rfl, k_10.len 2 rfl, k_10.len 4 rfl, rfl, k_10⟩

-- quern/node.New
theorem c_node_New {F O : Nat → Prop} {w : World} (k_ : Int) (p_Digest : Int) (p_Key : Int) (p_Fanout : Int) (p_Depth : Int) (p_Leaf : UInt32) (p_Offset : UInt64) (p_Xof : UInt32) (p_NodeDepth : Int) (p_Inner : Int) (p_Salt : List UInt8) (p_Personal : List UInt8) (key : List UInt8) (A_p_Salt : Option Addr) (n_p_Salt : Nat) (c_p_Salt : Nat) (A_p_Personal : Option Addr) (n_p_Personal : Nat) (c_p_Personal : Nat) (A_key : Option Addr) (n_key : Nat) (c_key : Nat) (h_p_Salt : Ro F w A_p_Salt (e8.all p_Salt)) (hn_p_Salt : p_Salt.length = n_p_Salt) (hc_p_Salt : n_p_Salt ≤ c_p_Salt) (h_p_Personal : Ro F w A_p_Personal (e8.all p_Personal)) (hn_p_Personal : p_Personal.length = n_p_Personal) (hc_p_Personal : n_p_Personal ≤ c_p_Personal) (h_key : Ro F w A_key (e8.all key)) (hn_key : key.length = n_key) (hc_key : n_key ≤ c_key) (k : Cx F O w w []) (r : Int ⊕ (Int × Int × List UInt8 × List UInt8 × Vec UInt64 8 × UInt64 × UInt64 × List UInt8 × Int) ⊕ (Int × Int × List UInt8 × List UInt8 × Vec UInt32 8 × UInt64 × UInt64 × List UInt8 × Int)) (hm : m_node_New k_ p_Digest p_Key p_Fanout p_Depth p_Leaf p_Offset p_Xof p_NodeDepth p_Inner p_Salt p_Personal key = some r) :
    Calls Try.prog 58 (vals [I k_, .agg [I p_Digest, I p_Key, I p_Fanout, I p_Depth, .u32 p_Leaf, .u64 p_Offset, .u32 p_Xof, I p_NodeDepth, I p_Inner, sl A_p_Salt n_p_Salt c_p_Salt, sl A_p_Personal n_p_Personal c_p_Personal], sl A_key n_key c_key]) w (fun e w' => match r with | .inl r0 => e = .returned (SV.val (.tup [.v (.pointer none), I r0])) ∧ Cx F O w w' [] | .inr (.inl r1) => ∃ g A n c A1 n1 c1 g1 A2 n2 c2, r1.2.2.1.length = n ∧ r1.2.2.2.1.length = n1 ∧ r1.2.2.2.2.2.2.2.1.length = n2 ∧ e = .returned (SV.val (.tup [pt g 0, I 0])) ∧ Cx F O w w' [Bx 108 g [I r1.1, I r1.2.1, sl A n c, sl A1 n1 c1, .b false, .u64 0, .v (.iface 144 (SV.val (pt g1 0)))], Ow e8 A n c r1.2.2.1, Ow e8 A1 n1 c1 r1.2.2.2.1, Bx 150 g1 [.ar e64 r1.2.2.2.2.1, .u64 r1.2.2.2.2.2.1, .u64 r1.2.2.2.2.2.2.1, sl A2 n2 c2, I r1.2.2.2.2.2.2.2.2, .v (.func (.func 89) ⟨SV.vals []⟩ ⟨SV.vals []⟩), .v (.func (.func 90) ⟨SV.vals []⟩ ⟨SV.vals []⟩)], Ow e8 A2 n2 c2 r1.2.2.2.2.2.2.2.1] | .inr (.inr r2) => ∃ g2 A3 n3 c3 A4 n4 c4 g3 A5 n5 c5, r2.2.2.1.length = n3 ∧ r2.2.2.2.1.length = n4 ∧ r2.2.2.2.2.2.2.2.1.length = n5 ∧ e = .returned (SV.val (.tup [pt g2 0, I 0])) ∧ Cx F O w w' [Bx 108 g2 [I r2.1, I r2.2.1, sl A3 n3 c3, sl A4 n4 c4, .b false, .u64 0, .v (.iface 154 (SV.val (pt g3 0)))], Ow e8 A3 n3 c3 r2.2.2.1, Ow e8 A4 n4 c4 r2.2.2.2.1, Bx 158 g3 [.ar e32 r2.2.2.2.2.1, .u64 r2.2.2.2.2.2.1, .u64 r2.2.2.2.2.2.2.1, sl A5 n5 c5, I r2.2.2.2.2.2.2.2.2, .v (.func (.func 92) ⟨SV.vals []⟩ ⟨SV.vals []⟩), .v (.func (.func 93) ⟨SV.vals []⟩ ⟨SV.vals []⟩)], Ow e8 A5 n5 c5 r2.2.2.2.2.2.2.2.1]) := by
 unfold m_node_New at hm
 subst hn_p_Salt
 subst hn_p_Personal
 subst hn_key
 refine calls [I k_, .agg [I p_Digest, I p_Key, I p_Fanout, I p_Depth, .u32 p_Leaf, .u64 p_Offset, .u32 p_Xof, I p_NodeDepth, I p_Inner, sl A_p_Salt p_Salt.length c_p_Salt, sl A_p_Personal p_Personal.length c_p_Personal], sl A_key key.length c_key] Try.func58 rfl (of_decide_eq_true (by kernel_rfl)) ?_
 refine W_seq <| W_reg <| WL_op <| Op_box [] 4 (.agg [I p_Digest, I p_Key, I p_Fanout, I p_Depth, .u32 p_Leaf, .u64 p_Offset, .u32 p_Xof, I p_NodeDepth, I p_Inner, sl A_p_Salt p_Salt.length c_p_Salt, sl A_p_Personal p_Personal.length c_p_Personal]) [I p_Digest, I p_Key, I p_Fanout, I p_Depth, .u32 p_Leaf, .u64 p_Offset, .u32 p_Xof, I p_NodeDepth, I p_Inner, sl A_p_Salt p_Salt.length c_p_Salt, sl A_p_Personal p_Personal.length c_p_Personal] (by kernel_rfl) k ?_
 intro g0 w_ k_1
 refine WLs 2 [] (.kk (.s .a)) qe (by kernel_rfl) ?_
 refine WL_nil <| At_go <| W_seq <| W_reg <| WLs 2 [] (.n 11 (I k_) (.n 12 (.agg [I p_Digest, I p_Key, I p_Fanout, I p_Depth, .u32 p_Leaf, .u64 p_Offset, .u32 p_Xof, I p_NodeDepth, I p_Inner, sl A_p_Salt p_Salt.length c_p_Salt, sl A_p_Personal p_Personal.length c_p_Personal]) .a)) (qT k_1 0 rfl 0 11 [I p_Digest, I p_Key, I p_Fanout, I p_Depth, .u32 p_Leaf, .u64 p_Offset, .u32 p_Xof, I p_NodeDepth, I p_Inner, sl A_p_Salt p_Salt.length c_p_Salt, sl A_p_Personal p_Personal.length c_p_Personal] (by kernel_rfl) (by decide) <| qe) (by kernel_rfl) ?_
 refine WL_op ?_
 obtain ⟨r_, h_r_, hm⟩ := ob hm
 refine Op_call [] 13 _ mo_go71 (by kernel_rfl) (c_param_Encode (F := N0) (O := N0) _ _ _ _ _ _ _ _ _ _ _ _ _ _ _ _ _ _ (Ro.n0 (h_p_Salt.cx k_1)) rfl hc_p_Salt (Ro.n0 (h_p_Personal.cx k_1)) rfl hc_p_Personal (Cx.refl _) _ h_r_) ?_
 rintro e_ w_1 ⟨A0, _, c0, rfl, rfl, k_2⟩
 have k_3 := k_1.call k_2
 refine ⟨.tup [sl A0 r_.1.length c0, I r_.2], rfl, ?_⟩
 refine WLs 5 [] (.n 8 (sl A0 r_.1.length c0) (.n 9 (I r_.2) (.sss .a))) qe (by kernel_rfl) ?_
 refine WL_nil <| At_go <| W_seq <| W_seq <| W_q [] (.n 17 (.b (decide (r_.2 ≠ 0))) .a) qe (by kernel_rfl) ?_
 refine At_go <| W_condp (r_.2 ≠ 0) (by kernel_rfl) (fun hc => ?_) (fun hc => ?_)
 · rw [if_pos hc] at hm
   refine W_seq <| W_q [] (.n 6 (.v (.pointer none)) (.n 7 (I r_.2) .z)) qe (by kernel_rfl) ?_
   refine At_go <| W_ret (At_tr ?_)
   obtain rfl := Option.some.inj hm
   refine At_rt [.v (.pointer none), I r_.2] qe (by kernel_rfl) ?_
   have k_4 := k_3.sel .z
   exact ⟨rfl, k_4⟩
 rw [if_neg hc] at hm
 refine W_skip <| At_go <| W_seq <| W_seq <| W_q [] (.n 28 (.b ((decide (((key.length : Nat) : Int) ≠ 0)) && (decide (((key.length : Nat) : Int) ≠ p_Key)))) (.s (.k (.s .a)))) (qp ((decide (((key.length : Nat) : Int) ≠ 0)) = true → (some ⟨g0, 0, none⟩ : Option Addr).isSome = true) (fun hg0 => rfl) <| qo (I p_Key) <| qc (fun w => (decide (((key.length : Nat) : Int) ≠ 0)) = true → ∃ a, (some ⟨g0, 1, none⟩ : Option Addr) = some a ∧ w.cell? a = some (SV.val (I p_Key))) (fun hg0 => k_3.bld 0 rfl 1 (I p_Key) (by kernel_rfl)) <| qe) (by kernel_rfl) ?_
 refine At_go <| W_cond ((decide (((key.length : Nat) : Int) ≠ 0)) && (decide (((key.length : Nat) : Int) ≠ p_Key))) (by kernel_rfl) (fun hc1 => ?_) (fun hc1 => ?_)
 · rw [if_pos hc1] at hm
   refine W_seq <| W_q [] (.n 6 (.v (.pointer none)) (.n 7 (I 8) .z)) qe (by kernel_rfl) ?_
   refine At_go <| W_ret (At_tr ?_)
   obtain rfl := Option.some.inj hm
   refine At_rt [.v (.pointer none), I 8] qe (by kernel_rfl) ?_
   have k_5 := k_3.sel .z
   exact ⟨rfl, k_5⟩
 rw [if_neg (by rw [hc1]; decide)] at hm
 refine W_skip <| At_go <| W_seq <| W_reg <| WLs 5 [] (.n 29 (I k_) (.n 30 (sl A0 r_.1.length c0) (.n 32 (I p_Digest) (.n 33 (sl A_key key.length c_key) .z)))) (qs g0 0 <| qB k_3 0 rfl 0 (I p_Digest) (by kernel_rfl) <| qe) (by kernel_rfl) ?_
 refine WL_op ?_
 obtain ⟨r_1, h_r_1, hm⟩ := ob hm
 refine Op_call [] 34 _ mo_go72 (by kernel_rfl) (c_node_made (F := N0) (O := N0) _ _ _ _ _ _ _ _ _ _ (Ro.n0 (k_3.rd 1 rfl)) (k_3.len 1 rfl) (k_3.lec 1 rfl) (Ro.n0 (h_key.cx k_3)) rfl hc_key (Cx.refl _) _ h_r_1) ?_
 rcases r_1 with r_2 | r_3
 · simp only [Sum.elim_inl, Sum.elim_inr] at hm
   rintro e_ w_2 ⟨g4, A6, _, c6, A7, _, c7, g5, A8, _, c8, rfl, rfl, rfl, rfl, k_6⟩
   have k_7 := k_3.call k_6
   refine ⟨pt g4 0, rfl, ?_⟩
   have k_8 := k_7.sel (.ss (.kkkk (.k .e)))
   refine WLs 2 [] (.n 6 (pt g4 0) (.n 7 (I 0) .z)) qe (by kernel_rfl) ?_
   refine WL_nil <| At_go <| W_ret ?_
   obtain rfl := Option.some.inj hm
   refine At_rt [pt g4 0, I 0] qe (by kernel_rfl) ?_
   exact ⟨g4, A6, r_2.2.2.1.length, c6, A7, r_2.2.2.2.1.length, c7, g5, A8, r_2.2.2.2.2.2.2.2.1.length, c8, k_8.len 1 rfl, k_8.len 2 rfl, k_8.len 4 rfl, rfl, k_8⟩
 · simp only [Sum.elim_inl, Sum.elim_inr] at hm
   rintro e_ w_3 ⟨g6, A9, _, c9, A10, _, c10, g7, A11, _, c11, rfl, rfl, rfl, rfl, k_9⟩
   have k_10 := k_3.call k_9
   refine ⟨pt g6 0, rfl, ?_⟩
   have k_11 := k_10.sel (.ss (.kkkk (.k .e)))
   refine WLs 2 [] (.n 6 (pt g6 0) (.n 7 (I 0) .z)) qe (by kernel_rfl) ?_
   refine WL_nil <| At_go <| W_ret ?_
   obtain rfl := Option.some.inj hm
   refine At_rt [pt g6 0, I 0] qe (by kernel_rfl) ?_
   exact ⟨g6, A9, r_3.2.2.1.length, c9, A10, r_3.2.2.2.1.length, c10, g7, A11, r_3.2.2.2.2.2.2.2.1.length, c11, k_11.len 1 rfl, k_11.len 2 rfl, k_11.len 4 rfl, rfl, k_11⟩

-- (*quern/node.Node).none
theorem c_node_Node_none {F O : Nat → Prop} {w : World} (n_kind : Int) (n_digest : Int) (n_block : List UInt8) (n_key : List UInt8) (n_last : Bool) (n_written : UInt64) (n_e_h : Vec UInt64 8) (n_e_count_Lo : UInt64) (n_e_count_Hi : UInt64) (n_e_held : List UInt8) (n_e_block : Int) (g_n : Nat) (A_n_block : Option Addr) (n_n_block : Nat) (c_n_block : Nat) (A_n_key : Option Addr) (n_n_key : Nat) (c_n_key : Nat) (g_n_e : Nat) (A_n_e_held : Option Addr) (n_n_e_held : Nat) (c_n_e_held : Nat) (k : Cx F O w w [Bx 108 g_n [I n_kind, I n_digest, sl A_n_block n_n_block c_n_block, sl A_n_key n_n_key c_n_key, .b n_last, .u64 n_written, .v (.iface 144 (SV.val (pt g_n_e 0)))], Ow e8 A_n_block n_n_block c_n_block n_block, Ow e8 A_n_key n_n_key c_n_key n_key, Bx 150 g_n_e [.ar e64 n_e_h, .u64 n_e_count_Lo, .u64 n_e_count_Hi, sl A_n_e_held n_n_e_held c_n_e_held, I n_e_block, .v (.func (.func 89) ⟨SV.vals []⟩ ⟨SV.vals []⟩), .v (.func (.func 90) ⟨SV.vals []⟩ ⟨SV.vals []⟩)], Ow e8 A_n_e_held n_n_e_held c_n_e_held n_e_held]) (r : (Vec UInt64 8 × UInt64 × UInt64 × List UInt8 × Int × Int × Int × List UInt8 × List UInt8 × Bool × UInt64)) (hm : m_node_Node_none n_kind n_digest n_block n_key n_last n_written n_e_h n_e_count_Lo n_e_count_Hi n_e_held n_e_block = some r) :
    Calls Try.prog 73 (vals [pt g_n 0]) w (fun e w' => ∃ A n c A1 n1 c1 A2 n2 c2, r.2.2.2.1.length = n ∧ r.2.2.2.2.2.2.2.1.length = n1 ∧ r.2.2.2.2.2.2.2.2.1.length = n2 ∧ e = .returned (SV.val (.b false)) ∧ Cx F O w w' [Bx 150 g_n_e [.ar e64 r.1, .u64 r.2.1, .u64 r.2.2.1, sl A n c, I r.2.2.2.2.1, .v (.func (.func 89) ⟨SV.vals []⟩ ⟨SV.vals []⟩), .v (.func (.func 90) ⟨SV.vals []⟩ ⟨SV.vals []⟩)], Ow e8 A n c r.2.2.2.1, Bx 108 g_n [I r.2.2.2.2.2.1, I r.2.2.2.2.2.2.1, sl A1 n1 c1, sl A2 n2 c2, .b r.2.2.2.2.2.2.2.2.2.1, .u64 r.2.2.2.2.2.2.2.2.2.2, .v (.iface 144 (SV.val (pt g_n_e 0)))], Ow e8 A1 n1 c1 r.2.2.2.2.2.2.2.1, Ow e8 A2 n2 c2 r.2.2.2.2.2.2.2.2.1]) := by
 unfold m_node_Node_none at hm
 obtain rfl := k.len 1 rfl
 obtain rfl := k.len 2 rfl
 obtain rfl := k.len 4 rfl
 refine calls [pt g_n 0] Try.func73 rfl (of_decide_eq_true (by kernel_rfl)) ?_
 refine W_seq <| W_q [] .a qe (by kernel_rfl) ?_
 refine At_go <| W_seq <| W_q [5] (.n 2 (.b false) .z) (qs g_n 0 <| qs g_n 0 <| qB k 0 rfl 6 (.v (.iface 144 (SV.val (pt g_n_e 0)))) (by kernel_rfl) <| qe) (by kernel_rfl) ?_
 refine At_go <| W_ret ?_
 obtain rfl := Option.some.inj hm
 refine At_rt [.b false] qe (by kernel_rfl) ?_
 have k_ := ((((k.pk (.t (.t .h))).pk (.t (.t .h))).pk (.t (.t .h))).pk (.t (.t (.t (.t .h))))).pk (.t (.t (.t (.t .h))))
 exact ⟨A_n_e_held, n_e_held.length, c_n_e_held, A_n_block, n_block.length, c_n_block, A_n_key, n_key.length, c_n_key, k_.len 1 rfl, k_.len 3 rfl, k_.len 4 rfl, rfl, k_⟩

-- quern/word.Store64
theorem c_word_Store64 {F O : Nat → Prop} {w : World} (w_ : UInt64) (k : Cx F O w w []) (r : (List UInt8)) (hm : m_word_Store64 w_ = some r) :
    Calls Try.prog 39 (vals [.u64 w_]) w (fun e w' => ∃ A n c, r.length = n ∧ e = .returned (SV.val (sl A n c)) ∧ Cx F O w w' [Ow e8 A n c r]) := by
 unfold m_word_Store64 at hm
 refine calls [.u64 w_] Try.func39 rfl (of_decide_eq_true (by kernel_rfl)) ?_
 refine W_seq <| W_q [] .a qe (by kernel_rfl) ?_
 refine At_go <| W_seq <| W_reg <| WL_op <| Op_make mo_tf22 e8 (0 : UInt8) rfl [] 5 (I 8) (I 8) (8 : Int) (8 : Int) (by kernel_rfl) (by omega) (by omega) (by omega) k ?_
 intro A0 w_1 k_
 refine WLs 1 [] (.n 3 (sl A0 (Int.toNat (8 : Int)) (Int.toNat (8 : Int))) (.s .a)) qe (by kernel_rfl) ?_
 refine WL_nil <| At_go <| W_seq <| W_seq <| W_q [] (.n 6 (I 0) .a) qe (by kernel_rfl) ?_
 refine At_go <| W_block <| W_lp (m_word_Store64_l0 w_) (fun s L wr => ∃ (b : List UInt8) (x_0 : Int), (b, x_0) = s ∧ L = [(0, .u64 w_), (3, sl A0 (Int.toNat (8 : Int)) (Int.toNat (8 : Int))), (6, I x_0)] ∧ Cx F O w wr [Ow e8 A0 (Int.toNat (8 : Int)) (Int.toNat (8 : Int)) b]) (List.replicate (Int.toNat (8 : Int)) (0 : UInt8), (0 : Int)) r hm ⟨List.replicate (Int.toNat (8 : Int)) (0 : UInt8), (0 : Int), rfl, rfl, k_⟩ (by kernel_rfl) ?_
 intro s0_ L_ w_2 y0 hrel hstep hr0
 obtain ⟨b, x_0, rfl, rfl, k_1⟩ := hrel
 have hm := hstep; simp only [m_word_Store64_l0] at hm
 clear hstep
 refine W_seq <| W_q [] (.n 7 (.b (decide (x_0 < 8))) .a) qe (by kernel_rfl) ?_
 refine At_go <| W_seq <| W_condp (x_0 < 8) (by kernel_rfl) (fun hc => ?_) (fun hc => ?_)
 · rw [if_pos hc] at hm
   refine W_skip <| At_go <| W_seq <| W_block <| W_seq <| W_q [] (.n 4 (I x_0) (.s .a)) qe (by kernel_rfl) ?_
   refine At_go <| W_reg ?_
   obtain ⟨u, h_u, hm⟩ := ob hm
   obtain ⟨x_1, h_x_1, hm⟩ := ob hm
   refine WLs 8 [] (.n 15 (.u8 (UInt8.ofNat (shr64 w_ (Int.toNat (w64 (8 * x_0)))).toNat)) (.n 16 (.v (.pointer (ixA A0 x_0 1))) (.s .a))) (qp (0 ≤ w64 (8 * x_0)) (need_some h_u) <| qJ (k_1.rd 0 rfl) h_x_1 (k_1.len 0 rfl) <| qe) (by kernel_rfl) ?_
   refine WL_op <| Op_ost (E := e8) (kk := 0) (sv := .u8 (UInt8.ofNat (shr64 w_ (Int.toNat (w64 (8 * x_0)))).toNat)) (svs := [.u8 (UInt8.ofNat (shr64 w_ (Int.toNat (w64 (8 * x_0)))).toNat)]) [] 0 (UInt8.ofNat (shr64 w_ (Int.toNat (w64 (8 * x_0)))).toNat) (by kernel_rfl) (Pt.ix1 A0 x_0 1) k_1 rfl (geti_some h_x_1).2 (E_ix (E := e8) (k_1.rd 0 rfl) (by decide) (geti_lt h_x_1).1 (geti_some h_x_1).2) rfl (Nat.le_of_ble_eq_true (by kernel_rfl)) ?_
   intro w_3 k_2
   refine WL_nil <| At_in <| At_go <| W_q [] (.n 6 (I (w64 (x_0 + 1))) (.ss (.kk .z))) qe (by kernel_rfl) ?_
   exact At_rd (b.set (Int.toNat x_0) (UInt8.ofNat (shr64 w_ (Int.toNat (w64 (8 * x_0)))).toNat), w64 (x_0 + 1)) (Option.some.inj hm).symm ⟨b.set (Int.toNat x_0) (UInt8.ofNat (shr64 w_ (Int.toNat (w64 (8 * x_0)))).toNat), w64 (x_0 + 1), rfl, rfl, k_2⟩ (by kernel_rfl)
 rw [if_neg hc] at hm
 refine W_exit (At_te (At_te (At_ie ?_)))
 have hm := exit_of hm hr0
 refine At_go <| W_seq <| W_q [] (.n 2 (sl A0 (Int.toNat (8 : Int)) (Int.toNat (8 : Int))) .z) qe (by kernel_rfl) ?_
 refine At_go <| W_ret ?_
 obtain rfl := Option.some.inj hm
 refine At_rt [sl A0 (Int.toNat (8 : Int)) (Int.toNat (8 : Int))] qe (by kernel_rfl) ?_
 exact ⟨A0, Int.toNat (8 : Int), Int.toNat (8 : Int), k_1.len 0 rfl, rfl, k_1⟩

-- quern/mixb.Bytes
theorem c_mixb_Bytes {F O : Nat → Prop} {w : World} (h : Vec UInt64 8) (k : Cx F O w w []) (r : (List UInt8)) (hm : m_mixb_Bytes h = some r) :
    Calls Try.prog 90 (vals [.agg [.ar e64 h]]) w (fun e w' => ∃ A n c, r.length = n ∧ e = .returned (SV.val (sl A n c)) ∧ Cx F O w w' [Ow e8 A n c r]) := by
 unfold m_mixb_Bytes at hm
 refine calls [.agg [.ar e64 h]] Try.func90 rfl (of_decide_eq_true (by kernel_rfl)) ?_
 refine W_seq <| W_reg <| WL_op <| Op_box [] 1 (.agg [.ar e64 h]) [.ar e64 h] (by kernel_rfl) k ?_
 intro g w_ k_
 refine WLs 1 [] (.k .z) qe (by kernel_rfl) ?_
 refine WL_nil <| At_go <| W_seq <| W_reg <| WL_op <| Op_make mo_tf22 e8 (0 : UInt8) rfl [] 6 (I 0) (I 64) (0 : Int) (64 : Int) (by kernel_rfl) (by omega) (by omega) (by omega) k_ ?_
 intro A0 w_1 k_1
 refine WLs 1 [] (.n 3 (sl A0 (Int.toNat (0 : Int)) (Int.toNat (64 : Int))) (.s .a)) qe (by kernel_rfl) ?_
 refine WL_nil <| At_go <| W_seq <| W_seq <| W_q [] (.n 7 (.agg [.ar e64 h]) (.n 8 (I 0) (.k .z))) (qT k_1 0 rfl 0 8 [.ar e64 h] (by kernel_rfl) (by decide) <| qe) (by kernel_rfl) ?_
 refine At_go <| W_block ?_
 have k_3 := k_1.sel (.s (.k .e))
 refine W_lp (m_mixb_Bytes_l0 h) (fun s L wr => ∃ (b : List UInt8) (x_0 : Int) (A1 : Option Addr) (n0 : Nat) (c0 : Nat), (b, x_0) = s ∧ L = [(3, sl A1 n0 c0), (7, .agg [.ar e64 h]), (8, I x_0)] ∧ b.length = n0 ∧ Cx F O w wr [Ow e8 A1 n0 c0 b]) (List.replicate (Int.toNat (0 : Int)) (0 : UInt8), (0 : Int)) r hm ⟨List.replicate (Int.toNat (0 : Int)) (0 : UInt8), (0 : Int), A0, Int.toNat (0 : Int), Int.toNat (64 : Int), rfl, rfl, k_3.len 0 rfl, k_3⟩ (by kernel_rfl) ?_
 intro s0_ L_ w_2 y0 hrel hstep hr0
 obtain ⟨b, x_0, A1, _, c0, rfl, rfl, rfl, k_2⟩ := hrel
 have hm := hstep; simp only [m_mixb_Bytes_l0] at hm
 clear hstep
 refine W_seq <| W_q [] (.n 9 (.b (decide (x_0 < 8))) .a) qe (by kernel_rfl) ?_
 refine At_go <| W_seq <| W_condp (x_0 < 8) (by kernel_rfl) (fun hc => ?_) (fun hc => ?_)
 · rw [if_pos hc] at hm
   refine W_skip <| At_go <| W_seq <| W_block <| W_seq ?_
   obtain ⟨x_1, h_x_1, hm⟩ := ob hm
   refine W_q [] (.n 5 (.u64 x_1) (.s .a)) (qo (.u64 x_1) <| qp ((0 ≤ x_0 ∧ x_0 < ((8 : Nat) : Int)) ∧ (SV.cl [.ar e64 h])[Int.toNat x_0 * 1]? = some (SV.val (.u64 x_1))) (ar_ix (E := e64) h_x_1 rfl) <| qe) (by kernel_rfl) ?_
   refine At_go <| W_reg <| WLs 2 [] (.n 11 (sl A1 b.length c0) (.n 12 (.u64 x_1) (.s .a))) qe (by kernel_rfl) ?_
   refine WL_op ?_
   obtain ⟨r_, h_r_, hm⟩ := ob hm
   refine Op_call [] 13 _ mo_go39 (by kernel_rfl) (c_word_Store64 (F := N0) (O := N0) _ (Cx.refl _) _ h_r_) ?_
   rintro e_ w_3 ⟨A2, _, c1, rfl, rfl, k_4⟩
   have k_5 := k_2.call k_4
   refine ⟨sl A2 r_.length c1, rfl, ?_⟩
   refine WL_op ?_
   obtain ⟨b1, h_b1, hm⟩ := ob hm
   obtain ⟨hz, hl⟩ := app_some h_b1
   refine Op_append (E := e8) (v := sl A2 r_.length c1) (ys := r_) mo_tf22 [] 14 0 (by kernel_rfl) k_5 rfl (Src.sl (k_5.rd 1 rfl) (k_5.len 1 rfl) (by rfl)) (k_5.len 1 rfl) (by have := k_5.len 0 rfl; have := (k_5.len 1 rfl); omega) ?_
   intro A3 c2 w_4 k_6
   rw [← hl] at k_6
   have k_7 := k_6.sel (.k .z)
   refine WLs 1 [] (.n 3 (sl A3 (b.length + r_.length) c2) (.ssss (.s .a))) qe (by kernel_rfl) ?_
   refine WL_nil <| At_in <| At_go <| W_q [] (.n 8 (I (w64 (x_0 + 1))) (.kk .z)) qe (by kernel_rfl) ?_
   exact At_rd (b1, w64 (x_0 + 1)) (Option.some.inj hm).symm ⟨b1, w64 (x_0 + 1), A3, b.length + r_.length, c2, rfl, rfl, k_7.len 0 rfl, k_7⟩ (by kernel_rfl)
 rw [if_neg hc] at hm
 refine W_exit (At_te (At_te (At_ie ?_)))
 have hm := exit_of hm hr0
 refine At_go <| W_seq <| W_q [] (.n 2 (sl A1 b.length c0) .z) qe (by kernel_rfl) ?_
 refine At_go <| W_ret ?_
 obtain rfl := Option.some.inj hm
 refine At_rt [sl A1 b.length c0] qe (by kernel_rfl) ?_
 exact ⟨A1, b.length, c0, k_2.len 0 rfl, rfl, k_2⟩

-- (*quern/node.half[uint64]).out
theorem c_node_half_uint64_out {F O : Nat → Prop} {w : World} (x_h : Vec UInt64 8) (x_count_Lo : UInt64) (x_count_Hi : UInt64) (x_held : List UInt8) (x_block : Int) (node : Bool) (g_x : Nat) (A_x_held : Option Addr) (n_x_held : Nat) (c_x_held : Nat) (k : Cx F O w w [Bx 150 g_x [.ar e64 x_h, .u64 x_count_Lo, .u64 x_count_Hi, sl A_x_held n_x_held c_x_held, I x_block, .v (.func (.func 89) ⟨SV.vals []⟩ ⟨SV.vals []⟩), .v (.func (.func 90) ⟨SV.vals []⟩ ⟨SV.vals []⟩)], Ow e8 A_x_held n_x_held c_x_held x_held]) (r : (List UInt8 × Vec UInt64 8 × UInt64 × UInt64 × List UInt8 × Int)) (hm : m_node_half_uint64_out x_h x_count_Lo x_count_Hi x_held x_block node = some r) :
    Calls Try.prog 130 (vals [pt g_x 0, .b node]) w (fun e w' => ∃ A n c A1 n1 c1, r.1.length = n ∧ r.2.2.2.2.1.length = n1 ∧ e = .returned (SV.val (sl A n c)) ∧ Cx F O w w' [Ow e8 A n c r.1, Bx 150 g_x [.ar e64 r.2.1, .u64 r.2.2.1, .u64 r.2.2.2.1, sl A1 n1 c1, I r.2.2.2.2.2, .v (.func (.func 89) ⟨SV.vals []⟩ ⟨SV.vals []⟩), .v (.func (.func 90) ⟨SV.vals []⟩ ⟨SV.vals []⟩)], Ow e8 A1 n1 c1 r.2.2.2.2.1]) := by
 unfold m_node_half_uint64_out at hm
 obtain rfl := k.len 1 rfl
 refine calls [pt g_x 0, .b node] Try.func130 rfl (of_decide_eq_true (by kernel_rfl)) ?_
 refine W_seq <| W_q [] .a qe (by kernel_rfl) ?_
 refine At_go <| W_seq <| W_cutr (fun L wr => ∃ (c0 : UInt64) (c2 : UInt64) (g : Nat), m_node_half_uint64_out_j0 x_h x_count_Lo x_count_Hi x_held x_block node c0 c2 = some r ∧ L = [(0, pt g_x 0), (1, .b node), (5, pt g 0)] ∧ Cx F O w wr [Bx 150 g_x [.ar e64 x_h, .u64 x_count_Lo, .u64 x_count_Hi, sl A_x_held x_held.length c_x_held, I x_block, .v (.func (.func 89) ⟨SV.vals []⟩ ⟨SV.vals []⟩), .v (.func (.func 90) ⟨SV.vals []⟩ ⟨SV.vals []⟩)], Ow e8 A_x_held x_held.length c_x_held x_held, Bx 148 g [.u64 c0, .u64 c2]]) ?_ ?_
 ·
  have k_ := k.drew 1
  refine W_m mo_mixed (.q 0 2 (.q 1 2 (.q 2 2 (.q 3 1 (.q 4 2 (.q 5 2 (.q 6 2 (.q 7 2 (.q 8 2 (.q 9 1 (.br 10 14 (.q 11 2 (.q 12 2 (.q 13 3 (.op 14 (.op 15 (.q 16 3 .nil)))))) (.op 10 (.q 11 2 (.q 12 2 (.q 13 3 (.op 15 (.q 16 3 .nil))))))))))))))))) [10, 14, 15] k_ (.c (.kk .e) (.c (.kk .e) (.c (.kk .e) .l))) (by kernel_rfl) (fun _ => ?_)
  refine MXq 3 2 [] (.n 10 (pt g_x 8) .a) (fun x hx => qs g_x 0 <| qs g_x 0 <| qe) (by kernel_rfl) (fun _ => ?_)
  refine MXq 1 1 [] (.n 11 (.agg [.u64 x_count_Lo, .u64 x_count_Hi]) (.s .a)) (fun x hx => qT hx 0 rfl 8 2 [.u64 x_count_Lo, .u64 x_count_Hi] (by kernel_rfl) (by decide) <| qe) (by kernel_rfl) (fun _ => ?_)
  refine MXq 5 2 [] (.n 16 (I ((x_held.length : Nat) : Int)) .a) (fun x hx => qs g_x 0 <| qs g_x 0 <| qB hx 0 rfl 10 (sl A_x_held x_held.length c_x_held) (by kernel_rfl) <| qe) (by kernel_rfl) (fun _ => ?_)
  refine MXq 1 1 [] (.n 17 (.u64 (UInt64.ofInt ((x_held.length : Nat) : Int))) (.s .a)) (fun x hx => qe) (by kernel_rfl) (fun _ => ?_)
  refine MX_br (by kernel_rfl) (by kernel_rfl) rfl rfl ?_ ?_
  ·
   obtain ⟨r_, h_r_, hm⟩ := ob hm
   refine Op_call [] 18 _ mo_go133 (by kernel_rfl) (c_word_Add (F := N0) (O := N0) _ _ _ (Cx.refl _) _ h_r_) ?_
   rintro e_ w_ ⟨rfl, k_1⟩
   have k_2 := k_.call k_1
   refine ⟨.tup [.agg [.u64 r_.1, .u64 r_.2.1], .b r_.2.2], rfl, ?_⟩
   refine ⟨k_2, fun _ => ?_⟩
   refine MXq 2 2 [] (.n 7 (.tup [.agg [.u64 r_.1, .u64 r_.2.1], .b r_.2.2]) (.n 19 (.agg [.u64 r_.1, .u64 r_.2.1]) (.sss .a))) (fun x hx => qe) (by kernel_rfl) (fun _ => ?_)
   refine MXq 1 3 [] (.n 20 (.b r_.2.2) (.s .a)) (fun x hx => qe) (by kernel_rfl) (fun _ => ?_)
   refine MX_op (by kernel_rfl) rfl <| Op_alloc [] 5 [.u64 0, .u64 0] (by kernel_rfl) k_2 ?_
   intro g1 w_1 k_3
   refine ⟨(k_3.sel (.kk .z)), fun _ => ?_⟩
   refine MX_op (by kernel_rfl) rfl <| Op_b [] 2 (.agg [.u64 r_.1, .u64 r_.2.1]) [.u64 r_.1, .u64 r_.2.1] (Pt.at g1 0) k_3 rfl .all (by kernel_rfl) (by kernel_rfl) ?_
   intro w_2 k_4
   refine ⟨(k_4.sel (.kk .z)), fun _ => ?_⟩
   refine MXq 1 3 [] (.k (.ss .a)) (fun x hx => qe) (by kernel_rfl) (fun _ => ?_)
   refine MX_nil ?_
   exact At_c ⟨r_.1, r_.2.1, g1, hm, rfl, k_4⟩ (by kernel_rfl)
  ·
   refine Op_alloc [] 5 [.u64 0, .u64 0] (by kernel_rfl) k_ ?_
   intro g1 w_ k_1
   refine ⟨(k_1.sel (.kk .z)), fun _ => ?_⟩
   refine MX_op (by kernel_rfl) rfl ?_
   obtain ⟨r_, h_r_, hm⟩ := ob hm
   refine Op_call [] 18 _ mo_go133 (by kernel_rfl) (c_word_Add (F := N0) (O := N0) _ _ _ (Cx.refl _) _ h_r_) ?_
   rintro e_ w_1 ⟨rfl, k_2⟩
   have k_3 := k_1.call k_2
   refine ⟨.tup [.agg [.u64 r_.1, .u64 r_.2.1], .b r_.2.2], rfl, ?_⟩
   refine ⟨(k_3.sel (.kk .z)), fun _ => ?_⟩
   refine MXq 2 2 [] (.n 7 (.tup [.agg [.u64 r_.1, .u64 r_.2.1], .b r_.2.2]) (.n 19 (.agg [.u64 r_.1, .u64 r_.2.1]) (.s (.k (.ss .a))))) (fun x hx => qe) (by kernel_rfl) (fun _ => ?_)
   refine MXq 1 3 [] (.n 20 (.b r_.2.2) (.s .a)) (fun x hx => qe) (by kernel_rfl) (fun _ => ?_)
   refine MX_op (by kernel_rfl) rfl <| Op_b [] 2 (.agg [.u64 r_.1, .u64 r_.2.1]) [.u64 r_.1, .u64 r_.2.1] (Pt.at g1 0) k_3 rfl .all (by kernel_rfl) (by kernel_rfl) ?_
   intro w_2 k_4
   refine ⟨(k_4.sel (.kk .z)), fun _ => ?_⟩
   refine MXq 1 3 [] (.ss .a) (fun x hx => qe) (by kernel_rfl) (fun _ => ?_)
   refine MX_nil ?_
   exact At_c ⟨r_.1, r_.2.1, g1, hm, rfl, k_4⟩ (by kernel_rfl)
 rintro L_ w_3 ⟨c0, c2, g, hm, rfl, k_5⟩
 simp only [m_node_half_uint64_out_j0] at hm
 refine At_go <| W_seq ?_
 have k_6 := k_5.drew 1
 refine W_m mo_mixed (.q 21 2 (.q 22 2 (.q 0 3 (.q 1 3 (.q 2 3 (.q 3 2 (.q 4 3 (.q 5 3 (.q 6 3 (.q 7 2 (.q 8 3 (.q 9 3 (.q 10 3 (.q 11 2 (.q 12 3 (.q 13 3 (.q 14 3 (.q 15 2 (.q 16 3 (.q 17 3 (.q 18 3 (.q 19 2 (.op 20 (.op 23 (.op 24 (.q 25 3 .nil)))))))))))))))))))))))))) [20, 23, 24] k_6 (.c (.kk (.k .e)) (.c (.kk (.k .e)) (.c (.kk (.k .e)) .l))) (by kernel_rfl) (fun _ => ?_)
 refine MXq 2 2 [] (.n 42 (.agg [.u64 c0, .u64 c2]) (.n 43 (.b node) (.k .z))) (fun x hx => qT hx 2 rfl 0 2 [.u64 c0, .u64 c2] (by kernel_rfl) (by decide) <| qe) (by kernel_rfl) (fun _ => ?_)
 refine MXq 3 3 [] (.n 23 (pt g_x 13) .a) (fun x hx => qs g_x 0 <| qs g_x 0 <| qe) (by kernel_rfl) (fun _ => ?_)
 refine MXq 1 2 [] (.n 24 (.v (.func (.func 90) ⟨SV.vals []⟩ ⟨SV.vals []⟩)) (.s .a)) (fun x hx => qB hx 0 rfl 13 (.v (.func (.func 90) ⟨SV.vals []⟩ ⟨SV.vals []⟩)) (by kernel_rfl) <| qe) (by kernel_rfl) (fun _ => ?_)
 refine MXq 3 3 [] (.n 27 (pt g_x 12) .a) (fun x hx => qs g_x 0 <| qs g_x 0 <| qe) (by kernel_rfl) (fun _ => ?_)
 refine MXq 1 2 [] (.n 28 (.v (.func (.func 89) ⟨SV.vals []⟩ ⟨SV.vals []⟩)) (.s .a)) (fun x hx => qB hx 0 rfl 12 (.v (.func (.func 89) ⟨SV.vals []⟩ ⟨SV.vals []⟩)) (by kernel_rfl) <| qe) (by kernel_rfl) (fun _ => ?_)
 refine MXq 3 3 [] (.n 31 (pt g_x 0) .a) (fun x hx => qs g_x 0 <| qs g_x 0 <| qe) (by kernel_rfl) (fun _ => ?_)
 refine MXq 1 2 [] (.n 32 (.agg [.ar e64 x_h]) (.s .a)) (fun x hx => qT hx 0 rfl 0 8 [.ar e64 x_h] (by kernel_rfl) (by decide) <| qe) (by kernel_rfl) (fun _ => ?_)
 refine MXq 3 3 [] (.n 35 (pt g_x 10) .a) (fun x hx => qs g_x 0 <| qs g_x 0 <| qe) (by kernel_rfl) (fun _ => ?_)
 refine MXq 1 2 [] (.n 36 (sl A_x_held x_held.length c_x_held) (.s .a)) (fun x hx => qB hx 0 rfl 10 (sl A_x_held x_held.length c_x_held) (by kernel_rfl) <| qe) (by kernel_rfl) (fun _ => ?_)
 refine MXq 3 3 [] (.n 39 (pt g_x 11) (.kkkk (.kk .z))) (fun x hx => qs g_x 0 <| qs g_x 0 <| qe) (by kernel_rfl) (fun _ => ?_)
 refine MXq 1 2 [] (.n 40 (I x_block) (.s .a)) (fun x hx => qB hx 0 rfl 11 (I x_block) (by kernel_rfl) <| qe) (by kernel_rfl) (fun _ => ?_)
 refine MX_op (by kernel_rfl) rfl ?_
 obtain ⟨r_1, h_r_1, hm⟩ := ob hm
 refine Op_call [] 41 _ mo_go87 (by kernel_rfl) (c_node_padded (F := N0) (O := N0) _ _ _ _ _ (Ro.n0 (k_6.rd 1 rfl)) (k_6.len 1 rfl) (k_6.lec 1 rfl) (Cx.refl _) _ h_r_1) ?_
 rintro e_ w_4 ⟨A0, _, c3, rfl, rfl, k_7⟩
 have k_8 := k_6.call k_7
 refine ⟨sl A0 r_1.length c3, rfl, ?_⟩
 refine ⟨(k_8.sel (.kk (.k .z))), fun _ => ?_⟩
 refine MX_op (by kernel_rfl) rfl ?_
 obtain ⟨r_2, h_r_2, hm⟩ := ob hm
 refine Op_callv [] 44 [] [.agg [.ar e64 x_h], sl A0 r_1.length c3, .agg [.u64 c0, .u64 c2], .b true, .b node] [] mo_go89 (by kernel_rfl) (c_node_mixBig (F := N0) (O := N0) _ _ _ _ _ _ _ _ _ (Ro.n0 (k_8.rd 3 rfl)) (k_8.len 3 rfl) (k_8.lec 3 rfl) (Cx.refl _) _ h_r_2) ?_
 rintro e_ w_5 ⟨rfl, k_9⟩
 have k_10 := k_8.call k_9
 refine ⟨.agg [.ar e64 r_2], rfl, ?_⟩
 have k_11 := k_10.sel (.kk (.k .z))
 refine ⟨k_11, fun _ => ?_⟩
 refine MX_op (by kernel_rfl) rfl ?_
 obtain ⟨r_3, h_r_3, hm⟩ := ob hm
 refine Op_callv [] 45 [] [.agg [.ar e64 r_2]] [] mo_go90 (by kernel_rfl) (c_mixb_Bytes (F := N0) (O := N0) _ (Cx.refl _) _ h_r_3) ?_
 rintro e_ w_6 ⟨A2, _, c4, rfl, rfl, k_12⟩
 have k_13 := k_11.call k_12
 refine ⟨sl A2 r_3.length c4, rfl, ?_⟩
 refine ⟨(k_13.sel (.kk (.k .z))), fun _ => ?_⟩
 refine MXq 1 3 [] (.n 4 (sl A2 r_3.length c4) .z) (fun x hx => qe) (by kernel_rfl) (fun _ => ?_)
 refine MX_nil <| At_go <| W_ret ?_
 obtain rfl := Option.some.inj hm
 refine At_rt [sl A2 r_3.length c4] qe (by kernel_rfl) ?_
 have k_14 := (((k_13.pk (.t .h)).pk (.t .h)).pk (.t (.t (.t .h)))).sel (.kk (.k .z))
 exact ⟨A2, r_3.length, c4, A_x_held, x_held.length, c_x_held, k_14.len 0 rfl, k_14.len 2 rfl, rfl, k_14⟩

-- (*quern/node.Node).Out
theorem c_node_Node_Out {F O : Nat → Prop} {w : World} (n_kind : Int) (n_digest : Int) (n_block : List UInt8) (n_key : List UInt8) (n_last : Bool) (n_written : UInt64) (n_e_h : Vec UInt64 8) (n_e_count_Lo : UInt64) (n_e_count_Hi : UInt64) (n_e_held : List UInt8) (n_e_block : Int) (most : Int) (g_n : Nat) (A_n_block : Option Addr) (n_n_block : Nat) (c_n_block : Nat) (A_n_key : Option Addr) (n_n_key : Nat) (c_n_key : Nat) (g_n_e : Nat) (A_n_e_held : Option Addr) (n_n_e_held : Nat) (c_n_e_held : Nat) (k : Cx F O w w [Bx 108 g_n [I n_kind, I n_digest, sl A_n_block n_n_block c_n_block, sl A_n_key n_n_key c_n_key, .b n_last, .u64 n_written, .v (.iface 144 (SV.val (pt g_n_e 0)))], Ow e8 A_n_block n_n_block c_n_block n_block, Ow e8 A_n_key n_n_key c_n_key n_key, Bx 150 g_n_e [.ar e64 n_e_h, .u64 n_e_count_Lo, .u64 n_e_count_Hi, sl A_n_e_held n_n_e_held c_n_e_held, I n_e_block, .v (.func (.func 89) ⟨SV.vals []⟩ ⟨SV.vals []⟩), .v (.func (.func 90) ⟨SV.vals []⟩ ⟨SV.vals []⟩)], Ow e8 A_n_e_held n_n_e_held c_n_e_held n_e_held]) (r : (List UInt8 × Int × Vec UInt64 8 × UInt64 × UInt64 × List UInt8 × Int × Int × Int × List UInt8 × List UInt8 × Bool × UInt64)) (hm : m_node_Node_Out n_kind n_digest n_block n_key n_last n_written n_e_h n_e_count_Lo n_e_count_Hi n_e_held n_e_block most = some r) :
    Calls Try.prog 59 (vals [pt g_n 0, I most]) w (fun e w' => ∃ A n c A1 n1 c1 A2 n2 c2 A3 n3 c3, r.1.length = n ∧ r.2.2.2.2.2.1.length = n1 ∧ r.2.2.2.2.2.2.2.2.2.1.length = n2 ∧ r.2.2.2.2.2.2.2.2.2.2.1.length = n3 ∧ e = .returned (SV.val (.tup [sl A n c, I r.2.1])) ∧ Cx F O w w' [Ow e8 A n c r.1, Bx 150 g_n_e [.ar e64 r.2.2.1, .u64 r.2.2.2.1, .u64 r.2.2.2.2.1, sl A1 n1 c1, I r.2.2.2.2.2.2.1, .v (.func (.func 89) ⟨SV.vals []⟩ ⟨SV.vals []⟩), .v (.func (.func 90) ⟨SV.vals []⟩ ⟨SV.vals []⟩)], Ow e8 A1 n1 c1 r.2.2.2.2.2.1, Bx 108 g_n [I r.2.2.2.2.2.2.2.1, I r.2.2.2.2.2.2.2.2.1, sl A2 n2 c2, sl A3 n3 c3, .b r.2.2.2.2.2.2.2.2.2.2.2.1, .u64 r.2.2.2.2.2.2.2.2.2.2.2.2, .v (.iface 144 (SV.val (pt g_n_e 0)))], Ow e8 A2 n2 c2 r.2.2.2.2.2.2.2.2.2.1, Ow e8 A3 n3 c3 r.2.2.2.2.2.2.2.2.2.2.1]) := by
 unfold m_node_Node_Out at hm
 obtain rfl := k.len 1 rfl
 obtain rfl := k.len 2 rfl
 obtain rfl := k.len 4 rfl
 refine calls [pt g_n 0, I most] Try.func59 rfl (of_decide_eq_true (by kernel_rfl)) ?_
 refine W_seq <| W_q [] .a qe (by kernel_rfl) ?_
 refine At_go <| W_seq <| W_seq <| W_reg <| WLs 1 [] (.n 6 (pt g_n 0) .a) qe (by kernel_rfl) ?_
 refine WL_op ?_
 obtain ⟨r_, h_r_, hm⟩ := ob hm
 obtain ⟨F1, O1, kin, hO, hre, hF, hb⟩ := k.go (.i (.i (.i (.i (.i .e)))))
 refine Op_call [] 7 _ mo_go73 (by kernel_rfl) (c_node_Node_none (F := F1) (O := O1) _ _ _ _ _ _ _ _ _ _ _ _ _ _ _ _ _ _ _ _ _ _ kin _ h_r_) ?_
 rintro e_ w_ ⟨A0, _, c0, A4, _, c4, A5, _, c5, rfl, rfl, rfl, rfl, k_⟩
 have k_1 := hb w_ _ _ k_ (.c (.c (.c (.c (.c .n)))))
 refine ⟨.b false, rfl, ?_⟩
 refine WL_nil <| At_go <| W_cond false (by kernel_rfl) (fun h => by cases h) (fun _ => ?_)
 refine W_skip <| At_go <| W_seq <| W_seq <| W_reg <| WLs 3 [] (.n 10 (.b (decide (most < 1))) (.ss .a)) qe (by kernel_rfl) ?_
 refine WL_sp 10 (decide (most < 1)) (.s .a) (by kernel_rfl) (fun hg => ?_) (fun hg => ?_)
 · rw [if_pos (of_decide_eq_true hg)] at hm
   refine WLs 9 [10] (.n 19 (.b true) (.s .a)) qe (by kernel_rfl) ?_
   refine WL_nil <| At_go <| W_cond true (by kernel_rfl) (fun _ => ?_) (fun h => by cases h)
   refine W_seq <| W_q [] (.n 4 (sl none 0 0) (.n 5 (I 1) .z)) qe (by kernel_rfl) ?_
   refine At_go <| W_ret (At_tr ?_)
   have k_2 := k_1.nil e8
   obtain rfl := Option.some.inj hm
   refine At_rt [sl none 0 0, I 1] qe (by kernel_rfl) ?_
   have k_3 := (((((k_2.pk (.t (.t (.t (.t .h))))).pk (.t (.t (.t (.t .h))))).pk (.t (.t (.t (.t .h))))).pk (.t (.t (.t (.t .h))))).pk (.t (.t (.t (.t .h))))).pk (.t (.t (.t (.t (.t .h)))))
   exact ⟨none, 0, 0, A0, r_.2.2.2.1.length, c0, A4, r_.2.2.2.2.2.2.2.1.length, c4, A5, r_.2.2.2.2.2.2.2.2.1.length, c5, k_3.len 0 rfl, k_3.len 2 rfl, k_3.len 4 rfl, k_3.len 5 rfl, rfl, k_3⟩
 · rw [if_neg (of_decide_eq_false hg)] at hm
   refine WLs 5 [10] (.n 11 (I most) (.n 15 (I r_.2.2.2.2.2.1) .a)) (qs g_n 0 <| qs g_n 0 <| qB k_1 2 rfl 0 (I r_.2.2.2.2.2.1) (by kernel_rfl) <| qe) (by kernel_rfl) ?_
   refine WL_op ?_
   obtain ⟨r_1, h_r_1, hm⟩ := ob hm
   refine Op_call [10] 16 _ mo_go74 (by kernel_rfl) (c_node_blockOf (F := N0) (O := N0) _ (Cx.refl _) _ h_r_1) ?_
   rintro e_ w_1 ⟨rfl, k_4⟩
   have k_5 := k_1.call k_4
   refine ⟨I r_1, rfl, ?_⟩
   refine WLs 3 [10] (.n 19 (.b (decide ((w64 (Int.tdiv r_1 2)) < most))) (.ssss .a)) (qp ((2 : Int) ≠ (0 : Int)) (by omega) <| qe) (by kernel_rfl) ?_
   refine WL_nil <| At_go <| W_condp ((w64 (Int.tdiv r_1 2)) < most) (by kernel_rfl) (fun hc => ?_) (fun hc => ?_)
   · rw [if_pos hc] at hm
     refine W_seq <| W_q [] (.n 4 (sl none 0 0) (.n 5 (I 1) .z)) qe (by kernel_rfl) ?_
     refine At_go <| W_ret (At_tr ?_)
     have k_6 := k_5.nil e8
     obtain rfl := Option.some.inj hm
     refine At_rt [sl none 0 0, I 1] qe (by kernel_rfl) ?_
     have k_7 := (((((k_6.pk (.t (.t (.t (.t .h))))).pk (.t (.t (.t (.t .h))))).pk (.t (.t (.t (.t .h))))).pk (.t (.t (.t (.t .h))))).pk (.t (.t (.t (.t .h))))).pk (.t (.t (.t (.t (.t .h)))))
     exact ⟨none, 0, 0, A0, r_.2.2.2.1.length, c0, A4, r_.2.2.2.2.2.2.2.1.length, c4, A5, r_.2.2.2.2.2.2.2.2.1.length, c5, k_7.len 0 rfl, k_7.len 2 rfl, k_7.len 4 rfl, k_7.len 5 rfl, rfl, k_7⟩
   rw [if_neg hc] at hm
   refine W_skip <| At_go <| W_seq ?_
   have k_8 := k_5.drew 1
   refine W_m mo_mixed (.q 0 1 (.q 1 1 (.q 2 1 (.q 3 1 (.q 4 1 (.q 5 1 (.q 6 1 (.q 7 0 (.q 8 1 (.q 9 0 (.q 11 1 (.q 12 1 (.op 10 (.q 13 1 (.q 14 1 (.q 15 1 .nil)))))))))))))))) [10] k_8 (.c (.ss (.kk (.k .e))) .l) (by kernel_rfl) (fun _ => ?_)
   refine MXq 7 1 [] (.n 23 (.v (.iface 144 (SV.val (pt g_n_e 0)))) (.n 26 (pt g_n 4) (.ss .a))) (fun x hx => qs g_n 0 <| qs g_n 0 <| qB hx 0 rfl 6 (.v (.iface 144 (SV.val (pt g_n_e 0)))) (by kernel_rfl) <| qs g_n 0 <| qs g_n 0 <| qe) (by kernel_rfl) (fun _ => ?_)
   refine MXq 1 0 [] (.n 27 (.b r_.2.2.2.2.2.2.2.2.2.1) (.k (.s .a))) (fun x hx => qB hx 2 rfl 4 (.b r_.2.2.2.2.2.2.2.2.2.1) (by kernel_rfl) <| qe) (by kernel_rfl) (fun _ => ?_)
   refine MXq 1 1 [] .a (fun x hx => qe) (by kernel_rfl) (fun _ => ?_)
   refine MXq 1 0 [] (.n 29 (.v (.iface 144 (SV.val (pt g_n_e 0)))) (.k (.s .a))) (fun x hx => qe) (by kernel_rfl) (fun _ => ?_)
   refine MXq 2 1 [] (.n 31 (I most) (.n 32 (I most) (.kk .z))) (fun x hx => qe) (by kernel_rfl) (fun _ => ?_)
   refine MX_op (by kernel_rfl) rfl ?_
   obtain ⟨r_2, h_r_2, hm⟩ := ob hm
   obtain ⟨F11, O11, kin1, hO1, hre1, hF1, hb1⟩ := k_8.go (.i (.i (.r (.r (.r .e)))))
   refine Op_invoke [] 30 144 (pt g_n_e 0) [.b r_.2.2.2.2.2.2.2.2.2.1] mo_inv144_node_out rfl (by kernel_rfl) (c_node_half_uint64_out (F := F11) (O := O11) _ _ _ _ _ _ _ _ _ _ kin1 _ h_r_2) ?_
   rintro e_ w_2 ⟨A6, _, c6, A7, _, c7, rfl, rfl, rfl, k_9⟩
   have k_10 := hb1 w_2 _ _ k_9 (.c (.c (.c .n)))
   refine ⟨sl A6 r_2.1.length c6, rfl, ?_⟩
   refine ⟨(k_10.sel (.ss (.s (.kk (.k .e))))), fun _ => ?_⟩
   obtain ⟨b, h_b, hm⟩ := ob hm
   have hs := slc_some h_b
   have hl := slc_len h_b
   have hn : r_2.1.length = r_2.1.length := (k_10.len 0 rfl)
   have hc1 : r_2.1.length ≤ c6 := (k_10.lec 0 rfl)
   obtain ⟨u, h_u, hm⟩ := ob hm
   have hq := need_some h_u
   have hc2 : b.length ≤ Int.toNat most := by omega
   refine MXq 3 1 [] (.n 4 (sl A6 b.length (Int.toNat most)) (.n 5 (I 0) .z)) (fun x hx => qp (0 ≤ most ∧ most ≤ ((c6 : Nat) : Int)) (by omega) <| qp (0 ≤ most ∧ most ≤ ((Int.toNat most : Nat) : Int)) (by omega) <| qo (.v (.slice A6 b.length (Int.toNat most))) <| qp (Value.slice (slA A6 0 (Int.toNat most) 1) (Int.toNat most - 0) (Int.toNat most - 0) = .slice A6 b.length (Int.toNat most)) (slx0 _ _ _ _ _ (by omega)) <| qe) (by kernel_rfl) (fun _ => ?_)
   refine MX_nil <| At_go <| W_ret ?_
   have k_11 := k_10.pre 0 rfl b.length (Int.toNat most) b (by omega) (by omega) (by omega) (slc_pre h_b rfl)
   obtain rfl := Option.some.inj hm
   refine At_rt [sl A6 b.length (Int.toNat most), I 0] qe (by kernel_rfl) ?_
   exact ⟨A6, b.length, Int.toNat most, A7, r_2.2.2.2.2.1.length, c7, A4, r_.2.2.2.2.2.2.2.1.length, c4, A5, r_.2.2.2.2.2.2.2.2.1.length, c5, k_11.len 0 rfl, k_11.len 2 rfl, k_11.len 4 rfl, k_11.len 5 rfl, rfl, k_11⟩

-- (*quern/node.Node).none
theorem c_node_Node_none_s1 {F O : Nat → Prop} {w : World} (n_kind : Int) (n_digest : Int) (n_block : List UInt8) (n_key : List UInt8) (n_last : Bool) (n_written : UInt64) (n_e_h : Vec UInt32 8) (n_e_count_Lo : UInt64) (n_e_count_Hi : UInt64) (n_e_held : List UInt8) (n_e_block : Int) (g_n : Nat) (A_n_block : Option Addr) (n_n_block : Nat) (c_n_block : Nat) (A_n_key : Option Addr) (n_n_key : Nat) (c_n_key : Nat) (g_n_e : Nat) (A_n_e_held : Option Addr) (n_n_e_held : Nat) (c_n_e_held : Nat) (k : Cx F O w w [Bx 108 g_n [I n_kind, I n_digest, sl A_n_block n_n_block c_n_block, sl A_n_key n_n_key c_n_key, .b n_last, .u64 n_written, .v (.iface 154 (SV.val (pt g_n_e 0)))], Ow e8 A_n_block n_n_block c_n_block n_block, Ow e8 A_n_key n_n_key c_n_key n_key, Bx 158 g_n_e [.ar e32 n_e_h, .u64 n_e_count_Lo, .u64 n_e_count_Hi, sl A_n_e_held n_n_e_held c_n_e_held, I n_e_block, .v (.func (.func 92) ⟨SV.vals []⟩ ⟨SV.vals []⟩), .v (.func (.func 93) ⟨SV.vals []⟩ ⟨SV.vals []⟩)], Ow e8 A_n_e_held n_n_e_held c_n_e_held n_e_held]) (r : (Vec UInt32 8 × UInt64 × UInt64 × List UInt8 × Int × Int × Int × List UInt8 × List UInt8 × Bool × UInt64)) (hm : m_node_Node_none_s1 n_kind n_digest n_block n_key n_last n_written n_e_h n_e_count_Lo n_e_count_Hi n_e_held n_e_block = some r) :
    Calls Try.prog 73 (vals [pt g_n 0]) w (fun e w' => ∃ A n c A1 n1 c1 A2 n2 c2, r.2.2.2.1.length = n ∧ r.2.2.2.2.2.2.2.1.length = n1 ∧ r.2.2.2.2.2.2.2.2.1.length = n2 ∧ e = .returned (SV.val (.b false)) ∧ Cx F O w w' [Bx 158 g_n_e [.ar e32 r.1, .u64 r.2.1, .u64 r.2.2.1, sl A n c, I r.2.2.2.2.1, .v (.func (.func 92) ⟨SV.vals []⟩ ⟨SV.vals []⟩), .v (.func (.func 93) ⟨SV.vals []⟩ ⟨SV.vals []⟩)], Ow e8 A n c r.2.2.2.1, Bx 108 g_n [I r.2.2.2.2.2.1, I r.2.2.2.2.2.2.1, sl A1 n1 c1, sl A2 n2 c2, .b r.2.2.2.2.2.2.2.2.2.1, .u64 r.2.2.2.2.2.2.2.2.2.2, .v (.iface 154 (SV.val (pt g_n_e 0)))], Ow e8 A1 n1 c1 r.2.2.2.2.2.2.2.1, Ow e8 A2 n2 c2 r.2.2.2.2.2.2.2.2.1]) := by
 unfold m_node_Node_none_s1 at hm
 obtain rfl := k.len 1 rfl
 obtain rfl := k.len 2 rfl
 obtain rfl := k.len 4 rfl
 refine calls [pt g_n 0] Try.func73 rfl (of_decide_eq_true (by kernel_rfl)) ?_
 refine W_seq <| W_q [] .a qe (by kernel_rfl) ?_
 refine At_go <| W_seq <| W_q [5] (.n 2 (.b false) .z) (qs g_n 0 <| qs g_n 0 <| qB k 0 rfl 6 (.v (.iface 154 (SV.val (pt g_n_e 0)))) (by kernel_rfl) <| qe) (by kernel_rfl) ?_
 refine At_go <| W_ret ?_
 obtain rfl := Option.some.inj hm
 refine At_rt [.b false] qe (by kernel_rfl) ?_
 have k_ := ((((k.pk (.t (.t .h))).pk (.t (.t .h))).pk (.t (.t .h))).pk (.t (.t (.t (.t .h))))).pk (.t (.t (.t (.t .h))))
 exact ⟨A_n_e_held, n_e_held.length, c_n_e_held, A_n_block, n_block.length, c_n_block, A_n_key, n_key.length, c_n_key, k_.len 1 rfl, k_.len 3 rfl, k_.len 4 rfl, rfl, k_⟩

-- quern/mixs.Bytes
theorem c_mixs_Bytes {F O : Nat → Prop} {w : World} (h : Vec UInt32 8) (k : Cx F O w w []) (r : (List UInt8)) (hm : m_mixs_Bytes h = some r) :
    Calls Try.prog 93 (vals [.agg [.ar e32 h]]) w (fun e w' => ∃ A n c, r.length = n ∧ e = .returned (SV.val (sl A n c)) ∧ Cx F O w w' [Ow e8 A n c r]) := by
 unfold m_mixs_Bytes at hm
 refine calls [.agg [.ar e32 h]] Try.func93 rfl (of_decide_eq_true (by kernel_rfl)) ?_
 refine W_seq <| W_reg <| WL_op <| Op_box [] 1 (.agg [.ar e32 h]) [.ar e32 h] (by kernel_rfl) k ?_
 intro g w_ k_
 refine WLs 1 [] (.k .z) qe (by kernel_rfl) ?_
 refine WL_nil <| At_go <| W_seq <| W_reg <| WL_op <| Op_make mo_tf22 e8 (0 : UInt8) rfl [] 6 (I 0) (I 32) (0 : Int) (32 : Int) (by kernel_rfl) (by omega) (by omega) (by omega) k_ ?_
 intro A0 w_1 k_1
 refine WLs 1 [] (.n 3 (sl A0 (Int.toNat (0 : Int)) (Int.toNat (32 : Int))) (.s .a)) qe (by kernel_rfl) ?_
 refine WL_nil <| At_go <| W_seq <| W_seq <| W_q [] (.n 7 (.agg [.ar e32 h]) (.n 8 (I 0) (.k .z))) (qT k_1 0 rfl 0 8 [.ar e32 h] (by kernel_rfl) (by decide) <| qe) (by kernel_rfl) ?_
 refine At_go <| W_block ?_
 have k_3 := k_1.sel (.s (.k .e))
 refine W_lp (m_mixs_Bytes_l0 h) (fun s L wr => ∃ (b : List UInt8) (x_0 : Int) (A1 : Option Addr) (n0 : Nat) (c0 : Nat), (b, x_0) = s ∧ L = [(3, sl A1 n0 c0), (7, .agg [.ar e32 h]), (8, I x_0)] ∧ b.length = n0 ∧ Cx F O w wr [Ow e8 A1 n0 c0 b]) (List.replicate (Int.toNat (0 : Int)) (0 : UInt8), (0 : Int)) r hm ⟨List.replicate (Int.toNat (0 : Int)) (0 : UInt8), (0 : Int), A0, Int.toNat (0 : Int), Int.toNat (32 : Int), rfl, rfl, k_3.len 0 rfl, k_3⟩ (by kernel_rfl) ?_
 intro s0_ L_ w_2 y0 hrel hstep hr0
 obtain ⟨b, x_0, A1, _, c0, rfl, rfl, rfl, k_2⟩ := hrel
 have hm := hstep; simp only [m_mixs_Bytes_l0] at hm
 clear hstep
 refine W_seq <| W_q [] (.n 9 (.b (decide (x_0 < 8))) .a) qe (by kernel_rfl) ?_
 refine At_go <| W_seq <| W_condp (x_0 < 8) (by kernel_rfl) (fun hc => ?_) (fun hc => ?_)
 · rw [if_pos hc] at hm
   refine W_skip <| At_go <| W_seq <| W_block <| W_seq ?_
   obtain ⟨x_1, h_x_1, hm⟩ := ob hm
   refine W_q [] (.n 5 (.u32 x_1) (.s .a)) (qo (.u32 x_1) <| qp ((0 ≤ x_0 ∧ x_0 < ((8 : Nat) : Int)) ∧ (SV.cl [.ar e32 h])[Int.toNat x_0 * 1]? = some (SV.val (.u32 x_1))) (ar_ix (E := e32) h_x_1 rfl) <| qe) (by kernel_rfl) ?_
   refine At_go <| W_reg <| WLs 12 [] (.n 11 (sl A1 b.length c0) (.n 13 (.u8 (UInt8.ofNat x_1.toNat)) (.n 16 (.u8 (UInt8.ofNat (shr32 x_1 ((8 : UInt64).toNat)).toNat)) (.n 19 (.u8 (UInt8.ofNat (shr32 x_1 ((16 : UInt64).toNat)).toNat)) (.n 22 (.u8 (UInt8.ofNat (shr32 x_1 ((24 : UInt64).toNat)).toNat)) (.s .a)))))) qe (by kernel_rfl) ?_
   refine WL_op <| Op_mk mo_tf22 e8 [] 23 ([UInt8.ofNat x_1.toNat, UInt8.ofNat (shr32 x_1 ((8 : UInt64).toNat)).toNat, UInt8.ofNat (shr32 x_1 ((16 : UInt64).toNat)).toNat, UInt8.ofNat (shr32 x_1 ((24 : UInt64).toNat)).toNat] : List UInt8) [(0, .u8 (UInt8.ofNat x_1.toNat)), (1, .u8 (UInt8.ofNat (shr32 x_1 ((8 : UInt64).toNat)).toNat)), (2, .u8 (UInt8.ofNat (shr32 x_1 ((16 : UInt64).toNat)).toNat)), (3, .u8 (UInt8.ofNat (shr32 x_1 ((24 : UInt64).toNat)).toNat))] [.u8 (UInt8.ofNat x_1.toNat), .u8 (UInt8.ofNat (shr32 x_1 ((8 : UInt64).toNat)).toNat), .u8 (UInt8.ofNat (shr32 x_1 ((16 : UInt64).toNat)).toNat), .u8 (UInt8.ofNat (shr32 x_1 ((24 : UInt64).toNat)).toNat)] (by kernel_rfl) (by kernel_rfl) (by kernel_rfl) k_2 ?_
   intro A2 w_3 k_4
   refine WL_op ?_
   obtain ⟨b1, h_b1, hm⟩ := ob hm
   obtain ⟨hz, hl⟩ := app_some h_b1
   refine Op_append (E := e8) (v := sl A2 4 4) (ys := ([UInt8.ofNat x_1.toNat, UInt8.ofNat (shr32 x_1 ((8 : UInt64).toNat)).toNat, UInt8.ofNat (shr32 x_1 ((16 : UInt64).toNat)).toNat, UInt8.ofNat (shr32 x_1 ((24 : UInt64).toNat)).toNat] : List UInt8)) mo_tf22 [] 24 0 (by kernel_rfl) k_4 rfl (Src.sl (k_4.rd 1 rfl) (k_4.len 1 rfl) (by rfl)) (k_4.len 1 rfl) (by have := k_4.len 0 rfl; have := (k_4.len 1 rfl); omega) ?_
   intro A3 c1 w_4 k_5
   rw [← hl] at k_5
   have k_6 := k_5.sel (.k .z)
   refine WLs 1 [] (.n 3 (sl A3 (b.length + 4) c1) (.ssss (.ssss .a))) qe (by kernel_rfl) ?_
   refine WL_nil <| At_in <| At_go <| W_q [] (.n 8 (I (w64 (x_0 + 1))) (.kk .z)) qe (by kernel_rfl) ?_
   exact At_rd (b1, w64 (x_0 + 1)) (Option.some.inj hm).symm ⟨b1, w64 (x_0 + 1), A3, b.length + 4, c1, rfl, rfl, k_6.len 0 rfl, k_6⟩ (by kernel_rfl)
 rw [if_neg hc] at hm
 refine W_exit (At_te (At_te (At_ie ?_)))
 have hm := exit_of hm hr0
 refine At_go <| W_seq <| W_q [] (.n 2 (sl A1 b.length c0) .z) qe (by kernel_rfl) ?_
 refine At_go <| W_ret ?_
 obtain rfl := Option.some.inj hm
 refine At_rt [sl A1 b.length c0] qe (by kernel_rfl) ?_
 exact ⟨A1, b.length, c0, k_2.len 0 rfl, rfl, k_2⟩

-- (*quern/node.half[uint32]).out
theorem c_node_half_uint32_out {F O : Nat → Prop} {w : World} (x_h : Vec UInt32 8) (x_count_Lo : UInt64) (x_count_Hi : UInt64) (x_held : List UInt8) (x_block : Int) (node : Bool) (g_x : Nat) (A_x_held : Option Addr) (n_x_held : Nat) (c_x_held : Nat) (k : Cx F O w w [Bx 158 g_x [.ar e32 x_h, .u64 x_count_Lo, .u64 x_count_Hi, sl A_x_held n_x_held c_x_held, I x_block, .v (.func (.func 92) ⟨SV.vals []⟩ ⟨SV.vals []⟩), .v (.func (.func 93) ⟨SV.vals []⟩ ⟨SV.vals []⟩)], Ow e8 A_x_held n_x_held c_x_held x_held]) (r : (List UInt8 × Vec UInt32 8 × UInt64 × UInt64 × List UInt8 × Int)) (hm : m_node_half_uint32_out x_h x_count_Lo x_count_Hi x_held x_block node = some r) :
    Calls Try.prog 136 (vals [pt g_x 0, .b node]) w (fun e w' => ∃ A n c A1 n1 c1, r.1.length = n ∧ r.2.2.2.2.1.length = n1 ∧ e = .returned (SV.val (sl A n c)) ∧ Cx F O w w' [Ow e8 A n c r.1, Bx 158 g_x [.ar e32 r.2.1, .u64 r.2.2.1, .u64 r.2.2.2.1, sl A1 n1 c1, I r.2.2.2.2.2, .v (.func (.func 92) ⟨SV.vals []⟩ ⟨SV.vals []⟩), .v (.func (.func 93) ⟨SV.vals []⟩ ⟨SV.vals []⟩)], Ow e8 A1 n1 c1 r.2.2.2.2.1]) := by
 unfold m_node_half_uint32_out at hm
 obtain rfl := k.len 1 rfl
 refine calls [pt g_x 0, .b node] Try.func136 rfl (of_decide_eq_true (by kernel_rfl)) ?_
 refine W_seq <| W_q [] .a qe (by kernel_rfl) ?_
 refine At_go <| W_seq <| W_cutr (fun L wr => ∃ (c0 : UInt64) (c2 : UInt64) (g : Nat), m_node_half_uint32_out_j0 x_h x_count_Lo x_count_Hi x_held x_block node c0 c2 = some r ∧ L = [(0, pt g_x 0), (1, .b node), (5, pt g 0)] ∧ Cx F O w wr [Bx 158 g_x [.ar e32 x_h, .u64 x_count_Lo, .u64 x_count_Hi, sl A_x_held x_held.length c_x_held, I x_block, .v (.func (.func 92) ⟨SV.vals []⟩ ⟨SV.vals []⟩), .v (.func (.func 93) ⟨SV.vals []⟩ ⟨SV.vals []⟩)], Ow e8 A_x_held x_held.length c_x_held x_held, Bx 148 g [.u64 c0, .u64 c2]]) ?_ ?_
 ·
  have k_ := k.drew 1
  refine W_m mo_mixed (.q 0 2 (.q 1 2 (.q 2 2 (.q 3 1 (.q 4 2 (.q 5 2 (.q 6 2 (.q 7 2 (.q 8 2 (.q 9 1 (.br 10 14 (.q 11 2 (.q 12 2 (.q 13 3 (.op 14 (.op 15 (.q 16 3 .nil)))))) (.op 10 (.q 11 2 (.q 12 2 (.q 13 3 (.op 15 (.q 16 3 .nil))))))))))))))))) [10, 14, 15] k_ (.c (.kk .e) (.c (.kk .e) (.c (.kk .e) .l))) (by kernel_rfl) (fun _ => ?_)
  refine MXq 3 2 [] (.n 10 (pt g_x 8) .a) (fun x hx => qs g_x 0 <| qs g_x 0 <| qe) (by kernel_rfl) (fun _ => ?_)
  refine MXq 1 1 [] (.n 11 (.agg [.u64 x_count_Lo, .u64 x_count_Hi]) (.s .a)) (fun x hx => qT hx 0 rfl 8 2 [.u64 x_count_Lo, .u64 x_count_Hi] (by kernel_rfl) (by decide) <| qe) (by kernel_rfl) (fun _ => ?_)
  refine MXq 5 2 [] (.n 16 (I ((x_held.length : Nat) : Int)) .a) (fun x hx => qs g_x 0 <| qs g_x 0 <| qB hx 0 rfl 10 (sl A_x_held x_held.length c_x_held) (by kernel_rfl) <| qe) (by kernel_rfl) (fun _ => ?_)
  refine MXq 1 1 [] (.n 17 (.u64 (UInt64.ofInt ((x_held.length : Nat) : Int))) (.s .a)) (fun x hx => qe) (by kernel_rfl) (fun _ => ?_)
  refine MX_br (by kernel_rfl) (by kernel_rfl) rfl rfl ?_ ?_
  ·
   obtain ⟨r_, h_r_, hm⟩ := ob hm
   refine Op_call [] 18 _ mo_go133 (by kernel_rfl) (c_word_Add (F := N0) (O := N0) _ _ _ (Cx.refl _) _ h_r_) ?_
   rintro e_ w_ ⟨rfl, k_1⟩
   have k_2 := k_.call k_1
   refine ⟨.tup [.agg [.u64 r_.1, .u64 r_.2.1], .b r_.2.2], rfl, ?_⟩
   refine ⟨k_2, fun _ => ?_⟩
   refine MXq 2 2 [] (.n 7 (.tup [.agg [.u64 r_.1, .u64 r_.2.1], .b r_.2.2]) (.n 19 (.agg [.u64 r_.1, .u64 r_.2.1]) (.sss .a))) (fun x hx => qe) (by kernel_rfl) (fun _ => ?_)
   refine MXq 1 3 [] (.n 20 (.b r_.2.2) (.s .a)) (fun x hx => qe) (by kernel_rfl) (fun _ => ?_)
   refine MX_op (by kernel_rfl) rfl <| Op_alloc [] 5 [.u64 0, .u64 0] (by kernel_rfl) k_2 ?_
   intro g1 w_1 k_3
   refine ⟨(k_3.sel (.kk .z)), fun _ => ?_⟩
   refine MX_op (by kernel_rfl) rfl <| Op_b [] 2 (.agg [.u64 r_.1, .u64 r_.2.1]) [.u64 r_.1, .u64 r_.2.1] (Pt.at g1 0) k_3 rfl .all (by kernel_rfl) (by kernel_rfl) ?_
   intro w_2 k_4
   refine ⟨(k_4.sel (.kk .z)), fun _ => ?_⟩
   refine MXq 1 3 [] (.k (.ss .a)) (fun x hx => qe) (by kernel_rfl) (fun _ => ?_)
   refine MX_nil ?_
   exact At_c ⟨r_.1, r_.2.1, g1, hm, rfl, k_4⟩ (by kernel_rfl)
  ·
   refine Op_alloc [] 5 [.u64 0, .u64 0] (by kernel_rfl) k_ ?_
   intro g1 w_ k_1
   refine ⟨(k_1.sel (.kk .z)), fun _ => ?_⟩
   refine MX_op (by kernel_rfl) rfl ?_
   obtain ⟨r_, h_r_, hm⟩ := ob hm
   refine Op_call [] 18 _ mo_go133 (by kernel_rfl) (c_word_Add (F := N0) (O := N0) _ _ _ (Cx.refl _) _ h_r_) ?_
   rintro e_ w_1 ⟨rfl, k_2⟩
   have k_3 := k_1.call k_2
   refine ⟨.tup [.agg [.u64 r_.1, .u64 r_.2.1], .b r_.2.2], rfl, ?_⟩
   refine ⟨(k_3.sel (.kk .z)), fun _ => ?_⟩
   refine MXq 2 2 [] (.n 7 (.tup [.agg [.u64 r_.1, .u64 r_.2.1], .b r_.2.2]) (.n 19 (.agg [.u64 r_.1, .u64 r_.2.1]) (.s (.k (.ss .a))))) (fun x hx => qe) (by kernel_rfl) (fun _ => ?_)
   refine MXq 1 3 [] (.n 20 (.b r_.2.2) (.s .a)) (fun x hx => qe) (by kernel_rfl) (fun _ => ?_)
   refine MX_op (by kernel_rfl) rfl <| Op_b [] 2 (.agg [.u64 r_.1, .u64 r_.2.1]) [.u64 r_.1, .u64 r_.2.1] (Pt.at g1 0) k_3 rfl .all (by kernel_rfl) (by kernel_rfl) ?_
   intro w_2 k_4
   refine ⟨(k_4.sel (.kk .z)), fun _ => ?_⟩
   refine MXq 1 3 [] (.ss .a) (fun x hx => qe) (by kernel_rfl) (fun _ => ?_)
   refine MX_nil ?_
   exact At_c ⟨r_.1, r_.2.1, g1, hm, rfl, k_4⟩ (by kernel_rfl)
 rintro L_ w_3 ⟨c0, c2, g, hm, rfl, k_5⟩
 simp only [m_node_half_uint32_out_j0] at hm
 refine At_go <| W_seq ?_
 have k_6 := k_5.drew 1
 refine W_m mo_mixed (.q 21 2 (.q 22 2 (.q 0 3 (.q 1 3 (.q 2 3 (.q 3 2 (.q 4 3 (.q 5 3 (.q 6 3 (.q 7 2 (.q 8 3 (.q 9 3 (.q 10 3 (.q 11 2 (.q 12 3 (.q 13 3 (.q 14 3 (.q 15 2 (.q 16 3 (.q 17 3 (.q 18 3 (.q 19 2 (.op 20 (.op 23 (.op 24 (.q 25 3 .nil)))))))))))))))))))))))))) [20, 23, 24] k_6 (.c (.kk (.k .e)) (.c (.kk (.k .e)) (.c (.kk (.k .e)) .l))) (by kernel_rfl) (fun _ => ?_)
 refine MXq 2 2 [] (.n 42 (.agg [.u64 c0, .u64 c2]) (.n 43 (.b node) (.k .z))) (fun x hx => qT hx 2 rfl 0 2 [.u64 c0, .u64 c2] (by kernel_rfl) (by decide) <| qe) (by kernel_rfl) (fun _ => ?_)
 refine MXq 3 3 [] (.n 23 (pt g_x 13) .a) (fun x hx => qs g_x 0 <| qs g_x 0 <| qe) (by kernel_rfl) (fun _ => ?_)
 refine MXq 1 2 [] (.n 24 (.v (.func (.func 93) ⟨SV.vals []⟩ ⟨SV.vals []⟩)) (.s .a)) (fun x hx => qB hx 0 rfl 13 (.v (.func (.func 93) ⟨SV.vals []⟩ ⟨SV.vals []⟩)) (by kernel_rfl) <| qe) (by kernel_rfl) (fun _ => ?_)
 refine MXq 3 3 [] (.n 27 (pt g_x 12) .a) (fun x hx => qs g_x 0 <| qs g_x 0 <| qe) (by kernel_rfl) (fun _ => ?_)
 refine MXq 1 2 [] (.n 28 (.v (.func (.func 92) ⟨SV.vals []⟩ ⟨SV.vals []⟩)) (.s .a)) (fun x hx => qB hx 0 rfl 12 (.v (.func (.func 92) ⟨SV.vals []⟩ ⟨SV.vals []⟩)) (by kernel_rfl) <| qe) (by kernel_rfl) (fun _ => ?_)
 refine MXq 3 3 [] (.n 31 (pt g_x 0) .a) (fun x hx => qs g_x 0 <| qs g_x 0 <| qe) (by kernel_rfl) (fun _ => ?_)
 refine MXq 1 2 [] (.n 32 (.agg [.ar e32 x_h]) (.s .a)) (fun x hx => qT hx 0 rfl 0 8 [.ar e32 x_h] (by kernel_rfl) (by decide) <| qe) (by kernel_rfl) (fun _ => ?_)
 refine MXq 3 3 [] (.n 35 (pt g_x 10) .a) (fun x hx => qs g_x 0 <| qs g_x 0 <| qe) (by kernel_rfl) (fun _ => ?_)
 refine MXq 1 2 [] (.n 36 (sl A_x_held x_held.length c_x_held) (.s .a)) (fun x hx => qB hx 0 rfl 10 (sl A_x_held x_held.length c_x_held) (by kernel_rfl) <| qe) (by kernel_rfl) (fun _ => ?_)
 refine MXq 3 3 [] (.n 39 (pt g_x 11) (.kkkk (.kk .z))) (fun x hx => qs g_x 0 <| qs g_x 0 <| qe) (by kernel_rfl) (fun _ => ?_)
 refine MXq 1 2 [] (.n 40 (I x_block) (.s .a)) (fun x hx => qB hx 0 rfl 11 (I x_block) (by kernel_rfl) <| qe) (by kernel_rfl) (fun _ => ?_)
 refine MX_op (by kernel_rfl) rfl ?_
 obtain ⟨r_1, h_r_1, hm⟩ := ob hm
 refine Op_call [] 41 _ mo_go87 (by kernel_rfl) (c_node_padded (F := N0) (O := N0) _ _ _ _ _ (Ro.n0 (k_6.rd 1 rfl)) (k_6.len 1 rfl) (k_6.lec 1 rfl) (Cx.refl _) _ h_r_1) ?_
 rintro e_ w_4 ⟨A0, _, c3, rfl, rfl, k_7⟩
 have k_8 := k_6.call k_7
 refine ⟨sl A0 r_1.length c3, rfl, ?_⟩
 refine ⟨(k_8.sel (.kk (.k .z))), fun _ => ?_⟩
 refine MX_op (by kernel_rfl) rfl ?_
 obtain ⟨r_2, h_r_2, hm⟩ := ob hm
 refine Op_callv [] 44 [] [.agg [.ar e32 x_h], sl A0 r_1.length c3, .agg [.u64 c0, .u64 c2], .b true, .b node] [] mo_go92 (by kernel_rfl) (c_node_mixSmall (F := N0) (O := N0) _ _ _ _ _ _ _ _ _ (Ro.n0 (k_8.rd 3 rfl)) (k_8.len 3 rfl) (k_8.lec 3 rfl) (Cx.refl _) _ h_r_2) ?_
 rintro e_ w_5 ⟨rfl, k_9⟩
 have k_10 := k_8.call k_9
 refine ⟨.agg [.ar e32 r_2], rfl, ?_⟩
 have k_11 := k_10.sel (.kk (.k .z))
 refine ⟨k_11, fun _ => ?_⟩
 refine MX_op (by kernel_rfl) rfl ?_
 obtain ⟨r_3, h_r_3, hm⟩ := ob hm
 refine Op_callv [] 45 [] [.agg [.ar e32 r_2]] [] mo_go93 (by kernel_rfl) (c_mixs_Bytes (F := N0) (O := N0) _ (Cx.refl _) _ h_r_3) ?_
 rintro e_ w_6 ⟨A2, _, c4, rfl, rfl, k_12⟩
 have k_13 := k_11.call k_12
 refine ⟨sl A2 r_3.length c4, rfl, ?_⟩
 refine ⟨(k_13.sel (.kk (.k .z))), fun _ => ?_⟩
 refine MXq 1 3 [] (.n 4 (sl A2 r_3.length c4) .z) (fun x hx => qe) (by kernel_rfl) (fun _ => ?_)
 refine MX_nil <| At_go <| W_ret ?_
 obtain rfl := Option.some.inj hm
 refine At_rt [sl A2 r_3.length c4] qe (by kernel_rfl) ?_
 have k_14 := (((k_13.pk (.t .h)).pk (.t .h)).pk (.t (.t (.t .h)))).sel (.kk (.k .z))
 exact ⟨A2, r_3.length, c4, A_x_held, x_held.length, c_x_held, k_14.len 0 rfl, k_14.len 2 rfl, rfl, k_14⟩

-- (*quern/node.Node).Out
theorem c_node_Node_Out_s1 {F O : Nat → Prop} {w : World} (n_kind : Int) (n_digest : Int) (n_block : List UInt8) (n_key : List UInt8) (n_last : Bool) (n_written : UInt64) (n_e_h : Vec UInt32 8) (n_e_count_Lo : UInt64) (n_e_count_Hi : UInt64) (n_e_held : List UInt8) (n_e_block : Int) (most : Int) (g_n : Nat) (A_n_block : Option Addr) (n_n_block : Nat) (c_n_block : Nat) (A_n_key : Option Addr) (n_n_key : Nat) (c_n_key : Nat) (g_n_e : Nat) (A_n_e_held : Option Addr) (n_n_e_held : Nat) (c_n_e_held : Nat) (k : Cx F O w w [Bx 108 g_n [I n_kind, I n_digest, sl A_n_block n_n_block c_n_block, sl A_n_key n_n_key c_n_key, .b n_last, .u64 n_written, .v (.iface 154 (SV.val (pt g_n_e 0)))], Ow e8 A_n_block n_n_block c_n_block n_block, Ow e8 A_n_key n_n_key c_n_key n_key, Bx 158 g_n_e [.ar e32 n_e_h, .u64 n_e_count_Lo, .u64 n_e_count_Hi, sl A_n_e_held n_n_e_held c_n_e_held, I n_e_block, .v (.func (.func 92) ⟨SV.vals []⟩ ⟨SV.vals []⟩), .v (.func (.func 93) ⟨SV.vals []⟩ ⟨SV.vals []⟩)], Ow e8 A_n_e_held n_n_e_held c_n_e_held n_e_held]) (r : (List UInt8 × Int × Vec UInt32 8 × UInt64 × UInt64 × List UInt8 × Int × Int × Int × List UInt8 × List UInt8 × Bool × UInt64)) (hm : m_node_Node_Out_s1 n_kind n_digest n_block n_key n_last n_written n_e_h n_e_count_Lo n_e_count_Hi n_e_held n_e_block most = some r) :
    Calls Try.prog 59 (vals [pt g_n 0, I most]) w (fun e w' => ∃ A n c A1 n1 c1 A2 n2 c2 A3 n3 c3, r.1.length = n ∧ r.2.2.2.2.2.1.length = n1 ∧ r.2.2.2.2.2.2.2.2.2.1.length = n2 ∧ r.2.2.2.2.2.2.2.2.2.2.1.length = n3 ∧ e = .returned (SV.val (.tup [sl A n c, I r.2.1])) ∧ Cx F O w w' [Ow e8 A n c r.1, Bx 158 g_n_e [.ar e32 r.2.2.1, .u64 r.2.2.2.1, .u64 r.2.2.2.2.1, sl A1 n1 c1, I r.2.2.2.2.2.2.1, .v (.func (.func 92) ⟨SV.vals []⟩ ⟨SV.vals []⟩), .v (.func (.func 93) ⟨SV.vals []⟩ ⟨SV.vals []⟩)], Ow e8 A1 n1 c1 r.2.2.2.2.2.1, Bx 108 g_n [I r.2.2.2.2.2.2.2.1, I r.2.2.2.2.2.2.2.2.1, sl A2 n2 c2, sl A3 n3 c3, .b r.2.2.2.2.2.2.2.2.2.2.2.1, .u64 r.2.2.2.2.2.2.2.2.2.2.2.2, .v (.iface 154 (SV.val (pt g_n_e 0)))], Ow e8 A2 n2 c2 r.2.2.2.2.2.2.2.2.2.1, Ow e8 A3 n3 c3 r.2.2.2.2.2.2.2.2.2.2.1]) := by
 unfold m_node_Node_Out_s1 at hm
 obtain rfl := k.len 1 rfl
 obtain rfl := k.len 2 rfl
 obtain rfl := k.len 4 rfl
 refine calls [pt g_n 0, I most] Try.func59 rfl (of_decide_eq_true (by kernel_rfl)) ?_
 refine W_seq <| W_q [] .a qe (by kernel_rfl) ?_
 refine At_go <| W_seq <| W_seq <| W_reg <| WLs 1 [] (.n 6 (pt g_n 0) .a) qe (by kernel_rfl) ?_
 refine WL_op ?_
 obtain ⟨r_, h_r_, hm⟩ := ob hm
 obtain ⟨F1, O1, kin, hO, hre, hF, hb⟩ := k.go (.i (.i (.i (.i (.i .e)))))
 refine Op_call [] 7 _ mo_go73 (by kernel_rfl) (c_node_Node_none_s1 (F := F1) (O := O1) _ _ _ _ _ _ _ _ _ _ _ _ _ _ _ _ _ _ _ _ _ _ kin _ h_r_) ?_
 rintro e_ w_ ⟨A0, _, c0, A4, _, c4, A5, _, c5, rfl, rfl, rfl, rfl, k_⟩
 have k_1 := hb w_ _ _ k_ (.c (.c (.c (.c (.c .n)))))
 refine ⟨.b false, rfl, ?_⟩
 refine WL_nil <| At_go <| W_cond false (by kernel_rfl) (fun h => by cases h) (fun _ => ?_)
 refine W_skip <| At_go <| W_seq <| W_seq <| W_reg <| WLs 3 [] (.n 10 (.b (decide (most < 1))) (.ss .a)) qe (by kernel_rfl) ?_
 refine WL_sp 10 (decide (most < 1)) (.s .a) (by kernel_rfl) (fun hg => ?_) (fun hg => ?_)
 · rw [if_pos (of_decide_eq_true hg)] at hm
   refine WLs 9 [10] (.n 19 (.b true) (.s .a)) qe (by kernel_rfl) ?_
   refine WL_nil <| At_go <| W_cond true (by kernel_rfl) (fun _ => ?_) (fun h => by cases h)
   refine W_seq <| W_q [] (.n 4 (sl none 0 0) (.n 5 (I 1) .z)) qe (by kernel_rfl) ?_
   refine At_go <| W_ret (At_tr ?_)
   have k_2 := k_1.nil e8
   obtain rfl := Option.some.inj hm
   refine At_rt [sl none 0 0, I 1] qe (by kernel_rfl) ?_
   have k_3 := (((((k_2.pk (.t (.t (.t (.t .h))))).pk (.t (.t (.t (.t .h))))).pk (.t (.t (.t (.t .h))))).pk (.t (.t (.t (.t .h))))).pk (.t (.t (.t (.t .h))))).pk (.t (.t (.t (.t (.t .h)))))
   exact ⟨none, 0, 0, A0, r_.2.2.2.1.length, c0, A4, r_.2.2.2.2.2.2.2.1.length, c4, A5, r_.2.2.2.2.2.2.2.2.1.length, c5, k_3.len 0 rfl, k_3.len 2 rfl, k_3.len 4 rfl, k_3.len 5 rfl, rfl, k_3⟩
 · rw [if_neg (of_decide_eq_false hg)] at hm
   refine WLs 5 [10] (.n 11 (I most) (.n 15 (I r_.2.2.2.2.2.1) .a)) (qs g_n 0 <| qs g_n 0 <| qB k_1 2 rfl 0 (I r_.2.2.2.2.2.1) (by kernel_rfl) <| qe) (by kernel_rfl) ?_
   refine WL_op ?_
   obtain ⟨r_1, h_r_1, hm⟩ := ob hm
   refine Op_call [10] 16 _ mo_go74 (by kernel_rfl) (c_node_blockOf (F := N0) (O := N0) _ (Cx.refl _) _ h_r_1) ?_
   rintro e_ w_1 ⟨rfl, k_4⟩
   have k_5 := k_1.call k_4
   refine ⟨I r_1, rfl, ?_⟩
   refine WLs 3 [10] (.n 19 (.b (decide ((w64 (Int.tdiv r_1 2)) < most))) (.ssss .a)) (qp ((2 : Int) ≠ (0 : Int)) (by omega) <| qe) (by kernel_rfl) ?_
   refine WL_nil <| At_go <| W_condp ((w64 (Int.tdiv r_1 2)) < most) (by kernel_rfl) (fun hc => ?_) (fun hc => ?_)
   · rw [if_pos hc] at hm
     refine W_seq <| W_q [] (.n 4 (sl none 0 0) (.n 5 (I 1) .z)) qe (by kernel_rfl) ?_
     refine At_go <| W_ret (At_tr ?_)
     have k_6 := k_5.nil e8
     obtain rfl := Option.some.inj hm
     refine At_rt [sl none 0 0, I 1] qe (by kernel_rfl) ?_
     have k_7 := (((((k_6.pk (.t (.t (.t (.t .h))))).pk (.t (.t (.t (.t .h))))).pk (.t (.t (.t (.t .h))))).pk (.t (.t (.t (.t .h))))).pk (.t (.t (.t (.t .h))))).pk (.t (.t (.t (.t (.t .h)))))
     exact ⟨none, 0, 0, A0, r_.2.2.2.1.length, c0, A4, r_.2.2.2.2.2.2.2.1.length, c4, A5, r_.2.2.2.2.2.2.2.2.1.length, c5, k_7.len 0 rfl, k_7.len 2 rfl, k_7.len 4 rfl, k_7.len 5 rfl, rfl, k_7⟩
   rw [if_neg hc] at hm
   refine W_skip <| At_go <| W_seq ?_
   have k_8 := k_5.drew 1
   refine W_m mo_mixed (.q 0 1 (.q 1 1 (.q 2 1 (.q 3 1 (.q 4 1 (.q 5 1 (.q 6 1 (.q 7 0 (.q 8 1 (.q 9 0 (.q 11 1 (.q 12 1 (.op 10 (.q 13 1 (.q 14 1 (.q 15 1 .nil)))))))))))))))) [10] k_8 (.c (.ss (.kk (.k .e))) .l) (by kernel_rfl) (fun _ => ?_)
   refine MXq 7 1 [] (.n 23 (.v (.iface 154 (SV.val (pt g_n_e 0)))) (.n 26 (pt g_n 4) (.ss .a))) (fun x hx => qs g_n 0 <| qs g_n 0 <| qB hx 0 rfl 6 (.v (.iface 154 (SV.val (pt g_n_e 0)))) (by kernel_rfl) <| qs g_n 0 <| qs g_n 0 <| qe) (by kernel_rfl) (fun _ => ?_)
   refine MXq 1 0 [] (.n 27 (.b r_.2.2.2.2.2.2.2.2.2.1) (.k (.s .a))) (fun x hx => qB hx 2 rfl 4 (.b r_.2.2.2.2.2.2.2.2.2.1) (by kernel_rfl) <| qe) (by kernel_rfl) (fun _ => ?_)
   refine MXq 1 1 [] .a (fun x hx => qe) (by kernel_rfl) (fun _ => ?_)
   refine MXq 1 0 [] (.n 29 (.v (.iface 154 (SV.val (pt g_n_e 0)))) (.k (.s .a))) (fun x hx => qe) (by kernel_rfl) (fun _ => ?_)
   refine MXq 2 1 [] (.n 31 (I most) (.n 32 (I most) (.kk .z))) (fun x hx => qe) (by kernel_rfl) (fun _ => ?_)
   refine MX_op (by kernel_rfl) rfl ?_
   obtain ⟨r_2, h_r_2, hm⟩ := ob hm
   obtain ⟨F11, O11, kin1, hO1, hre1, hF1, hb1⟩ := k_8.go (.i (.i (.r (.r (.r .e)))))
   refine Op_invoke [] 30 154 (pt g_n_e 0) [.b r_.2.2.2.2.2.2.2.2.2.1] mo_inv154_node_out rfl (by kernel_rfl) (c_node_half_uint32_out (F := F11) (O := O11) _ _ _ _ _ _ _ _ _ _ kin1 _ h_r_2) ?_
   rintro e_ w_2 ⟨A6, _, c6, A7, _, c7, rfl, rfl, rfl, k_9⟩
   have k_10 := hb1 w_2 _ _ k_9 (.c (.c (.c .n)))
   refine ⟨sl A6 r_2.1.length c6, rfl, ?_⟩
   refine ⟨(k_10.sel (.ss (.s (.kk (.k .e))))), fun _ => ?_⟩
   obtain ⟨b, h_b, hm⟩ := ob hm
   have hs := slc_some h_b
   have hl := slc_len h_b
   have hn : r_2.1.length = r_2.1.length := (k_10.len 0 rfl)
   have hc1 : r_2.1.length ≤ c6 := (k_10.lec 0 rfl)
   obtain ⟨u, h_u, hm⟩ := ob hm
   have hq := need_some h_u
   have hc2 : b.length ≤ Int.toNat most := by omega
   refine MXq 3 1 [] (.n 4 (sl A6 b.length (Int.toNat most)) (.n 5 (I 0) .z)) (fun x hx => qp (0 ≤ most ∧ most ≤ ((c6 : Nat) : Int)) (by omega) <| qp (0 ≤ most ∧ most ≤ ((Int.toNat most : Nat) : Int)) (by omega) <| qo (.v (.slice A6 b.length (Int.toNat most))) <| qp (Value.slice (slA A6 0 (Int.toNat most) 1) (Int.toNat most - 0) (Int.toNat most - 0) = .slice A6 b.length (Int.toNat most)) (slx0 _ _ _ _ _ (by omega)) <| qe) (by kernel_rfl) (fun _ => ?_)
   refine MX_nil <| At_go <| W_ret ?_
   have k_11 := k_10.pre 0 rfl b.length (Int.toNat most) b (by omega) (by omega) (by omega) (slc_pre h_b rfl)
   obtain rfl := Option.some.inj hm
   refine At_rt [sl A6 b.length (Int.toNat most), I 0] qe (by kernel_rfl) ?_
   exact ⟨A6, b.length, Int.toNat most, A7, r_2.2.2.2.2.1.length, c7, A4, r_.2.2.2.2.2.2.2.1.length, c4, A5, r_.2.2.2.2.2.2.2.2.1.length, c5, k_11.len 0 rfl, k_11.len 2 rfl, k_11.len 4 rfl, k_11.len 5 rfl, rfl, k_11⟩

-- quern/node.Hash
theorem c_node_Hash {F O : Nat → Prop} {w : World} (k_ : Int) (p_Digest : Int) (p_Key : Int) (p_Fanout : Int) (p_Depth : Int) (p_Leaf : UInt32) (p_Offset : UInt64) (p_Xof : UInt32) (p_NodeDepth : Int) (p_Inner : Int) (p_Salt : List UInt8) (p_Personal : List UInt8) (key : List UInt8) (last : Bool) (out : Int) (data : List UInt8) (A_p_Salt : Option Addr) (n_p_Salt : Nat) (c_p_Salt : Nat) (A_p_Personal : Option Addr) (n_p_Personal : Nat) (c_p_Personal : Nat) (A_key : Option Addr) (n_key : Nat) (c_key : Nat) (A_data : Option Addr) (n_data : Nat) (c_data : Nat) (h_p_Salt : Ro F w A_p_Salt (e8.all p_Salt)) (hn_p_Salt : p_Salt.length = n_p_Salt) (hc_p_Salt : n_p_Salt ≤ c_p_Salt) (h_p_Personal : Ro F w A_p_Personal (e8.all p_Personal)) (hn_p_Personal : p_Personal.length = n_p_Personal) (hc_p_Personal : n_p_Personal ≤ c_p_Personal) (h_key : Ro F w A_key (e8.all key)) (hn_key : key.length = n_key) (hc_key : n_key ≤ c_key) (h_data : Ro F w A_data (e8.all data)) (hn_data : data.length = n_data) (hc_data : n_data ≤ c_data) (k : Cx F O w w []) (r : (List UInt8 × Int)) (hm : m_node_Hash k_ p_Digest p_Key p_Fanout p_Depth p_Leaf p_Offset p_Xof p_NodeDepth p_Inner p_Salt p_Personal key last out data = some r) :
    Calls Try.prog 52 (vals [I k_, .agg [I p_Digest, I p_Key, I p_Fanout, I p_Depth, .u32 p_Leaf, .u64 p_Offset, .u32 p_Xof, I p_NodeDepth, I p_Inner, sl A_p_Salt n_p_Salt c_p_Salt, sl A_p_Personal n_p_Personal c_p_Personal], sl A_key n_key c_key, .b last, I out, sl A_data n_data c_data]) w (fun e w' => ∃ A n c, r.1.length = n ∧ e = .returned (SV.val (.tup [sl A n c, I r.2])) ∧ Cx F O w w' [Ow e8 A n c r.1]) := by
 unfold m_node_Hash at hm
 subst hn_p_Salt
 subst hn_p_Personal
 subst hn_key
 subst hn_data
 refine calls [I k_, .agg [I p_Digest, I p_Key, I p_Fanout, I p_Depth, .u32 p_Leaf, .u64 p_Offset, .u32 p_Xof, I p_NodeDepth, I p_Inner, sl A_p_Salt p_Salt.length c_p_Salt, sl A_p_Personal p_Personal.length c_p_Personal], sl A_key key.length c_key, .b last, I out, sl A_data data.length c_data] Try.func52 rfl (of_decide_eq_true (by kernel_rfl)) ?_
 refine W_seq <| W_reg <| WL_op <| Op_box [] 7 (.agg [I p_Digest, I p_Key, I p_Fanout, I p_Depth, .u32 p_Leaf, .u64 p_Offset, .u32 p_Xof, I p_NodeDepth, I p_Inner, sl A_p_Salt p_Salt.length c_p_Salt, sl A_p_Personal p_Personal.length c_p_Personal]) [I p_Digest, I p_Key, I p_Fanout, I p_Depth, .u32 p_Leaf, .u64 p_Offset, .u32 p_Xof, I p_NodeDepth, I p_Inner, sl A_p_Salt p_Salt.length c_p_Salt, sl A_p_Personal p_Personal.length c_p_Personal] (by kernel_rfl) k ?_
 intro g w_ k_1
 refine WLs 2 [] (.kk (.s .a)) qe (by kernel_rfl) ?_
 refine WL_nil <| At_go <| W_seq <| W_reg <| WLs 3 [] (.n 17 (I k_) (.n 18 (.agg [I p_Digest, I p_Key, I p_Fanout, I p_Depth, .u32 p_Leaf, .u64 p_Offset, .u32 p_Xof, I p_NodeDepth, I p_Inner, sl A_p_Salt p_Salt.length c_p_Salt, sl A_p_Personal p_Personal.length c_p_Personal]) (.n 19 (sl A_key key.length c_key) (.sss .a)))) (qT k_1 0 rfl 0 11 [I p_Digest, I p_Key, I p_Fanout, I p_Depth, .u32 p_Leaf, .u64 p_Offset, .u32 p_Xof, I p_NodeDepth, I p_Inner, sl A_p_Salt p_Salt.length c_p_Salt, sl A_p_Personal p_Personal.length c_p_Personal] (by kernel_rfl) (by decide) <| qe) (by kernel_rfl) ?_
 refine WL_op ?_
 obtain ⟨r_, h_r_, hm⟩ := ob hm
 refine Op_call [] 20 _ mo_go58 (by kernel_rfl) (c_node_New (F := N0) (O := N0) _ _ _ _ _ _ _ _ _ _ _ _ _ _ _ _ _ _ _ _ _ _ (Ro.n0 (h_p_Salt.cx k_1)) rfl hc_p_Salt (Ro.n0 (h_p_Personal.cx k_1)) rfl hc_p_Personal (Ro.n0 (h_key.cx k_1)) rfl hc_key (Cx.refl _) _ h_r_) ?_
 rcases r_ with r_1 | r_2 | r_3
 · simp only [Sum.elim_inl, Sum.elim_inr] at hm
   rintro e_ w_1 ⟨rfl, k_2⟩
   have k_3 := k_1.call k_2
   refine ⟨.tup [.v (.pointer none), I r_1], rfl, ?_⟩
   have k_4 := k_3.sel .z
   refine WLs 5 [] (.n 14 (.v (.pointer none)) (.n 15 (I r_1) (.ssss .a))) qe (by kernel_rfl) ?_
   refine WL_nil <| At_go <| W_seq <| W_seq <| W_q [] (.n 24 (.b (decide (r_1 ≠ 0))) .a) qe (by kernel_rfl) ?_
   refine At_go <| W_condp (r_1 ≠ 0) (by kernel_rfl) (fun hc => ?_) (fun hc => ?_)
   · rw [if_pos hc] at hm
     refine W_seq <| W_q [] (.n 12 (sl none 0 0) (.n 13 (I r_1) .z)) qe (by kernel_rfl) ?_
     refine At_go <| W_ret (At_tr ?_)
     have k_5 := k_4.nil e8
     obtain rfl := Option.some.inj hm
     refine At_rt [sl none 0 0, I r_1] qe (by kernel_rfl) ?_
     exact ⟨none, 0, 0, k_5.len 0 rfl, rfl, k_5⟩
   rw [if_neg hc] at hm
   cases hm
 · simp only [Sum.elim_inl, Sum.elim_inr] at hm
   rintro e_ w_2 ⟨g1, A0, _, c0, A1, _, c1, g2, A2, _, c2, rfl, rfl, rfl, rfl, k_6⟩
   have k_7 := k_1.call k_6
   refine ⟨.tup [pt g1 0, I 0], rfl, ?_⟩
   have k_8 := k_7.sel (.s (.kkkk (.k .e)))
   refine WLs 5 [] (.n 14 (pt g1 0) (.n 15 (I 0) (.ssss .a))) qe (by kernel_rfl) ?_
   refine WL_nil <| At_go <| W_seq <| W_seq <| W_q [] (.n 24 (.b (decide (0 ≠ 0))) .a) qe (by kernel_rfl) ?_
   refine At_go <| W_condp (0 ≠ 0) (by kernel_rfl) (fun hc0 => ?_) (fun hc0 => ?_)
   · rw [if_pos hc0] at hm
     refine W_seq <| W_q [] (.n 12 (sl none 0 0) (.n 13 (I 0) .z)) qe (by kernel_rfl) ?_
     refine At_go <| W_ret (At_tr ?_)
     have k_9 := k_8.nil e8
     obtain rfl := Option.some.inj hm
     refine At_rt [sl none 0 0, I 0] qe (by kernel_rfl) ?_
     have k_10 := k_9.sel (.ssss (.s (.k .e)))
     exact ⟨none, 0, 0, k_10.len 0 rfl, rfl, k_10⟩
   rw [if_neg hc0] at hm
   refine W_skip <| At_go <| W_seq <| W_reg <| WLs 4 [] (.n 27 (.b last) (.n 29 (pt g1 4) (.s (.k (.ss .a))))) (qs g1 0 <| qs g1 0 <| qe) (by kernel_rfl) ?_
   refine WL_op <| Op_b [] 0 (.b last) [.b last] (Pt.at g1 4) k_8 rfl (.kkkk .h) (by kernel_rfl) (by kernel_rfl) ?_
   intro w_3 k_11
   refine WL_nil <| At_go <| W_seq <| W_reg <| WLs 5 [] (.n 33 (.v (.iface 144 (SV.val (pt g2 0)))) (.n 34 (sl A_data data.length c_data) (.ss (.kk .z)))) (qs g1 0 <| qs g1 0 <| qB k_11 0 rfl 6 (.v (.iface 144 (SV.val (pt g2 0)))) (by kernel_rfl) <| qe) (by kernel_rfl) ?_
   refine WL_op ?_
   obtain ⟨r_4, h_r_4, hm⟩ := ob hm
   obtain ⟨F1, O1, kin, hO, hre, hF, hb⟩ := k_11.go (.r (.r (.r (.i (.i .e)))))
   refine Op_invoke [] 35 144 (pt g2 0) [sl A_data data.length c_data] mo_inv144_node_write rfl (by kernel_rfl) (c_node_half_uint64_write (F := F1) (O := O1) _ _ _ _ _ _ _ _ _ _ _ _ _ (Ro.of_old h_data k_11 hF) rfl hc_data kin _ h_r_4) ?_
   rintro e_ w_4 ⟨A3, _, c3, rfl, rfl, k_12⟩
   have k_13 := hb w_4 _ _ k_12 (.c (.c .n))
   refine ⟨.tup [], rfl, ?_⟩
   refine WL_nil <| At_go <| W_seq <| W_reg <| WLs 2 [] (.n 36 (pt g1 0) (.n 37 (I out) .z)) qe (by kernel_rfl) ?_
   refine WL_op ?_
   have k_14 := k_13.sel (.kkkk (.k .e))
   obtain ⟨r_5, h_r_5, hm⟩ := ob hm
   have k_15 := ((((k_14.pk (.t .h)).pk (.t .h)).pk (.t (.t (.t (.t .h))))).pk (.t (.t (.t (.t .h))))).pk (.t (.t (.t (.t .h))))
   obtain ⟨F11, O11, kin1, hO1, hre1, hF1, hb1⟩ := k_15.go (.i (.i (.i (.i (.i .e)))))
   refine Op_call [] 38 _ mo_go59 (by kernel_rfl) (c_node_Node_Out (F := F11) (O := O11) _ _ _ _ _ _ _ _ _ _ _ _ _ _ _ _ _ _ _ _ _ _ _ kin1 _ h_r_5) ?_
   rintro e_ w_5 ⟨A4, _, c4, A5, _, c5, A6, _, c6, A7, _, c7, rfl, rfl, rfl, rfl, rfl, k_16⟩
   have k_17 := hb1 w_5 _ _ k_16 (.c (.c (.c (.c (.c (.c .n))))))
   refine ⟨.tup [sl A4 r_5.1.length c4, I r_5.2.1], rfl, ?_⟩
   have k_18 := k_17.sel (.k .z)
   refine WLs 4 [] (.n 12 (sl A4 r_5.1.length c4) (.n 13 (I r_5.2.1) .z)) qe (by kernel_rfl) ?_
   refine WL_nil <| At_go <| W_ret ?_
   obtain rfl := Option.some.inj hm
   refine At_rt [sl A4 r_5.1.length c4, I r_5.2.1] qe (by kernel_rfl) ?_
   exact ⟨A4, r_5.1.length, c4, k_18.len 0 rfl, rfl, k_18⟩
 · simp only [Sum.elim_inl, Sum.elim_inr] at hm
   rintro e_ w_6 ⟨g3, A8, _, c8, A9, _, c9, g4, A10, _, c10, rfl, rfl, rfl, rfl, k_19⟩
   have k_20 := k_1.call k_19
   refine ⟨.tup [pt g3 0, I 0], rfl, ?_⟩
   have k_21 := k_20.sel (.s (.kkkk (.k .e)))
   refine WLs 5 [] (.n 14 (pt g3 0) (.n 15 (I 0) (.ssss .a))) qe (by kernel_rfl) ?_
   refine WL_nil <| At_go <| W_seq <| W_seq <| W_q [] (.n 24 (.b (decide (0 ≠ 0))) .a) qe (by kernel_rfl) ?_
   refine At_go <| W_condp (0 ≠ 0) (by kernel_rfl) (fun hc1 => ?_) (fun hc1 => ?_)
   · rw [if_pos hc1] at hm
     refine W_seq <| W_q [] (.n 12 (sl none 0 0) (.n 13 (I 0) .z)) qe (by kernel_rfl) ?_
     refine At_go <| W_ret (At_tr ?_)
     have k_22 := k_21.nil e8
     obtain rfl := Option.some.inj hm
     refine At_rt [sl none 0 0, I 0] qe (by kernel_rfl) ?_
     have k_23 := k_22.sel (.ssss (.s (.k .e)))
     exact ⟨none, 0, 0, k_23.len 0 rfl, rfl, k_23⟩
   rw [if_neg hc1] at hm
   refine W_skip <| At_go <| W_seq <| W_reg <| WLs 4 [] (.n 27 (.b last) (.n 29 (pt g3 4) (.s (.k (.ss .a))))) (qs g3 0 <| qs g3 0 <| qe) (by kernel_rfl) ?_
   refine WL_op <| Op_b [] 0 (.b last) [.b last] (Pt.at g3 4) k_21 rfl (.kkkk .h) (by kernel_rfl) (by kernel_rfl) ?_
   intro w_7 k_24
   refine WL_nil <| At_go <| W_seq <| W_reg <| WLs 5 [] (.n 33 (.v (.iface 154 (SV.val (pt g4 0)))) (.n 34 (sl A_data data.length c_data) (.ss (.kk .z)))) (qs g3 0 <| qs g3 0 <| qB k_24 0 rfl 6 (.v (.iface 154 (SV.val (pt g4 0)))) (by kernel_rfl) <| qe) (by kernel_rfl) ?_
   refine WL_op ?_
   obtain ⟨r_6, h_r_6, hm⟩ := ob hm
   obtain ⟨F10, O10, kin0, hO0, hre0, hF0, hb0⟩ := k_24.go (.r (.r (.r (.i (.i .e)))))
   refine Op_invoke [] 35 154 (pt g4 0) [sl A_data data.length c_data] mo_inv154_node_write rfl (by kernel_rfl) (c_node_half_uint32_write (F := F10) (O := O10) _ _ _ _ _ _ _ _ _ _ _ _ _ (Ro.of_old h_data k_24 hF0) rfl hc_data kin0 _ h_r_6) ?_
   rintro e_ w_8 ⟨A11, _, c11, rfl, rfl, k_25⟩
   have k_26 := hb0 w_8 _ _ k_25 (.c (.c .n))
   refine ⟨.tup [], rfl, ?_⟩
   refine WL_nil <| At_go <| W_seq <| W_reg <| WLs 2 [] (.n 36 (pt g3 0) (.n 37 (I out) .z)) qe (by kernel_rfl) ?_
   refine WL_op ?_
   have k_27 := k_26.sel (.kkkk (.k .e))
   obtain ⟨r_7, h_r_7, hm⟩ := ob hm
   have k_28 := ((((k_27.pk (.t .h)).pk (.t .h)).pk (.t (.t (.t (.t .h))))).pk (.t (.t (.t (.t .h))))).pk (.t (.t (.t (.t .h))))
   obtain ⟨F12, O12, kin2, hO2, hre2, hF2, hb2⟩ := k_28.go (.i (.i (.i (.i (.i .e)))))
   refine Op_call [] 38 _ mo_go59 (by kernel_rfl) (c_node_Node_Out_s1 (F := F12) (O := O12) _ _ _ _ _ _ _ _ _ _ _ _ _ _ _ _ _ _ _ _ _ _ _ kin2 _ h_r_7) ?_
   rintro e_ w_9 ⟨A12, _, c12, A13, _, c13, A14, _, c14, A15, _, c15, rfl, rfl, rfl, rfl, rfl, k_29⟩
   have k_30 := hb2 w_9 _ _ k_29 (.c (.c (.c (.c (.c (.c .n))))))
   refine ⟨.tup [sl A12 r_7.1.length c12, I r_7.2.1], rfl, ?_⟩
   have k_31 := k_30.sel (.k .z)
   refine WLs 4 [] (.n 12 (sl A12 r_7.1.length c12) (.n 13 (I r_7.2.1) .z)) qe (by kernel_rfl) ?_
   refine WL_nil <| At_go <| W_ret ?_
   obtain rfl := Option.some.inj hm
   refine At_rt [sl A12 r_7.1.length c12, I r_7.2.1] qe (by kernel_rfl) ?_
   exact ⟨A12, r_7.1.length, c12, k_31.len 0 rfl, rfl, k_31⟩

-- quern/mac.digest
theorem c_mac_digest {F O : Nat → Prop} {w : World} (k_ : Int) (n : Int) (key : List UInt8) (salt : List UInt8) (personal : List UInt8) (data : List UInt8) (A_key : Option Addr) (n_key : Nat) (c_key : Nat) (A_salt : Option Addr) (n_salt : Nat) (c_salt : Nat) (A_personal : Option Addr) (n_personal : Nat) (c_personal : Nat) (A_data : Option Addr) (n_data : Nat) (c_data : Nat) (h_key : Ro F w A_key (e8.all key)) (hn_key : key.length = n_key) (hc_key : n_key ≤ c_key) (h_salt : Ro F w A_salt (e8.all salt)) (hn_salt : salt.length = n_salt) (hc_salt : n_salt ≤ c_salt) (h_personal : Ro F w A_personal (e8.all personal)) (hn_personal : personal.length = n_personal) (hc_personal : n_personal ≤ c_personal) (h_data : Ro F w A_data (e8.all data)) (hn_data : data.length = n_data) (hc_data : n_data ≤ c_data) (k : Cx F O w w []) (r : (List UInt8 × Int)) (hm : m_mac_digest k_ n key salt personal data = some r) :
    Calls Try.prog 40 (vals [I k_, I n, sl A_key n_key c_key, sl A_salt n_salt c_salt, sl A_personal n_personal c_personal, sl A_data n_data c_data]) w (fun e w' => ∃ A n1 c, r.1.length = n1 ∧ e = .returned (SV.val (.tup [sl A n1 c, I r.2])) ∧ Cx F O w w' [Ow e8 A n1 c r.1]) := by
 unfold m_mac_digest at hm
 subst hn_key
 subst hn_salt
 subst hn_personal
 subst hn_data
 refine calls [I k_, I n, sl A_key key.length c_key, sl A_salt salt.length c_salt, sl A_personal personal.length c_personal, sl A_data data.length c_data] Try.func40 rfl (of_decide_eq_true (by kernel_rfl)) ?_
 refine W_seq <| W_q [] .a qe (by kernel_rfl) ?_
 refine At_go <| W_seq <| W_seq <| W_reg <| WLs 1 [] (.n 19 (I k_) .a) qe (by kernel_rfl) ?_
 refine WL_op ?_
 obtain ⟨r_, h_r_, hm⟩ := ob hm
 refine Op_call [] 20 _ mo_go50 (by kernel_rfl) (c_param_Size (F := N0) (O := N0) _ (Cx.refl _) _ h_r_) ?_
 rintro e_ w_ ⟨rfl, k_1⟩
 have k_2 := k.call k_1
 refine ⟨.tup [I r_.1, I r_.2], rfl, ?_⟩
 refine WLs 5 [] (.n 15 (I r_.2) (.ss .a)) qe (by kernel_rfl) ?_
 refine WL_nil <| At_go <| W_seq <| W_q [] (.n 24 (.b (decide (r_.2 ≠ 0))) (.s .a)) qe (by kernel_rfl) ?_
 refine At_go <| W_condp (r_.2 ≠ 0) (by kernel_rfl) (fun hc => ?_) (fun hc => ?_)
 · rw [if_pos hc] at hm
   refine W_seq <| W_q [] (.n 12 (sl none 0 0) (.n 13 (I 1) .z)) qe (by kernel_rfl) ?_
   refine At_go <| W_ret (At_tr ?_)
   have k_3 := k_2.nil e8
   obtain rfl := Option.some.inj hm
   refine At_rt [sl none 0 0, I 1] qe (by kernel_rfl) ?_
   exact ⟨none, 0, 0, k_3.len 0 rfl, rfl, k_3⟩
 rw [if_neg hc] at hm
 refine W_skip <| At_go <| W_seq <| W_reg <| WLs 6 [] (.n 30 (.agg [I n, I ((key.length : Nat) : Int), I 1, I 1, .u32 0, .u64 0, .u32 0, I 0, I 0, sl A_salt salt.length c_salt, sl A_personal personal.length c_personal]) (.s (.kkk (.ss .a)))) qe (by kernel_rfl) ?_
 refine WL_op <| Op_alloc [] 16 [I 0, I 0, I 0, I 0, .u32 0, .u64 0, .u32 0, I 0, I 0, sl none 0 0, sl none 0 0] (by kernel_rfl) k_2 ?_
 intro g w_1 k_4
 refine WL_op <| Op_b [] 0 (.agg [I n, I ((key.length : Nat) : Int), I 1, I 1, .u32 0, .u64 0, .u32 0, I 0, I 0, sl A_salt salt.length c_salt, sl A_personal personal.length c_personal]) [I n, I ((key.length : Nat) : Int), I 1, I 1, .u32 0, .u64 0, .u32 0, I 0, I 0, sl A_salt salt.length c_salt, sl A_personal personal.length c_personal] (Pt.at g 0) k_4 rfl .all (by kernel_rfl) (by kernel_rfl) ?_
 intro w_2 k_5
 refine WL_nil <| At_go <| W_seq <| W_seq <| W_reg <| WLs 2 [] (.n 31 (I k_) (.n 32 (.agg [I n, I ((key.length : Nat) : Int), I 1, I 1, .u32 0, .u64 0, .u32 0, I 0, I 0, sl A_salt salt.length c_salt, sl A_personal personal.length c_personal]) (.k (.s .a)))) (qT k_5 0 rfl 0 11 [I n, I ((key.length : Nat) : Int), I 1, I 1, .u32 0, .u64 0, .u32 0, I 0, I 0, sl A_salt salt.length c_salt, sl A_personal personal.length c_personal] (by kernel_rfl) (by decide) <| qe) (by kernel_rfl) ?_
 refine WL_op ?_
 obtain ⟨r_1, h_r_1, hm⟩ := ob hm
 refine Op_call [] 33 _ mo_go51 (by kernel_rfl) (c_param_Check (F := N0) (O := N0) _ _ _ _ _ _ _ _ _ _ _ _ _ _ _ _ _ _ (Ro.n0 (h_salt.cx k_5)) rfl hc_salt (Ro.n0 (h_personal.cx k_5)) rfl hc_personal (Cx.refl _) _ h_r_1) ?_
 rintro e_ w_3 ⟨rfl, k_6⟩
 have k_7 := k_5.call k_6
 refine ⟨I r_1, rfl, ?_⟩
 refine WLs 1 [] (.n 17 (I r_1) (.sss .a)) qe (by kernel_rfl) ?_
 refine WL_nil <| At_go <| W_seq <| W_q [] (.n 35 (.b (decide (r_1 ≠ 0))) .a) qe (by kernel_rfl) ?_
 refine At_go <| W_condp (r_1 ≠ 0) (by kernel_rfl) (fun hc1 => ?_) (fun hc1 => ?_)
 · rw [if_pos hc1] at hm
   refine W_seq <| W_q [] (.n 12 (sl none 0 0) (.n 13 (I r_1) .z)) qe (by kernel_rfl) ?_
   refine At_go <| W_ret (At_tr ?_)
   have k_8 := k_7.nil e8
   obtain rfl := Option.some.inj hm
   refine At_rt [sl none 0 0, I r_1] qe (by kernel_rfl) ?_
   have k_9 := k_8.sel (.s (.k .e))
   exact ⟨none, 0, 0, k_9.len 0 rfl, rfl, k_9⟩
 rw [if_neg hc1] at hm
 refine W_skip <| At_go <| W_seq <| W_reg <| WLs 5 [] (.n 37 (I k_) (.n 38 (.agg [I n, I ((key.length : Nat) : Int), I 1, I 1, .u32 0, .u64 0, .u32 0, I 0, I 0, sl A_salt salt.length c_salt, sl A_personal personal.length c_personal]) (.n 39 (sl A_key key.length c_key) (.n 40 (I n) (.n 41 (sl A_data data.length c_data) .z))))) (qT k_7 0 rfl 0 11 [I n, I ((key.length : Nat) : Int), I 1, I 1, .u32 0, .u64 0, .u32 0, I 0, I 0, sl A_salt salt.length c_salt, sl A_personal personal.length c_personal] (by kernel_rfl) (by decide) <| qe) (by kernel_rfl) ?_
 refine WL_op ?_
 have k_10 := k_7.sel (.k .e)
 obtain ⟨r_2, h_r_2, hm⟩ := ob hm
 refine Op_call [] 42 _ mo_go52 (by kernel_rfl) (c_node_Hash (F := N0) (O := N0) _ _ _ _ _ _ _ _ _ _ _ _ _ _ _ _ _ _ _ _ _ _ _ _ _ _ _ _ (Ro.n0 (h_salt.cx k_10)) rfl hc_salt (Ro.n0 (h_personal.cx k_10)) rfl hc_personal (Ro.n0 (h_key.cx k_10)) rfl hc_key (Ro.n0 (h_data.cx k_10)) rfl hc_data (Cx.refl _) _ h_r_2) ?_
 rintro e_ w_4 ⟨A0, _, c0, rfl, rfl, k_11⟩
 have k_12 := k_10.call k_11
 refine ⟨.tup [sl A0 r_2.1.length c0, I r_2.2], rfl, ?_⟩
 have k_13 := k_12.sel (.s (.k .e))
 refine WLs 4 [] (.n 12 (sl A0 r_2.1.length c0) (.n 13 (I r_2.2) .z)) qe (by kernel_rfl) ?_
 refine WL_nil <| At_go <| W_ret ?_
 obtain rfl := Option.some.inj hm
 refine At_rt [sl A0 r_2.1.length c0, I r_2.2] qe (by kernel_rfl) ?_
 exact ⟨A0, r_2.1.length, c0, k_13.len 0 rfl, rfl, k_13⟩

-- quern/mac.Sum
theorem c_mac_Sum {F O : Nat → Prop} {w : World} (k_ : Int) (n : Int) (data : List UInt8) (A_data : Option Addr) (n_data : Nat) (c_data : Nat) (h_data : Ro F w A_data (e8.all data)) (hn_data : data.length = n_data) (hc_data : n_data ≤ c_data) (k : Cx F O w w []) (r : (List UInt8 × Int)) (hm : m_mac_Sum k_ n data = some r) :
    Calls Try.prog 38 (vals [I k_, I n, sl A_data n_data c_data]) w (fun e w' => ∃ A n1 c, r.1.length = n1 ∧ e = .returned (SV.val (.tup [sl A n1 c, I r.2])) ∧ Cx F O w w' [Ow e8 A n1 c r.1]) := by
 unfold m_mac_Sum at hm
 subst hn_data
 refine calls [I k_, I n, sl A_data data.length c_data] Try.func38 rfl (of_decide_eq_true (by kernel_rfl)) ?_
 refine W_seq <| W_q [] .a qe (by kernel_rfl) ?_
 refine At_go <| W_seq <| W_reg <| WLs 3 [] (.n 8 (I k_) (.n 9 (I n) (.n 10 (sl A_data data.length c_data) .z))) qe (by kernel_rfl) ?_
 refine WL_op ?_
 obtain ⟨r_, h_r_, hm⟩ := ob hm
 refine Op_call [] 11 _ mo_go40 (by kernel_rfl) (c_mac_digest (F := N0) (O := N0) _ _ _ _ _ _ _ _ _ _ _ _ _ _ _ _ _ _ (Ro.nilE e8) rfl (Nat.le_refl 0) (Ro.nilE e8) rfl (Nat.le_refl 0) (Ro.nilE e8) rfl (Nat.le_refl 0) (Ro.n0 (h_data.cx k)) rfl hc_data (Cx.refl _) _ h_r_) ?_
 rintro e_ w_ ⟨A0, _, c0, rfl, rfl, k_1⟩
 have k_2 := k.call k_1
 refine ⟨.tup [sl A0 r_.1.length c0, I r_.2], rfl, ?_⟩
 refine WLs 4 [] (.n 6 (sl A0 r_.1.length c0) (.n 7 (I r_.2) .z)) qe (by kernel_rfl) ?_
 refine WL_nil <| At_go <| W_ret ?_
 obtain rfl := Option.some.inj hm
 refine At_rt [sl A0 r_.1.length c0, I r_.2] qe (by kernel_rfl) ?_
 exact ⟨A0, r_.1.length, c0, k_2.len 0 rfl, rfl, k_2⟩

-- quern/quernlaw06.alive
theorem c_l06_alive {F O : Nat → Prop} {w : World} (k : Cx F O w w []) (r : Bool) (hm : m_l06_alive = some r) :
    Calls Try.prog 21 (vals []) w (fun e w' => e = .returned (SV.val (.b r)) ∧ Cx F O w w' []) := by
 unfold m_l06_alive at hm
 refine calls [] Try.func21 rfl (of_decide_eq_true (by kernel_rfl)) ?_
 refine W_seq <| W_q [] .a qe (by kernel_rfl) ?_
 refine At_go <| W_seq <| W_q [] (.n 1 (sl none 0 0) .a) qe (by kernel_rfl) ?_
 refine At_go <| W_seq <| W_reg <| WLs 1 [] (.n 4 (sl none 0 0) .a) qe (by kernel_rfl) ?_
 refine WL_op <| Op_mk mo_tf22 e8 [] 5 ([(97 : UInt8), (98 : UInt8), (99 : UInt8)] : List UInt8) [(0, .u8 97), (1, .u8 98), (2, .u8 99)] [.u8 97, .u8 98, .u8 99] (by kernel_rfl) (by kernel_rfl) (by kernel_rfl) k ?_
 intro A w_ k_
 refine WL_op ?_
 have k_1 := k_.nil e8
 obtain ⟨abc, h_abc, hm⟩ := ob hm
 obtain ⟨hz, hl⟩ := app_some h_abc
 refine Op_append (E := e8) (v := sl A 3 3) (ys := ([(97 : UInt8), (98 : UInt8), (99 : UInt8)] : List UInt8)) mo_tf22 [] 6 1 (by kernel_rfl) k_1 rfl (Src.sl (k_1.rd 0 rfl) (k_1.len 0 rfl) (by rfl)) (k_1.len 0 rfl) (by have := k_1.len 1 rfl; have := (k_1.len 0 rfl); omega) ?_
 intro A1 c w_1 k_2
 rw [← hl] at k_2
 have k_3 := k_2.sel (.s (.k .e))
 refine WLs 1 [] (.n 1 (sl A1 (0 + 3) c) .z) qe (by kernel_rfl) ?_
 refine WL_nil <| At_go <| W_seq <| W_reg <| WLs 1 [] (.n 8 (sl A1 (0 + 3) c) .z) qe (by kernel_rfl) ?_
 refine WL_op ?_
 obtain ⟨r_, h_r_, hm⟩ := ob hm
 refine Op_call [] 9 _ mo_go38 (by kernel_rfl) (c_mac_Sum (F := N0) (O := N0) _ _ _ _ _ _ (Ro.n0 (k_3.rd 0 rfl)) (k_3.len 0 rfl) (k_3.lec 0 rfl) (Cx.refl _) _ h_r_) ?_
 rintro e_ w_2 ⟨A2, _, c1, rfl, rfl, k_4⟩
 have k_5 := k_3.call k_4
 refine ⟨.tup [sl A2 r_.1.length c1, I r_.2], rfl, ?_⟩
 have k_6 := k_5.sel (.s (.k .e))
 refine WLs 5 [] (.n 2 (sl A2 r_.1.length c1) (.n 3 (I r_.2) .z)) qe (by kernel_rfl) ?_
 refine WL_nil <| At_go <| W_seq ?_
 obtain ⟨x_0, h_x_0, hm⟩ := ob hm
 obtain ⟨x_1, h_x_1, hm⟩ := ob hm
 refine W_q [] (.n 0 (.b ((((decide (r_.2 = 0)) && (decide (((r_.1.length : Nat) : Int) = 32))) && (decide (x_0 = 80))) && (decide (x_1 = 130)))) .z) (qp (((decide (r_.2 = 0)) && (decide (((r_.1.length : Nat) : Int) = 32))) = true → 0 ≤ (0 : Int) ∧ (0 : Int) < ((r_.1.length : Nat) : Int) ∧ A2.isSome = true) (fun hg0 => Rd.ix (E := e8) (k_6.rd 0 rfl) (gif_some h_x_0 hg0) (k_6.len 0 rfl) (by decide)) <| qo (.u8 x_0) <| qc (fun w => ((decide (r_.2 = 0)) && (decide (((r_.1.length : Nat) : Int) = 32))) = true → ∃ a, ixA A2 (0 : Int) 1 = some a ∧ w.cell? a = some (SV.val (.u8 x_0))) (fun hg0 => Rd.el (k := 0) (k_6.rd 0 rfl) (gif_some h_x_0 hg0) (Pt.ix1 A2 (0 : Int) 1) rfl) <| qp ((((decide (r_.2 = 0)) && (decide (((r_.1.length : Nat) : Int) = 32))) && (decide (x_0 = 80))) = true → 0 ≤ (31 : Int) ∧ (31 : Int) < ((r_.1.length : Nat) : Int) ∧ A2.isSome = true) (fun hg0 => Rd.ix (E := e8) (k_6.rd 0 rfl) (gif_some h_x_1 hg0) (k_6.len 0 rfl) (by decide)) <| qo (.u8 x_1) <| qc (fun w => (((decide (r_.2 = 0)) && (decide (((r_.1.length : Nat) : Int) = 32))) && (decide (x_0 = 80))) = true → ∃ a, ixA A2 (31 : Int) 1 = some a ∧ w.cell? a = some (SV.val (.u8 x_1))) (fun hg0 => Rd.el (k := 0) (k_6.rd 0 rfl) (gif_some h_x_1 hg0) (Pt.ix1 A2 (31 : Int) 1) rfl) <| qe) (by kernel_rfl) ?_
 refine At_go <| W_ret ?_
 obtain rfl := Option.some.inj hm
 refine At_rt [.b ((((decide (r_.2 = 0)) && (decide (((r_.1.length : Nat) : Int) = 32))) && (decide (x_0 = 80))) && (decide (x_1 = 130)))] qe (by kernel_rfl) ?_
 have k_7 := k_6.sel .z
 exact ⟨rfl, k_7⟩

-- quern/param.Most
theorem c_param_Most {F O : Nat → Prop} {w : World} (k_ : Int) (k : Cx F O w w []) (r : (Int × Int)) (hm : m_param_Most k_ = some r) :
    Calls Try.prog 53 (vals [I k_]) w (fun e w' => e = .returned (SV.val (.tup [I r.1, I r.2])) ∧ Cx F O w w' []) := by
 unfold m_param_Most at hm
 refine calls [I k_] Try.func53 rfl (of_decide_eq_true (by kernel_rfl)) ?_
 refine W_seq <| W_q [] .a qe (by kernel_rfl) ?_
 refine At_go <| W_seq <| W_reg <| WLs 1 [] (.n 8 (I k_) .z) qe (by kernel_rfl) ?_
 refine WL_op ?_
 obtain ⟨r_, h_r_, hm⟩ := ob hm
 refine Op_call [] 9 _ mo_go56 (by kernel_rfl) (c_param_sizes (F := N0) (O := N0) _ (Cx.refl _) _ h_r_) ?_
 rintro e_ w_ ⟨rfl, k_1⟩
 have k_2 := k.call k_1
 refine ⟨.tup [I r_.1, I r_.2.1, I r_.2.2], rfl, ?_⟩
 refine WLs 7 [] (.n 5 (I r_.2.1) .z) qe (by kernel_rfl) ?_
 refine WL_nil <| At_go <| W_seq <| W_seq <| W_q [] (.n 14 (.b (decide (r_.2.1 = 0))) .a) qe (by kernel_rfl) ?_
 refine At_go <| W_condp (r_.2.1 = 0) (by kernel_rfl) (fun hc => ?_) (fun hc => ?_)
 · rw [if_pos hc] at hm
   refine W_seq <| W_q [] (.n 2 (I 0) (.n 3 (I 1) .z)) qe (by kernel_rfl) ?_
   refine At_go <| W_ret (At_tr ?_)
   obtain rfl := Option.some.inj hm
   refine At_rt [I 0, I 1] qe (by kernel_rfl) ?_
   exact ⟨rfl, k_2⟩
 rw [if_neg hc] at hm
 refine W_skip <| At_go <| W_seq <| W_q [] (.n 2 (I r_.2.1) (.n 3 (I 0) .z)) qe (by kernel_rfl) ?_
 refine At_go <| W_ret ?_
 obtain rfl := Option.some.inj hm
 refine At_rt [I r_.2.1, I 0] qe (by kernel_rfl) ?_
 exact ⟨rfl, k_2⟩

-- quern/mac.most
theorem c_mac_most {F O : Nat → Prop} {w : World} (k_ : Int) (k : Cx F O w w []) (r : Int) (hm : m_mac_most k_ = some r) :
    Calls Try.prog 41 (vals [I k_]) w (fun e w' => e = .returned (SV.val (I r)) ∧ Cx F O w w' []) := by
 unfold m_mac_most at hm
 refine calls [I k_] Try.func41 rfl (of_decide_eq_true (by kernel_rfl)) ?_
 refine W_seq <| W_q [] .a qe (by kernel_rfl) ?_
 refine At_go <| W_seq <| W_reg <| WLs 1 [] (.n 6 (I k_) .z) qe (by kernel_rfl) ?_
 refine WL_op ?_
 obtain ⟨r_, h_r_, hm⟩ := ob hm
 refine Op_call [] 7 _ mo_go53 (by kernel_rfl) (c_param_Most (F := N0) (O := N0) _ (Cx.refl _) _ h_r_) ?_
 rintro e_ w_ ⟨rfl, k_1⟩
 have k_2 := k.call k_1
 refine ⟨.tup [I r_.1, I r_.2], rfl, ?_⟩
 refine WLs 5 [] (.n 3 (I r_.1) .z) qe (by kernel_rfl) ?_
 refine WL_nil <| At_go <| W_seq <| W_q [] (.n 2 (I r_.1) .z) qe (by kernel_rfl) ?_
 refine At_go <| W_ret ?_
 obtain rfl := Option.some.inj hm
 refine At_rt [I r_.1] qe (by kernel_rfl) ?_
 exact ⟨rfl, k_2⟩

-- quern/mac.NewRing
theorem c_mac_NewRing {F O : Nat → Prop} {w : World} (k_ : Int) (n : Int) (k : Cx F O w w []) (r : Int ⊕ (Int × Int × List (List UInt8) × List (List UInt8))) (hm : m_mac_NewRing k_ n = some r) :
    Calls Try.prog 31 (vals [I k_, I n]) w (fun e w' => match r with | .inl r0 => e = .returned (SV.val (.tup [.v (.pointer none), I r0])) ∧ Cx F O w w' [] | .inr r1 => ∃ g hd b, e = .returned (SV.val (.tup [pt g 0, I 0])) ∧ Cx F O w w' [Bx 60 g [I r1.1, I r1.2.1, .v (.map (some b))], MR e8 b r1.2.2.1 hd r1.2.2.2]) := by
 unfold m_mac_NewRing at hm
 refine calls [I k_, I n] Try.func31 rfl (of_decide_eq_true (by kernel_rfl)) ?_
 refine W_seq <| W_q [] .a qe (by kernel_rfl) ?_
 refine At_go <| W_seq <| W_reg <| WLs 1 [] (.n 7 (I k_) .a) qe (by kernel_rfl) ?_
 refine WL_op ?_
 obtain ⟨r_, h_r_, hm⟩ := ob hm
 refine Op_call [] 8 _ mo_go41 (by kernel_rfl) (c_mac_most (F := N0) (O := N0) _ (Cx.refl _) _ h_r_) ?_
 rintro e_ w_ ⟨rfl, k_1⟩
 have k_2 := k.call k_1
 refine ⟨I r_, rfl, ?_⟩
 refine WLs 1 [] (.n 6 (I r_) (.ss .a)) qe (by kernel_rfl) ?_
 refine WL_nil <| At_go <| W_seq <| W_block <| W_seq <| W_q [] (.n 9 (.b (decide (r_ = 0))) .a) qe (by kernel_rfl) ?_
 refine At_go <| W_condp (r_ = 0) (by kernel_rfl) (fun hc => ?_) (fun hc => ?_)
 · rw [if_pos hc] at hm
   refine W_seq <| W_q [] (.n 4 (.v (.pointer none)) (.n 5 (I 1) .z)) qe (by kernel_rfl) ?_
   refine At_go <| W_ret (At_ir (At_tr ?_))
   obtain rfl := Option.some.inj hm
   refine At_rt [.v (.pointer none), I 1] qe (by kernel_rfl) ?_
   exact ⟨rfl, k_2⟩
 rw [if_neg hc] at hm
 refine W_seq <| W_q [] (.n 12 (.b ((decide (n < 1)) || (decide (r_ < n)))) (.ss .a)) qe (by kernel_rfl) ?_
 refine At_go <| W_cond ((decide (n < 1)) || (decide (r_ < n))) (by kernel_rfl) (fun hc1 => ?_) (fun hc1 => ?_)
 · rw [if_pos hc1] at hm
   refine W_seq <| W_q [] (.n 4 (.v (.pointer none)) (.n 5 (I 20) .z)) qe (by kernel_rfl) ?_
   refine At_go <| W_ret (At_ir (At_tr ?_))
   obtain rfl := Option.some.inj hm
   refine At_rt [.v (.pointer none), I 20] qe (by kernel_rfl) ?_
   exact ⟨rfl, k_2⟩
 rw [if_neg (by rw [hc1]; decide)] at hm
 refine W_skip <| At_in <| At_go <| W_seq <| W_reg <| WLs 2 [] (.n 20 (I k_) (.n 21 (I n) .z)) qe (by kernel_rfl) ?_
 refine WL_op <| Op_mkmap [] 22 (by kernel_rfl) k_2 ?_
 intro b0 w_1 k_3
 have k_4 := k_3.mr_new e8
 refine WLs 1 [] (.n 23 (.agg [I k_, I n, .v (.map (some b0))]) .z) qe (by kernel_rfl) ?_
 refine WL_op <| Op_box [] 24 (.agg [I k_, I n, .v (.map (some b0))]) [I k_, I n, .v (.map (some b0))] (by kernel_rfl) k_4 ?_
 intro g0 w_2 k_5
 refine WLs 2 [] (.n 4 (pt g0 0) (.n 5 (I 0) .z)) qe (by kernel_rfl) ?_
 refine WL_nil <| At_go <| W_ret ?_
 obtain rfl := Option.some.inj hm
 refine At_rt [pt g0 0, I 0] qe (by kernel_rfl) ?_
 have k_6 := (k_5.pk .h).pk (.t .h)
 exact ⟨g0, ([] : List Hd), b0, rfl, k_6⟩

-- (*quern/mac.Ring).none
theorem c_mac_Ring_none {F O : Nat → Prop} {w : World} (k : Cx F O w w []) (r : Unit) (hm : m_mac_Ring_none = some r) :
    Calls Try.prog 45 (vals [.v (.pointer none)]) w (fun e w' => e = .returned (SV.val (.b true)) ∧ Cx F O w w' []) := by
 unfold m_mac_Ring_none at hm
 refine calls [.v (.pointer none)] Try.func45 rfl (of_decide_eq_true (by kernel_rfl)) ?_
 refine W_seq <| W_q [] .a qe (by kernel_rfl) ?_
 refine At_go <| W_seq <| W_q [5] (.n 2 (.b true) .z) qe (by kernel_rfl) ?_
 refine At_go <| W_ret ?_
 obtain rfl := Option.some.inj hm
 refine At_rt [.b true] qe (by kernel_rfl) ?_
 exact ⟨rfl, k⟩

-- (*quern/mac.Ring).Add
theorem c_mac_Ring_Add {F O : Nat → Prop} {w : World} (name : List UInt8) (key : List UInt8) (A_key : Option Addr) (n_key : Nat) (c_key : Nat) (h_key : Ro F w A_key (e8.all key)) (hn_key : key.length = n_key) (hc_key : n_key ≤ c_key) (k : Cx F O w w []) (r : Unit) (hm : m_mac_Ring_Add name key = some r) :
    Calls Try.prog 28 (vals [.v (.pointer none), .s name, sl A_key n_key c_key]) w (fun e w' => e = .returned (SV.val (I 7)) ∧ Cx F O w w' []) := by
 unfold m_mac_Ring_Add at hm
 subst hn_key
 refine calls [.v (.pointer none), .s name, sl A_key key.length c_key] Try.func28 rfl (of_decide_eq_true (by kernel_rfl)) ?_
 refine W_seq <| W_q [] .a qe (by kernel_rfl) ?_
 refine At_go <| W_seq <| W_seq <| W_reg <| WLs 1 [] (.n 9 (.v (.pointer none)) .a) qe (by kernel_rfl) ?_
 refine WL_op ?_
 obtain ⟨r_, h_r_, hm⟩ := ob hm
 refine Op_call [] 10 _ mo_go45 (by kernel_rfl) (c_mac_Ring_none (F := N0) (O := N0)  (Cx.refl _) _ h_r_) ?_
 rintro e_ w_ ⟨rfl, k_⟩
 have k_1 := k.call k_
 refine ⟨.b true, rfl, ?_⟩
 refine WL_nil <| At_go <| W_cond true (by kernel_rfl) (fun _ => ?_) (fun h => by cases h)
 refine W_seq <| W_q [] (.n 6 (I 7) .z) qe (by kernel_rfl) ?_
 refine At_go <| W_ret (At_tr ?_)
 obtain rfl := Option.some.inj hm
 refine At_rt [I 7] qe (by kernel_rfl) ?_
 exact ⟨rfl, k_1⟩

-- (*quern/mac.Ring).Drop
theorem c_mac_Ring_Drop {F O : Nat → Prop} {w : World} (name : List UInt8) (k : Cx F O w w []) (r : Unit) (hm : m_mac_Ring_Drop name = some r) :
    Calls Try.prog 29 (vals [.v (.pointer none), .s name]) w (fun e w' => e = .returned (SV.val (I 7)) ∧ Cx F O w w' []) := by
 unfold m_mac_Ring_Drop at hm
 refine calls [.v (.pointer none), .s name] Try.func29 rfl (of_decide_eq_true (by kernel_rfl)) ?_
 refine W_seq <| W_q [] .a qe (by kernel_rfl) ?_
 refine At_go <| W_seq <| W_seq <| W_reg <| WLs 1 [] (.n 7 (.v (.pointer none)) .a) qe (by kernel_rfl) ?_
 refine WL_op ?_
 obtain ⟨r_, h_r_, hm⟩ := ob hm
 refine Op_call [] 8 _ mo_go45 (by kernel_rfl) (c_mac_Ring_none (F := N0) (O := N0)  (Cx.refl _) _ h_r_) ?_
 rintro e_ w_ ⟨rfl, k_⟩
 have k_1 := k.call k_
 refine ⟨.b true, rfl, ?_⟩
 refine WL_nil <| At_go <| W_cond true (by kernel_rfl) (fun _ => ?_) (fun h => by cases h)
 refine W_seq <| W_q [] (.n 4 (I 7) .z) qe (by kernel_rfl) ?_
 refine At_go <| W_ret (At_tr ?_)
 obtain rfl := Option.some.inj hm
 refine At_rt [I 7] qe (by kernel_rfl) ?_
 exact ⟨rfl, k_1⟩

-- (*quern/mac.Ring).Tag
theorem c_mac_Ring_Tag {F O : Nat → Prop} {w : World} (name : List UInt8) (data : List UInt8) (A_data : Option Addr) (n_data : Nat) (c_data : Nat) (h_data : Ro F w A_data (e8.all data)) (hn_data : data.length = n_data) (hc_data : n_data ≤ c_data) (k : Cx F O w w []) (r : (List UInt8)) (hm : m_mac_Ring_Tag name data = some r) :
    Calls Try.prog 26 (vals [.v (.pointer none), .s name, sl A_data n_data c_data]) w (fun e w' => ∃ A n c, r.length = n ∧ e = .returned (SV.val (.tup [sl A n c, I 7])) ∧ Cx F O w w' [Ow e8 A n c r]) := by
 unfold m_mac_Ring_Tag at hm
 subst hn_data
 refine calls [.v (.pointer none), .s name, sl A_data data.length c_data] Try.func26 rfl (of_decide_eq_true (by kernel_rfl)) ?_
 refine W_seq <| W_q [] .a qe (by kernel_rfl) ?_
 refine At_go <| W_seq <| W_seq <| W_reg <| WLs 1 [] (.n 10 (.v (.pointer none)) .a) qe (by kernel_rfl) ?_
 refine WL_op ?_
 obtain ⟨r_, h_r_, hm⟩ := ob hm
 refine Op_call [] 11 _ mo_go45 (by kernel_rfl) (c_mac_Ring_none (F := N0) (O := N0)  (Cx.refl _) _ h_r_) ?_
 rintro e_ w_ ⟨rfl, k_⟩
 have k_1 := k.call k_
 refine ⟨.b true, rfl, ?_⟩
 refine WL_nil <| At_go <| W_cond true (by kernel_rfl) (fun _ => ?_) (fun h => by cases h)
 refine W_seq <| W_q [] (.n 6 (sl none 0 0) (.n 7 (I 7) .z)) qe (by kernel_rfl) ?_
 refine At_go <| W_ret (At_tr ?_)
 have k_2 := k_1.nil e8
 obtain rfl := Option.some.inj hm
 refine At_rt [sl none 0 0, I 7] qe (by kernel_rfl) ?_
 exact ⟨none, 0, 0, k_2.len 0 rfl, rfl, k_2⟩

-- quern/mac.Make
theorem c_mac_Make {F O : Nat → Prop} {w : World} (k_ : Int) (n : Int) (key : List UInt8) (salt : List UInt8) (personal : List UInt8) (data : List UInt8) (A_key : Option Addr) (n_key : Nat) (c_key : Nat) (A_salt : Option Addr) (n_salt : Nat) (c_salt : Nat) (A_personal : Option Addr) (n_personal : Nat) (c_personal : Nat) (A_data : Option Addr) (n_data : Nat) (c_data : Nat) (h_key : Ro F w A_key (e8.all key)) (hn_key : key.length = n_key) (hc_key : n_key ≤ c_key) (h_salt : Ro F w A_salt (e8.all salt)) (hn_salt : salt.length = n_salt) (hc_salt : n_salt ≤ c_salt) (h_personal : Ro F w A_personal (e8.all personal)) (hn_personal : personal.length = n_personal) (hc_personal : n_personal ≤ c_personal) (h_data : Ro F w A_data (e8.all data)) (hn_data : data.length = n_data) (hc_data : n_data ≤ c_data) (k : Cx F O w w []) (r : (List UInt8 × Int)) (hm : m_mac_Make k_ n key salt personal data = some r) :
    Calls Try.prog 23 (vals [I k_, I n, sl A_key n_key c_key, sl A_salt n_salt c_salt, sl A_personal n_personal c_personal, sl A_data n_data c_data]) w (fun e w' => ∃ A n1 c, r.1.length = n1 ∧ e = .returned (SV.val (.tup [sl A n1 c, I r.2])) ∧ Cx F O w w' [Ow e8 A n1 c r.1]) := by
 unfold m_mac_Make at hm
 subst hn_key
 subst hn_salt
 subst hn_personal
 subst hn_data
 refine calls [I k_, I n, sl A_key key.length c_key, sl A_salt salt.length c_salt, sl A_personal personal.length c_personal, sl A_data data.length c_data] Try.func23 rfl (of_decide_eq_true (by kernel_rfl)) ?_
 refine W_seq <| W_q [] .a qe (by kernel_rfl) ?_
 refine At_go <| W_seq <| W_reg <| WLs 6 [] (.n 14 (I k_) (.n 15 (I n) (.n 16 (sl A_key key.length c_key) (.n 17 (sl A_salt salt.length c_salt) (.n 18 (sl A_personal personal.length c_personal) (.n 19 (sl A_data data.length c_data) .z)))))) qe (by kernel_rfl) ?_
 refine WL_op ?_
 obtain ⟨r_, h_r_, hm⟩ := ob hm
 refine Op_call [] 20 _ mo_go40 (by kernel_rfl) (c_mac_digest (F := N0) (O := N0) _ _ _ _ _ _ _ _ _ _ _ _ _ _ _ _ _ _ (Ro.n0 (h_key.cx k)) rfl hc_key (Ro.n0 (h_salt.cx k)) rfl hc_salt (Ro.n0 (h_personal.cx k)) rfl hc_personal (Ro.n0 (h_data.cx k)) rfl hc_data (Cx.refl _) _ h_r_) ?_
 rintro e_ w_ ⟨A0, _, c0, rfl, rfl, k_1⟩
 have k_2 := k.call k_1
 refine ⟨.tup [sl A0 r_.1.length c0, I r_.2], rfl, ?_⟩
 refine WLs 4 [] (.n 12 (sl A0 r_.1.length c0) (.n 13 (I r_.2) .z)) qe (by kernel_rfl) ?_
 refine WL_nil <| At_go <| W_ret ?_
 obtain rfl := Option.some.inj hm
 refine At_rt [sl A0 r_.1.length c0, I r_.2] qe (by kernel_rfl) ?_
 exact ⟨A0, r_.1.length, c0, k_2.len 0 rfl, rfl, k_2⟩

-- (*quern/mac.Ring).Who
theorem c_mac_Ring_Who {F O : Nat → Prop} {w : World} (tag : List UInt8) (data : List UInt8) (A_tag : Option Addr) (n_tag : Nat) (c_tag : Nat) (A_data : Option Addr) (n_data : Nat) (c_data : Nat) (h_tag : Ro F w A_tag (e8.all tag)) (hn_tag : tag.length = n_tag) (hc_tag : n_tag ≤ c_tag) (h_data : Ro F w A_data (e8.all data)) (hn_data : data.length = n_data) (hc_data : n_data ≤ c_data) (k : Cx F O w w []) (r : Unit) (hm : m_mac_Ring_Who tag data = some r) :
    Calls Try.prog 27 (vals [.v (.pointer none), sl A_tag n_tag c_tag, sl A_data n_data c_data]) w (fun e w' => e = .returned (SV.val (.tup [.s ([] : List UInt8), .b false, I 7])) ∧ Cx F O w w' []) := by
 unfold m_mac_Ring_Who at hm
 subst hn_tag
 subst hn_data
 refine calls [.v (.pointer none), sl A_tag tag.length c_tag, sl A_data data.length c_data] Try.func27 rfl (of_decide_eq_true (by kernel_rfl)) ?_
 refine W_seq <| W_q [] .a qe (by kernel_rfl) ?_
 refine At_go <| W_seq <| W_seq <| W_reg <| WLs 1 [] (.n 13 (.v (.pointer none)) .a) qe (by kernel_rfl) ?_
 refine WL_op ?_
 obtain ⟨r_, h_r_, hm⟩ := ob hm
 refine Op_call [] 14 _ mo_go45 (by kernel_rfl) (c_mac_Ring_none (F := N0) (O := N0)  (Cx.refl _) _ h_r_) ?_
 rintro e_ w_ ⟨rfl, k_⟩
 have k_1 := k.call k_
 refine ⟨.b true, rfl, ?_⟩
 refine WL_nil <| At_go <| W_cond true (by kernel_rfl) (fun _ => ?_) (fun h => by cases h)
 refine W_seq <| W_q [] (.n 6 (.s ([] : List UInt8)) (.n 7 (.b false) (.n 8 (I 7) .z))) qe (by kernel_rfl) ?_
 refine At_go <| W_ret (At_tr ?_)
 obtain rfl := Option.some.inj hm
 refine At_rt [.s ([] : List UInt8), .b false, I 7] qe (by kernel_rfl) ?_
 exact ⟨rfl, k_1⟩

-- quern/quernlaw06.same
theorem c_l06_same {F O : Nat → Prop} {w : World} (a_ : List UInt8) (b : List UInt8) (A_a_ : Option Addr) (n_a_ : Nat) (c_a_ : Nat) (A_b : Option Addr) (n_b : Nat) (c_b : Nat) (h_a_ : Ro F w A_a_ (e8.all a_)) (hn_a_ : a_.length = n_a_) (hc_a_ : n_a_ ≤ c_a_) (h_b : Ro F w A_b (e8.all b)) (hn_b : b.length = n_b) (hc_b : n_b ≤ c_b) (k : Cx F O w w []) (r : Bool) (hm : m_l06_same a_ b = some r) :
    Calls Try.prog 13 (vals [sl A_a_ n_a_ c_a_, sl A_b n_b c_b]) w (fun e w' => e = .returned (SV.val (.b r)) ∧ Cx F O w w' []) := by
 unfold m_l06_same at hm
 subst hn_a_
 subst hn_b
 refine calls [sl A_a_ a_.length c_a_, sl A_b b.length c_b] Try.func13 rfl (of_decide_eq_true (by kernel_rfl)) ?_
 refine W_seq <| W_q [] .a qe (by kernel_rfl) ?_
 refine At_go <| W_seq <| W_seq <| W_q [] (.n 10 (.b (decide (((a_.length : Nat) : Int) ≠ ((b.length : Nat) : Int)))) .a) qe (by kernel_rfl) ?_
 refine At_go <| W_condp (((a_.length : Nat) : Int) ≠ ((b.length : Nat) : Int)) (by kernel_rfl) (fun hc => ?_) (fun hc => ?_)
 · rw [if_pos hc] at hm
   refine W_seq <| W_q [] (.n 4 (.b false) .z) qe (by kernel_rfl) ?_
   refine At_go <| W_ret (At_tr ?_)
   obtain rfl := Option.some.inj hm
   refine At_rt [.b false] qe (by kernel_rfl) ?_
   exact ⟨rfl, k⟩
 rw [if_neg hc] at hm
 refine W_skip <| At_go <| W_seq <| W_seq <| W_q [] (.n 5 (I 0) (.s .a)) qe (by kernel_rfl) ?_
 refine At_go <| W_block <| W_lp (m_l06_same_l0 a_ b) (fun s L wr => ∃ (i : Int), i = s ∧ L = [(0, sl A_a_ a_.length c_a_), (1, sl A_b b.length c_b), (5, I i)] ∧ Cx F O w wr []) (0 : Int) r hm ⟨(0 : Int), rfl, rfl, k⟩ (by kernel_rfl) ?_
 intro s0_ L_ w_ y0 hrel hstep hr0
 obtain ⟨i, rfl, rfl, k_⟩ := hrel
 have hm := hstep; simp only [m_l06_same_l0] at hm
 clear hstep
 refine W_seq <| W_seq <| W_q [] (.n 14 (.b (decide (i < ((a_.length : Nat) : Int)))) .a) qe (by kernel_rfl) ?_
 refine At_go <| W_condp (i < ((a_.length : Nat) : Int)) (by kernel_rfl) (fun hc1 => ?_) (fun hc1 => ?_)
 · rw [if_pos hc1] at hm
   refine W_skip <| At_go <| W_seq <| W_block <| W_seq ?_
   obtain ⟨x_0, h_x_0, hm⟩ := ob hm
   obtain ⟨x_1, h_x_1, hm⟩ := ob hm
   refine W_d mo_mixed (by kernel_rfl) (.n 25 (.b (decide (x_0 ≠ x_1))) (.s .a)) (fun m => qW (h_a_.cx (k_.drew m)) h_x_0 rfl (.u8 x_0) rfl <| qW (h_b.cx (k_.drew m)) h_x_1 rfl (.u8 x_1) rfl <| qe) (by kernel_rfl) (fun m_ => ?_)
   have k_1 := k_.drew m_
   refine At_go <| W_condp (x_0 ≠ x_1) (by kernel_rfl) (fun hc2 => ?_) (fun hc2 => ?_)
   · rw [if_pos hc2] at hm
     refine W_seq <| W_q [] (.n 4 (.b false) .z) qe (by kernel_rfl) ?_
     refine At_go <| W_ret (At_ir (At_tr (At_tr (At_ir (At_tr ?_)))))
     have hm := exit_of hm hr0
     obtain rfl := Option.some.inj hm
     refine At_rt [.b false] qe (by kernel_rfl) ?_
     exact ⟨rfl, k_1⟩
   rw [if_neg hc2] at hm
   refine W_skip <| At_in <| At_go <| W_q [] (.n 5 (I (w64 (i + 1))) (.s (.kk .z))) qe (by kernel_rfl) ?_
   exact At_rd (w64 (i + 1)) (Option.some.inj hm).symm ⟨w64 (i + 1), rfl, rfl, k_1⟩ (by kernel_rfl)
 rw [if_neg hc1] at hm
 refine W_exit (At_te (At_te (At_ie ?_)))
 have hm := exit_of hm hr0
 refine At_go <| W_seq <| W_q [] (.n 4 (.b true) .z) qe (by kernel_rfl) ?_
 refine At_go <| W_ret ?_
 obtain rfl := Option.some.inj hm
 refine At_rt [.b true] qe (by kernel_rfl) ?_
 exact ⟨rfl, k_⟩

-- (*quern/mac.Ring).none
theorem c_mac_Ring_none_m {F O : Nat → Prop} {w : World} (r_k : Int) (r_n : Int) (ks_r_keys : List (List UInt8)) (xs_r_keys : List (List UInt8)) (g_r : Nat) (b_r_keys : Nat) (hd_r_keys : List Hd) (k : Cx F O w w [Bx 60 g_r [I r_k, I r_n, .v (.map (some b_r_keys))], MR e8 b_r_keys ks_r_keys hd_r_keys xs_r_keys]) (r : (Int × Int × List (List UInt8) × List (List UInt8))) (hm : m_mac_Ring_none_m r_k r_n ks_r_keys xs_r_keys = some r) :
    Calls Try.prog 45 (vals [pt g_r 0]) w (fun e w' => ∃ hd, e = .returned (SV.val (.b false)) ∧ Cx F O w w' [Bx 60 g_r [I r.1, I r.2.1, .v (.map (some b_r_keys))], MR e8 b_r_keys r.2.2.1 hd r.2.2.2]) := by
 unfold m_mac_Ring_none_m at hm
 refine calls [pt g_r 0] Try.func45 rfl (of_decide_eq_true (by kernel_rfl)) ?_
 refine W_seq <| W_q [] .a qe (by kernel_rfl) ?_
 refine At_go <| W_seq <| W_q [5] (.n 2 (.b false) .z) (qs g_r 0 <| qs g_r 0 <| qB k 0 rfl 2 (.v (.map (some b_r_keys))) (by kernel_rfl) <| qe) (by kernel_rfl) ?_
 refine At_go <| W_ret ?_
 obtain rfl := Option.some.inj hm
 refine At_rt [.b false] qe (by kernel_rfl) ?_
 exact ⟨hd_r_keys, rfl, k⟩

-- quern/mac.label
theorem c_mac_label {F O : Nat → Prop} {w : World} (s_ : List UInt8) (k : Cx F O w w []) (r : Bool) (hm : m_mac_label s_ = some r) :
    Calls Try.prog 46 (vals [.s s_]) w (fun e w' => e = .returned (SV.val (.b r)) ∧ Cx F O w w' []) := by
 unfold m_mac_label at hm
 refine calls [.s s_] Try.func46 rfl (of_decide_eq_true (by kernel_rfl)) ?_
 refine W_seq <| W_q [] .a qe (by kernel_rfl) ?_
 refine At_go <| W_seq <| W_seq <| W_q [] (.n 5 (I (s_.length : Int)) (.n 6 (I 0) .a)) qe (by kernel_rfl) ?_
 refine At_go <| W_block <| W_lp (m_mac_label_l0 s_) (fun s L wr => ∃ (x_0 : Int), x_0 = s ∧ L = [(0, .s s_), (5, I (s_.length : Int)), (6, I x_0)] ∧ Cx F O w wr []) (0 : Int) r hm ⟨(0 : Int), rfl, rfl, k⟩ (by kernel_rfl) ?_
 intro s0_ L_ w_ y0 hrel hstep hr0
 obtain ⟨x_0, rfl, rfl, k_⟩ := hrel
 have hm := hstep; simp only [m_mac_label_l0] at hm
 clear hstep
 refine W_seq <| W_q [] (.n 7 (.b (decide (x_0 < (s_.length : Int)))) .a) qe (by kernel_rfl) ?_
 refine At_go <| W_seq <| W_condp (x_0 < (s_.length : Int)) (by kernel_rfl) (fun hc => ?_) (fun hc => ?_)
 · rw [if_pos hc] at hm
   refine W_skip <| At_go <| W_seq <| W_block <| W_seq <| W_q [] (.n 3 (I x_0) (.s .a)) qe (by kernel_rfl) ?_
   refine At_go <| W_seq ?_
   obtain ⟨c, h_c, hm⟩ := ob hm
   obtain ⟨c1, h_c1, hm⟩ := ob hm
   refine W_q [] (.n 18 (.b ((decide (c < 33)) || (decide ((126 : UInt8) < c1)))) (.s .a)) (qX h_c <| qo (.u8 c1) <| qp ((decide (c < 33)) = false → 0 ≤ x_0 ∧ s_[Int.toNat x_0]? = some c1) (fun hg0 => geti_some (gif_not h_c1 hg0)) <| qe) (by kernel_rfl) ?_
   refine At_go <| W_cond ((decide (c < 33)) || (decide ((126 : UInt8) < c1))) (by kernel_rfl) (fun hc1 => ?_) (fun hc1 => ?_)
   · rw [if_pos hc1] at hm
     refine W_seq <| W_q [] (.n 2 (.b false) .z) qe (by kernel_rfl) ?_
     refine At_go <| W_ret (At_ir (At_tr (At_tr (At_ir (At_tr ?_)))))
     have hm := exit_of hm hr0
     obtain rfl := Option.some.inj hm
     refine At_rt [.b false] qe (by kernel_rfl) ?_
     exact ⟨rfl, k_⟩
   rw [if_neg (by rw [hc1]; decide)] at hm
   refine W_skip <| At_in <| At_go <| W_q [] (.n 6 (I (w64 (x_0 + 1))) (.s (.kk .z))) qe (by kernel_rfl) ?_
   exact At_rd (w64 (x_0 + 1)) (Option.some.inj hm).symm ⟨w64 (x_0 + 1), rfl, rfl, k_⟩ (by kernel_rfl)
 rw [if_neg hc] at hm
 refine W_exit (At_te (At_te (At_ie ?_)))
 have hm := exit_of hm hr0
 refine At_go <| W_seq <| W_q [] (.n 2 (.b ((decide (1 ≤ (s_.length : Int))) && (decide ((s_.length : Int) ≤ 64)))) .z) qe (by kernel_rfl) ?_
 refine At_go <| W_ret ?_
 obtain rfl := Option.some.inj hm
 refine At_rt [.b ((decide (1 ≤ (s_.length : Int))) && (decide ((s_.length : Int) ≤ 64)))] qe (by kernel_rfl) ?_
 exact ⟨rfl, k_⟩

-- slices.Clone[[]byte,byte]
theorem c_slices_Clone_byte_byte {F O : Nat → Prop} {w : World} (s_ : List UInt8) (A_s_ : Option Addr) (n_s_ : Nat) (c_s_ : Nat) (h_s_ : Ro F w A_s_ (e8.all s_)) (hn_s_ : s_.length = n_s_) (hc_s_ : n_s_ ≤ c_s_) (k : Cx F O w w []) (r : (List UInt8)) (hm : m_slices_Clone_byte_byte s_ = some r) :
    Calls Try.prog 44 (vals [sl A_s_ n_s_ c_s_]) w (fun e w' => ∃ A n c, r.length = n ∧ e = .returned (SV.val (sl A n c)) ∧ Cx F O w w' [Ow e8 A n c r]) := by
 unfold m_slices_Clone_byte_byte at hm
 subst hn_s_
 refine calls [sl A_s_ s_.length c_s_] Try.func44 rfl (of_decide_eq_true (by kernel_rfl)) ?_
 refine W_seq <| W_q [] .a qe (by kernel_rfl) ?_
 refine At_go <| W_seq <| W_seq <| W_q [] (.n 4 (.b A_s_.isNone) .a) qe (by kernel_rfl) ?_
 refine At_go <| W_cond A_s_.isNone (by kernel_rfl) (fun hc => ?_) (fun hc => ?_)
 ·
   have en : s_ = [] := all_nil (E := e8) (Rd.nilA (h_s_.cx k) hc)
   have hm := Eq.trans (show (some ([] : List UInt8)) = ((app ([] : List UInt8) s_ 1).bind fun b => some b) from by rw [en] <;> rfl) hm
   refine W_seq <| W_q [] (.n 2 (sl none 0 0) .z) qe (by kernel_rfl) ?_
   refine At_go <| W_ret (At_tr ?_)
   have k_ := k.nil e8
   obtain rfl := Option.some.inj hm
   refine At_rt [sl none 0 0] qe (by kernel_rfl) ?_
   exact ⟨none, 0, 0, k_.len 0 rfl, rfl, k_⟩
 refine W_skip <| At_go <| W_seq <| W_reg <| WL_op <| Op_mk mo_tf22 e8 [] 5 ([] : List UInt8) [] [] (by kernel_rfl) (by kernel_rfl) (by kernel_rfl) k ?_
 intro A0 w_ k_1
 refine WLs 1 [] (.n 6 (sl A_s_ s_.length c_s_) (.k .z)) qe (by kernel_rfl) ?_
 refine WL_op ?_
 obtain ⟨b, h_b, hm⟩ := ob hm
 obtain ⟨hz, hl⟩ := app_some h_b
 refine Op_append (E := e8) (v := sl A_s_ s_.length c_s_) (ys := s_) mo_tf22 [] 7 0 (by kernel_rfl) k_1 rfl (Src.sl (h_s_.cx k_1) rfl (by rfl)) rfl (by have := k_1.len 0 rfl; have := hm; omega) ?_
 intro A1 c0 w_1 k_2
 rw [← hl] at k_2
 refine WLs 1 [] (.n 2 (sl A1 (0 + s_.length) c0) .z) qe (by kernel_rfl) ?_
 refine WL_nil <| At_go <| W_ret ?_
 obtain rfl := Option.some.inj hm
 refine At_rt [sl A1 (0 + s_.length) c0] qe (by kernel_rfl) ?_
 exact ⟨A1, 0 + s_.length, c0, k_2.len 0 rfl, rfl, k_2⟩

-- (*quern/mac.Ring).Add
theorem c_mac_Ring_Add_m {F O : Nat → Prop} {w : World} (r_k : Int) (r_n : Int) (ks_r_keys : List (List UInt8)) (xs_r_keys : List (List UInt8)) (name : List UInt8) (key : List UInt8) (g_r : Nat) (b_r_keys : Nat) (hd_r_keys : List Hd) (A_key : Option Addr) (n_key : Nat) (c_key : Nat) (h_key : Ro F w A_key (e8.all key)) (hn_key : key.length = n_key) (hc_key : n_key ≤ c_key) (k : Cx F O w w [Bx 60 g_r [I r_k, I r_n, .v (.map (some b_r_keys))], MR e8 b_r_keys ks_r_keys hd_r_keys xs_r_keys]) (r : (Int × Int × Int × List (List UInt8) × List (List UInt8))) (hm : m_mac_Ring_Add_m r_k r_n ks_r_keys xs_r_keys name key = some r) :
    Calls Try.prog 28 (vals [pt g_r 0, .s name, sl A_key n_key c_key]) w (fun e w' => ∃ hd, e = .returned (SV.val (I r.1)) ∧ Cx F O w w' [Bx 60 g_r [I r.2.1, I r.2.2.1, .v (.map (some b_r_keys))], MR e8 b_r_keys r.2.2.2.1 hd r.2.2.2.2]) := by
 unfold m_mac_Ring_Add_m at hm
 subst hn_key
 refine calls [pt g_r 0, .s name, sl A_key key.length c_key] Try.func28 rfl (of_decide_eq_true (by kernel_rfl)) ?_
 refine W_seq <| W_q [] .a qe (by kernel_rfl) ?_
 refine At_go <| W_seq <| W_seq <| W_reg <| WLs 1 [] (.n 9 (pt g_r 0) .a) qe (by kernel_rfl) ?_
 refine WL_op ?_
 obtain ⟨r_, h_r_, hm⟩ := ob hm
 obtain ⟨F1, O1, kin, hO, hre, hF, hb⟩ := k.go (.i (.i .e))
 refine Op_call [] 10 _ mo_go45 (by kernel_rfl) (c_mac_Ring_none_m (F := F1) (O := O1) _ _ _ _ _ _ _ kin _ h_r_) ?_
 rintro e_ w_ ⟨hd0, rfl, k_⟩
 have k_1 := hb w_ _ _ k_ (.c (.c .n))
 refine ⟨.b false, rfl, ?_⟩
 refine WL_nil <| At_go <| W_cond false (by kernel_rfl) (fun h => by cases h) (fun _ => ?_)
 refine W_skip <| At_go <| W_seq <| W_reg <| WLs 5 [] (.n 15 (.v (.map (some b_r_keys))) (.n 16 (.s name) (.ss .a))) (qs g_r 0 <| qs g_r 0 <| qB k_1 0 rfl 2 (.v (.map (some b_r_keys))) (by kernel_rfl) <| qe) (by kernel_rfl) ?_
 refine WL_op ?_
 have k_2 := (k_1.pk .h).pk (.t .h)
 refine Op_lookR (kt := 9) (e := 22) (key := name) [] 17 (by kernel_rfl) (by kernel_rfl) k_2 (fun hf => ?_) (fun j key1 B c hf1 hx_ hh hle => ?_)
 · simp only [mget_none hf, Option.elim_none] at hm
   refine WLs 5 [] (.n 8 (.b false) (.sss .a)) qe (by kernel_rfl) ?_
   refine WL_nil <| At_go <| W_seq <| W_block <| W_seq <| W_reg <| WLs 1 [] (.n 21 (.s name) .a) qe (by kernel_rfl) ?_
   refine WL_op ?_
   obtain ⟨r_1, h_r_1, hm⟩ := ob hm
   refine Op_call [] 22 _ mo_go46 (by kernel_rfl) (c_mac_label (F := N0) (O := N0) _ (Cx.refl _) _ h_r_1) ?_
   rintro e_ w_1 ⟨rfl, k_3⟩
   have k_4 := k_2.call k_3
   refine ⟨.b r_1, rfl, ?_⟩
   refine WLs 2 [] (.n 20 (.b (!r_1)) (.ss .a)) qe (by kernel_rfl) ?_
   refine WL_nil <| At_go <| W_cond (!r_1) (by kernel_rfl) (fun hc => ?_) (fun hc => ?_)
   · rw [if_pos hc] at hm
     refine W_seq <| W_q [] (.n 6 (I 62) .z) qe (by kernel_rfl) ?_
     refine At_go <| W_ret (At_ir (At_tr ?_))
     obtain rfl := Option.some.inj hm
     refine At_rt [I 62] qe (by kernel_rfl) ?_
     have k_5 := (k_4.pk .h).pk (.t .h)
     exact ⟨hd0, rfl, k_5⟩
   rw [if_neg (by rw [hc]; decide)] at hm
   refine W_seq <| W_reg <| WLs 4 [] (.n 28 (.b (decide (((key.length : Nat) : Int) = 0))) (.s .a)) qe (by kernel_rfl) ?_
   refine WL_sp 28 (decide (((key.length : Nat) : Int) = 0)) (.s .a) (by kernel_rfl) (fun hg => ?_) (fun hg => ?_)
   · rw [if_pos (of_decide_eq_true hg)] at hm
     refine WLs 10 [28] (.n 24 (.b true) (.s .a)) qe (by kernel_rfl) ?_
     refine WL_nil <| At_go <| W_cond true (by kernel_rfl) (fun _ => ?_) (fun h => by cases h)
     refine W_seq <| W_q [] (.n 6 (I 8) .z) qe (by kernel_rfl) ?_
     refine At_go <| W_ret (At_ir (At_tr ?_))
     obtain rfl := Option.some.inj hm
     refine At_rt [I 8] qe (by kernel_rfl) ?_
     have k_6 := (k_4.pk .h).pk (.t .h)
     exact ⟨hd0, rfl, k_6⟩
   · rw [if_neg (of_decide_eq_false hg)] at hm
     refine WLs 6 [28] (.n 30 (I ((key.length : Nat) : Int)) (.n 34 (I r_.1) .a)) (qs g_r 0 <| qs g_r 0 <| qB k_4 1 rfl 0 (I r_.1) (by kernel_rfl) <| qe) (by kernel_rfl) ?_
     refine WL_op ?_
     obtain ⟨r_2, h_r_2, hm⟩ := ob hm
     refine Op_call [28] 35 _ mo_go41 (by kernel_rfl) (c_mac_most (F := N0) (O := N0) _ (Cx.refl _) _ h_r_2) ?_
     rintro e_ w_2 ⟨rfl, k_7⟩
     have k_8 := k_4.call k_7
     refine ⟨I r_2, rfl, ?_⟩
     refine WLs 3 [28] (.n 24 (.b (decide (r_2 < ((key.length : Nat) : Int)))) (.ssss .a)) qe (by kernel_rfl) ?_
     refine WL_nil <| At_go <| W_condp (r_2 < ((key.length : Nat) : Int)) (by kernel_rfl) (fun hc1 => ?_) (fun hc1 => ?_)
     · rw [if_pos hc1] at hm
       refine W_seq <| W_q [] (.n 6 (I 8) .z) qe (by kernel_rfl) ?_
       refine At_go <| W_ret (At_ir (At_tr ?_))
       obtain rfl := Option.some.inj hm
       refine At_rt [I 8] qe (by kernel_rfl) ?_
       have k_9 := (k_8.pk .h).pk (.t .h)
       exact ⟨hd0, rfl, k_9⟩
     rw [if_neg hc1] at hm
     refine W_seq <| W_q [] (.n 38 (.b false) (.ss .a)) qe (by kernel_rfl) ?_
     refine At_go <| W_cond false (by kernel_rfl) (fun h => by cases h) (fun _ => ?_)
     refine W_seq <| W_reg <| WLs 4 [] (.n 44 (.v (.map (some b_r_keys))) (.s .a)) (qs g_r 0 <| qs g_r 0 <| qB k_8 1 rfl 2 (.v (.map (some b_r_keys))) (by kernel_rfl) <| qe) (by kernel_rfl) ?_
     refine WL_op ?_
     have k_10 := k_8.sel (.kk .e)
     refine Op_mlen (kt := 9) (e := 22) [] 45 0 (by kernel_rfl) k_10.unpk.2 rfl ?_
     refine WLs 2 [] (.n 40 (.b (decide (256 ≤ ((r_.2.2.1.length : Nat) : Int)))) (.ss .a)) qe (by kernel_rfl) ?_
     refine WL_nil <| At_go <| W_condp (256 ≤ ((r_.2.2.1.length : Nat) : Int)) (by kernel_rfl) (fun hc2 => ?_) (fun hc2 => ?_)
     · rw [if_pos hc2] at hm
       refine W_seq <| W_q [] (.n 6 (I 2) .z) qe (by kernel_rfl) ?_
       refine At_go <| W_ret (At_ir (At_tr ?_))
       obtain rfl := Option.some.inj hm
       refine At_rt [I 2] qe (by kernel_rfl) ?_
       have k_11 := (k_10.pk .h).pk (.t .h)
       exact ⟨hd0, rfl, k_11⟩
     rw [if_neg hc2] at hm
     refine W_skip <| At_in <| At_go <| W_seq ?_
     have k_12 := k_10.drew 1
     refine W_m mo_mixed (.q 5 0 (.q 0 1 (.q 1 1 (.q 2 1 (.q 3 1 (.q 4 1 (.op 6 (.op 7 .nil)))))))) [6, 7] k_12 (.c (.kk .e) (.c (.z) .l)) (by kernel_rfl) (fun _ => ?_)
     refine MXq 1 0 [] (.n 52 (sl A_key key.length c_key) (.s (.kk .z))) (fun x hx => qe) (by kernel_rfl) (fun _ => ?_)
     refine MXq 5 1 [] (.n 50 (.v (.map (some b_r_keys))) (.n 51 (.s name) (.k .z))) (fun x hx => qs g_r 0 <| qs g_r 0 <| qB hx 1 rfl 2 (.v (.map (some b_r_keys))) (by kernel_rfl) <| qe) (by kernel_rfl) (fun _ => ?_)
     refine MX_op (by kernel_rfl) rfl ?_
     obtain ⟨r_3, h_r_3, hm⟩ := ob hm
     refine Op_call [] 53 _ mo_go44 (by kernel_rfl) (c_slices_Clone_byte_byte (F := N0) (O := N0) _ _ _ _ (Ro.n0 (h_key.cx k_12)) rfl hc_key (Cx.refl _) _ h_r_3) ?_
     rintro e_ w_3 ⟨A, _, c1, rfl, rfl, k_13⟩
     have k_14 := k_12.call k_13
     refine ⟨sl A r_3.length c1, rfl, ?_⟩
     refine ⟨(k_14.sel (.kk .z)), fun _ => ?_⟩
     refine MX_op (by kernel_rfl) rfl ?_
     have k_15 := ((k_14.pk (.t .h)).pk (.t (.t .h))).pk (.t (.t .h))
     refine Op_updR (kt := 9) (e := 22) (key := name) [] (by kernel_rfl) k_15 ?_
     intro w_4 k_16
     refine ⟨(k_16.sel .z), fun _ => ?_⟩
     refine MX_nil <| At_go <| W_seq <| W_q [] (.n 6 (I 0) .z) qe (by kernel_rfl) ?_
     refine At_go <| W_ret ?_
     obtain rfl := Option.some.inj hm
     refine At_rt [I 0] qe (by kernel_rfl) ?_
     have k_17 := (k_16.pk .h).pk (.t .h)
     exact ⟨mputV r_.2.2.1 hd0 name (A, r_3.length, c1), rfl, k_17⟩
 · simp only [mget_some hf1 hx_, Option.elim_some] at hm
   refine WLs 5 [] (.n 8 (.b true) (.sss .a)) qe (by kernel_rfl) ?_
   refine WL_nil <| At_go <| W_seq <| W_block <| W_seq <| W_reg <| WLs 1 [] (.n 21 (.s name) .a) qe (by kernel_rfl) ?_
   refine WL_op ?_
   obtain ⟨r_4, h_r_4, hm⟩ := ob hm
   refine Op_call [] 22 _ mo_go46 (by kernel_rfl) (c_mac_label (F := N0) (O := N0) _ (Cx.refl _) _ h_r_4) ?_
   rintro e_ w_5 ⟨rfl, k_18⟩
   have k_19 := k_2.call k_18
   refine ⟨.b r_4, rfl, ?_⟩
   refine WLs 2 [] (.n 20 (.b (!r_4)) (.ss .a)) qe (by kernel_rfl) ?_
   refine WL_nil <| At_go <| W_cond (!r_4) (by kernel_rfl) (fun hc0 => ?_) (fun hc0 => ?_)
   · rw [if_pos hc0] at hm
     refine W_seq <| W_q [] (.n 6 (I 62) .z) qe (by kernel_rfl) ?_
     refine At_go <| W_ret (At_ir (At_tr ?_))
     obtain rfl := Option.some.inj hm
     refine At_rt [I 62] qe (by kernel_rfl) ?_
     have k_20 := (k_19.pk .h).pk (.t .h)
     exact ⟨hd0, rfl, k_20⟩
   rw [if_neg (by rw [hc0]; decide)] at hm
   refine W_seq <| W_reg <| WLs 4 [] (.n 28 (.b (decide (((key.length : Nat) : Int) = 0))) (.s .a)) qe (by kernel_rfl) ?_
   refine WL_sp 28 (decide (((key.length : Nat) : Int) = 0)) (.s .a) (by kernel_rfl) (fun hg0 => ?_) (fun hg0 => ?_)
   · rw [if_pos (of_decide_eq_true hg0)] at hm
     refine WLs 10 [28] (.n 24 (.b true) (.s .a)) qe (by kernel_rfl) ?_
     refine WL_nil <| At_go <| W_cond true (by kernel_rfl) (fun _ => ?_) (fun h => by cases h)
     refine W_seq <| W_q [] (.n 6 (I 8) .z) qe (by kernel_rfl) ?_
     refine At_go <| W_ret (At_ir (At_tr ?_))
     obtain rfl := Option.some.inj hm
     refine At_rt [I 8] qe (by kernel_rfl) ?_
     have k_21 := (k_19.pk .h).pk (.t .h)
     exact ⟨hd0, rfl, k_21⟩
   · rw [if_neg (of_decide_eq_false hg0)] at hm
     refine WLs 6 [28] (.n 30 (I ((key.length : Nat) : Int)) (.n 34 (I r_.1) .a)) (qs g_r 0 <| qs g_r 0 <| qB k_19 1 rfl 0 (I r_.1) (by kernel_rfl) <| qe) (by kernel_rfl) ?_
     refine WL_op ?_
     obtain ⟨r_5, h_r_5, hm⟩ := ob hm
     refine Op_call [28] 35 _ mo_go41 (by kernel_rfl) (c_mac_most (F := N0) (O := N0) _ (Cx.refl _) _ h_r_5) ?_
     rintro e_ w_6 ⟨rfl, k_22⟩
     have k_23 := k_19.call k_22
     refine ⟨I r_5, rfl, ?_⟩
     refine WLs 3 [28] (.n 24 (.b (decide (r_5 < ((key.length : Nat) : Int)))) (.ssss .a)) qe (by kernel_rfl) ?_
     refine WL_nil <| At_go <| W_condp (r_5 < ((key.length : Nat) : Int)) (by kernel_rfl) (fun hc3 => ?_) (fun hc3 => ?_)
     · rw [if_pos hc3] at hm
       refine W_seq <| W_q [] (.n 6 (I 8) .z) qe (by kernel_rfl) ?_
       refine At_go <| W_ret (At_ir (At_tr ?_))
       obtain rfl := Option.some.inj hm
       refine At_rt [I 8] qe (by kernel_rfl) ?_
       have k_24 := (k_23.pk .h).pk (.t .h)
       exact ⟨hd0, rfl, k_24⟩
     rw [if_neg hc3] at hm
     refine W_seq <| W_q [] (.n 38 (.b true) (.ss .a)) qe (by kernel_rfl) ?_
     refine At_go <| W_cond true (by kernel_rfl) (fun _ => ?_) (fun h => by cases h)
     refine W_seq <| W_q [] (.n 6 (I 63) .z) qe (by kernel_rfl) ?_
     refine At_go <| W_ret (At_ir (At_tr ?_))
     obtain rfl := Option.some.inj hm
     refine At_rt [I 63] qe (by kernel_rfl) ?_
     have k_25 := (k_23.pk .h).pk (.t .h)
     exact ⟨hd0, rfl, k_25⟩

-- (*quern/mac.Ring).Drop
theorem c_mac_Ring_Drop_m {F O : Nat → Prop} {w : World} (r_k : Int) (r_n : Int) (ks_r_keys : List (List UInt8)) (xs_r_keys : List (List UInt8)) (name : List UInt8) (g_r : Nat) (b_r_keys : Nat) (hd_r_keys : List Hd) (k : Cx F O w w [Bx 60 g_r [I r_k, I r_n, .v (.map (some b_r_keys))], MR e8 b_r_keys ks_r_keys hd_r_keys xs_r_keys]) (r : (Int × Int × Int × List (List UInt8) × List (List UInt8))) (hm : m_mac_Ring_Drop_m r_k r_n ks_r_keys xs_r_keys name = some r) :
    Calls Try.prog 29 (vals [pt g_r 0, .s name]) w (fun e w' => ∃ hd, e = .returned (SV.val (I r.1)) ∧ Cx F O w w' [Bx 60 g_r [I r.2.1, I r.2.2.1, .v (.map (some b_r_keys))], MR e8 b_r_keys r.2.2.2.1 hd r.2.2.2.2]) := by
 unfold m_mac_Ring_Drop_m at hm
 refine calls [pt g_r 0, .s name] Try.func29 rfl (of_decide_eq_true (by kernel_rfl)) ?_
 refine W_seq <| W_q [] .a qe (by kernel_rfl) ?_
 refine At_go <| W_seq <| W_seq <| W_reg <| WLs 1 [] (.n 7 (pt g_r 0) .a) qe (by kernel_rfl) ?_
 refine WL_op ?_
 obtain ⟨r_, h_r_, hm⟩ := ob hm
 obtain ⟨F1, O1, kin, hO, hre, hF, hb⟩ := k.go (.i (.i .e))
 refine Op_call [] 8 _ mo_go45 (by kernel_rfl) (c_mac_Ring_none_m (F := F1) (O := O1) _ _ _ _ _ _ _ kin _ h_r_) ?_
 rintro e_ w_ ⟨hd0, rfl, k_⟩
 have k_1 := hb w_ _ _ k_ (.c (.c .n))
 refine ⟨.b false, rfl, ?_⟩
 refine WL_nil <| At_go <| W_cond false (by kernel_rfl) (fun h => by cases h) (fun _ => ?_)
 refine W_skip <| At_go <| W_seq <| W_seq <| W_reg <| WLs 5 [] (.n 13 (.v (.map (some b_r_keys))) (.n 14 (.s name) (.ss .a))) (qs g_r 0 <| qs g_r 0 <| qB k_1 0 rfl 2 (.v (.map (some b_r_keys))) (by kernel_rfl) <| qe) (by kernel_rfl) ?_
 refine WL_op ?_
 have k_2 := (k_1.pk .h).pk (.t .h)
 refine Op_lookR (kt := 9) (e := 22) (key := name) [] 15 (by kernel_rfl) (by kernel_rfl) k_2 (fun hf => ?_) (fun j key B c hf1 hx_ hh hle => ?_)
 · simp only [mget_none hf, Option.elim_none] at hm
   refine WLs 5 [] (.n 6 (.b false) (.sss .a)) qe (by kernel_rfl) ?_
   refine WL_nil <| At_go <| W_seq <| W_q [] (.n 19 (.b true) (.s .a)) qe (by kernel_rfl) ?_
   refine At_go <| W_cond true (by kernel_rfl) (fun _ => ?_) (fun h => by cases h)
   refine W_seq <| W_q [] (.n 4 (I 6) .z) qe (by kernel_rfl) ?_
   refine At_go <| W_ret (At_tr ?_)
   obtain rfl := Option.some.inj hm
   refine At_rt [I 6] qe (by kernel_rfl) ?_
   have k_3 := (k_2.pk .h).pk (.t .h)
   exact ⟨hd0, rfl, k_3⟩
 · simp only [mget_some hf1 hx_, Option.elim_some] at hm
   refine WLs 5 [] (.n 6 (.b true) (.sss .a)) qe (by kernel_rfl) ?_
   refine WL_nil <| At_go <| W_seq <| W_q [] (.n 19 (.b false) (.s .a)) qe (by kernel_rfl) ?_
   refine At_go <| W_cond false (by kernel_rfl) (fun h => by cases h) (fun _ => ?_)
   refine W_skip <| At_go <| W_seq <| W_reg <| WLs 5 [] (.n 23 (.v (.map (some b_r_keys))) (.n 24 (.s name) .z)) (qs g_r 0 <| qs g_r 0 <| qB k_2 1 rfl 2 (.v (.map (some b_r_keys))) (by kernel_rfl) <| qe) (by kernel_rfl) ?_
   refine WL_op <| Op_delR (kt := 9) (e := 22) (key := name) [] (by kernel_rfl) k_2 ?_
   intro w_1 k_4
   refine WL_nil <| At_go <| W_seq <| W_q [] (.n 4 (I 0) .z) qe (by kernel_rfl) ?_
   refine At_go <| W_ret ?_
   obtain rfl := Option.some.inj hm
   refine At_rt [I 0] qe (by kernel_rfl) ?_
   have k_5 := (k_4.pk .h).pk (.t .h)
   exact ⟨mdelV r_.2.2.1 hd0 name, rfl, k_5⟩

-- (*quern/mac.Ring).Tag
theorem c_mac_Ring_Tag_m {F O : Nat → Prop} {w : World} (r_k : Int) (r_n : Int) (ks_r_keys : List (List UInt8)) (xs_r_keys : List (List UInt8)) (name : List UInt8) (data : List UInt8) (g_r : Nat) (b_r_keys : Nat) (hd_r_keys : List Hd) (A_data : Option Addr) (n_data : Nat) (c_data : Nat) (h_data : Ro F w A_data (e8.all data)) (hn_data : data.length = n_data) (hc_data : n_data ≤ c_data) (k : Cx F O w w [Bx 60 g_r [I r_k, I r_n, .v (.map (some b_r_keys))], MR e8 b_r_keys ks_r_keys hd_r_keys xs_r_keys]) (r : (List UInt8 × Int × Int × Int × List (List UInt8) × List (List UInt8))) (hm : m_mac_Ring_Tag_m r_k r_n ks_r_keys xs_r_keys name data = some r) :
    Calls Try.prog 26 (vals [pt g_r 0, .s name, sl A_data n_data c_data]) w (fun e w' => ∃ A n c hd, r.1.length = n ∧ e = .returned (SV.val (.tup [sl A n c, I r.2.1])) ∧ Cx F O w w' [Ow e8 A n c r.1, Bx 60 g_r [I r.2.2.1, I r.2.2.2.1, .v (.map (some b_r_keys))], MR e8 b_r_keys r.2.2.2.2.1 hd r.2.2.2.2.2]) := by
 unfold m_mac_Ring_Tag_m at hm
 subst hn_data
 refine calls [pt g_r 0, .s name, sl A_data data.length c_data] Try.func26 rfl (of_decide_eq_true (by kernel_rfl)) ?_
 refine W_seq <| W_q [] .a qe (by kernel_rfl) ?_
 refine At_go <| W_seq <| W_seq <| W_reg <| WLs 1 [] (.n 10 (pt g_r 0) .a) qe (by kernel_rfl) ?_
 refine WL_op ?_
 obtain ⟨r_, h_r_, hm⟩ := ob hm
 obtain ⟨F1, O1, kin, hO, hre, hF, hb⟩ := k.go (.i (.i .e))
 refine Op_call [] 11 _ mo_go45 (by kernel_rfl) (c_mac_Ring_none_m (F := F1) (O := O1) _ _ _ _ _ _ _ kin _ h_r_) ?_
 rintro e_ w_ ⟨hd0, rfl, k_⟩
 have k_1 := hb w_ _ _ k_ (.c (.c .n))
 refine ⟨.b false, rfl, ?_⟩
 refine WL_nil <| At_go <| W_cond false (by kernel_rfl) (fun h => by cases h) (fun _ => ?_)
 refine W_skip <| At_go <| W_seq <| W_reg <| WLs 5 [] (.n 16 (.v (.map (some b_r_keys))) (.n 17 (.s name) (.ss (.k (.s .a))))) (qs g_r 0 <| qs g_r 0 <| qB k_1 0 rfl 2 (.v (.map (some b_r_keys))) (by kernel_rfl) <| qe) (by kernel_rfl) ?_
 refine WL_op ?_
 have k_2 := (k_1.pk .h).pk (.t .h)
 refine Op_lookR (kt := 9) (e := 22) (key := name) [] 18 (by kernel_rfl) (by kernel_rfl) k_2 (fun hf => ?_) (fun j key B c0 hf1 hx_ hh hle => ?_)
 · simp only [mget_none hf, Option.elim_none] at hm
   refine WLs 5 [] (.n 8 (sl none 0 0) (.n 9 (.b false) (.sss .a))) qe (by kernel_rfl) ?_
   refine WL_nil <| At_go <| W_seq <| W_seq <| W_q [] (.n 22 (.b true) (.k (.s .a))) qe (by kernel_rfl) ?_
   refine At_go <| W_cond true (by kernel_rfl) (fun _ => ?_) (fun h => by cases h)
   refine W_seq <| W_q [] (.n 6 (sl none 0 0) (.n 7 (I 6) .z)) qe (by kernel_rfl) ?_
   refine At_go <| W_ret (At_tr ?_)
   have k_3 := k_2.nil e8
   obtain rfl := Option.some.inj hm
   refine At_rt [sl none 0 0, I 6] qe (by kernel_rfl) ?_
   have k_4 := ((k_3.pk .h).pk (.t .h)).pk (.t (.t .h))
   exact ⟨none, 0, 0, hd0, k_4.len 0 rfl, rfl, k_4⟩
 · simp only [mget_some hf1 hx_, Option.elim_some] at hm
   refine WLs 5 [] (.n 8 (sl B key.length c0) (.n 9 (.b true) (.sss .a))) qe (by kernel_rfl) ?_
   refine WL_nil <| At_go <| W_seq <| W_seq <| W_q [] (.n 22 (.b false) (.k (.s .a))) qe (by kernel_rfl) ?_
   refine At_go <| W_cond false (by kernel_rfl) (fun h => by cases h) (fun _ => ?_)
   refine W_skip <| At_go <| W_seq ?_
   have k_5 := k_2.drew 1
   refine W_m mo_mixed (.q 8 0 (.q 9 0 (.q 0 1 (.q 1 1 (.q 2 1 (.q 3 0 (.q 4 1 (.q 5 1 (.q 6 1 (.q 7 0 (.op 10 (.q 11 1 (.q 12 1 (.q 13 1 (.q 14 1 .nil))))))))))))))) [10] k_5 (.c (.kk .e) .l) (by kernel_rfl) (fun _ => ?_)
   refine MXq 2 0 [] (.n 31 (sl B key.length c0) (.n 32 (sl A_data data.length c_data) (.ss (.k .z)))) (fun x hx => qe) (by kernel_rfl) (fun _ => ?_)
   refine MXq 3 1 [] (.n 25 (pt g_r 0) .a) (fun x hx => qs g_r 0 <| qs g_r 0 <| qe) (by kernel_rfl) (fun _ => ?_)
   refine MXq 1 0 [] (.n 26 (I r_.1) (.s .a)) (fun x hx => qB hx 1 rfl 0 (I r_.1) (by kernel_rfl) <| qe) (by kernel_rfl) (fun _ => ?_)
   refine MXq 3 1 [] (.n 29 (pt g_r 1) (.kkk .z)) (fun x hx => qs g_r 0 <| qs g_r 0 <| qe) (by kernel_rfl) (fun _ => ?_)
   refine MXq 1 0 [] (.n 30 (I r_.2.1) (.s .a)) (fun x hx => qB hx 1 rfl 1 (I r_.2.1) (by kernel_rfl) <| qe) (by kernel_rfl) (fun _ => ?_)
   refine MX_op (by kernel_rfl) rfl ?_
   obtain ⟨r_1, h_r_1, hm⟩ := ob hm
   refine Op_call [] 33 _ mo_go40 (by kernel_rfl) (c_mac_digest (F := N0) (O := N0) _ _ _ _ _ _ _ _ _ _ _ _ _ _ _ _ _ _ (Ro.n0 (k_5.mr_in 0 rfl hx_ hh)) rfl hle (Ro.nilE e8) rfl (Nat.le_refl 0) (Ro.nilE e8) rfl (Nat.le_refl 0) (Ro.n0 (h_data.cx k_5)) rfl hc_data (Cx.refl _) _ h_r_1) ?_
   rintro e_ w_1 ⟨A0, _, c1, rfl, rfl, k_6⟩
   have k_7 := k_5.call k_6
   refine ⟨.tup [sl A0 r_1.1.length c1, I r_1.2], rfl, ?_⟩
   refine ⟨(k_7.sel (.kk .z)), fun _ => ?_⟩
   refine MXq 4 1 [] (.n 6 (sl A0 r_1.1.length c1) (.n 7 (I r_1.2) .z)) (fun x hx => qe) (by kernel_rfl) (fun _ => ?_)
   refine MX_nil <| At_go <| W_ret ?_
   obtain rfl := Option.some.inj hm
   refine At_rt [sl A0 r_1.1.length c1, I r_1.2] qe (by kernel_rfl) ?_
   have k_8 := ((k_7.pk .h).pk (.t .h)).pk (.t (.t .h))
   exact ⟨A0, r_1.1.length, c1, hd0, k_8.len 0 rfl, rfl, k_8⟩

-- (*quern/mac.Ring).Names
theorem c_mac_Ring_Names_m {F O : Nat → Prop} {w : World} (r_k : Int) (r_n : Int) (ks_r_keys : List (List UInt8)) (xs_r_keys : List (List UInt8)) (g_r : Nat) (b_r_keys : Nat) (hd_r_keys : List Hd) (k : Cx F O w w [Bx 60 g_r [I r_k, I r_n, .v (.map (some b_r_keys))], MR e8 b_r_keys ks_r_keys hd_r_keys xs_r_keys]) (r : (List (List UInt8) × Int × Int × List (List UInt8) × List (List UInt8))) (hm : m_mac_Ring_Names_m r_k r_n ks_r_keys xs_r_keys = some r) :
    Calls Try.prog 30 (vals [pt g_r 0]) w (fun e w' => ∃ A n c hd, r.1.length = n ∧ e = .returned (SV.val (sl A n c)) ∧ Cx F O w w' [Ow eS A n c r.1, Bx 60 g_r [I r.2.1, I r.2.2.1, .v (.map (some b_r_keys))], MR e8 b_r_keys r.2.2.2.1 hd r.2.2.2.2]) := by
 unfold m_mac_Ring_Names_m at hm
 refine calls [pt g_r 0] Try.func30 rfl (of_decide_eq_true (by kernel_rfl)) ?_
 refine W_seq <| W_q [] .a qe (by kernel_rfl) ?_
 refine At_go <| W_seq <| W_seq <| W_reg <| WLs 1 [] (.n 5 (pt g_r 0) .a) qe (by kernel_rfl) ?_
 refine WL_op ?_
 obtain ⟨r_, h_r_, hm⟩ := ob hm
 obtain ⟨F1, O1, kin, hO, hre, hF, hb⟩ := k.go (.i (.i .e))
 refine Op_call [] 6 _ mo_go45 (by kernel_rfl) (c_mac_Ring_none_m (F := F1) (O := O1) _ _ _ _ _ _ _ kin _ h_r_) ?_
 rintro e_ w_ ⟨hd0, rfl, k_⟩
 have k_1 := hb w_ _ _ k_ (.c (.c .n))
 refine ⟨.b false, rfl, ?_⟩
 refine WL_nil <| At_go <| W_cond false (by kernel_rfl) (fun h => by cases h) (fun _ => ?_)
 refine W_skip <| At_go <| W_seq <| W_q [] (.n 3 (sl none 0 0) (.ss .a)) qe (by kernel_rfl) ?_
 refine At_go <| W_seq <| W_seq <| W_reg <| WLs 4 [] (.n 10 (.v (.map (some b_r_keys))) (.k .z)) (qs g_r 0 <| qs g_r 0 <| qB k_1 0 rfl 2 (.v (.map (some b_r_keys))) (by kernel_rfl) <| qe) (by kernel_rfl) ?_
 refine WL_op ?_
 have k_2 := (k_1.pk .h).pk (.t .h)
 obtain ⟨u, h_u, hm⟩ := ob hm
 refine Op_rangeR (kt := 9) (e := 22) [] 11 (by kernel_rfl) k_2 ?_
 intro r_1 w_1 k_3
 refine WL_nil <| At_go <| W_block ?_
 have k_4 := k_3.nil eS
 refine W_ms (fun kn_ L wr => ∃ (l left : List (List UInt8)) (cur : Option (List UInt8)) (A0 : Option Addr) (n0 c0 : Nat), left.length = kn_ ∧ (l ++ left).Perm r_.2.2.1 ∧ l.length = n0 ∧ L = [(3, sl A0 n0 c0), (11, .v (.pointer (some ⟨r_1, 0, none⟩)))] ∧ Cx F O w wr [MI e8 b_r_keys r_1 r_.2.2.1 hd0 r_.2.2.2 left cur, Bx 60 g_r [I r_.1, I r_.2.1, .v (.map (some b_r_keys))], Ow eS A0 n0 c0 l]) r_.2.2.1.length ⟨[], r_.2.2.1, none, none, 0, 0, rfl, List.Perm.refl _, rfl, rfl, k_4⟩ (by kernel_rfl) ?_
 rintro kn L_ w_2 ⟨l, left, cur, A0, _, c0, rfl, hperm, rfl, rfl, k_5⟩
 refine W_seq <| W_reg <| WL_op <| Op_nextR [] 12 (by kernel_rfl) k_5 (fun hl k_6 => ?_) (fun key left1 v w_3 hp k_7 => ?_)
 ·
   have hp1 : l.Perm r_.2.2.1 := by have h_ := hperm; rw [hl, List.append_nil] at h_; exact h_
   refine WLs 1 [] (.n 13 (.b false) (.s (.k .z))) qe (by kernel_rfl) ?_
   refine WL_nil <| At_go <| W_seq <| W_cond false (by kernel_rfl) (fun h => by cases h) (fun _ => ?_)
   refine W_exit (At_te (At_te (At_ie ?_)))
   refine At_go <| W_seq <| W_reg <| WLs 1 [] (.n 20 (sl A0 l.length c0) (.s .a)) qe (by kernel_rfl) ?_
   refine WL_op <| Op_call [] 21 _ mo_go47 (by kernel_rfl) (mo_sort47 (i := 2) k_6 rfl (by have h1 := hp1.length_eq; have h2 := need_some h_u; have h3 := k_6.len 2 rfl; omega)) ?_
   rintro e_ w_4 ⟨rfl, k_8⟩
   rw [srt_perm hp1] at k_8
   refine ⟨.tup [], rfl, ?_⟩
   refine WL_nil <| At_go <| W_seq <| W_q [] (.n 2 (sl A0 l.length c0) .z) qe (by kernel_rfl) ?_
   refine At_go <| W_ret ?_
   obtain rfl := Option.some.inj hm
   refine At_rt [sl A0 l.length c0] qe (by kernel_rfl) ?_
   have k_9 := ((k_8.pk .h).pk (.t .h)).pk (.t (.t .h))
   exact ⟨A0, l.length, c0, hd0, k_9.len 0 rfl, rfl, k_9⟩
 ·
   refine WLs 1 [] (.n 13 (.b true) (.s .a)) qe (by kernel_rfl) ?_
   refine WL_nil <| At_go <| W_seq <| W_cond true (by kernel_rfl) (fun _ => ?_) (fun h => by cases h)
   refine W_skip <| At_go <| W_block <| W_seq <| W_reg <| WL_op <| Op_entryR [] 14 (by kernel_rfl) k_7 (fun v1 => ?_)
   refine WLs 2 [] (.n 4 (.s key) (.ss .a)) qe (by kernel_rfl) ?_
   refine WL_nil <| At_go <| W_reg <| WLs 2 [] (.n 16 (sl A0 l.length c0) (.n 17 (.s key) (.s .a))) qe (by kernel_rfl) ?_
   refine WL_op ?_
   have k_10 := k_7.sel (.kk (.k .e))
   refine Op_mk mo_tf66 eS [] 18 ([key] : List (List UInt8)) [(0, .s key)] [.s key] (by kernel_rfl) (by kernel_rfl) (by kernel_rfl) k_10 ?_
   intro A1 w_5 k_11
   refine WL_op ?_
   have hz : (l.length + ([key] : List (List UInt8)).length) * 16 ≤ 140737488355328 := by have h1 := hperm.length_eq; have h2 := hp.length_eq; have h3 := need_some h_u; simp only [List.length_append, List.length_cons, List.length_nil] at *; omega
   refine Op_append (E := eS) (v := sl A1 1 1) (ys := ([key] : List (List UInt8))) mo_tf66 [] 19 2 (by kernel_rfl) k_11 rfl (Src.sl (k_11.rd 3 rfl) (k_11.len 3 rfl) (by rfl)) (k_11.len 3 rfl) (by have := k_11.len 2 rfl; have := (k_11.len 3 rfl); omega) ?_
   intro A2 c1 w_6 k_12
   have k_13 := k_12.sel (.kk (.k .z))
   refine WLs 1 [] (.n 3 (sl A2 (l.length + 1) c1) (.ssss (.s .a))) qe (by kernel_rfl) ?_
   refine WL_nil <| At_in ?_
   exact At_ms left1.length (by have h_ := hp.length_eq; simp only [List.length_cons] at h_; omega) ⟨l ++ ([key] : List (List UInt8)), left1, (some key), A2, _, c1, rfl, (by rw [List.append_assoc]; exact (List.Perm.append_left l hp.symm).trans hperm), k_13.len 2 rfl, rfl, k_13⟩ (by kernel_rfl)

-- quern/mac.Equal
theorem c_mac_Equal {F O : Nat → Prop} {w : World} (a_ : List UInt8) (b : List UInt8) (A_a_ : Option Addr) (n_a_ : Nat) (c_a_ : Nat) (A_b : Option Addr) (n_b : Nat) (c_b : Nat) (h_a_ : Ro F w A_a_ (e8.all a_)) (hn_a_ : a_.length = n_a_) (hc_a_ : n_a_ ≤ c_a_) (h_b : Ro F w A_b (e8.all b)) (hn_b : b.length = n_b) (hc_b : n_b ≤ c_b) (k : Cx F O w w []) (r : Bool) (hm : m_mac_Equal a_ b = some r) :
    Calls Try.prog 42 (vals [sl A_a_ n_a_ c_a_, sl A_b n_b c_b]) w (fun e w' => e = .returned (SV.val (.b r)) ∧ Cx F O w w' []) := by
 unfold m_mac_Equal at hm
 subst hn_a_
 subst hn_b
 refine calls [sl A_a_ a_.length c_a_, sl A_b b.length c_b] Try.func42 rfl (of_decide_eq_true (by kernel_rfl)) ?_
 refine W_seq <| W_q [] .a qe (by kernel_rfl) ?_
 refine At_go <| W_seq <| W_seq <| W_q [] (.n 11 (.b (decide (((a_.length : Nat) : Int) ≠ ((b.length : Nat) : Int)))) .a) qe (by kernel_rfl) ?_
 refine At_go <| W_condp (((a_.length : Nat) : Int) ≠ ((b.length : Nat) : Int)) (by kernel_rfl) (fun hc => ?_) (fun hc => ?_)
 · rw [if_pos hc] at hm
   refine W_seq <| W_q [] (.n 4 (.b false) .z) qe (by kernel_rfl) ?_
   refine At_go <| W_ret (At_tr ?_)
   obtain rfl := Option.some.inj hm
   refine At_rt [.b false] qe (by kernel_rfl) ?_
   exact ⟨rfl, k⟩
 rw [if_neg hc] at hm
 refine W_skip <| At_go <| W_seq <| W_q [] (.n 5 (.u8 0) (.s .a)) qe (by kernel_rfl) ?_
 refine At_go <| W_seq <| W_seq <| W_q [] (.n 13 (I ((a_.length : Nat) : Int)) (.n 14 (I 0) .a)) qe (by kernel_rfl) ?_
 refine At_go <| W_block <| W_lp (m_mac_Equal_l0 a_ b) (fun s L wr => ∃ (diff : UInt8) (x_0 : Int), (diff, x_0) = s ∧ L = [(0, sl A_a_ a_.length c_a_), (1, sl A_b b.length c_b), (5, .u8 diff), (13, I ((a_.length : Nat) : Int)), (14, I x_0)] ∧ Cx F O w wr []) ((0 : UInt8), (0 : Int)) r hm ⟨(0 : UInt8), (0 : Int), rfl, rfl, k⟩ (by kernel_rfl) ?_
 intro s0_ L_ w_ y0 hrel hstep hr0
 obtain ⟨diff, x_0, rfl, rfl, k_⟩ := hrel
 have hm := hstep; simp only [m_mac_Equal_l0] at hm
 clear hstep
 refine W_seq <| W_q [] (.n 15 (.b (decide (x_0 < ((a_.length : Nat) : Int)))) .a) qe (by kernel_rfl) ?_
 refine At_go <| W_seq <| W_condp (x_0 < ((a_.length : Nat) : Int)) (by kernel_rfl) (fun hc1 => ?_) (fun hc1 => ?_)
 · rw [if_pos hc1] at hm
   refine W_skip <| At_go <| W_seq <| W_block <| W_seq <| W_q [] (.n 6 (I x_0) (.s .a)) qe (by kernel_rfl) ?_
   refine At_go ?_
   obtain ⟨x_1, h_x_1, hm⟩ := ob hm
   obtain ⟨x_2, h_x_2, hm⟩ := ob hm
   refine W_d mo_mixed (by kernel_rfl) (.n 5 (.u8 (diff ||| (x_1 ^^^ x_2))) (.s (.kk (.s .a)))) (fun m => qW (h_a_.cx (k_.drew m)) h_x_1 rfl (.u8 x_1) rfl <| qW (h_b.cx (k_.drew m)) h_x_2 rfl (.u8 x_2) rfl <| qe) (by kernel_rfl) (fun m_ => ?_)
   have k_1 := k_.drew m_
   refine At_in <| At_go <| W_q [] (.n 14 (I (w64 (x_0 + 1))) (.kkkk .z)) qe (by kernel_rfl) ?_
   exact At_rd (diff ||| (x_1 ^^^ x_2), w64 (x_0 + 1)) (Option.some.inj hm).symm ⟨diff ||| (x_1 ^^^ x_2), w64 (x_0 + 1), rfl, rfl, k_1⟩ (by kernel_rfl)
 rw [if_neg hc1] at hm
 refine W_exit (At_te (At_te (At_ie ?_)))
 have hm := exit_of hm hr0
 refine At_go <| W_seq <| W_q [] (.n 4 (.b (decide (diff = 0))) .z) qe (by kernel_rfl) ?_
 refine At_go <| W_ret ?_
 obtain rfl := Option.some.inj hm
 refine At_rt [.b (decide (diff = 0))] qe (by kernel_rfl) ?_
 exact ⟨rfl, k_⟩

-- (*quern/mac.Ring).Who
theorem c_mac_Ring_Who_m {F O : Nat → Prop} {w : World} (r_k : Int) (r_n : Int) (ks_r_keys : List (List UInt8)) (xs_r_keys : List (List UInt8)) (tag : List UInt8) (data : List UInt8) (g_r : Nat) (b_r_keys : Nat) (hd_r_keys : List Hd) (A_tag : Option Addr) (n_tag : Nat) (c_tag : Nat) (A_data : Option Addr) (n_data : Nat) (c_data : Nat) (h_tag : Ro F w A_tag (e8.all tag)) (hn_tag : tag.length = n_tag) (hc_tag : n_tag ≤ c_tag) (h_data : Ro F w A_data (e8.all data)) (hn_data : data.length = n_data) (hc_data : n_data ≤ c_data) (k : Cx F O w w [Bx 60 g_r [I r_k, I r_n, .v (.map (some b_r_keys))], MR e8 b_r_keys ks_r_keys hd_r_keys xs_r_keys]) (r : (List UInt8 × Bool × Int × Int × Int × List (List UInt8) × List (List UInt8))) (hm : m_mac_Ring_Who_m r_k r_n ks_r_keys xs_r_keys tag data = some r) :
    Calls Try.prog 27 (vals [pt g_r 0, sl A_tag n_tag c_tag, sl A_data n_data c_data]) w (fun e w' => ∃ hd, e = .returned (SV.val (.tup [.s r.1, .b r.2.1, I r.2.2.1])) ∧ Cx F O w w' [Bx 60 g_r [I r.2.2.2.1, I r.2.2.2.2.1, .v (.map (some b_r_keys))], MR e8 b_r_keys r.2.2.2.2.2.1 hd r.2.2.2.2.2.2]) := by
 unfold m_mac_Ring_Who_m at hm
 subst hn_tag
 subst hn_data
 refine calls [pt g_r 0, sl A_tag tag.length c_tag, sl A_data data.length c_data] Try.func27 rfl (of_decide_eq_true (by kernel_rfl)) ?_
 refine W_seq <| W_q [] .a qe (by kernel_rfl) ?_
 refine At_go <| W_seq <| W_seq <| W_reg <| WLs 1 [] (.n 13 (pt g_r 0) .a) qe (by kernel_rfl) ?_
 refine WL_op ?_
 obtain ⟨r_, h_r_, hm⟩ := ob hm
 obtain ⟨F1, O1, kin, hO, hre, hF, hb⟩ := k.go (.i (.i .e))
 refine Op_call [] 14 _ mo_go45 (by kernel_rfl) (c_mac_Ring_none_m (F := F1) (O := O1) _ _ _ _ _ _ _ kin _ h_r_) ?_
 rintro e_ w_ ⟨hd0, rfl, k_⟩
 have k_1 := hb w_ _ _ k_ (.c (.c .n))
 refine ⟨.b false, rfl, ?_⟩
 refine WL_nil <| At_go <| W_cond false (by kernel_rfl) (fun h => by cases h) (fun _ => ?_)
 refine W_skip <| At_go <| W_seq <| W_seq <| W_q [] (.n 21 (.b (decide (((tag.length : Nat) : Int) ≠ r_.2.1))) (.ss .a)) (qs g_r 0 <| qs g_r 0 <| qB k_1 0 rfl 1 (I r_.2.1) (by kernel_rfl) <| qe) (by kernel_rfl) ?_
 refine At_go <| W_condp (((tag.length : Nat) : Int) ≠ r_.2.1) (by kernel_rfl) (fun hc => ?_) (fun hc => ?_)
 · rw [if_pos hc] at hm
   refine W_seq <| W_q [] (.n 6 (.s ([] : List UInt8)) (.n 7 (.b false) (.n 8 (I 60) .z))) qe (by kernel_rfl) ?_
   refine At_go <| W_ret (At_tr ?_)
   obtain rfl := Option.some.inj hm
   refine At_rt [.s ([] : List UInt8), .b false, I 60] qe (by kernel_rfl) ?_
   exact ⟨hd0, rfl, k_1⟩
 rw [if_neg hc] at hm
 refine W_skip <| At_go <| W_seq <| W_seq <| W_reg <| WLs 1 [] (.n 22 (pt g_r 0) (.s .a)) qe (by kernel_rfl) ?_
 refine WL_op ?_
 obtain ⟨r_1, h_r_1, hm⟩ := ob hm
 obtain ⟨F11, O11, kin1, hO1, hre1, hF1, hb1⟩ := k_1.go (.i (.i .e))
 refine Op_call [] 23 _ mo_go30 (by kernel_rfl) (c_mac_Ring_Names_m (F := F11) (O := O11) _ _ _ _ _ _ _ kin1 _ h_r_1) ?_
 rintro e_ w_1 ⟨A, _, c, hd1, rfl, rfl, k_2⟩
 have k_3 := hb1 w_1 _ _ k_2 (.c (.c (.c .n)))
 refine ⟨sl A r_1.1.length c, rfl, ?_⟩
 refine WLs 2 [] (.n 24 (I ((r_1.1.length : Nat) : Int)) (.n 25 (I 0) (.k (.s .a)))) qe (by kernel_rfl) ?_
 refine WL_nil <| At_go <| W_block ?_
 have k_5 := ((k_3.pk .h).pk (.t (.t .h))).pk (.t (.t .h))
 refine W_lp (m_mac_Ring_Who_m_l0 tag data r_1) (fun s L wr => ∃ (r_2 : Int) (r_3 : Int) (ks0 : List (List UInt8)) (xs0 : List (List UInt8)) (x_0 : Int) (hd2 : List Hd), (r_2, r_3, ks0, xs0, x_0) = s ∧ L = [(0, pt g_r 0), (1, sl A_tag tag.length c_tag), (2, sl A_data data.length c_data), (23, sl A r_1.1.length c), (24, I ((r_1.1.length : Nat) : Int)), (25, I x_0)] ∧ Cx F O w wr [Bx 60 g_r [I r_2, I r_3, .v (.map (some b_r_keys))], MR e8 b_r_keys ks0 hd2 xs0, Ow eS A r_1.1.length c r_1.1]) (r_1.2.1, r_1.2.2.1, r_1.2.2.2.1, r_1.2.2.2.2, (0 : Int)) r hm ⟨r_1.2.1, r_1.2.2.1, r_1.2.2.2.1, r_1.2.2.2.2, (0 : Int), hd1, rfl, rfl, k_5⟩ (by kernel_rfl) ?_
 intro s0_ L_ w_2 y0 hrel hstep hr0
 obtain ⟨r_2, r_3, ks0, xs0, x_0, hd2, rfl, rfl, k_4⟩ := hrel
 have hm := hstep; simp only [m_mac_Ring_Who_m_l0] at hm
 clear hstep
 refine W_seq <| W_q [] (.n 26 (.b (decide (x_0 < ((r_1.1.length : Nat) : Int)))) .a) qe (by kernel_rfl) ?_
 refine At_go <| W_seq <| W_condp (x_0 < ((r_1.1.length : Nat) : Int)) (by kernel_rfl) (fun hc1 => ?_) (fun hc1 => ?_)
 · rw [if_pos hc1] at hm
   refine W_skip <| At_go <| W_seq <| W_block <| W_seq ?_
   obtain ⟨x_5, h_x_5, hm⟩ := ob hm
   refine W_q [] (.n 10 (.s x_5) (.s .a)) (qW (k_4.rd 2 rfl) h_x_5 (k_4.len 2 rfl) (.s x_5) rfl <| qe) (by kernel_rfl) ?_
   refine At_go <| W_seq <| W_reg <| WLs 3 [] (.n 30 (pt g_r 0) (.n 31 (.s x_5) (.n 32 (sl A_data data.length c_data) .a))) qe (by kernel_rfl) ?_
   refine WL_op ?_
   obtain ⟨r_4, h_r_4, hm⟩ := ob hm
   obtain ⟨F12, O12, kin2, hO2, hre2, hF2, hb2⟩ := k_4.go (.i (.i (.r .e)))
   refine Op_call [] 33 _ mo_go26 (by kernel_rfl) (c_mac_Ring_Tag_m (F := F12) (O := O12) _ _ _ _ _ _ _ _ _ _ _ _ (Ro.of_old h_data k_4 hF2) rfl hc_data kin2 _ h_r_4) ?_
   rintro e_ w_3 ⟨A1, _, c1, hd3, rfl, rfl, k_6⟩
   have k_7 := hb2 w_3 _ _ k_6 (.c (.c (.c .n)))
   refine ⟨.tup [sl A1 r_4.1.length c1, I r_4.2.1], rfl, ?_⟩
   refine WLs 5 [] (.n 11 (sl A1 r_4.1.length c1) (.ssss .a)) qe (by kernel_rfl) ?_
   refine WL_nil <| At_go <| W_seq <| W_reg <| WLs 2 [] (.n 36 (sl A1 r_4.1.length c1) (.n 37 (sl A_tag tag.length c_tag) (.s .a))) qe (by kernel_rfl) ?_
   refine WL_op ?_
   obtain ⟨r_5, h_r_5, hm⟩ := ob hm
   refine Op_call [] 38 _ mo_go42 (by kernel_rfl) (c_mac_Equal (F := N0) (O := N0) _ _ _ _ _ _ _ _ (Ro.n0 (k_7.rd 0 rfl)) (k_7.len 0 rfl) (k_7.lec 0 rfl) (Ro.n0 (h_tag.cx k_7)) rfl hc_tag (Cx.refl _) _ h_r_5) ?_
   rintro e_ w_4 ⟨rfl, k_8⟩
   have k_9 := k_7.call k_8
   refine ⟨.b r_5, rfl, ?_⟩
   have k_10 := k_9.sel (.s (.kk (.k .e)))
   refine WL_nil <| At_go <| W_cond r_5 (by kernel_rfl) (fun hc2 => ?_) (fun hc2 => ?_)
   · rw [if_pos hc2] at hm
     refine W_seq <| W_q [] (.n 6 (.s x_5) (.n 7 (.b true) (.n 8 (I 0) .z))) qe (by kernel_rfl) ?_
     refine At_go <| W_ret (At_ir (At_tr (At_tr (At_ir (At_tr ?_)))))
     have hm := exit_of hm hr0
     obtain rfl := Option.some.inj hm
     refine At_rt [.s x_5, .b true, I 0] qe (by kernel_rfl) ?_
     have k_11 := k_10.sel (.kk .z)
     exact ⟨hd3, rfl, k_11⟩
   rw [if_neg (by rw [hc2]; decide)] at hm
   refine W_skip <| At_in <| At_go <| W_q [] (.n 25 (I (w64 (x_0 + 1))) (.ssss (.kkkk (.k .z)))) qe (by kernel_rfl) ?_
   exact At_rd (r_4.2.2.1, r_4.2.2.2.1, r_4.2.2.2.2.1, r_4.2.2.2.2.2, w64 (x_0 + 1)) (Option.some.inj hm).symm ⟨r_4.2.2.1, r_4.2.2.2.1, r_4.2.2.2.2.1, r_4.2.2.2.2.2, w64 (x_0 + 1), hd3, rfl, rfl, k_10⟩ (by kernel_rfl)
 rw [if_neg hc1] at hm
 refine W_exit (At_te (At_te (At_ie ?_)))
 have hm := exit_of hm hr0
 refine At_go <| W_seq <| W_q [] (.n 6 (.s ([] : List UInt8)) (.n 7 (.b false) (.n 8 (I 0) .z))) qe (by kernel_rfl) ?_
 refine At_go <| W_ret ?_
 obtain rfl := Option.some.inj hm
 refine At_rt [.s ([] : List UInt8), .b false, I 0] qe (by kernel_rfl) ?_
 have k_12 := k_4.sel (.kk .z)
 exact ⟨hd2, rfl, k_12⟩

-- quern/quernlaw06.MacOthers
theorem c_l06_MacOthers {F O : Nat → Prop} {w : World} (w_K : Int) (w_N : Int) (w_Key : List UInt8) (w_Salt : List UInt8) (w_Personal : List UInt8) (w_Data : List UInt8) (w_Tag : List UInt8) (script : List (Int × List UInt8 × List UInt8 × List UInt8)) (A_w_Key : Option Addr) (n_w_Key : Nat) (c_w_Key : Nat) (A_w_Salt : Option Addr) (n_w_Salt : Nat) (c_w_Salt : Nat) (A_w_Personal : Option Addr) (n_w_Personal : Nat) (c_w_Personal : Nat) (A_w_Data : Option Addr) (n_w_Data : Nat) (c_w_Data : Nat) (A_w_Tag : Option Addr) (n_w_Tag : Nat) (c_w_Tag : Nat) (A_script : Option Addr) (n_script : Nat) (c_script : Nat) (ys_script : List (Int × List UInt8 × Hd × Hd)) (h_w_Key : Ro F w A_w_Key (e8.all w_Key)) (hn_w_Key : w_Key.length = n_w_Key) (hc_w_Key : n_w_Key ≤ c_w_Key) (h_w_Salt : Ro F w A_w_Salt (e8.all w_Salt)) (hn_w_Salt : w_Salt.length = n_w_Salt) (hc_w_Salt : n_w_Salt ≤ c_w_Salt) (h_w_Personal : Ro F w A_w_Personal (e8.all w_Personal)) (hn_w_Personal : w_Personal.length = n_w_Personal) (hc_w_Personal : n_w_Personal ≤ c_w_Personal) (h_w_Data : Ro F w A_w_Data (e8.all w_Data)) (hn_w_Data : w_Data.length = n_w_Data) (hc_w_Data : n_w_Data ≤ c_w_Data) (h_w_Tag : Ro F w A_w_Tag (e8.all w_Tag)) (hn_w_Tag : w_Tag.length = n_w_Tag) (hc_w_Tag : n_w_Tag ≤ c_w_Tag) (h_script : RoG F w (eP eI (eP eS (eP eH eH))) (RP RQ (RP RQ (RP (RH F w e8) (RH F w e8)))) A_script ys_script script) (hn_script : script.length = n_script) (hc_script : n_script ≤ c_script) (k : Cx F O w w []) (r : Bool) (hm : m_l06_MacOthers w_K w_N w_Key w_Salt w_Personal w_Data w_Tag script = some r) :
    Calls Try.prog 9 (vals [.agg [I w_K, I w_N, sl A_w_Key n_w_Key c_w_Key, sl A_w_Salt n_w_Salt c_w_Salt, sl A_w_Personal n_w_Personal c_w_Personal, sl A_w_Data n_w_Data c_w_Data, sl A_w_Tag n_w_Tag c_w_Tag], sl A_script n_script c_script]) w (fun e w' => e = .returned (SV.val (.b r)) ∧ Cx F O w w' []) := by
 unfold m_l06_MacOthers at hm
 subst hn_w_Key
 subst hn_w_Salt
 subst hn_w_Personal
 subst hn_w_Data
 subst hn_w_Tag
 subst hn_script
 refine calls [.agg [I w_K, I w_N, sl A_w_Key w_Key.length c_w_Key, sl A_w_Salt w_Salt.length c_w_Salt, sl A_w_Personal w_Personal.length c_w_Personal, sl A_w_Data w_Data.length c_w_Data, sl A_w_Tag w_Tag.length c_w_Tag], sl A_script script.length c_script] Try.func9 rfl (of_decide_eq_true (by kernel_rfl)) ?_
 refine W_seq <| W_reg <| WL_op <| Op_box [] 2 (.agg [I w_K, I w_N, sl A_w_Key w_Key.length c_w_Key, sl A_w_Salt w_Salt.length c_w_Salt, sl A_w_Personal w_Personal.length c_w_Personal, sl A_w_Data w_Data.length c_w_Data, sl A_w_Tag w_Tag.length c_w_Tag]) [I w_K, I w_N, sl A_w_Key w_Key.length c_w_Key, sl A_w_Salt w_Salt.length c_w_Salt, sl A_w_Personal w_Personal.length c_w_Personal, sl A_w_Data w_Data.length c_w_Data, sl A_w_Tag w_Tag.length c_w_Tag] (by kernel_rfl) k ?_
 intro g w_ k_
 refine WLs 1 [] (.k (.s .a)) qe (by kernel_rfl) ?_
 refine WL_nil <| At_go <| W_seq <| W_d mo_mixed (by kernel_rfl) (.n 5 (I w_K) (.n 6 (I w_N) (.n 7 (sl A_w_Key w_Key.length c_w_Key) (.s .a)))) (fun m => qs g 0 <| qB (k_.drew m) 0 rfl 0 (I w_K) (by kernel_rfl) <| qs g 0 <| qB (k_.drew m) 0 rfl 1 (I w_N) (by kernel_rfl) <| qs g 0 <| qB (k_.drew m) 0 rfl 2 (sl A_w_Key w_Key.length c_w_Key) (by kernel_rfl) <| qe) (by kernel_rfl) (fun m_ => ?_)
 have k_1 := k_.drew m_
 refine At_go <| W_seq <| W_seq <| W_reg <| WL_op ?_
 obtain ⟨r_, h_r_, hm⟩ := ob hm
 refine Op_call [] 25 _ mo_go21 (by kernel_rfl) (c_l06_alive (F := N0) (O := N0)  (Cx.refl _) _ h_r_) ?_
 rintro e_ w_1 ⟨rfl, k_2⟩
 have k_3 := k_1.call k_2
 refine ⟨.b r_, rfl, ?_⟩
 have k_4 := k_3.sel .z
 refine WLs 1 [] (.n 26 (.b (!r_)) (.s .a)) qe (by kernel_rfl) ?_
 refine WL_nil <| At_go <| W_cond (!r_) (by kernel_rfl) (fun hc => ?_) (fun hc => ?_)
 · rw [if_pos hc] at hm
   refine W_seq <| W_q [] (.n 4 (.b false) .z) qe (by kernel_rfl) ?_
   refine At_go <| W_ret (At_tr ?_)
   obtain rfl := Option.some.inj hm
   refine At_rt [.b false] qe (by kernel_rfl) ?_
   exact ⟨rfl, k_4⟩
 rw [if_neg (by rw [hc]; decide)] at hm
 refine W_skip <| At_go <| W_seq <| W_reg <| WLs 2 [] (.n 28 (I w_K) (.n 29 (I w_N) (.s .a))) qe (by kernel_rfl) ?_
 refine WL_op ?_
 obtain ⟨r_1, h_r_1, hm⟩ := ob hm
 refine Op_call [] 30 _ mo_go31 (by kernel_rfl) (c_mac_NewRing (F := N0) (O := N0) _ _ (Cx.refl _) _ h_r_1) ?_
 rcases r_1 with r_2 | r_3
 · simp only [Sum.elim_inl, Sum.elim_inr] at hm
   rintro e_ w_2 ⟨rfl, k_5⟩
   have k_6 := k_4.call k_5
   refine ⟨.tup [.v (.pointer none), I r_2], rfl, ?_⟩
   refine WLs 5 [] (.n 8 (.v (.pointer none)) (.n 9 (I r_2) (.sss .a))) qe (by kernel_rfl) ?_
   refine WL_nil <| At_go <| W_seq <| W_seq <| W_q [] (.n 34 (.b (decide (r_2 ≠ 0))) (.k (.s .a))) qe (by kernel_rfl) ?_
   refine At_go <| W_condp (r_2 ≠ 0) (by kernel_rfl) (fun hc1 => ?_) (fun hc1 => ?_)
   · rw [if_pos hc1] at hm
     refine W_seq <| W_q [] (.n 4 (.b true) .z) qe (by kernel_rfl) ?_
     refine At_go <| W_ret (At_tr ?_)
     obtain rfl := Option.some.inj hm
     refine At_rt [.b true] qe (by kernel_rfl) ?_
     exact ⟨rfl, k_6⟩
   rw [if_neg hc1] at hm
   refine W_skip <| At_go <| W_seq <| W_seq <| W_q [] (.n 49 (.b (((decide (((w_Key.length : Nat) : Int) = 0)) || (decide (32 < ((w_Key.length : Nat) : Int)))) || (decide (200 < ((script.length : Nat) : Int))))) (.s .a)) qe (by kernel_rfl) ?_
   refine At_go <| W_cond (((decide (((w_Key.length : Nat) : Int) = 0)) || (decide (32 < ((w_Key.length : Nat) : Int)))) || (decide (200 < ((script.length : Nat) : Int)))) (by kernel_rfl) (fun hc2 => ?_) (fun hc2 => ?_)
   · rw [if_pos hc2] at hm
     refine W_seq <| W_q [] (.n 4 (.b true) .z) qe (by kernel_rfl) ?_
     refine At_go <| W_ret (At_tr ?_)
     obtain rfl := Option.some.inj hm
     refine At_rt [.b true] qe (by kernel_rfl) ?_
     exact ⟨rfl, k_6⟩
   rw [if_neg (by rw [hc2]; decide)] at hm
   refine W_skip <| At_go <| W_seq <| W_q [] (.n 10 (sl none 0 0) (.s .a)) qe (by kernel_rfl) ?_
   refine At_go <| W_seq <| W_seq <| W_reg <| WLs 2 [] (.n 50 (.v (.pointer none)) (.n 51 (sl A_w_Key w_Key.length c_w_Key) .a)) qe (by kernel_rfl) ?_
   refine WL_op ?_
   obtain ⟨r_4, h_r_4, hm⟩ := ob hm
   refine Op_call [] 52 _ mo_go28 (by kernel_rfl) (c_mac_Ring_Add (F := N0) (O := N0) _ _ _ _ _ (Ro.n0 (h_w_Key.cx k_6)) rfl hc_w_Key (Cx.refl _) _ h_r_4) ?_
   rintro e_ w_3 ⟨rfl, k_7⟩
   have k_8 := k_6.call k_7
   refine ⟨I 7, rfl, ?_⟩
   refine WLs 1 [] (.n 53 (.b (decide (7 ≠ 0))) (.sss .a)) qe (by kernel_rfl) ?_
   refine WL_nil <| At_go <| W_condp (7 ≠ 0) (by kernel_rfl) (fun hc3 => ?_) (fun hc3 => ?_)
   · rw [if_pos hc3] at hm
     refine W_seq <| W_q [] (.n 4 (.b false) .z) qe (by kernel_rfl) ?_
     refine At_go <| W_ret (At_tr ?_)
     obtain rfl := Option.some.inj hm
     refine At_rt [.b false] qe (by kernel_rfl) ?_
     exact ⟨rfl, k_8⟩
   rw [if_neg hc3] at hm
   refine W_skip <| At_go <| W_seq <| W_seq <| W_q [] (.n 11 (I 0) (.s .a)) qe (by kernel_rfl) ?_
   refine At_go <| W_block ?_
   have k_10 := k_8.nil e8
   refine W_lp (m_l06_MacOthers_l0 w_K w_N w_Key script) (fun s L wr => ∃ (data : List UInt8) (i : Int) (A : Option Addr) (n : Nat) (c : Nat), (data, i) = s ∧ L = [(1, sl A_script script.length c_script), (5, I w_K), (6, I w_N), (7, sl A_w_Key w_Key.length c_w_Key), (8, .v (.pointer none)), (10, sl A n c), (11, I i)] ∧ data.length = n ∧ Cx F O w wr [Ow e8 A n c data]) (([] : List UInt8), (0 : Int)) r hm ⟨([] : List UInt8), (0 : Int), none, 0, 0, rfl, rfl, k_10.len 0 rfl, k_10⟩ (by kernel_rfl) ?_
   intro s0_ L_ w_4 y0 hrel hstep hr0
   obtain ⟨data, i, A, _, c, rfl, rfl, rfl, k_9⟩ := hrel
   have hm := hstep; simp only [m_l06_MacOthers_l0] at hm
   clear hstep
   refine W_seq <| W_seq <| W_q [] (.n 57 (.b (decide (i < ((script.length : Nat) : Int)))) .a) qe (by kernel_rfl) ?_
   refine At_go <| W_condp (i < ((script.length : Nat) : Int)) (by kernel_rfl) (fun hc4 => ?_) (fun hc4 => ?_)
   · rw [if_pos hc4] at hm
     refine W_skip <| At_go <| W_cut (fun L wr => ∃ (data1 : List UInt8) (A1 : Option Addr) (n1 : Nat) (c1 : Nat), m_l06_MacOthers_j0 i data1 = some y0 ∧ L = [(1, sl A_script script.length c_script), (5, I w_K), (6, I w_N), (7, sl A_w_Key w_Key.length c_w_Key), (8, .v (.pointer none)), (10, sl A1 n1 c1), (11, I i)] ∧ data1.length = n1 ∧ Cx F O w wr [Ow e8 A1 n1 c1 data1]) ?_ ?_
     ·
      refine W_cutb (fun L wr => ∃ (data2 : List UInt8) (A2 : Option Addr) (n2 : Nat) (c2 : Nat), m_l06_MacOthers_j1 i data2 = some y0 ∧ L = [(1, sl A_script script.length c_script), (5, I w_K), (6, I w_N), (7, sl A_w_Key w_Key.length c_w_Key), (8, .v (.pointer none)), (10, sl A2 n2 c2), (11, I i)] ∧ data2.length = n2 ∧ Cx F O w wr [Ow e8 A2 n2 c2 data2]) ?_ ?_
      ·
       refine W_seq <| W_seq ?_
       obtain ⟨x_0, h_x_0, hm⟩ := ob hm
       obtain ⟨⟨q, q1, ⟨B, n3, c3⟩, ⟨B1, n4, c4⟩⟩, hy, hg⟩ := h_script.at h_x_0
       simp only [RP, RQ, RH] at hg; obtain ⟨rfl, rfl, ⟨rfl, hle, hro⟩, ⟨rfl, hle1, hro1⟩⟩ := hg
       refine W_q [] (.n 65 (.b (decide (x_0.2.1 = ([111, 119, 110] : List UInt8)))) (.s .a)) (qJ (E := (eP eI (eP eS (eP eH eH)))) (h_script.ro.cx k_9) hy h_script.len <| qS (A := ixA A_script i 4) (ixA_some _ _ (E_ix (E := (eP eI (eP eS (eP eH eH)))) (h_script.ro.cx k_9) (by decide) (geti_lt hy).1 (geti_some hy).2)) <| qC (.s x_0.2.1) (Rd.el (k := 1) (h_script.ro.cx k_9) hy (Pt.fa2 (Pt.ix1 A_script i 4) 1) rfl) <| qe) (by kernel_rfl) ?_
       refine At_go <| W_condp (x_0.2.1 = ([111, 119, 110] : List UInt8)) (by kernel_rfl) (fun hc5 => ?_) (fun hc5 => ?_)
       · rw [if_pos hc5] at hm
         refine W_exit (At_te (At_ie ?_))
         exact At_c ⟨data, A, data.length, c, hm, rfl, k_9.len 0 rfl, k_9⟩ (by kernel_rfl)
       rw [if_neg hc5] at hm
       refine W_skip <| At_go <| W_cut (fun L wr => m_l06_MacOthers_j2 script data i  = some y0 ∧ L = [(1, sl A_script script.length c_script), (5, I w_K), (6, I w_N), (7, sl A_w_Key w_Key.length c_w_Key), (8, .v (.pointer none)), (10, sl A data.length c), (11, I i)] ∧ Cx F O w wr [Ow e8 A data.length c data]) ?_ ?_
       ·
        refine W_seq ?_
        obtain ⟨x_1, h_x_1, hm⟩ := ob hm
        obtain ⟨⟨q2, q3, ⟨B2, n5, c5⟩, ⟨B3, n6, c6⟩⟩, hy1, hg1⟩ := h_script.at h_x_1
        simp only [RP, RQ, RH] at hg1; obtain ⟨rfl, rfl, ⟨rfl, hle2, hro2⟩, ⟨rfl, hle3, hro3⟩⟩ := hg1
        refine W_q [] (.n 71 (.b (decide (x_1.1 = 0))) (.s .a)) (qJ (E := (eP eI (eP eS (eP eH eH)))) (h_script.ro.cx k_9) hy1 h_script.len <| qS (A := ixA A_script i 4) (ixA_some _ _ (E_ix (E := (eP eI (eP eS (eP eH eH)))) (h_script.ro.cx k_9) (by decide) (geti_lt hy1).1 (geti_some hy1).2)) <| qC (I x_1.1) (Rd.el (k := 0) (h_script.ro.cx k_9) hy1 (Pt.fa2 (Pt.ix1 A_script i 4) 0) rfl) <| qe) (by kernel_rfl) ?_
        refine At_go <| W_condp (x_1.1 = 0) (by kernel_rfl) (fun hc6 => ?_) (fun hc6 => ?_)
        · rw [if_pos hc6] at hm
          have k_11 := k_9.drew 1
          refine W_m mo_mixed (.q 0 0 (.q 1 1 (.q 2 1 (.q 3 1 (.q 4 1 (.q 5 0 (.q 6 1 (.q 7 1 (.q 8 1 (.q 9 1 (.q 10 0 (.op 11 .nil)))))))))))) [11] k_11 (.c (.k .e) .l) (by kernel_rfl) (fun _ => ?_)
          refine MXq 1 0 [] (.n 72 (.v (.pointer none)) (.s .a)) (fun x hx => qe) (by kernel_rfl) (fun _ => ?_)
          obtain ⟨x_2, h_x_2, hm⟩ := ob hm
          obtain ⟨⟨q4, q5, ⟨B4, n7, c7⟩, ⟨B5, n8, c8⟩⟩, hy2, hg2⟩ := h_script.at h_x_2
          simp only [RP, RQ, RH] at hg2; obtain ⟨rfl, rfl, ⟨rfl, hle4, hro4⟩, ⟨rfl, hle5, hro5⟩⟩ := hg2
          refine MXq 4 1 [] (.n 76 (.v (.pointer (fa (ixA A_script i 4) 1))) .a) (fun x hx => qJ (E := (eP eI (eP eS (eP eH eH)))) (h_script.ro.cx hx) hy2 h_script.len <| qS (A := ixA A_script i 4) (ixA_some _ _ (E_ix (E := (eP eI (eP eS (eP eH eH)))) (h_script.ro.cx hx) (by decide) (geti_lt hy2).1 (geti_some hy2).2)) <| qe) (by kernel_rfl) (fun _ => ?_)
          refine MXq 1 0 [] (.n 77 (.s x_2.2.1) (.s .a)) (fun x hx => qC (.s x_2.2.1) (Rd.el (k := 1) (h_script.ro.cx hx) hy2 (Pt.fa2 (Pt.ix1 A_script i 4) 1) rfl) <| qe) (by kernel_rfl) (fun _ => ?_)
          obtain ⟨x_3, h_x_3, hm⟩ := ob hm
          obtain ⟨⟨q6, q7, ⟨B6, n9, c9⟩, ⟨B7, n10, c10⟩⟩, hy3, hg3⟩ := h_script.at h_x_3
          simp only [RP, RQ, RH] at hg3; obtain ⟨rfl, rfl, ⟨rfl, hle6, hro6⟩, ⟨rfl, hle7, hro7⟩⟩ := hg3
          refine MXq 4 1 [] (.n 81 (.v (.pointer (fa (ixA A_script i 4) 2))) .a) (fun x hx => qJ (E := (eP eI (eP eS (eP eH eH)))) (h_script.ro.cx hx) hy3 h_script.len <| qS (A := ixA A_script i 4) (ixA_some _ _ (E_ix (E := (eP eI (eP eS (eP eH eH)))) (h_script.ro.cx hx) (by decide) (geti_lt hy3).1 (geti_some hy3).2)) <| qe) (by kernel_rfl) (fun _ => ?_)
          refine MXq 1 0 [] (.n 82 (sl B6 x_3.2.2.1.length c9) (.s .a)) (fun x hx => qC (sl B6 x_3.2.2.1.length c9) (Rd.el (k := 2) (h_script.ro.cx hx) hy3 (Pt.fa2 (Pt.ix1 A_script i 4) 2) rfl) <| qe) (by kernel_rfl) (fun _ => ?_)
          refine MX_op (by kernel_rfl) rfl ?_
          obtain ⟨r_5, h_r_5, hm⟩ := ob hm
          refine Op_call [] 83 _ mo_go28 (by kernel_rfl) (c_mac_Ring_Add (F := N0) (O := N0) _ _ _ _ _ (Ro.n0 (hro6.cx k_11)) rfl hle6 (Cx.refl _) _ h_r_5) ?_
          rintro e_ w_5 ⟨rfl, k_12⟩
          have k_13 := k_11.call k_12
          refine ⟨I 7, rfl, ?_⟩
          refine ⟨k_13, fun _ => ?_⟩
          refine MX_nil ?_
          exact At_c ⟨hm, rfl, k_13⟩ (by kernel_rfl)
        rw [if_neg hc6] at hm
        refine W_reg ?_
        obtain ⟨x_4, h_x_4, hm⟩ := ob hm
        obtain ⟨⟨q8, q9, ⟨B8, n11, c11⟩, ⟨B9, n12, c12⟩⟩, hy4, hg4⟩ := h_script.at h_x_4
        simp only [RP, RQ, RH] at hg4; obtain ⟨rfl, rfl, ⟨rfl, hle8, hro8⟩, ⟨rfl, hle9, hro9⟩⟩ := hg4
        refine WLs 6 [] (.n 84 (.v (.pointer none)) (.n 89 (.s x_4.2.1) (.s .a))) (qJ (E := (eP eI (eP eS (eP eH eH)))) (h_script.ro.cx k_9) hy4 h_script.len <| qS (A := ixA A_script i 4) (ixA_some _ _ (E_ix (E := (eP eI (eP eS (eP eH eH)))) (h_script.ro.cx k_9) (by decide) (geti_lt hy4).1 (geti_some hy4).2)) <| qC (.s x_4.2.1) (Rd.el (k := 1) (h_script.ro.cx k_9) hy4 (Pt.fa2 (Pt.ix1 A_script i 4) 1) rfl) <| qe) (by kernel_rfl) ?_
        refine WL_op ?_
        obtain ⟨r_6, h_r_6, hm⟩ := ob hm
        refine Op_call [] 90 _ mo_go29 (by kernel_rfl) (c_mac_Ring_Drop (F := N0) (O := N0) _ (Cx.refl _) _ h_r_6) ?_
        rintro e_ w_6 ⟨rfl, k_14⟩
        have k_15 := k_9.call k_14
        refine ⟨I 7, rfl, ?_⟩
        refine WL_nil ?_
        exact At_c ⟨hm, rfl, k_15⟩ (by kernel_rfl)
       rintro L_ w_7 ⟨hm, rfl, k_16⟩
       simp only [m_l06_MacOthers_j2] at hm
       refine W_reg ?_
       obtain ⟨x_5, h_x_5, hm⟩ := ob hm
       obtain ⟨⟨q10, q11, ⟨B10, n13, c13⟩, ⟨B11, n14, c14⟩⟩, hy5, hg5⟩ := h_script.at h_x_5
       simp only [RP, RQ, RH] at hg5; obtain ⟨rfl, rfl, ⟨rfl, hle10, hro10⟩, ⟨rfl, hle11, hro11⟩⟩ := hg5
       refine WLs 6 [] (.n 91 (sl A data.length c) (.n 96 (sl B11 x_5.2.2.2.length c14) .a)) (qJ (E := (eP eI (eP eS (eP eH eH)))) (h_script.ro.cx k_16) hy5 h_script.len <| qS (A := ixA A_script i 4) (ixA_some _ _ (E_ix (E := (eP eI (eP eS (eP eH eH)))) (h_script.ro.cx k_16) (by decide) (geti_lt hy5).1 (geti_some hy5).2)) <| qC (sl B11 x_5.2.2.2.length c14) (Rd.el (k := 3) (h_script.ro.cx k_16) hy5 (Pt.fa2 (Pt.ix1 A_script i 4) 3) rfl) <| qe) (by kernel_rfl) ?_
       refine WL_op ?_
       obtain ⟨data3, h_data3, hm⟩ := ob hm
       obtain ⟨hz, hl⟩ := app_some h_data3
       refine Op_append (E := e8) (v := sl B11 x_5.2.2.2.length c14) (ys := x_5.2.2.2) mo_tf22 [] 97 0 (by kernel_rfl) k_16 rfl (Src.sl (hro11.cx k_16) rfl (by rfl)) rfl (by have := k_16.len 0 rfl; have := hm; omega) ?_
       intro A3 c15 w_8 k_17
       rw [← hl] at k_17
       refine WLs 1 [] (.n 10 (sl A3 (data.length + x_5.2.2.2.length) c15) (.sss (.kkkk (.k (.s .a))))) qe (by kernel_rfl) ?_
       refine WL_nil <| At_in ?_
       exact At_c ⟨data3, A3, data.length + x_5.2.2.2.length, c15, hm, rfl, k_17.len 0 rfl, k_17⟩ (by kernel_rfl)
      rintro L_ w_9 ⟨data2, A2, _, c2, hm, rfl, rfl, k_18⟩
      simp only [m_l06_MacOthers_j1] at hm
      exact At_c ⟨data2, A2, data2.length, c2, hm, rfl, k_18.len 0 rfl, k_18⟩ (by kernel_rfl)
     rintro L_ w_10 ⟨data1, A1, _, c1, hm, rfl, rfl, k_19⟩
     simp only [m_l06_MacOthers_j0] at hm
     refine W_q [] (.n 11 (I (w64 (i + 1))) (.kkkk (.kk .z))) qe (by kernel_rfl) ?_
     exact At_rd (data1, w64 (i + 1)) (Option.some.inj hm).symm ⟨data1, w64 (i + 1), A1, data1.length, c1, rfl, rfl, k_19.len 0 rfl, k_19⟩ (by kernel_rfl)
   rw [if_neg hc4] at hm
   refine W_exit (At_te (At_te (At_ie ?_)))
   have hm := exit_of hm hr0
   refine At_go <| W_seq <| W_reg <| WLs 2 [] (.n 99 (.v (.pointer none)) (.n 100 (sl A data.length c) (.ss (.kkkk (.k .z))))) qe (by kernel_rfl) ?_
   refine WL_op ?_
   obtain ⟨r_7, h_r_7, hm⟩ := ob hm
   refine Op_call [] 101 _ mo_go26 (by kernel_rfl) (c_mac_Ring_Tag (F := N0) (O := N0) _ _ _ _ _ (Ro.n0 (k_9.rd 0 rfl)) (k_9.len 0 rfl) (k_9.lec 0 rfl) (Cx.refl _) _ h_r_7) ?_
   rintro e_ w_11 ⟨A4, _, c16, rfl, rfl, k_20⟩
   have k_21 := k_9.call k_20
   refine ⟨.tup [sl A4 r_7.length c16, I 7], rfl, ?_⟩
   refine WLs 5 [] (.n 9 (I 7) (.n 12 (sl A4 r_7.length c16) (.sss .a))) qe (by kernel_rfl) ?_
   refine WL_nil <| At_go <| W_seq <| W_reg <| WLs 4 [] (.n 105 (I w_K) (.n 106 (I w_N) (.n 107 (sl A_w_Key w_Key.length c_w_Key) (.n 108 (sl A data.length c) (.kk (.sss .a)))))) qe (by kernel_rfl) ?_
   refine WL_op ?_
   obtain ⟨r_8, h_r_8, hm⟩ := ob hm
   refine Op_call [] 109 _ mo_go23 (by kernel_rfl) (c_mac_Make (F := N0) (O := N0) _ _ _ _ _ _ _ _ _ _ _ _ _ _ _ _ _ _ (Ro.n0 (h_w_Key.cx k_21)) rfl hc_w_Key (Ro.nilE e8) rfl (Nat.le_refl 0) (Ro.nilE e8) rfl (Nat.le_refl 0) (Ro.n0 (k_21.rd 0 rfl)) (k_21.len 0 rfl) (k_21.lec 0 rfl) (Cx.refl _) _ h_r_8) ?_
   rintro e_ w_12 ⟨A5, _, c17, rfl, rfl, k_22⟩
   have k_23 := k_21.call k_22
   refine ⟨.tup [sl A5 r_8.1.length c17, I r_8.2], rfl, ?_⟩
   refine WLs 5 [] (.n 13 (sl A5 r_8.1.length c17) (.n 14 (I r_8.2) (.ssss (.s .a)))) qe (by kernel_rfl) ?_
   refine WL_nil <| At_go <| W_seq <| W_reg <| WLs 3 [] (.n 113 (.v (.pointer none)) (.n 114 (sl A4 r_7.length c16) (.n 115 (sl A data.length c) .a))) qe (by kernel_rfl) ?_
   refine WL_op ?_
   obtain ⟨r_9, h_r_9, hm⟩ := ob hm
   refine Op_call [] 116 _ mo_go27 (by kernel_rfl) (c_mac_Ring_Who (F := N0) (O := N0) _ _ _ _ _ _ _ _ (Ro.n0 (k_23.rd 1 rfl)) (k_23.len 1 rfl) (k_23.lec 1 rfl) (Ro.n0 (k_23.rd 0 rfl)) (k_23.len 0 rfl) (k_23.lec 0 rfl) (Cx.refl _) _ h_r_9) ?_
   rintro e_ w_13 ⟨rfl, k_24⟩
   have k_25 := k_23.call k_24
   refine ⟨.tup [.s ([] : List UInt8), .b false, I 7], rfl, ?_⟩
   refine WLs 7 [] (.n 15 (.s ([] : List UInt8)) (.n 16 (.b false) (.n 17 (I 7) (.ssss .a)))) qe (by kernel_rfl) ?_
   refine WL_nil <| At_go <| W_seq <| W_seq <| W_reg <| WLs 15 [] (.n 134 (.b ((((decide (7 ≠ 0)) || (decide (r_8.2 ≠ 0))) || (decide (7 ≠ 0))) || true)) (.k (.ss (.k (.ss .a))))) qe (by kernel_rfl) ?_
   refine WL_sp 134 ((((decide (7 ≠ 0)) || (decide (r_8.2 ≠ 0))) || (decide (7 ≠ 0))) || true) (.s .a) (by kernel_rfl) (fun hg6 => ?_) (fun hg6 => ?_)
   · rw [if_pos hg6] at hm
     refine WLs 5 [134] (.n 139 (.b true) (.s (.k (.s .a)))) qe (by kernel_rfl) ?_
     refine WL_nil <| At_go <| W_cond true (by kernel_rfl) (fun _ => ?_) (fun h => by cases h)
     refine W_seq <| W_q [] (.n 4 (.b false) .z) qe (by kernel_rfl) ?_
     refine At_go <| W_ret (At_tr ?_)
     obtain rfl := Option.some.inj hm
     refine At_rt [.b false] qe (by kernel_rfl) ?_
     have k_26 := k_25.sel .z
     exact ⟨rfl, k_26⟩
   · rw [if_neg (by rw [hg6]; decide)] at hm
     refine WLs 2 [134] (.n 135 (sl A4 r_7.length c16) (.n 136 (sl A5 r_8.1.length c17) (.kk (.s .a)))) qe (by kernel_rfl) ?_
     refine WL_op ?_
     obtain ⟨r_10, h_r_10, hm⟩ := ob hm
     refine Op_call [134] 137 _ mo_go13 (by kernel_rfl) (c_l06_same (F := N0) (O := N0) _ _ _ _ _ _ _ _ (Ro.n0 (k_25.rd 1 rfl)) (k_25.len 1 rfl) (k_25.lec 1 rfl) (Ro.n0 (k_25.rd 2 rfl)) (k_25.len 2 rfl) (k_25.lec 2 rfl) (Cx.refl _) _ h_r_10) ?_
     rintro e_ w_14 ⟨rfl, k_27⟩
     have k_28 := k_25.call k_27
     refine ⟨.b r_10, rfl, ?_⟩
     have k_29 := k_28.sel (.kk .z)
     refine WLs 2 [134] (.n 139 (.b (!r_10)) (.ssss .a)) qe (by kernel_rfl) ?_
     refine WL_nil <| At_go <| W_cond (!r_10) (by kernel_rfl) (fun hc7 => ?_) (fun hc7 => ?_)
     · rw [if_pos hc7] at hm
       refine W_seq <| W_q [] (.n 4 (.b false) .z) qe (by kernel_rfl) ?_
       refine At_go <| W_ret (At_tr ?_)
       obtain rfl := Option.some.inj hm
       refine At_rt [.b false] qe (by kernel_rfl) ?_
       have k_30 := k_29.sel .z
       exact ⟨rfl, k_30⟩
     rw [if_neg (by rw [hc7]; decide)] at hm
     refine W_skip <| At_go <| W_seq <| W_reg <| WLs 3 [] (.n 141 (.v (.pointer none)) (.n 142 (.s ([] : List UInt8)) (.n 143 (sl A data.length c) (.s (.kk .z))))) qe (by kernel_rfl) ?_
     refine WL_op ?_
     have k_31 := k_29.sel (.kk .e)
     obtain ⟨r_11, h_r_11, hm⟩ := ob hm
     refine Op_call [] 144 _ mo_go26 (by kernel_rfl) (c_mac_Ring_Tag (F := N0) (O := N0) _ _ _ _ _ (Ro.n0 (k_31.rd 0 rfl)) (k_31.len 0 rfl) (k_31.lec 0 rfl) (Cx.refl _) _ h_r_11) ?_
     rintro e_ w_15 ⟨A6, _, c18, rfl, rfl, k_32⟩
     have k_33 := k_31.call k_32
     refine ⟨.tup [sl A6 r_11.length c18, I 7], rfl, ?_⟩
     have k_34 := k_33.sel (.s (.kk .e))
     refine WLs 5 [] (.n 9 (I 7) (.n 18 (sl A6 r_11.length c18) (.ssss .a))) qe (by kernel_rfl) ?_
     refine WL_nil <| At_go <| W_seq <| W_reg <| WLs 3 [] (.n 149 (.b (decide (7 = 0))) (.s .a)) qe (by kernel_rfl) ?_
     refine WL_sp 149 (decide (7 = 0)) (.s .a) (by kernel_rfl) (fun hg7 => ?_) (fun hg7 => ?_)
     · rw [if_pos (of_decide_eq_true hg7)] at hm
       refine WLs 2 [149] (.n 150 (sl A4 r_7.length c16) (.n 151 (sl A6 r_11.length c18) (.k (.s (.k .z))))) qe (by kernel_rfl) ?_
       refine WL_op ?_
       obtain ⟨r_12, h_r_12, hm⟩ := ob hm
       refine Op_call [149] 152 _ mo_go13 (by kernel_rfl) (c_l06_same (F := N0) (O := N0) _ _ _ _ _ _ _ _ (Ro.n0 (k_34.rd 0 rfl)) (k_34.len 0 rfl) (k_34.lec 0 rfl) (Ro.n0 (k_34.rd 1 rfl)) (k_34.len 1 rfl) (k_34.lec 1 rfl) (Cx.refl _) _ h_r_12) ?_
       rintro e_ w_16 ⟨rfl, k_35⟩
       have k_36 := k_34.call k_35
       refine ⟨.b r_12, rfl, ?_⟩
       have k_37 := k_36.sel .z
       refine WLs 6 [149] (.n 4 (.b (r_12 && (Op.bytesLess ([] : List UInt8) ([111, 119, 110] : List UInt8) || decide (([] : List UInt8) = ([111, 119, 110] : List UInt8))))) .z) qe (by kernel_rfl) ?_
       refine WL_nil <| At_go <| W_ret ?_
       obtain rfl := Option.some.inj hm
       refine At_rt [.b (r_12 && (Op.bytesLess ([] : List UInt8) ([111, 119, 110] : List UInt8) || decide (([] : List UInt8) = ([111, 119, 110] : List UInt8))))] qe (by kernel_rfl) ?_
       exact ⟨rfl, k_37⟩
     · rw [if_neg (of_decide_eq_false hg7)] at hm
       refine WLs 9 [149, 154] (.n 4 (.b false) .z) qe (by kernel_rfl) ?_
       refine WL_nil <| At_go <| W_ret ?_
       obtain rfl := Option.some.inj hm
       refine At_rt [.b false] qe (by kernel_rfl) ?_
       have k_38 := k_34.sel .z
       exact ⟨rfl, k_38⟩
 · simp only [Sum.elim_inl, Sum.elim_inr] at hm
   rintro e_ w_17 ⟨g1, hd, b, rfl, k_39⟩
   have k_40 := k_4.call k_39
   refine ⟨.tup [pt g1 0, I 0], rfl, ?_⟩
   refine WLs 5 [] (.n 8 (pt g1 0) (.n 9 (I 0) (.sss .a))) qe (by kernel_rfl) ?_
   refine WL_nil <| At_go <| W_seq <| W_seq <| W_q [] (.n 34 (.b (decide (0 ≠ 0))) (.k (.s .a))) qe (by kernel_rfl) ?_
   refine At_go <| W_condp (0 ≠ 0) (by kernel_rfl) (fun hc8 => ?_) (fun hc8 => ?_)
   · rw [if_pos hc8] at hm
     refine W_seq <| W_q [] (.n 4 (.b false) .z) qe (by kernel_rfl) ?_
     refine At_go <| W_ret (At_tr ?_)
     obtain rfl := Option.some.inj hm
     refine At_rt [.b false] qe (by kernel_rfl) ?_
     have k_41 := k_40.sel .z
     exact ⟨rfl, k_41⟩
   rw [if_neg hc8] at hm
   refine W_skip <| At_go <| W_seq <| W_seq <| W_q [] (.n 49 (.b (((decide (((w_Key.length : Nat) : Int) = 0)) || (decide (32 < ((w_Key.length : Nat) : Int)))) || (decide (200 < ((script.length : Nat) : Int))))) (.s .a)) qe (by kernel_rfl) ?_
   refine At_go <| W_cond (((decide (((w_Key.length : Nat) : Int) = 0)) || (decide (32 < ((w_Key.length : Nat) : Int)))) || (decide (200 < ((script.length : Nat) : Int)))) (by kernel_rfl) (fun hc9 => ?_) (fun hc9 => ?_)
   · rw [if_pos hc9] at hm
     refine W_seq <| W_q [] (.n 4 (.b true) .z) qe (by kernel_rfl) ?_
     refine At_go <| W_ret (At_tr ?_)
     obtain rfl := Option.some.inj hm
     refine At_rt [.b true] qe (by kernel_rfl) ?_
     have k_42 := k_40.sel .z
     exact ⟨rfl, k_42⟩
   rw [if_neg (by rw [hc9]; decide)] at hm
   refine W_skip <| At_go <| W_seq <| W_q [] (.n 10 (sl none 0 0) (.s .a)) qe (by kernel_rfl) ?_
   refine At_go <| W_seq <| W_seq <| W_reg <| WLs 2 [] (.n 50 (pt g1 0) (.n 51 (sl A_w_Key w_Key.length c_w_Key) .a)) qe (by kernel_rfl) ?_
   refine WL_op ?_
   obtain ⟨r_13, h_r_13, hm⟩ := ob hm
   obtain ⟨F1, O1, kin, hO, hre, hF, hb⟩ := k_40.go (.i (.i .e))
   refine Op_call [] 52 _ mo_go28 (by kernel_rfl) (c_mac_Ring_Add_m (F := F1) (O := O1) _ _ _ _ _ _ _ _ _ _ _ _ (Ro.of_old h_w_Key k_40 hF) rfl hc_w_Key kin _ h_r_13) ?_
   rintro e_ w_18 ⟨hd1, rfl, k_43⟩
   have k_44 := hb w_18 _ _ k_43 (.c (.c .n))
   refine ⟨I r_13.1, rfl, ?_⟩
   refine WLs 1 [] (.n 53 (.b (decide (r_13.1 ≠ 0))) (.sss .a)) qe (by kernel_rfl) ?_
   refine WL_nil <| At_go <| W_condp (r_13.1 ≠ 0) (by kernel_rfl) (fun hc10 => ?_) (fun hc10 => ?_)
   · rw [if_pos hc10] at hm
     refine W_seq <| W_q [] (.n 4 (.b false) .z) qe (by kernel_rfl) ?_
     refine At_go <| W_ret (At_tr ?_)
     obtain rfl := Option.some.inj hm
     refine At_rt [.b false] qe (by kernel_rfl) ?_
     have k_45 := k_44.sel .z
     exact ⟨rfl, k_45⟩
   rw [if_neg hc10] at hm
   refine W_skip <| At_go <| W_seq <| W_seq <| W_q [] (.n 11 (I 0) (.s .a)) qe (by kernel_rfl) ?_
   refine At_go <| W_block ?_
   have k_47 := k_44.nil e8
   refine W_lp (m_l06_MacOthers_l1 w_K w_N w_Key script) (fun s L wr => ∃ (a_ : Int) (a_1 : Int) (ks : List (List UInt8)) (xs : List (List UInt8)) (data0 : List UInt8) (i0 : Int) (hd2 : List Hd) (A0 : Option Addr) (n0 : Nat) (c0 : Nat), (a_, a_1, ks, xs, data0, i0) = s ∧ L = [(1, sl A_script script.length c_script), (5, I w_K), (6, I w_N), (7, sl A_w_Key w_Key.length c_w_Key), (8, pt g1 0), (10, sl A0 n0 c0), (11, I i0)] ∧ data0.length = n0 ∧ Cx F O w wr [Bx 60 g1 [I a_, I a_1, .v (.map (some b))], MR e8 b ks hd2 xs, Ow e8 A0 n0 c0 data0]) (r_13.2.1, r_13.2.2.1, r_13.2.2.2.1, r_13.2.2.2.2, ([] : List UInt8), (0 : Int)) r hm ⟨r_13.2.1, r_13.2.2.1, r_13.2.2.2.1, r_13.2.2.2.2, ([] : List UInt8), (0 : Int), hd1, none, 0, 0, rfl, rfl, k_47.len 2 rfl, k_47⟩ (by kernel_rfl) ?_
   intro s0_ L_ w_19 y0 hrel hstep hr0
   obtain ⟨a_, a_1, ks, xs, data0, i0, hd2, A0, _, c0, rfl, rfl, rfl, k_46⟩ := hrel
   have hm := hstep; simp only [m_l06_MacOthers_l1] at hm
   clear hstep
   refine W_seq <| W_seq <| W_q [] (.n 57 (.b (decide (i0 < ((script.length : Nat) : Int)))) .a) qe (by kernel_rfl) ?_
   refine At_go <| W_condp (i0 < ((script.length : Nat) : Int)) (by kernel_rfl) (fun hc11 => ?_) (fun hc11 => ?_)
   · rw [if_pos hc11] at hm
     refine W_skip <| At_go <| W_cut (fun L wr => ∃ (a_2 : Int) (a_3 : Int) (ks1 : List (List UInt8)) (xs1 : List (List UInt8)) (data4 : List UInt8) (hd3 : List Hd) (A7 : Option Addr) (n15 : Nat) (c19 : Nat), m_l06_MacOthers_j3 i0 a_2 a_3 ks1 xs1 data4 = some y0 ∧ L = [(1, sl A_script script.length c_script), (5, I w_K), (6, I w_N), (7, sl A_w_Key w_Key.length c_w_Key), (8, pt g1 0), (10, sl A7 n15 c19), (11, I i0)] ∧ data4.length = n15 ∧ Cx F O w wr [Bx 60 g1 [I a_2, I a_3, .v (.map (some b))], MR e8 b ks1 hd3 xs1, Ow e8 A7 n15 c19 data4]) ?_ ?_
     ·
      refine W_cutb (fun L wr => ∃ (a_4 : Int) (a_5 : Int) (ks2 : List (List UInt8)) (xs2 : List (List UInt8)) (data5 : List UInt8) (hd4 : List Hd) (A8 : Option Addr) (n16 : Nat) (c20 : Nat), m_l06_MacOthers_j4 i0 a_4 a_5 ks2 xs2 data5 = some y0 ∧ L = [(1, sl A_script script.length c_script), (5, I w_K), (6, I w_N), (7, sl A_w_Key w_Key.length c_w_Key), (8, pt g1 0), (10, sl A8 n16 c20), (11, I i0)] ∧ data5.length = n16 ∧ Cx F O w wr [Bx 60 g1 [I a_4, I a_5, .v (.map (some b))], MR e8 b ks2 hd4 xs2, Ow e8 A8 n16 c20 data5]) ?_ ?_
      ·
       refine W_seq <| W_seq ?_
       obtain ⟨x_6, h_x_6, hm⟩ := ob hm
       obtain ⟨⟨q0, q12, ⟨B0, n17, c21⟩, ⟨B12, n18, c22⟩⟩, hy0, hg0⟩ := h_script.at h_x_6
       simp only [RP, RQ, RH] at hg0; obtain ⟨rfl, rfl, ⟨rfl, hle0, hro0⟩, ⟨rfl, hle12, hro12⟩⟩ := hg0
       refine W_q [] (.n 65 (.b (decide (x_6.2.1 = ([111, 119, 110] : List UInt8)))) (.s .a)) (qJ (E := (eP eI (eP eS (eP eH eH)))) (h_script.ro.cx k_46) hy0 h_script.len <| qS (A := ixA A_script i0 4) (ixA_some _ _ (E_ix (E := (eP eI (eP eS (eP eH eH)))) (h_script.ro.cx k_46) (by decide) (geti_lt hy0).1 (geti_some hy0).2)) <| qC (.s x_6.2.1) (Rd.el (k := 1) (h_script.ro.cx k_46) hy0 (Pt.fa2 (Pt.ix1 A_script i0 4) 1) rfl) <| qe) (by kernel_rfl) ?_
       refine At_go <| W_condp (x_6.2.1 = ([111, 119, 110] : List UInt8)) (by kernel_rfl) (fun hc12 => ?_) (fun hc12 => ?_)
       · rw [if_pos hc12] at hm
         refine W_exit (At_te (At_ie ?_))
         exact At_c ⟨a_, a_1, ks, xs, data0, hd2, A0, data0.length, c0, hm, rfl, k_46.len 2 rfl, k_46⟩ (by kernel_rfl)
       rw [if_neg hc12] at hm
       refine W_skip <| At_go <| W_cut (fun L wr => ∃ (a_6 : Int) (a_7 : Int) (ks3 : List (List UInt8)) (xs3 : List (List UInt8)) (hd5 : List Hd), m_l06_MacOthers_j5 script data0 i0 a_6 a_7 ks3 xs3 = some y0 ∧ L = [(1, sl A_script script.length c_script), (5, I w_K), (6, I w_N), (7, sl A_w_Key w_Key.length c_w_Key), (8, pt g1 0), (10, sl A0 data0.length c0), (11, I i0)] ∧ Cx F O w wr [Bx 60 g1 [I a_6, I a_7, .v (.map (some b))], MR e8 b ks3 hd5 xs3, Ow e8 A0 data0.length c0 data0]) ?_ ?_
       ·
        refine W_seq ?_
        obtain ⟨x_7, h_x_7, hm⟩ := ob hm
        obtain ⟨⟨q13, q14, ⟨B13, n19, c23⟩, ⟨B14, n20, c24⟩⟩, hy6, hg8⟩ := h_script.at h_x_7
        simp only [RP, RQ, RH] at hg8; obtain ⟨rfl, rfl, ⟨rfl, hle13, hro13⟩, ⟨rfl, hle14, hro14⟩⟩ := hg8
        refine W_q [] (.n 71 (.b (decide (x_7.1 = 0))) (.s .a)) (qJ (E := (eP eI (eP eS (eP eH eH)))) (h_script.ro.cx k_46) hy6 h_script.len <| qS (A := ixA A_script i0 4) (ixA_some _ _ (E_ix (E := (eP eI (eP eS (eP eH eH)))) (h_script.ro.cx k_46) (by decide) (geti_lt hy6).1 (geti_some hy6).2)) <| qC (I x_7.1) (Rd.el (k := 0) (h_script.ro.cx k_46) hy6 (Pt.fa2 (Pt.ix1 A_script i0 4) 0) rfl) <| qe) (by kernel_rfl) ?_
        refine At_go <| W_condp (x_7.1 = 0) (by kernel_rfl) (fun hc13 => ?_) (fun hc13 => ?_)
        · rw [if_pos hc13] at hm
          have k_48 := k_46.drew 1
          refine W_m mo_mixed (.q 0 0 (.q 1 1 (.q 2 1 (.q 3 1 (.q 4 1 (.q 5 0 (.q 6 1 (.q 7 1 (.q 8 1 (.q 9 1 (.q 10 0 (.op 11 .nil)))))))))))) [11] k_48 (.c (.ss (.k .e)) .l) (by kernel_rfl) (fun _ => ?_)
          refine MXq 1 0 [] (.n 72 (pt g1 0) (.s .a)) (fun x hx => qe) (by kernel_rfl) (fun _ => ?_)
          obtain ⟨x_8, h_x_8, hm⟩ := ob hm
          obtain ⟨⟨q15, q16, ⟨B15, n21, c25⟩, ⟨B16, n22, c26⟩⟩, hy7, hg9⟩ := h_script.at h_x_8
          simp only [RP, RQ, RH] at hg9; obtain ⟨rfl, rfl, ⟨rfl, hle15, hro15⟩, ⟨rfl, hle16, hro16⟩⟩ := hg9
          refine MXq 4 1 [] (.n 76 (.v (.pointer (fa (ixA A_script i0 4) 1))) .a) (fun x hx => qJ (E := (eP eI (eP eS (eP eH eH)))) (h_script.ro.cx hx) hy7 h_script.len <| qS (A := ixA A_script i0 4) (ixA_some _ _ (E_ix (E := (eP eI (eP eS (eP eH eH)))) (h_script.ro.cx hx) (by decide) (geti_lt hy7).1 (geti_some hy7).2)) <| qe) (by kernel_rfl) (fun _ => ?_)
          refine MXq 1 0 [] (.n 77 (.s x_8.2.1) (.s .a)) (fun x hx => qC (.s x_8.2.1) (Rd.el (k := 1) (h_script.ro.cx hx) hy7 (Pt.fa2 (Pt.ix1 A_script i0 4) 1) rfl) <| qe) (by kernel_rfl) (fun _ => ?_)
          obtain ⟨x_9, h_x_9, hm⟩ := ob hm
          obtain ⟨⟨q17, q18, ⟨B17, n23, c27⟩, ⟨B18, n24, c28⟩⟩, hy8, hg10⟩ := h_script.at h_x_9
          simp only [RP, RQ, RH] at hg10; obtain ⟨rfl, rfl, ⟨rfl, hle17, hro17⟩, ⟨rfl, hle18, hro18⟩⟩ := hg10
          refine MXq 4 1 [] (.n 81 (.v (.pointer (fa (ixA A_script i0 4) 2))) .a) (fun x hx => qJ (E := (eP eI (eP eS (eP eH eH)))) (h_script.ro.cx hx) hy8 h_script.len <| qS (A := ixA A_script i0 4) (ixA_some _ _ (E_ix (E := (eP eI (eP eS (eP eH eH)))) (h_script.ro.cx hx) (by decide) (geti_lt hy8).1 (geti_some hy8).2)) <| qe) (by kernel_rfl) (fun _ => ?_)
          refine MXq 1 0 [] (.n 82 (sl B17 x_9.2.2.1.length c27) (.s .a)) (fun x hx => qC (sl B17 x_9.2.2.1.length c27) (Rd.el (k := 2) (h_script.ro.cx hx) hy8 (Pt.fa2 (Pt.ix1 A_script i0 4) 2) rfl) <| qe) (by kernel_rfl) (fun _ => ?_)
          refine MX_op (by kernel_rfl) rfl ?_
          obtain ⟨r_14, h_r_14, hm⟩ := ob hm
          obtain ⟨F11, O11, kin1, hO1, hre1, hF1, hb1⟩ := k_48.go (.i (.i (.r .e)))
          refine Op_call [] 83 _ mo_go28 (by kernel_rfl) (c_mac_Ring_Add_m (F := F11) (O := O11) _ _ _ _ _ _ _ _ _ _ _ _ (Ro.of_old hro17 k_48 hF1) rfl hle17 kin1 _ h_r_14) ?_
          rintro e_ w_20 ⟨hd6, rfl, k_49⟩
          have k_50 := hb1 w_20 _ _ k_49 (.c (.c .n))
          refine ⟨I r_14.1, rfl, ?_⟩
          refine ⟨(k_50.sel (.ss (.k .e))), fun _ => ?_⟩
          refine MX_nil ?_
          exact At_c ⟨r_14.2.1, r_14.2.2.1, r_14.2.2.2.1, r_14.2.2.2.2, hd6, hm, rfl, k_50⟩ (by kernel_rfl)
        rw [if_neg hc13] at hm
        refine W_reg ?_
        obtain ⟨x_10, h_x_10, hm⟩ := ob hm
        obtain ⟨⟨q19, q20, ⟨B19, n25, c29⟩, ⟨B20, n26, c30⟩⟩, hy9, hg11⟩ := h_script.at h_x_10
        simp only [RP, RQ, RH] at hg11; obtain ⟨rfl, rfl, ⟨rfl, hle19, hro19⟩, ⟨rfl, hle20, hro20⟩⟩ := hg11
        refine WLs 6 [] (.n 84 (pt g1 0) (.n 89 (.s x_10.2.1) (.s .a))) (qJ (E := (eP eI (eP eS (eP eH eH)))) (h_script.ro.cx k_46) hy9 h_script.len <| qS (A := ixA A_script i0 4) (ixA_some _ _ (E_ix (E := (eP eI (eP eS (eP eH eH)))) (h_script.ro.cx k_46) (by decide) (geti_lt hy9).1 (geti_some hy9).2)) <| qC (.s x_10.2.1) (Rd.el (k := 1) (h_script.ro.cx k_46) hy9 (Pt.fa2 (Pt.ix1 A_script i0 4) 1) rfl) <| qe) (by kernel_rfl) ?_
        refine WL_op ?_
        obtain ⟨r_15, h_r_15, hm⟩ := ob hm
        obtain ⟨F12, O12, kin2, hO2, hre2, hF2, hb2⟩ := k_46.go (.i (.i (.r .e)))
        refine Op_call [] 90 _ mo_go29 (by kernel_rfl) (c_mac_Ring_Drop_m (F := F12) (O := O12) _ _ _ _ _ _ _ _ kin2 _ h_r_15) ?_
        rintro e_ w_21 ⟨hd7, rfl, k_51⟩
        have k_52 := hb2 w_21 _ _ k_51 (.c (.c .n))
        refine ⟨I r_15.1, rfl, ?_⟩
        refine WL_nil ?_
        exact At_c ⟨r_15.2.1, r_15.2.2.1, r_15.2.2.2.1, r_15.2.2.2.2, hd7, hm, rfl, k_52⟩ (by kernel_rfl)
       rintro L_ w_22 ⟨a_6, a_7, ks3, xs3, hd5, hm, rfl, k_53⟩
       simp only [m_l06_MacOthers_j5] at hm
       refine W_reg ?_
       obtain ⟨x_11, h_x_11, hm⟩ := ob hm
       obtain ⟨⟨q21, q22, ⟨B21, n27, c31⟩, ⟨B22, n28, c32⟩⟩, hy10, hg12⟩ := h_script.at h_x_11
       simp only [RP, RQ, RH] at hg12; obtain ⟨rfl, rfl, ⟨rfl, hle21, hro21⟩, ⟨rfl, hle22, hro22⟩⟩ := hg12
       refine WLs 6 [] (.n 91 (sl A0 data0.length c0) (.n 96 (sl B22 x_11.2.2.2.length c32) .a)) (qJ (E := (eP eI (eP eS (eP eH eH)))) (h_script.ro.cx k_53) hy10 h_script.len <| qS (A := ixA A_script i0 4) (ixA_some _ _ (E_ix (E := (eP eI (eP eS (eP eH eH)))) (h_script.ro.cx k_53) (by decide) (geti_lt hy10).1 (geti_some hy10).2)) <| qC (sl B22 x_11.2.2.2.length c32) (Rd.el (k := 3) (h_script.ro.cx k_53) hy10 (Pt.fa2 (Pt.ix1 A_script i0 4) 3) rfl) <| qe) (by kernel_rfl) ?_
       refine WL_op ?_
       obtain ⟨data6, h_data6, hm⟩ := ob hm
       obtain ⟨hz0, hl0⟩ := app_some h_data6
       refine Op_append (E := e8) (v := sl B22 x_11.2.2.2.length c32) (ys := x_11.2.2.2) mo_tf22 [] 97 2 (by kernel_rfl) k_53 rfl (Src.sl (hro22.cx k_53) rfl (by rfl)) rfl (by have := k_53.len 2 rfl; have := hm; omega) ?_
       intro A9 c33 w_23 k_54
       rw [← hl0] at k_54
       refine WLs 1 [] (.n 10 (sl A9 (data0.length + x_11.2.2.2.length) c33) (.sss (.kkkk (.k (.s .a))))) qe (by kernel_rfl) ?_
       refine WL_nil <| At_in ?_
       exact At_c ⟨a_6, a_7, ks3, xs3, data6, hd5, A9, data0.length + x_11.2.2.2.length, c33, hm, rfl, k_54.len 2 rfl, k_54⟩ (by kernel_rfl)
      rintro L_ w_24 ⟨a_4, a_5, ks2, xs2, data5, hd4, A8, _, c20, hm, rfl, rfl, k_55⟩
      simp only [m_l06_MacOthers_j4] at hm
      exact At_c ⟨a_4, a_5, ks2, xs2, data5, hd4, A8, data5.length, c20, hm, rfl, k_55.len 2 rfl, k_55⟩ (by kernel_rfl)
     rintro L_ w_25 ⟨a_2, a_3, ks1, xs1, data4, hd3, A7, _, c19, hm, rfl, rfl, k_56⟩
     simp only [m_l06_MacOthers_j3] at hm
     refine W_q [] (.n 11 (I (w64 (i0 + 1))) (.kkkk (.kk .z))) qe (by kernel_rfl) ?_
     exact At_rd (a_2, a_3, ks1, xs1, data4, w64 (i0 + 1)) (Option.some.inj hm).symm ⟨a_2, a_3, ks1, xs1, data4, w64 (i0 + 1), hd3, A7, data4.length, c19, rfl, rfl, k_56.len 2 rfl, k_56⟩ (by kernel_rfl)
   rw [if_neg hc11] at hm
   refine W_exit (At_te (At_te (At_ie ?_)))
   have hm := exit_of hm hr0
   refine At_go <| W_seq <| W_reg <| WLs 2 [] (.n 99 (pt g1 0) (.n 100 (sl A0 data0.length c0) (.ss (.kkkk (.k .z))))) qe (by kernel_rfl) ?_
   refine WL_op ?_
   obtain ⟨r_16, h_r_16, hm⟩ := ob hm
   obtain ⟨F13, O13, kin3, hO3, hre3, hF3, hb3⟩ := k_46.go (.i (.i (.r .e)))
   refine Op_call [] 101 _ mo_go26 (by kernel_rfl) (c_mac_Ring_Tag_m (F := F13) (O := O13) _ _ _ _ _ _ _ _ _ _ _ _ (Ro.of_rest hre3 0 rfl) (k_46.len 2 rfl) (k_46.lec 2 rfl) kin3 _ h_r_16) ?_
   rintro e_ w_26 ⟨A10, _, c34, hd8, rfl, rfl, k_57⟩
   have k_58 := hb3 w_26 _ _ k_57 (.c (.c (.c .n)))
   refine ⟨.tup [sl A10 r_16.1.length c34, I r_16.2.1], rfl, ?_⟩
   refine WLs 5 [] (.n 9 (I r_16.2.1) (.n 12 (sl A10 r_16.1.length c34) (.sss .a))) qe (by kernel_rfl) ?_
   refine WL_nil <| At_go <| W_seq <| W_reg <| WLs 4 [] (.n 105 (I w_K) (.n 106 (I w_N) (.n 107 (sl A_w_Key w_Key.length c_w_Key) (.n 108 (sl A0 data0.length c0) (.kk (.sss .a)))))) qe (by kernel_rfl) ?_
   refine WL_op ?_
   obtain ⟨r_17, h_r_17, hm⟩ := ob hm
   refine Op_call [] 109 _ mo_go23 (by kernel_rfl) (c_mac_Make (F := N0) (O := N0) _ _ _ _ _ _ _ _ _ _ _ _ _ _ _ _ _ _ (Ro.n0 (h_w_Key.cx k_58)) rfl hc_w_Key (Ro.nilE e8) rfl (Nat.le_refl 0) (Ro.nilE e8) rfl (Nat.le_refl 0) (Ro.n0 (k_58.rd 3 rfl)) (k_58.len 3 rfl) (k_58.lec 3 rfl) (Cx.refl _) _ h_r_17) ?_
   rintro e_ w_27 ⟨A11, _, c35, rfl, rfl, k_59⟩
   have k_60 := k_58.call k_59
   refine ⟨.tup [sl A11 r_17.1.length c35, I r_17.2], rfl, ?_⟩
   refine WLs 5 [] (.n 13 (sl A11 r_17.1.length c35) (.n 14 (I r_17.2) (.ssss (.s .a)))) qe (by kernel_rfl) ?_
   refine WL_nil <| At_go <| W_seq <| W_reg <| WLs 3 [] (.n 113 (pt g1 0) (.n 114 (sl A10 r_16.1.length c34) (.n 115 (sl A0 data0.length c0) .a))) qe (by kernel_rfl) ?_
   refine WL_op ?_
   obtain ⟨r_18, h_r_18, hm⟩ := ob hm
   obtain ⟨F14, O14, kin4, hO4, hre4, hF4, hb4⟩ := k_60.go (.r (.i (.i (.r (.r .e)))))
   refine Op_call [] 116 _ mo_go27 (by kernel_rfl) (c_mac_Ring_Who_m (F := F14) (O := O14) _ _ _ _ _ _ _ _ _ _ _ _ _ _ _ (Ro.of_rest hre4 0 rfl) (k_60.len 0 rfl) (k_60.lec 0 rfl) (Ro.of_rest hre4 1 rfl) (k_60.len 3 rfl) (k_60.lec 3 rfl) kin4 _ h_r_18) ?_
   rintro e_ w_28 ⟨hd9, rfl, k_61⟩
   have k_62 := hb4 w_28 _ _ k_61 (.c (.c .n))
   refine ⟨.tup [.s r_18.1, .b r_18.2.1, I r_18.2.2.1], rfl, ?_⟩
   refine WLs 7 [] (.n 15 (.s r_18.1) (.n 16 (.b r_18.2.1) (.n 17 (I r_18.2.2.1) (.ssss .a)))) qe (by kernel_rfl) ?_
   refine WL_nil <| At_go <| W_seq <| W_seq <| W_reg <| WLs 15 [] (.n 134 (.b ((((decide (r_16.2.1 ≠ 0)) || (decide (r_17.2 ≠ 0))) || (decide (r_18.2.2.1 ≠ 0))) || (!r_18.2.1))) (.k (.ss (.k (.ss .a))))) qe (by kernel_rfl) ?_
   refine WL_sp 134 ((((decide (r_16.2.1 ≠ 0)) || (decide (r_17.2 ≠ 0))) || (decide (r_18.2.2.1 ≠ 0))) || (!r_18.2.1)) (.s .a) (by kernel_rfl) (fun hg13 => ?_) (fun hg13 => ?_)
   · rw [if_pos hg13] at hm
     refine WLs 5 [134] (.n 139 (.b true) (.s (.k (.s .a)))) qe (by kernel_rfl) ?_
     refine WL_nil <| At_go <| W_cond true (by kernel_rfl) (fun _ => ?_) (fun h => by cases h)
     refine W_seq <| W_q [] (.n 4 (.b false) .z) qe (by kernel_rfl) ?_
     refine At_go <| W_ret (At_tr ?_)
     obtain rfl := Option.some.inj hm
     refine At_rt [.b false] qe (by kernel_rfl) ?_
     have k_63 := k_62.sel .z
     exact ⟨rfl, k_63⟩
   · rw [if_neg (by rw [hg13]; decide)] at hm
     refine WLs 2 [134] (.n 135 (sl A10 r_16.1.length c34) (.n 136 (sl A11 r_17.1.length c35) (.kk (.s .a)))) qe (by kernel_rfl) ?_
     refine WL_op ?_
     obtain ⟨r_19, h_r_19, hm⟩ := ob hm
     refine Op_call [134] 137 _ mo_go13 (by kernel_rfl) (c_l06_same (F := N0) (O := N0) _ _ _ _ _ _ _ _ (Ro.n0 (k_62.rd 2 rfl)) (k_62.len 2 rfl) (k_62.lec 2 rfl) (Ro.n0 (k_62.rd 4 rfl)) (k_62.len 4 rfl) (k_62.lec 4 rfl) (Cx.refl _) _ h_r_19) ?_
     rintro e_ w_29 ⟨rfl, k_64⟩
     have k_65 := k_62.call k_64
     refine ⟨.b r_19, rfl, ?_⟩
     have k_66 := k_65.sel (.kkkk .z)
     refine WLs 2 [134] (.n 139 (.b (!r_19)) (.ssss .a)) qe (by kernel_rfl) ?_
     refine WL_nil <| At_go <| W_cond (!r_19) (by kernel_rfl) (fun hc14 => ?_) (fun hc14 => ?_)
     · rw [if_pos hc14] at hm
       refine W_seq <| W_q [] (.n 4 (.b false) .z) qe (by kernel_rfl) ?_
       refine At_go <| W_ret (At_tr ?_)
       obtain rfl := Option.some.inj hm
       refine At_rt [.b false] qe (by kernel_rfl) ?_
       have k_67 := k_66.sel .z
       exact ⟨rfl, k_67⟩
     rw [if_neg (by rw [hc14]; decide)] at hm
     refine W_skip <| At_go <| W_seq <| W_reg <| WLs 3 [] (.n 141 (pt g1 0) (.n 142 (.s r_18.1) (.n 143 (sl A0 data0.length c0) (.s (.kk .z))))) qe (by kernel_rfl) ?_
     refine WL_op ?_
     have k_68 := k_66.sel (.kkkk .e)
     obtain ⟨r_20, h_r_20, hm⟩ := ob hm
     obtain ⟨F15, O15, kin5, hO5, hre5, hF5, hb5⟩ := k_68.go (.i (.i (.r (.r .e))))
     refine Op_call [] 144 _ mo_go26 (by kernel_rfl) (c_mac_Ring_Tag_m (F := F15) (O := O15) _ _ _ _ _ _ _ _ _ _ _ _ (Ro.of_rest hre5 1 rfl) (k_68.len 3 rfl) (k_68.lec 3 rfl) kin5 _ h_r_20) ?_
     rintro e_ w_30 ⟨A12, _, c36, hd10, rfl, rfl, k_69⟩
     have k_70 := hb5 w_30 _ _ k_69 (.c (.c (.c .n)))
     refine ⟨.tup [sl A12 r_20.1.length c36, I r_20.2.1], rfl, ?_⟩
     have k_71 := k_70.sel (.k (.ss (.k .z)))
     refine WLs 5 [] (.n 9 (I r_20.2.1) (.n 18 (sl A12 r_20.1.length c36) (.ssss .a))) qe (by kernel_rfl) ?_
     refine WL_nil <| At_go <| W_seq <| W_reg <| WLs 3 [] (.n 149 (.b (decide (r_20.2.1 = 0))) (.s .a)) qe (by kernel_rfl) ?_
     refine WL_sp 149 (decide (r_20.2.1 = 0)) (.s .a) (by kernel_rfl) (fun hg14 => ?_) (fun hg14 => ?_)
     · rw [if_pos (of_decide_eq_true hg14)] at hm
       refine WLs 2 [149] (.n 150 (sl A10 r_16.1.length c34) (.n 151 (sl A12 r_20.1.length c36) (.k (.s (.k .z))))) qe (by kernel_rfl) ?_
       refine WL_op ?_
       obtain ⟨r_21, h_r_21, hm⟩ := ob hm
       refine Op_call [149] 152 _ mo_go13 (by kernel_rfl) (c_l06_same (F := N0) (O := N0) _ _ _ _ _ _ _ _ (Ro.n0 (k_71.rd 1 rfl)) (k_71.len 1 rfl) (k_71.lec 1 rfl) (Ro.n0 (k_71.rd 0 rfl)) (k_71.len 0 rfl) (k_71.lec 0 rfl) (Cx.refl _) _ h_r_21) ?_
       rintro e_ w_31 ⟨rfl, k_72⟩
       have k_73 := k_71.call k_72
       refine ⟨.b r_21, rfl, ?_⟩
       have k_74 := k_73.sel .z
       refine WLs 6 [149] (.n 4 (.b (r_21 && (Op.bytesLess r_18.1 ([111, 119, 110] : List UInt8) || decide (r_18.1 = ([111, 119, 110] : List UInt8))))) .z) qe (by kernel_rfl) ?_
       refine WL_nil <| At_go <| W_ret ?_
       obtain rfl := Option.some.inj hm
       refine At_rt [.b (r_21 && (Op.bytesLess r_18.1 ([111, 119, 110] : List UInt8) || decide (r_18.1 = ([111, 119, 110] : List UInt8))))] qe (by kernel_rfl) ?_
       exact ⟨rfl, k_74⟩
     · rw [if_neg (of_decide_eq_false hg14)] at hm
       refine WLs 9 [149, 154] (.n 4 (.b false) .z) qe (by kernel_rfl) ?_
       refine WL_nil <| At_go <| W_ret ?_
       obtain rfl := Option.some.inj hm
       refine At_rt [.b false] qe (by kernel_rfl) ?_
       have k_75 := k_71.sel .z
       exact ⟨rfl, k_75⟩
end Go.Sx
