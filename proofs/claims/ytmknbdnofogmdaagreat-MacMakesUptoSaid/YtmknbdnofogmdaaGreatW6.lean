import Derived.Test.YtmknbdnofogmdaaGreatW5
namespace Go.Sx
open Go.RowKit Go.Proofs
set_option linter.unusedVariables false
set_option linter.unusedSimpArgs false
set_option maxRecDepth 20000

-- (*quern/node.Node).begin
noncomputable def m_node_Node_begin (n_kind : Int) (n_digest : Int) (n_block : List UInt8) (n_key : List UInt8) (n_last : Bool) (n_written : UInt64) : Option ((Int × Int × List UInt8 × List UInt8 × Vec UInt64 8 × UInt64 × UInt64 × List UInt8 × Int) ⊕ (Int × Int × List UInt8 × List UInt8 × Vec UInt32 8 × UInt64 × UInt64 × List UInt8 × Int)) :=
  (m_node_begun n_kind n_block).bind fun r_ => (Sum.elim (fun r_1 => if 0 < ((n_key.length : Nat) : Int) then ((m_node_blockOf n_kind).bind fun r_3 => (m_node_padded n_key r_3).bind fun r_4 => (m_node_half_uint64_write r_1.1 (0 : UInt64) (0 : UInt64) r_1.2 (128 : Int) r_4).bind fun r_5 => some (Sum.inl (n_kind, n_digest, n_block, n_key, r_5.1, r_5.2.1, r_5.2.2.1, r_5.2.2.2.1, r_5.2.2.2.2))) else (some (Sum.inl (n_kind, n_digest, n_block, n_key, r_1.1, (0 : UInt64), (0 : UInt64), r_1.2, (128 : Int))))) (fun r_2 => if 0 < ((n_key.length : Nat) : Int) then ((m_node_blockOf n_kind).bind fun r_6 => (m_node_padded n_key r_6).bind fun r_7 => (m_node_half_uint32_write r_2.1 (0 : UInt64) (0 : UInt64) r_2.2 (64 : Int) r_7).bind fun r_8 => some (Sum.inr (n_kind, n_digest, n_block, n_key, r_8.1, r_8.2.1, r_8.2.2.1, r_8.2.2.2.1, r_8.2.2.2.2))) else (some (Sum.inr (n_kind, n_digest, n_block, n_key, r_2.1, (0 : UInt64), (0 : UInt64), r_2.2, (64 : Int)))))) r_
theorem c_node_Node_begin {F O : Nat → Prop} {w : World} (n_kind : Int) (n_digest : Int) (n_block : List UInt8) (n_key : List UInt8) (n_last : Bool) (n_written : UInt64) (g_n : Nat) (A_n_block : Option Addr) (n_n_block : Nat) (c_n_block : Nat) (A_n_key : Option Addr) (n_n_key : Nat) (c_n_key : Nat) (k : Cx F O w w [Bx 125 g_n [I n_kind, I n_digest, sl A_n_block n_n_block c_n_block, sl A_n_key n_n_key c_n_key, .b n_last, .u64 n_written, .v .nilIface], Ow e8 A_n_block n_n_block c_n_block n_block, Ow e8 A_n_key n_n_key c_n_key n_key]) (r : (Int × Int × List UInt8 × List UInt8 × Vec UInt64 8 × UInt64 × UInt64 × List UInt8 × Int) ⊕ (Int × Int × List UInt8 × List UInt8 × Vec UInt32 8 × UInt64 × UInt64 × List UInt8 × Int)) (hm : m_node_Node_begin n_kind n_digest n_block n_key n_last n_written = some r) :
    Calls Tryz.prog 107 (vals [pt g_n 0]) w (fun e w' => match r with | .inl r0 => ∃ A n c A1 n1 c1 g A2 n2 c2, r0.2.2.1.length = n ∧ r0.2.2.2.1.length = n1 ∧ r0.2.2.2.2.2.2.2.1.length = n2 ∧ e = .returned (SV.val (.tup [])) ∧ Cx F O w w' [Bx 125 g_n [I r0.1, I r0.2.1, sl A n c, sl A1 n1 c1, .b false, .u64 0, .v (.iface 200 (SV.val (pt g 0)))], Ow e8 A n c r0.2.2.1, Ow e8 A1 n1 c1 r0.2.2.2.1, Bx 206 g [.ar e64 r0.2.2.2.2.1, .u64 r0.2.2.2.2.2.1, .u64 r0.2.2.2.2.2.2.1, sl A2 n2 c2, I r0.2.2.2.2.2.2.2.2, .v (.func (.func 132) ⟨SV.vals []⟩ ⟨SV.vals []⟩), .v (.func (.func 133) ⟨SV.vals []⟩ ⟨SV.vals []⟩)], Ow e8 A2 n2 c2 r0.2.2.2.2.2.2.2.1] | .inr r1 => ∃ A3 n3 c3 A4 n4 c4 g1 A5 n5 c5, r1.2.2.1.length = n3 ∧ r1.2.2.2.1.length = n4 ∧ r1.2.2.2.2.2.2.2.1.length = n5 ∧ e = .returned (SV.val (.tup [])) ∧ Cx F O w w' [Bx 125 g_n [I r1.1, I r1.2.1, sl A3 n3 c3, sl A4 n4 c4, .b false, .u64 0, .v (.iface 209 (SV.val (pt g1 0)))], Ow e8 A3 n3 c3 r1.2.2.1, Ow e8 A4 n4 c4 r1.2.2.2.1, Bx 213 g1 [.ar e32 r1.2.2.2.2.1, .u64 r1.2.2.2.2.2.1, .u64 r1.2.2.2.2.2.2.1, sl A5 n5 c5, I r1.2.2.2.2.2.2.2.2, .v (.func (.func 135) ⟨SV.vals []⟩ ⟨SV.vals []⟩), .v (.func (.func 136) ⟨SV.vals []⟩ ⟨SV.vals []⟩)], Ow e8 A5 n5 c5 r1.2.2.2.2.2.2.2.1]) := by
 unfold m_node_Node_begin at hm
 obtain rfl := k.len 1 rfl
 obtain rfl := k.len 2 rfl
 refine calls [pt g_n 0] Tryz.func107 rfl (of_decide_eq_true (by kernel_rfl)) ?_
 refine W_seq ?_
 have k_ := k.drew 1
 refine W_m yz_mixed (.q 0 1 (.q 1 1 (.q 2 1 (.q 3 1 (.q 4 0 (.q 5 1 (.q 6 1 (.q 7 1 (.q 8 0 (.op 9 (.q 10 2 (.q 11 1 (.op 12 .nil))))))))))))) [9, 12] k_ (.c (.kk (.k .e)) (.c (.s (.kk .e)) .l)) (by kernel_rfl) (fun _ => ?_)
 refine MXq 4 1 [] (.n 2 (pt g_n 0) (.n 5 (pt g_n 0) .a)) (fun x hx => qs g_n 0 <| qs g_n 0 <| qe) (by kernel_rfl) (fun _ => ?_)
 refine MXq 1 0 [] (.n 6 (I n_kind) (.k (.s .a))) (fun x hx => qB hx 0 rfl 0 (I n_kind) (by kernel_rfl) <| qe) (by kernel_rfl) (fun _ => ?_)
 refine MXq 3 1 [] (.n 9 (pt g_n 2) .a) (fun x hx => qs g_n 0 <| qs g_n 0 <| qe) (by kernel_rfl) (fun _ => ?_)
 refine MXq 1 0 [] (.n 10 (sl A_n_block n_block.length c_n_block) (.s .a)) (fun x hx => qB hx 0 rfl 2 (sl A_n_block n_block.length c_n_block) (by kernel_rfl) <| qe) (by kernel_rfl) (fun _ => ?_)
 refine MX_op (by kernel_rfl) rfl ?_
 obtain ⟨r_, h_r_, hm⟩ := ob hm
 refine Op_call [] 11 _ yz_go119 (by kernel_rfl) (c_node_begun (F := N0) (O := N0) _ _ _ _ _ (Ro.n0 (k_.rd 1 rfl)) (k_.len 1 rfl) (k_.lec 1 rfl) (Cx.refl _) _ h_r_) ?_
 rcases r_ with r_1 | r_2
 · simp only [Sum.elim_inl, Sum.elim_inr] at hm
   rintro e_ w_ ⟨g0, A0, _, c0, rfl, rfl, k_1⟩
   have k_2 := k_.call k_1
   refine ⟨.v (.iface 200 (SV.val (pt g0 0))), rfl, ?_⟩
   refine ⟨(k_2.sel (.kk (.k .z))), fun _ => ?_⟩
   refine MXq 1 2 [] (.n 12 (pt g_n 0) (.k (.sss .a))) (fun x hx => qs g_n 0 <| qe) (by kernel_rfl) (fun _ => ?_)
   refine MXq 1 1 [] (.n 13 (pt g_n 6) (.s .a)) (fun x hx => qs g_n 0 <| qe) (by kernel_rfl) (fun _ => ?_)
   refine MX_op (by kernel_rfl) rfl <| Op_b [] 0 (.v (.iface 200 (SV.val (pt g0 0)))) [.v (.iface 200 (SV.val (pt g0 0)))] (Pt.at g_n 6) k_2 rfl (.kkkk (.kk .h)) (by kernel_rfl) (by kernel_rfl) ?_
   intro w_1 k_3
   refine ⟨(k_3.sel (.s (.kk .z))), fun _ => ?_⟩
   refine MX_nil <| At_go <| W_seq <| W_reg <| WLs 3 [] (.n 16 (pt g_n 4) (.ss .a)) (qs g_n 0 <| qs g_n 0 <| qe) (by kernel_rfl) ?_
   refine WL_op <| Op_b [] 0 (.b false) [.b false] (Pt.at g_n 4) k_3 rfl (.kkkk .h) (by kernel_rfl) (by kernel_rfl) ?_
   intro w_2 k_4
   refine WL_nil <| At_go <| W_seq <| W_reg <| WLs 3 [] (.n 19 (pt g_n 5) (.s .a)) (qs g_n 0 <| qs g_n 0 <| qe) (by kernel_rfl) ?_
   refine WL_op <| Op_b [] 0 (.u64 0) [.u64 0] (Pt.at g_n 5) k_4 rfl (.kkkk (.k .h)) (by kernel_rfl) (by kernel_rfl) ?_
   intro w_3 k_5
   refine WL_nil <| At_go <| W_seq <| W_q [] (.n 25 (.b (decide (0 < ((n_key.length : Nat) : Int)))) (.s .a)) (qs g_n 0 <| qs g_n 0 <| qB k_5 0 rfl 3 (sl A_n_key n_key.length c_n_key) (by kernel_rfl) <| qe) (by kernel_rfl) ?_
   refine At_go <| W_condp (0 < ((n_key.length : Nat) : Int)) (by kernel_rfl) (fun hc => ?_) (fun hc => ?_)
   · rw [if_pos hc] at hm
     have k_6 := k_5.drew 1
     refine W_m yz_mixed (.q 0 3 (.q 1 3 (.q 2 3 (.q 3 3 (.q 4 3 (.q 5 3 (.q 6 3 (.q 7 2 (.q 8 3 (.q 9 3 (.q 10 3 (.q 11 2 (.q 14 3 (.q 15 2 (.op 12 (.op 13 (.op 16 .nil))))))))))))))))) [12, 13, 16] k_6 (.c (.kkkk (.k .e)) (.c (.kkkk (.k .e)) (.c (.kk (.k .z)) .l))) (by kernel_rfl) (fun _ => ?_)
     refine MXq 7 3 [] (.n 29 (.v (.iface 200 (SV.val (pt g0 0)))) (.n 32 (pt g_n 3) (.s .a))) (fun x hx => qs g_n 0 <| qs g_n 0 <| qB hx 0 rfl 6 (.v (.iface 200 (SV.val (pt g0 0)))) (by kernel_rfl) <| qs g_n 0 <| qs g_n 0 <| qe) (by kernel_rfl) (fun _ => ?_)
     refine MXq 1 2 [] (.n 33 (sl A_n_key n_key.length c_n_key) (.k (.s .a))) (fun x hx => qB hx 0 rfl 3 (sl A_n_key n_key.length c_n_key) (by kernel_rfl) <| qe) (by kernel_rfl) (fun _ => ?_)
     refine MXq 3 3 [] (.n 36 (pt g_n 0) (.kk .z)) (fun x hx => qs g_n 0 <| qs g_n 0 <| qe) (by kernel_rfl) (fun _ => ?_)
     refine MXq 1 2 [] (.n 37 (I n_kind) (.s .a)) (fun x hx => qB hx 0 rfl 0 (I n_kind) (by kernel_rfl) <| qe) (by kernel_rfl) (fun _ => ?_)
     refine MXq 1 3 [] .a (fun x hx => qe) (by kernel_rfl) (fun _ => ?_)
     refine MXq 1 2 [] (.n 41 (.v (.iface 200 (SV.val (pt g0 0)))) (.kk .z)) (fun x hx => qe) (by kernel_rfl) (fun _ => ?_)
     refine MX_op (by kernel_rfl) rfl ?_
     have k_7 := k_6.sel (.kkkk (.k .e))
     obtain ⟨r_3, h_r_3, hm⟩ := ob hm
     refine Op_call [] 38 _ yz_go92 (by kernel_rfl) (c_node_blockOf (F := N0) (O := N0) _ (Cx.refl _) _ h_r_3) ?_
     rintro e_ w_4 ⟨rfl, k_8⟩
     have k_9 := k_7.call k_8
     refine ⟨I r_3, rfl, ?_⟩
     refine ⟨k_9, fun _ => ?_⟩
     refine MX_op (by kernel_rfl) rfl ?_
     obtain ⟨r_4, h_r_4, hm⟩ := ob hm
     refine Op_call [] 39 _ yz_go120 (by kernel_rfl) (c_node_padded (F := N0) (O := N0) _ _ _ _ _ (Ro.n0 (k_9.rd 2 rfl)) (k_9.len 2 rfl) (k_9.lec 2 rfl) (Cx.refl _) _ h_r_4) ?_
     rintro e_ w_5 ⟨A6, _, c6, rfl, rfl, k_10⟩
     have k_11 := k_9.call k_10
     refine ⟨sl A6 r_4.length c6, rfl, ?_⟩
     refine ⟨(k_11.sel (.kkkk (.k .z))), fun _ => ?_⟩
     refine MX_op (by kernel_rfl) rfl ?_
     obtain ⟨r_5, h_r_5, hm⟩ := ob hm
     obtain ⟨F1, O1, kin, hO, hre, hF, hb⟩ := k_11.go (.r (.r (.r (.i (.i (.r .e))))))
     refine Op_invoke [] 42 200 (pt g0 0) [sl A6 r_4.length c6] yz_inv200_node_write rfl (by kernel_rfl) (c_node_half_uint64_write (F := F1) (O := O1) _ _ _ _ _ _ _ _ _ _ _ _ _ (Ro.of_rest hre 3 rfl) (k_11.len 5 rfl) (k_11.lec 5 rfl) kin _ h_r_5) ?_
     rintro e_ w_6 ⟨A7, _, c7, rfl, rfl, k_12⟩
     have k_13 := hb w_6 _ _ k_12 (.c (.c .n))
     refine ⟨.tup [], rfl, ?_⟩
     have k_14 := k_13.sel (.kkkk (.k .z))
     refine ⟨(k_14.sel (.ss (.kk (.k .e)))), fun _ => ?_⟩
     refine MX_nil ?_
     obtain rfl := Option.some.inj hm
     refine At_en [] qe (by kernel_rfl) ?_
     have k_15 := ((((k_14.pk (.t .h)).pk (.t .h)).pk (.t (.t (.t (.t .h))))).pk (.t (.t (.t (.t .h))))).pk (.t (.t (.t (.t .h))))
     exact ⟨A_n_block, n_block.length, c_n_block, A_n_key, n_key.length, c_n_key, g0, A7, r_5.2.2.2.1.length, c7, k_15.len 1 rfl, k_15.len 2 rfl, k_15.len 4 rfl, rfl, k_15⟩
   rw [if_neg hc] at hm
   refine W_skip ?_
   obtain rfl := Option.some.inj hm
   refine At_en [] qe (by kernel_rfl) ?_
   exact ⟨A_n_block, n_block.length, c_n_block, A_n_key, n_key.length, c_n_key, g0, A0, r_1.2.length, c0, k_5.len 1 rfl, k_5.len 2 rfl, k_5.len 4 rfl, rfl, k_5⟩
 · simp only [Sum.elim_inl, Sum.elim_inr] at hm
   rintro e_ w_0 ⟨g2, A8, _, c8, rfl, rfl, k_16⟩
   have k_17 := k_.call k_16
   refine ⟨.v (.iface 209 (SV.val (pt g2 0))), rfl, ?_⟩
   refine ⟨(k_17.sel (.kk (.k .z))), fun _ => ?_⟩
   refine MXq 1 2 [] (.n 12 (pt g_n 0) (.k (.sss .a))) (fun x hx => qs g_n 0 <| qe) (by kernel_rfl) (fun _ => ?_)
   refine MXq 1 1 [] (.n 13 (pt g_n 6) (.s .a)) (fun x hx => qs g_n 0 <| qe) (by kernel_rfl) (fun _ => ?_)
   refine MX_op (by kernel_rfl) rfl <| Op_b [] 0 (.v (.iface 209 (SV.val (pt g2 0)))) [.v (.iface 209 (SV.val (pt g2 0)))] (Pt.at g_n 6) k_17 rfl (.kkkk (.kk .h)) (by kernel_rfl) (by kernel_rfl) ?_
   intro w_7 k_18
   refine ⟨(k_18.sel (.s (.kk .z))), fun _ => ?_⟩
   refine MX_nil <| At_go <| W_seq <| W_reg <| WLs 3 [] (.n 16 (pt g_n 4) (.ss .a)) (qs g_n 0 <| qs g_n 0 <| qe) (by kernel_rfl) ?_
   refine WL_op <| Op_b [] 0 (.b false) [.b false] (Pt.at g_n 4) k_18 rfl (.kkkk .h) (by kernel_rfl) (by kernel_rfl) ?_
   intro w_8 k_19
   refine WL_nil <| At_go <| W_seq <| W_reg <| WLs 3 [] (.n 19 (pt g_n 5) (.s .a)) (qs g_n 0 <| qs g_n 0 <| qe) (by kernel_rfl) ?_
   refine WL_op <| Op_b [] 0 (.u64 0) [.u64 0] (Pt.at g_n 5) k_19 rfl (.kkkk (.k .h)) (by kernel_rfl) (by kernel_rfl) ?_
   intro w_9 k_20
   refine WL_nil <| At_go <| W_seq <| W_q [] (.n 25 (.b (decide (0 < ((n_key.length : Nat) : Int)))) (.s .a)) (qs g_n 0 <| qs g_n 0 <| qB k_20 0 rfl 3 (sl A_n_key n_key.length c_n_key) (by kernel_rfl) <| qe) (by kernel_rfl) ?_
   refine At_go <| W_condp (0 < ((n_key.length : Nat) : Int)) (by kernel_rfl) (fun hc0 => ?_) (fun hc0 => ?_)
   · rw [if_pos hc0] at hm
     have k_21 := k_20.drew 1
     refine W_m yz_mixed (.q 0 3 (.q 1 3 (.q 2 3 (.q 3 3 (.q 4 3 (.q 5 3 (.q 6 3 (.q 7 2 (.q 8 3 (.q 9 3 (.q 10 3 (.q 11 2 (.q 14 3 (.q 15 2 (.op 12 (.op 13 (.op 16 .nil))))))))))))))))) [12, 13, 16] k_21 (.c (.kkkk (.k .e)) (.c (.kkkk (.k .e)) (.c (.kk (.k .z)) .l))) (by kernel_rfl) (fun _ => ?_)
     refine MXq 7 3 [] (.n 29 (.v (.iface 209 (SV.val (pt g2 0)))) (.n 32 (pt g_n 3) (.s .a))) (fun x hx => qs g_n 0 <| qs g_n 0 <| qB hx 0 rfl 6 (.v (.iface 209 (SV.val (pt g2 0)))) (by kernel_rfl) <| qs g_n 0 <| qs g_n 0 <| qe) (by kernel_rfl) (fun _ => ?_)
     refine MXq 1 2 [] (.n 33 (sl A_n_key n_key.length c_n_key) (.k (.s .a))) (fun x hx => qB hx 0 rfl 3 (sl A_n_key n_key.length c_n_key) (by kernel_rfl) <| qe) (by kernel_rfl) (fun _ => ?_)
     refine MXq 3 3 [] (.n 36 (pt g_n 0) (.kk .z)) (fun x hx => qs g_n 0 <| qs g_n 0 <| qe) (by kernel_rfl) (fun _ => ?_)
     refine MXq 1 2 [] (.n 37 (I n_kind) (.s .a)) (fun x hx => qB hx 0 rfl 0 (I n_kind) (by kernel_rfl) <| qe) (by kernel_rfl) (fun _ => ?_)
     refine MXq 1 3 [] .a (fun x hx => qe) (by kernel_rfl) (fun _ => ?_)
     refine MXq 1 2 [] (.n 41 (.v (.iface 209 (SV.val (pt g2 0)))) (.kk .z)) (fun x hx => qe) (by kernel_rfl) (fun _ => ?_)
     refine MX_op (by kernel_rfl) rfl ?_
     have k_22 := k_21.sel (.kkkk (.k .e))
     obtain ⟨r_6, h_r_6, hm⟩ := ob hm
     refine Op_call [] 38 _ yz_go92 (by kernel_rfl) (c_node_blockOf (F := N0) (O := N0) _ (Cx.refl _) _ h_r_6) ?_
     rintro e_ w_10 ⟨rfl, k_23⟩
     have k_24 := k_22.call k_23
     refine ⟨I r_6, rfl, ?_⟩
     refine ⟨k_24, fun _ => ?_⟩
     refine MX_op (by kernel_rfl) rfl ?_
     obtain ⟨r_7, h_r_7, hm⟩ := ob hm
     refine Op_call [] 39 _ yz_go120 (by kernel_rfl) (c_node_padded (F := N0) (O := N0) _ _ _ _ _ (Ro.n0 (k_24.rd 2 rfl)) (k_24.len 2 rfl) (k_24.lec 2 rfl) (Cx.refl _) _ h_r_7) ?_
     rintro e_ w_11 ⟨A9, _, c9, rfl, rfl, k_25⟩
     have k_26 := k_24.call k_25
     refine ⟨sl A9 r_7.length c9, rfl, ?_⟩
     refine ⟨(k_26.sel (.kkkk (.k .z))), fun _ => ?_⟩
     refine MX_op (by kernel_rfl) rfl ?_
     obtain ⟨r_8, h_r_8, hm⟩ := ob hm
     obtain ⟨F10, O10, kin0, hO0, hre0, hF0, hb0⟩ := k_26.go (.r (.r (.r (.i (.i (.r .e))))))
     refine Op_invoke [] 42 209 (pt g2 0) [sl A9 r_7.length c9] yz_inv209_node_write rfl (by kernel_rfl) (c_node_half_uint32_write (F := F10) (O := O10) _ _ _ _ _ _ _ _ _ _ _ _ _ (Ro.of_rest hre0 3 rfl) (k_26.len 5 rfl) (k_26.lec 5 rfl) kin0 _ h_r_8) ?_
     rintro e_ w_12 ⟨A10, _, c10, rfl, rfl, k_27⟩
     have k_28 := hb0 w_12 _ _ k_27 (.c (.c .n))
     refine ⟨.tup [], rfl, ?_⟩
     have k_29 := k_28.sel (.kkkk (.k .z))
     refine ⟨(k_29.sel (.ss (.kk (.k .e)))), fun _ => ?_⟩
     refine MX_nil ?_
     obtain rfl := Option.some.inj hm
     refine At_en [] qe (by kernel_rfl) ?_
     have k_30 := ((((k_29.pk (.t .h)).pk (.t .h)).pk (.t (.t (.t (.t .h))))).pk (.t (.t (.t (.t .h))))).pk (.t (.t (.t (.t .h))))
     exact ⟨A_n_block, n_block.length, c_n_block, A_n_key, n_key.length, c_n_key, g2, A10, r_8.2.2.2.1.length, c10, k_30.len 1 rfl, k_30.len 2 rfl, k_30.len 4 rfl, rfl, k_30⟩
   rw [if_neg hc0] at hm
   refine W_skip ?_
   obtain rfl := Option.some.inj hm
   refine At_en [] qe (by kernel_rfl) ?_
   exact ⟨A_n_block, n_block.length, c_n_block, A_n_key, n_key.length, c_n_key, g2, A8, r_2.2.length, c8, k_20.len 1 rfl, k_20.len 2 rfl, k_20.len 4 rfl, rfl, k_20⟩

-- quern/node.made
noncomputable def m_node_made (k_ : Int) (block : List UInt8) (digest : Int) (key : List UInt8) : Option ((Int × Int × List UInt8 × List UInt8 × Vec UInt64 8 × UInt64 × UInt64 × List UInt8 × Int) ⊕ (Int × Int × List UInt8 × List UInt8 × Vec UInt32 8 × UInt64 × UInt64 × List UInt8 × Int)) :=
  (app ([] : List UInt8) block 1).bind fun b => (app ([] : List UInt8) key 1).bind fun b1 => (m_node_Node_begin k_ digest b b1 false (0 : UInt64)).bind fun r_ => (Sum.elim (fun r_1 => some (Sum.inl (r_1.1, r_1.2.1, r_1.2.2.1, r_1.2.2.2.1, r_1.2.2.2.2.1, r_1.2.2.2.2.2.1, r_1.2.2.2.2.2.2.1, r_1.2.2.2.2.2.2.2.1, r_1.2.2.2.2.2.2.2.2))) (fun r_2 => some (Sum.inr (r_2.1, r_2.2.1, r_2.2.2.1, r_2.2.2.2.1, r_2.2.2.2.2.1, r_2.2.2.2.2.2.1, r_2.2.2.2.2.2.2.1, r_2.2.2.2.2.2.2.2.1, r_2.2.2.2.2.2.2.2.2)))) r_
theorem c_node_made {F O : Nat → Prop} {w : World} (k_ : Int) (block : List UInt8) (digest : Int) (key : List UInt8) (A_block : Option Addr) (n_block : Nat) (c_block : Nat) (A_key : Option Addr) (n_key : Nat) (c_key : Nat) (h_block : Ro F w A_block (e8.all block)) (hn_block : block.length = n_block) (hc_block : n_block ≤ c_block) (h_key : Ro F w A_key (e8.all key)) (hn_key : key.length = n_key) (hc_key : n_key ≤ c_key) (k : Cx F O w w []) (r : (Int × Int × List UInt8 × List UInt8 × Vec UInt64 8 × UInt64 × UInt64 × List UInt8 × Int) ⊕ (Int × Int × List UInt8 × List UInt8 × Vec UInt32 8 × UInt64 × UInt64 × List UInt8 × Int)) (hm : m_node_made k_ block digest key = some r) :
    Calls Tryz.prog 90 (vals [I k_, sl A_block n_block c_block, I digest, sl A_key n_key c_key]) w (fun e w' => match r with | .inl r0 => ∃ g A n c A1 n1 c1 g1 A2 n2 c2, r0.2.2.1.length = n ∧ r0.2.2.2.1.length = n1 ∧ r0.2.2.2.2.2.2.2.1.length = n2 ∧ e = .returned (SV.val (pt g 0)) ∧ Cx F O w w' [Bx 125 g [I r0.1, I r0.2.1, sl A n c, sl A1 n1 c1, .b false, .u64 0, .v (.iface 200 (SV.val (pt g1 0)))], Ow e8 A n c r0.2.2.1, Ow e8 A1 n1 c1 r0.2.2.2.1, Bx 206 g1 [.ar e64 r0.2.2.2.2.1, .u64 r0.2.2.2.2.2.1, .u64 r0.2.2.2.2.2.2.1, sl A2 n2 c2, I r0.2.2.2.2.2.2.2.2, .v (.func (.func 132) ⟨SV.vals []⟩ ⟨SV.vals []⟩), .v (.func (.func 133) ⟨SV.vals []⟩ ⟨SV.vals []⟩)], Ow e8 A2 n2 c2 r0.2.2.2.2.2.2.2.1] | .inr r1 => ∃ g2 A3 n3 c3 A4 n4 c4 g3 A5 n5 c5, r1.2.2.1.length = n3 ∧ r1.2.2.2.1.length = n4 ∧ r1.2.2.2.2.2.2.2.1.length = n5 ∧ e = .returned (SV.val (pt g2 0)) ∧ Cx F O w w' [Bx 125 g2 [I r1.1, I r1.2.1, sl A3 n3 c3, sl A4 n4 c4, .b false, .u64 0, .v (.iface 209 (SV.val (pt g3 0)))], Ow e8 A3 n3 c3 r1.2.2.1, Ow e8 A4 n4 c4 r1.2.2.2.1, Bx 213 g3 [.ar e32 r1.2.2.2.2.1, .u64 r1.2.2.2.2.2.1, .u64 r1.2.2.2.2.2.2.1, sl A5 n5 c5, I r1.2.2.2.2.2.2.2.2, .v (.func (.func 135) ⟨SV.vals []⟩ ⟨SV.vals []⟩), .v (.func (.func 136) ⟨SV.vals []⟩ ⟨SV.vals []⟩)], Ow e8 A5 n5 c5 r1.2.2.2.2.2.2.2.1]) := by
 unfold m_node_made at hm
 subst hn_block
 subst hn_key
 refine calls [I k_, sl A_block block.length c_block, I digest, sl A_key key.length c_key] Tryz.func90 rfl (of_decide_eq_true (by kernel_rfl)) ?_
 refine W_seq <| W_q [] .a qe (by kernel_rfl) ?_
 refine At_go <| W_seq <| W_reg <| WLs 3 [] (.n 10 (I k_) (.n 11 (I digest) (.n 12 (sl A_block block.length c_block) (.sss .a)))) qe (by kernel_rfl) ?_
 refine WL_op ?_
 have k_1 := k.nil e8
 obtain ⟨b, h_b, hm⟩ := ob hm
 obtain ⟨hz, hl⟩ := app_some h_b
 refine Op_append (E := e8) (v := sl A_block block.length c_block) (ys := block) yz_tf22 [] 13 0 (by kernel_rfl) k_1 rfl (Src.sl (h_block.cx k_1) rfl (by rfl)) rfl (by have := k_1.len 0 rfl; have := hm; omega) ?_
 intro A0 c0 w_ k_2
 rw [← hl] at k_2
 refine WLs 1 [] (.n 14 (sl A_key key.length c_key) (.kkk .z)) qe (by kernel_rfl) ?_
 refine WL_op ?_
 have k_3 := k_2.nil e8
 obtain ⟨b1, h_b1, hm⟩ := ob hm
 obtain ⟨hz1, hl1⟩ := app_some h_b1
 refine Op_append (E := e8) (v := sl A_key key.length c_key) (ys := key) yz_tf22 [] 15 1 (by kernel_rfl) k_3 rfl (Src.sl (h_key.cx k_3) rfl (by rfl)) rfl (by have := k_3.len 1 rfl; have := hm; omega) ?_
 intro A6 c6 w_1 k_4
 rw [← hl1] at k_4
 refine WLs 1 [] (.n 16 (.agg [I k_, I digest, sl A0 (0 + block.length) c0, sl A6 (0 + key.length) c6, .b false, .u64 0, .v .nilIface]) .z) qe (by kernel_rfl) ?_
 refine WL_op <| Op_box [] 17 (.agg [I k_, I digest, sl A0 (0 + block.length) c0, sl A6 (0 + key.length) c6, .b false, .u64 0, .v .nilIface]) [I k_, I digest, sl A0 (0 + block.length) c0, sl A6 (0 + key.length) c6, .b false, .u64 0, .v .nilIface] (by kernel_rfl) k_4 ?_
 intro g0 w_2 k_5
 refine WLs 1 [] (.n 9 (pt g0 0) .z) qe (by kernel_rfl) ?_
 refine WL_nil <| At_go <| W_seq <| W_reg <| WLs 1 [] (.n 18 (pt g0 0) .a) qe (by kernel_rfl) ?_
 refine WL_op ?_
 obtain ⟨r_, h_r_, hm⟩ := ob hm
 have k_6 := ((k_5.pk (.t .h)).pk (.t .h)).pk (.t (.t .h))
 obtain ⟨F1, O1, kin, hO, hre, hF, hb⟩ := k_6.go (.i (.i (.i .e)))
 refine Op_call [] 19 _ yz_go107 (by kernel_rfl) (c_node_Node_begin (F := F1) (O := O1) _ _ _ _ _ _ _ _ _ _ _ _ _ kin _ h_r_) ?_
 rcases r_ with r_1 | r_2
 · simp only [Sum.elim_inl, Sum.elim_inr] at hm
   rintro e_ w_3 ⟨A7, _, c7, A8, _, c8, g4, A9, _, c9, rfl, rfl, rfl, rfl, k_7⟩
   have k_8 := hb w_3 _ _ k_7 (.c (.c (.c (.c (.c .n)))))
   refine ⟨.tup [], rfl, ?_⟩
   refine WL_nil <| At_go <| W_seq <| W_q [] (.n 8 (pt g0 0) .z) qe (by kernel_rfl) ?_
   refine At_go <| W_ret ?_
   obtain rfl := Option.some.inj hm
   refine At_rt [pt g0 0] qe (by kernel_rfl) ?_
   exact ⟨g0, A7, r_1.2.2.1.length, c7, A8, r_1.2.2.2.1.length, c8, g4, A9, r_1.2.2.2.2.2.2.2.1.length, c9, k_8.len 1 rfl, k_8.len 2 rfl, k_8.len 4 rfl, rfl, k_8⟩
 · simp only [Sum.elim_inl, Sum.elim_inr] at hm
   rintro e_ w_4 ⟨A10, _, c10, A11, _, c11, g5, A12, _, c12, rfl, rfl, rfl, rfl, k_9⟩
   have k_10 := hb w_4 _ _ k_9 (.c (.c (.c (.c (.c .n)))))
   refine ⟨.tup [], rfl, ?_⟩
   refine WL_nil <| At_go <| W_seq <| W_q [] (.n 8 (pt g0 0) .z) qe (by kernel_rfl) ?_
   refine At_go <| W_ret ?_
   obtain rfl := Option.some.inj hm
   refine At_rt [pt g0 0] qe (by kernel_rfl) ?_
   exact ⟨g0, A10, r_2.2.2.1.length, c10, A11, r_2.2.2.2.1.length, c11, g5, A12, r_2.2.2.2.2.2.2.2.1.length, c12, k_10.len 1 rfl, k_10.len 2 rfl, k_10.len 4 rfl, rfl, k_10⟩

-- quern/node.New
noncomputable def m_node_New (k_ : Int) (p_Digest : Int) (p_Key : Int) (p_Fanout : Int) (p_Depth : Int) (p_Leaf : UInt32) (p_Offset : UInt64) (p_Xof : UInt32) (p_NodeDepth : Int) (p_Inner : Int) (p_Salt : List UInt8) (p_Personal : List UInt8) (key : List UInt8) : Option (Int ⊕ (Int × Int × List UInt8 × List UInt8 × Vec UInt64 8 × UInt64 × UInt64 × List UInt8 × Int) ⊕ (Int × Int × List UInt8 × List UInt8 × Vec UInt32 8 × UInt64 × UInt64 × List UInt8 × Int)) :=
  (m_param_Encode k_ p_Digest p_Key p_Fanout p_Depth p_Leaf p_Offset p_Xof p_NodeDepth p_Inner p_Salt p_Personal).bind fun r_ => if r_.2 ≠ 0 then (some (Sum.inl r_.2)) else (if ((decide (((key.length : Nat) : Int) ≠ 0)) && (decide (((key.length : Nat) : Int) ≠ p_Key))) = true then (some (Sum.inl (8 : Int))) else ((m_node_made k_ r_.1 p_Digest key).bind fun r_1 => (Sum.elim (fun r_2 => some (Sum.inr (Sum.inl (r_2.1, r_2.2.1, r_2.2.2.1, r_2.2.2.2.1, r_2.2.2.2.2.1, r_2.2.2.2.2.2.1, r_2.2.2.2.2.2.2.1, r_2.2.2.2.2.2.2.2.1, r_2.2.2.2.2.2.2.2.2)))) (fun r_3 => some (Sum.inr (Sum.inr (r_3.1, r_3.2.1, r_3.2.2.1, r_3.2.2.2.1, r_3.2.2.2.2.1, r_3.2.2.2.2.2.1, r_3.2.2.2.2.2.2.1, r_3.2.2.2.2.2.2.2.1, r_3.2.2.2.2.2.2.2.2))))) r_1))
theorem c_node_New {F O : Nat → Prop} {w : World} (k_ : Int) (p_Digest : Int) (p_Key : Int) (p_Fanout : Int) (p_Depth : Int) (p_Leaf : UInt32) (p_Offset : UInt64) (p_Xof : UInt32) (p_NodeDepth : Int) (p_Inner : Int) (p_Salt : List UInt8) (p_Personal : List UInt8) (key : List UInt8) (A_p_Salt : Option Addr) (n_p_Salt : Nat) (c_p_Salt : Nat) (A_p_Personal : Option Addr) (n_p_Personal : Nat) (c_p_Personal : Nat) (A_key : Option Addr) (n_key : Nat) (c_key : Nat) (h_p_Salt : Ro F w A_p_Salt (e8.all p_Salt)) (hn_p_Salt : p_Salt.length = n_p_Salt) (hc_p_Salt : n_p_Salt ≤ c_p_Salt) (h_p_Personal : Ro F w A_p_Personal (e8.all p_Personal)) (hn_p_Personal : p_Personal.length = n_p_Personal) (hc_p_Personal : n_p_Personal ≤ c_p_Personal) (h_key : Ro F w A_key (e8.all key)) (hn_key : key.length = n_key) (hc_key : n_key ≤ c_key) (k : Cx F O w w []) (r : Int ⊕ (Int × Int × List UInt8 × List UInt8 × Vec UInt64 8 × UInt64 × UInt64 × List UInt8 × Int) ⊕ (Int × Int × List UInt8 × List UInt8 × Vec UInt32 8 × UInt64 × UInt64 × List UInt8 × Int)) (hm : m_node_New k_ p_Digest p_Key p_Fanout p_Depth p_Leaf p_Offset p_Xof p_NodeDepth p_Inner p_Salt p_Personal key = some r) :
    Calls Tryz.prog 69 (vals [I k_, .agg [I p_Digest, I p_Key, I p_Fanout, I p_Depth, .u32 p_Leaf, .u64 p_Offset, .u32 p_Xof, I p_NodeDepth, I p_Inner, sl A_p_Salt n_p_Salt c_p_Salt, sl A_p_Personal n_p_Personal c_p_Personal], sl A_key n_key c_key]) w (fun e w' => match r with | .inl r0 => e = .returned (SV.val (.tup [.v (.pointer none), I r0])) ∧ Cx F O w w' [] | .inr (.inl r1) => ∃ g A n c A1 n1 c1 g1 A2 n2 c2, r1.2.2.1.length = n ∧ r1.2.2.2.1.length = n1 ∧ r1.2.2.2.2.2.2.2.1.length = n2 ∧ e = .returned (SV.val (.tup [pt g 0, I 0])) ∧ Cx F O w w' [Bx 125 g [I r1.1, I r1.2.1, sl A n c, sl A1 n1 c1, .b false, .u64 0, .v (.iface 200 (SV.val (pt g1 0)))], Ow e8 A n c r1.2.2.1, Ow e8 A1 n1 c1 r1.2.2.2.1, Bx 206 g1 [.ar e64 r1.2.2.2.2.1, .u64 r1.2.2.2.2.2.1, .u64 r1.2.2.2.2.2.2.1, sl A2 n2 c2, I r1.2.2.2.2.2.2.2.2, .v (.func (.func 132) ⟨SV.vals []⟩ ⟨SV.vals []⟩), .v (.func (.func 133) ⟨SV.vals []⟩ ⟨SV.vals []⟩)], Ow e8 A2 n2 c2 r1.2.2.2.2.2.2.2.1] | .inr (.inr r2) => ∃ g2 A3 n3 c3 A4 n4 c4 g3 A5 n5 c5, r2.2.2.1.length = n3 ∧ r2.2.2.2.1.length = n4 ∧ r2.2.2.2.2.2.2.2.1.length = n5 ∧ e = .returned (SV.val (.tup [pt g2 0, I 0])) ∧ Cx F O w w' [Bx 125 g2 [I r2.1, I r2.2.1, sl A3 n3 c3, sl A4 n4 c4, .b false, .u64 0, .v (.iface 209 (SV.val (pt g3 0)))], Ow e8 A3 n3 c3 r2.2.2.1, Ow e8 A4 n4 c4 r2.2.2.2.1, Bx 213 g3 [.ar e32 r2.2.2.2.2.1, .u64 r2.2.2.2.2.2.1, .u64 r2.2.2.2.2.2.2.1, sl A5 n5 c5, I r2.2.2.2.2.2.2.2.2, .v (.func (.func 135) ⟨SV.vals []⟩ ⟨SV.vals []⟩), .v (.func (.func 136) ⟨SV.vals []⟩ ⟨SV.vals []⟩)], Ow e8 A5 n5 c5 r2.2.2.2.2.2.2.2.1]) := by
 unfold m_node_New at hm
 subst hn_p_Salt
 subst hn_p_Personal
 subst hn_key
 refine calls [I k_, .agg [I p_Digest, I p_Key, I p_Fanout, I p_Depth, .u32 p_Leaf, .u64 p_Offset, .u32 p_Xof, I p_NodeDepth, I p_Inner, sl A_p_Salt p_Salt.length c_p_Salt, sl A_p_Personal p_Personal.length c_p_Personal], sl A_key key.length c_key] Tryz.func69 rfl (of_decide_eq_true (by kernel_rfl)) ?_
 refine W_seq <| W_reg <| WL_op <| Op_box [] 4 (.agg [I p_Digest, I p_Key, I p_Fanout, I p_Depth, .u32 p_Leaf, .u64 p_Offset, .u32 p_Xof, I p_NodeDepth, I p_Inner, sl A_p_Salt p_Salt.length c_p_Salt, sl A_p_Personal p_Personal.length c_p_Personal]) [I p_Digest, I p_Key, I p_Fanout, I p_Depth, .u32 p_Leaf, .u64 p_Offset, .u32 p_Xof, I p_NodeDepth, I p_Inner, sl A_p_Salt p_Salt.length c_p_Salt, sl A_p_Personal p_Personal.length c_p_Personal] (by kernel_rfl) k ?_
 intro g0 w_ k_1
 refine WLs 2 [] (.kk (.s .a)) qe (by kernel_rfl) ?_
 refine WL_nil <| At_go <| W_seq <| W_reg <| WLs 2 [] (.n 11 (I k_) (.n 12 (.agg [I p_Digest, I p_Key, I p_Fanout, I p_Depth, .u32 p_Leaf, .u64 p_Offset, .u32 p_Xof, I p_NodeDepth, I p_Inner, sl A_p_Salt p_Salt.length c_p_Salt, sl A_p_Personal p_Personal.length c_p_Personal]) .a)) (qT k_1 0 rfl 0 11 [I p_Digest, I p_Key, I p_Fanout, I p_Depth, .u32 p_Leaf, .u64 p_Offset, .u32 p_Xof, I p_NodeDepth, I p_Inner, sl A_p_Salt p_Salt.length c_p_Salt, sl A_p_Personal p_Personal.length c_p_Personal] (by kernel_rfl) (by decide) <| qe) (by kernel_rfl) ?_
 refine WL_op ?_
 obtain ⟨r_, h_r_, hm⟩ := ob hm
 refine Op_call [] 13 _ yz_go89 (by kernel_rfl) (c_param_Encode (F := N0) (O := N0) _ _ _ _ _ _ _ _ _ _ _ _ _ _ _ _ _ _ (Ro.n0 (h_p_Salt.cx k_1)) rfl hc_p_Salt (Ro.n0 (h_p_Personal.cx k_1)) rfl hc_p_Personal (Cx.refl _) _ h_r_) ?_
 rintro e_ w_1 ⟨A0, _, c0, rfl, rfl, k_2⟩
 have k_3 := k_1.call k_2
 refine ⟨.tup [sl A0 r_.1.length c0, I r_.2], rfl, ?_⟩
 refine WLs 5 [] (.n 8 (sl A0 r_.1.length c0) (.n 9 (I r_.2) (.sss .a))) qe (by kernel_rfl) ?_
 refine WL_nil <| At_go <| W_seq <| W_seq <| W_q [] (.n 17 (.b (decide (r_.2 ≠ 0))) .a) qe (by kernel_rfl) ?_
 refine At_go <| W_condp (r_.2 ≠ 0) (by kernel_rfl) (fun hc => ?_) (fun hc => ?_)
 · rw [if_pos hc] at hm
   refine W_seq <| W_q [] (.n 6 (.v (.pointer none)) (.n 7 (I r_.2) .z)) qe (by kernel_rfl) ?_
   refine At_go <| W_ret (At_tr ?_)
   obtain rfl := Option.some.inj hm
   refine At_rt [.v (.pointer none), I r_.2] qe (by kernel_rfl) ?_
   have k_4 := k_3.sel .z
   exact ⟨rfl, k_4⟩
 rw [if_neg hc] at hm
 refine W_skip <| At_go <| W_seq <| W_seq <| W_q [] (.n 28 (.b ((decide (((key.length : Nat) : Int) ≠ 0)) && (decide (((key.length : Nat) : Int) ≠ p_Key)))) (.s (.k (.s .a)))) (qp ((decide (((key.length : Nat) : Int) ≠ 0)) = true → (some ⟨g0, 0, none⟩ : Option Addr).isSome = true) (fun hg0 => rfl) <| qo (I p_Key) <| qc (fun w => (decide (((key.length : Nat) : Int) ≠ 0)) = true → ∃ a, (some ⟨g0, 1, none⟩ : Option Addr) = some a ∧ w.cell? a = some (SV.val (I p_Key))) (fun hg0 => k_3.bld 0 rfl 1 (I p_Key) (by kernel_rfl)) <| qe) (by kernel_rfl) ?_
 refine At_go <| W_cond ((decide (((key.length : Nat) : Int) ≠ 0)) && (decide (((key.length : Nat) : Int) ≠ p_Key))) (by kernel_rfl) (fun hc1 => ?_) (fun hc1 => ?_)
 · rw [if_pos hc1] at hm
   refine W_seq <| W_q [] (.n 6 (.v (.pointer none)) (.n 7 (I 8) .z)) qe (by kernel_rfl) ?_
   refine At_go <| W_ret (At_tr ?_)
   obtain rfl := Option.some.inj hm
   refine At_rt [.v (.pointer none), I 8] qe (by kernel_rfl) ?_
   have k_5 := k_3.sel .z
   exact ⟨rfl, k_5⟩
 rw [if_neg (by rw [hc1]; decide)] at hm
 refine W_skip <| At_go <| W_seq <| W_reg <| WLs 5 [] (.n 29 (I k_) (.n 30 (sl A0 r_.1.length c0) (.n 32 (I p_Digest) (.n 33 (sl A_key key.length c_key) .z)))) (qs g0 0 <| qB k_3 0 rfl 0 (I p_Digest) (by kernel_rfl) <| qe) (by kernel_rfl) ?_
 refine WL_op ?_
 obtain ⟨r_1, h_r_1, hm⟩ := ob hm
 refine Op_call [] 34 _ yz_go90 (by kernel_rfl) (c_node_made (F := N0) (O := N0) _ _ _ _ _ _ _ _ _ _ (Ro.n0 (k_3.rd 1 rfl)) (k_3.len 1 rfl) (k_3.lec 1 rfl) (Ro.n0 (h_key.cx k_3)) rfl hc_key (Cx.refl _) _ h_r_1) ?_
 rcases r_1 with r_2 | r_3
 · simp only [Sum.elim_inl, Sum.elim_inr] at hm
   rintro e_ w_2 ⟨g4, A6, _, c6, A7, _, c7, g5, A8, _, c8, rfl, rfl, rfl, rfl, k_6⟩
   have k_7 := k_3.call k_6
   refine ⟨pt g4 0, rfl, ?_⟩
   have k_8 := k_7.sel (.ss (.kkkk (.k .e)))
   refine WLs 2 [] (.n 6 (pt g4 0) (.n 7 (I 0) .z)) qe (by kernel_rfl) ?_
   refine WL_nil <| At_go <| W_ret ?_
   obtain rfl := Option.some.inj hm
   refine At_rt [pt g4 0, I 0] qe (by kernel_rfl) ?_
   exact ⟨g4, A6, r_2.2.2.1.length, c6, A7, r_2.2.2.2.1.length, c7, g5, A8, r_2.2.2.2.2.2.2.2.1.length, c8, k_8.len 1 rfl, k_8.len 2 rfl, k_8.len 4 rfl, rfl, k_8⟩
 · simp only [Sum.elim_inl, Sum.elim_inr] at hm
   rintro e_ w_3 ⟨g6, A9, _, c9, A10, _, c10, g7, A11, _, c11, rfl, rfl, rfl, rfl, k_9⟩
   have k_10 := k_3.call k_9
   refine ⟨pt g6 0, rfl, ?_⟩
   have k_11 := k_10.sel (.ss (.kkkk (.k .e)))
   refine WLs 2 [] (.n 6 (pt g6 0) (.n 7 (I 0) .z)) qe (by kernel_rfl) ?_
   refine WL_nil <| At_go <| W_ret ?_
   obtain rfl := Option.some.inj hm
   refine At_rt [pt g6 0, I 0] qe (by kernel_rfl) ?_
   exact ⟨g6, A9, r_3.2.2.1.length, c9, A10, r_3.2.2.2.1.length, c10, g7, A11, r_3.2.2.2.2.2.2.2.1.length, c11, k_11.len 1 rfl, k_11.len 2 rfl, k_11.len 4 rfl, rfl, k_11⟩

-- (*quern/node.Node).none
noncomputable def m_node_Node_none (n_kind : Int) (n_digest : Int) (n_block : List UInt8) (n_key : List UInt8) (n_last : Bool) (n_written : UInt64) (n_e_h : Vec UInt64 8) (n_e_count_Lo : UInt64) (n_e_count_Hi : UInt64) (n_e_held : List UInt8) (n_e_block : Int) : Option (Vec UInt64 8 × UInt64 × UInt64 × List UInt8 × Int × Int × Int × List UInt8 × List UInt8 × Bool × UInt64) :=
  some (n_e_h, n_e_count_Lo, n_e_count_Hi, n_e_held, n_e_block, n_kind, n_digest, n_block, n_key, n_last, n_written)
theorem c_node_Node_none {F O : Nat → Prop} {w : World} (n_kind : Int) (n_digest : Int) (n_block : List UInt8) (n_key : List UInt8) (n_last : Bool) (n_written : UInt64) (n_e_h : Vec UInt64 8) (n_e_count_Lo : UInt64) (n_e_count_Hi : UInt64) (n_e_held : List UInt8) (n_e_block : Int) (g_n : Nat) (A_n_block : Option Addr) (n_n_block : Nat) (c_n_block : Nat) (A_n_key : Option Addr) (n_n_key : Nat) (c_n_key : Nat) (g_n_e : Nat) (A_n_e_held : Option Addr) (n_n_e_held : Nat) (c_n_e_held : Nat) (k : Cx F O w w [Bx 125 g_n [I n_kind, I n_digest, sl A_n_block n_n_block c_n_block, sl A_n_key n_n_key c_n_key, .b n_last, .u64 n_written, .v (.iface 200 (SV.val (pt g_n_e 0)))], Ow e8 A_n_block n_n_block c_n_block n_block, Ow e8 A_n_key n_n_key c_n_key n_key, Bx 206 g_n_e [.ar e64 n_e_h, .u64 n_e_count_Lo, .u64 n_e_count_Hi, sl A_n_e_held n_n_e_held c_n_e_held, I n_e_block, .v (.func (.func 132) ⟨SV.vals []⟩ ⟨SV.vals []⟩), .v (.func (.func 133) ⟨SV.vals []⟩ ⟨SV.vals []⟩)], Ow e8 A_n_e_held n_n_e_held c_n_e_held n_e_held]) (r : (Vec UInt64 8 × UInt64 × UInt64 × List UInt8 × Int × Int × Int × List UInt8 × List UInt8 × Bool × UInt64)) (hm : m_node_Node_none n_kind n_digest n_block n_key n_last n_written n_e_h n_e_count_Lo n_e_count_Hi n_e_held n_e_block = some r) :
    Calls Tryz.prog 91 (vals [pt g_n 0]) w (fun e w' => ∃ A n c A1 n1 c1 A2 n2 c2, r.2.2.2.1.length = n ∧ r.2.2.2.2.2.2.2.1.length = n1 ∧ r.2.2.2.2.2.2.2.2.1.length = n2 ∧ e = .returned (SV.val (.b false)) ∧ Cx F O w w' [Bx 206 g_n_e [.ar e64 r.1, .u64 r.2.1, .u64 r.2.2.1, sl A n c, I r.2.2.2.2.1, .v (.func (.func 132) ⟨SV.vals []⟩ ⟨SV.vals []⟩), .v (.func (.func 133) ⟨SV.vals []⟩ ⟨SV.vals []⟩)], Ow e8 A n c r.2.2.2.1, Bx 125 g_n [I r.2.2.2.2.2.1, I r.2.2.2.2.2.2.1, sl A1 n1 c1, sl A2 n2 c2, .b r.2.2.2.2.2.2.2.2.2.1, .u64 r.2.2.2.2.2.2.2.2.2.2, .v (.iface 200 (SV.val (pt g_n_e 0)))], Ow e8 A1 n1 c1 r.2.2.2.2.2.2.2.1, Ow e8 A2 n2 c2 r.2.2.2.2.2.2.2.2.1]) := by
 unfold m_node_Node_none at hm
 obtain rfl := k.len 1 rfl
 obtain rfl := k.len 2 rfl
 obtain rfl := k.len 4 rfl
 refine calls [pt g_n 0] Tryz.func91 rfl (of_decide_eq_true (by kernel_rfl)) ?_
 refine W_seq <| W_q [] .a qe (by kernel_rfl) ?_
 refine At_go <| W_seq <| W_q [5] (.n 2 (.b false) .z) (qs g_n 0 <| qs g_n 0 <| qB k 0 rfl 6 (.v (.iface 200 (SV.val (pt g_n_e 0)))) (by kernel_rfl) <| qe) (by kernel_rfl) ?_
 refine At_go <| W_ret ?_
 obtain rfl := Option.some.inj hm
 refine At_rt [.b false] qe (by kernel_rfl) ?_
 have k_ := ((((k.pk (.t (.t .h))).pk (.t (.t .h))).pk (.t (.t .h))).pk (.t (.t (.t (.t .h))))).pk (.t (.t (.t (.t .h))))
 exact ⟨A_n_e_held, n_e_held.length, c_n_e_held, A_n_block, n_block.length, c_n_block, A_n_key, n_key.length, c_n_key, k_.len 1 rfl, k_.len 3 rfl, k_.len 4 rfl, rfl, k_⟩

-- quern/word.Store64
noncomputable def m_word_Store64_l0 (w_ : UInt64) : (List UInt8 × Int) → Option ((List UInt8 × Int) ⊕ (List UInt8))
  | (b, x_0) => if x_0 < 8 then ((need (0 ≤ w64 (8 * x_0))).bind fun u => (geti b x_0).bind fun x_1 => some (.inl (b.set (Int.toNat x_0) (UInt8.ofNat (shr64 w_ (Int.toNat (w64 (8 * x_0)))).toNat), w64 (x_0 + 1)))) else (Option.map Sum.inr (some b))
noncomputable def m_word_Store64 (w_ : UInt64) : Option (List UInt8) :=
  whileO (m_word_Store64_l0 w_) (List.replicate (Int.toNat (8 : Int)) (0 : UInt8), (0 : Int))
theorem c_word_Store64 {F O : Nat → Prop} {w : World} (w_ : UInt64) (k : Cx F O w w []) (r : (List UInt8)) (hm : m_word_Store64 w_ = some r) :
    Calls Tryz.prog 47 (vals [.u64 w_]) w (fun e w' => ∃ A n c, r.length = n ∧ e = .returned (SV.val (sl A n c)) ∧ Cx F O w w' [Ow e8 A n c r]) := by
 unfold m_word_Store64 at hm
 refine calls [.u64 w_] Tryz.func47 rfl (of_decide_eq_true (by kernel_rfl)) ?_
 refine W_seq <| W_q [] .a qe (by kernel_rfl) ?_
 refine At_go <| W_seq <| W_reg <| WL_op <| Op_make yz_tf22 e8 (0 : UInt8) rfl [] 5 (I 8) (I 8) (8 : Int) (8 : Int) (by kernel_rfl) (by omega) (by omega) (by omega) k ?_
 intro A0 w_1 k_
 refine WLs 1 [] (.n 3 (sl A0 (Int.toNat (8 : Int)) (Int.toNat (8 : Int))) (.s .a)) qe (by kernel_rfl) ?_
 refine WL_nil <| At_go <| W_seq <| W_seq <| W_q [] (.n 6 (I 0) .a) qe (by kernel_rfl) ?_
 refine At_go <| W_block <| W_lp (m_word_Store64_l0 w_) (fun s L wr => ∃ (b : List UInt8) (x_0 : Int), (b, x_0) = s ∧ L = [(0, .u64 w_), (3, sl A0 (Int.toNat (8 : Int)) (Int.toNat (8 : Int))), (6, I x_0)] ∧ Cx F O w wr [Ow e8 A0 (Int.toNat (8 : Int)) (Int.toNat (8 : Int)) b]) (List.replicate (Int.toNat (8 : Int)) (0 : UInt8), (0 : Int)) r hm ⟨List.replicate (Int.toNat (8 : Int)) (0 : UInt8), (0 : Int), rfl, rfl, k_⟩ (by kernel_rfl) ?_
 intro s0_ L_ w_2 y0 hrel hstep hr0
 obtain ⟨b, x_0, rfl, rfl, k_1⟩ := hrel
 have hm := hstep; simp only [m_word_Store64_l0] at hm
 clear hstep
 refine W_seq <| W_q [] (.n 7 (.b (decide (x_0 < 8))) .a) qe (by kernel_rfl) ?_
 refine At_go <| W_seq <| W_condp (x_0 < 8) (by kernel_rfl) (fun hc => ?_) (fun hc => ?_)
 · rw [if_pos hc] at hm
   refine W_skip <| At_go <| W_seq <| W_block <| W_seq <| W_q [] (.n 4 (I x_0) (.s .a)) qe (by kernel_rfl) ?_
   refine At_go <| W_reg ?_
   obtain ⟨u, h_u, hm⟩ := ob hm
   obtain ⟨x_1, h_x_1, hm⟩ := ob hm
   refine WLs 8 [] (.n 15 (.u8 (UInt8.ofNat (shr64 w_ (Int.toNat (w64 (8 * x_0)))).toNat)) (.n 16 (.v (.pointer (ixA A0 x_0 1))) (.s .a))) (qp (0 ≤ w64 (8 * x_0)) (need_some h_u) <| qJ (k_1.rd 0 rfl) h_x_1 (k_1.len 0 rfl) <| qe) (by kernel_rfl) ?_
   refine WL_op <| Op_ost (E := e8) (kk := 0) (sv := .u8 (UInt8.ofNat (shr64 w_ (Int.toNat (w64 (8 * x_0)))).toNat)) (svs := [.u8 (UInt8.ofNat (shr64 w_ (Int.toNat (w64 (8 * x_0)))).toNat)]) [] 0 (UInt8.ofNat (shr64 w_ (Int.toNat (w64 (8 * x_0)))).toNat) (by kernel_rfl) (Pt.ix1 A0 x_0 1) k_1 rfl (geti_some h_x_1).2 (E_ix (E := e8) (k_1.rd 0 rfl) (by decide) (geti_lt h_x_1).1 (geti_some h_x_1).2) rfl (Nat.le_of_ble_eq_true (by kernel_rfl)) ?_
   intro w_3 k_2
   refine WL_nil <| At_in <| At_go <| W_q [] (.n 6 (I (w64 (x_0 + 1))) (.ss (.kk .z))) qe (by kernel_rfl) ?_
   exact At_rd (b.set (Int.toNat x_0) (UInt8.ofNat (shr64 w_ (Int.toNat (w64 (8 * x_0)))).toNat), w64 (x_0 + 1)) (Option.some.inj hm).symm ⟨b.set (Int.toNat x_0) (UInt8.ofNat (shr64 w_ (Int.toNat (w64 (8 * x_0)))).toNat), w64 (x_0 + 1), rfl, rfl, k_2⟩ (by kernel_rfl)
 rw [if_neg hc] at hm
 refine W_exit (At_te (At_te (At_ie ?_)))
 have hm := exit_of hm hr0
 refine At_go <| W_seq <| W_q [] (.n 2 (sl A0 (Int.toNat (8 : Int)) (Int.toNat (8 : Int))) .z) qe (by kernel_rfl) ?_
 refine At_go <| W_ret ?_
 obtain rfl := Option.some.inj hm
 refine At_rt [sl A0 (Int.toNat (8 : Int)) (Int.toNat (8 : Int))] qe (by kernel_rfl) ?_
 exact ⟨A0, Int.toNat (8 : Int), Int.toNat (8 : Int), k_1.len 0 rfl, rfl, k_1⟩

-- quern/mixb.Bytes
noncomputable def m_mixb_Bytes_l0 (h : Vec UInt64 8) : (List UInt8 × Int) → Option ((List UInt8 × Int) ⊕ (List UInt8))
  | (b, x_0) => if x_0 < 8 then ((geti h.l x_0).bind fun x_1 => (m_word_Store64 x_1).bind fun r_ => (app b r_ 1).bind fun b1 => some (.inl (b1, w64 (x_0 + 1)))) else (Option.map Sum.inr (some b))
noncomputable def m_mixb_Bytes (h : Vec UInt64 8) : Option (List UInt8) :=
  whileO (m_mixb_Bytes_l0 h) (List.replicate (Int.toNat (0 : Int)) (0 : UInt8), (0 : Int))
theorem c_mixb_Bytes {F O : Nat → Prop} {w : World} (h : Vec UInt64 8) (k : Cx F O w w []) (r : (List UInt8)) (hm : m_mixb_Bytes h = some r) :
    Calls Tryz.prog 133 (vals [.agg [.ar e64 h]]) w (fun e w' => ∃ A n c, r.length = n ∧ e = .returned (SV.val (sl A n c)) ∧ Cx F O w w' [Ow e8 A n c r]) := by
 unfold m_mixb_Bytes at hm
 refine calls [.agg [.ar e64 h]] Tryz.func133 rfl (of_decide_eq_true (by kernel_rfl)) ?_
 refine W_seq <| W_reg <| WL_op <| Op_box [] 1 (.agg [.ar e64 h]) [.ar e64 h] (by kernel_rfl) k ?_
 intro g w_ k_
 refine WLs 1 [] (.k .z) qe (by kernel_rfl) ?_
 refine WL_nil <| At_go <| W_seq <| W_reg <| WL_op <| Op_make yz_tf22 e8 (0 : UInt8) rfl [] 6 (I 0) (I 64) (0 : Int) (64 : Int) (by kernel_rfl) (by omega) (by omega) (by omega) k_ ?_
 intro A0 w_1 k_1
 refine WLs 1 [] (.n 3 (sl A0 (Int.toNat (0 : Int)) (Int.toNat (64 : Int))) (.s .a)) qe (by kernel_rfl) ?_
 refine WL_nil <| At_go <| W_seq <| W_seq <| W_q [] (.n 7 (.agg [.ar e64 h]) (.n 8 (I 0) (.k .z))) (qT k_1 0 rfl 0 8 [.ar e64 h] (by kernel_rfl) (by decide) <| qe) (by kernel_rfl) ?_
 refine At_go <| W_block ?_
 have k_3 := k_1.sel (.s (.k .e))
 refine W_lp (m_mixb_Bytes_l0 h) (fun s L wr => ∃ (b : List UInt8) (x_0 : Int) (A1 : Option Addr) (n0 : Nat) (c0 : Nat), (b, x_0) = s ∧ L = [(3, sl A1 n0 c0), (7, .agg [.ar e64 h]), (8, I x_0)] ∧ b.length = n0 ∧ Cx F O w wr [Ow e8 A1 n0 c0 b]) (List.replicate (Int.toNat (0 : Int)) (0 : UInt8), (0 : Int)) r hm ⟨List.replicate (Int.toNat (0 : Int)) (0 : UInt8), (0 : Int), A0, Int.toNat (0 : Int), Int.toNat (64 : Int), rfl, rfl, k_3.len 0 rfl, k_3⟩ (by kernel_rfl) ?_
 intro s0_ L_ w_2 y0 hrel hstep hr0
 obtain ⟨b, x_0, A1, _, c0, rfl, rfl, rfl, k_2⟩ := hrel
 have hm := hstep; simp only [m_mixb_Bytes_l0] at hm
 clear hstep
 refine W_seq <| W_q [] (.n 9 (.b (decide (x_0 < 8))) .a) qe (by kernel_rfl) ?_
 refine At_go <| W_seq <| W_condp (x_0 < 8) (by kernel_rfl) (fun hc => ?_) (fun hc => ?_)
 · rw [if_pos hc] at hm
   refine W_skip <| At_go <| W_seq <| W_block <| W_seq ?_
   obtain ⟨x_1, h_x_1, hm⟩ := ob hm
   refine W_q [] (.n 5 (.u64 x_1) (.s .a)) (qo (.u64 x_1) <| qp ((0 ≤ x_0 ∧ x_0 < ((8 : Nat) : Int)) ∧ (SV.cl [.ar e64 h])[Int.toNat x_0 * 1]? = some (SV.val (.u64 x_1))) (ar_ix (E := e64) h_x_1 rfl) <| qe) (by kernel_rfl) ?_
   refine At_go <| W_reg <| WLs 2 [] (.n 11 (sl A1 b.length c0) (.n 12 (.u64 x_1) (.s .a))) qe (by kernel_rfl) ?_
   refine WL_op ?_
   obtain ⟨r_, h_r_, hm⟩ := ob hm
   refine Op_call [] 13 _ yz_go47 (by kernel_rfl) (c_word_Store64 (F := N0) (O := N0) _ (Cx.refl _) _ h_r_) ?_
   rintro e_ w_3 ⟨A2, _, c1, rfl, rfl, k_4⟩
   have k_5 := k_2.call k_4
   refine ⟨sl A2 r_.length c1, rfl, ?_⟩
   refine WL_op ?_
   obtain ⟨b1, h_b1, hm⟩ := ob hm
   obtain ⟨hz, hl⟩ := app_some h_b1
   refine Op_append (E := e8) (v := sl A2 r_.length c1) (ys := r_) yz_tf22 [] 14 0 (by kernel_rfl) k_5 rfl (Src.sl (k_5.rd 1 rfl) (k_5.len 1 rfl) (by rfl)) (k_5.len 1 rfl) (by have := k_5.len 0 rfl; have := (k_5.len 1 rfl); omega) ?_
   intro A3 c2 w_4 k_6
   rw [← hl] at k_6
   have k_7 := k_6.sel (.k .z)
   refine WLs 1 [] (.n 3 (sl A3 (b.length + r_.length) c2) (.ssss (.s .a))) qe (by kernel_rfl) ?_
   refine WL_nil <| At_in <| At_go <| W_q [] (.n 8 (I (w64 (x_0 + 1))) (.kk .z)) qe (by kernel_rfl) ?_
   exact At_rd (b1, w64 (x_0 + 1)) (Option.some.inj hm).symm ⟨b1, w64 (x_0 + 1), A3, b.length + r_.length, c2, rfl, rfl, k_7.len 0 rfl, k_7⟩ (by kernel_rfl)
 rw [if_neg hc] at hm
 refine W_exit (At_te (At_te (At_ie ?_)))
 have hm := exit_of hm hr0
 refine At_go <| W_seq <| W_q [] (.n 2 (sl A1 b.length c0) .z) qe (by kernel_rfl) ?_
 refine At_go <| W_ret ?_
 obtain rfl := Option.some.inj hm
 refine At_rt [sl A1 b.length c0] qe (by kernel_rfl) ?_
 exact ⟨A1, b.length, c0, k_2.len 0 rfl, rfl, k_2⟩

-- (*quern/node.half[uint64]).out
noncomputable def m_node_half_uint64_out_j0 (x_h : Vec UInt64 8) (x_count_Lo : UInt64) (x_count_Hi : UInt64) (x_held : List UInt8) (x_block : Int) (node : Bool) (c0 : UInt64) (c2 : UInt64) : Option (List UInt8 × Vec UInt64 8 × UInt64 × UInt64 × List UInt8 × Int) :=
  (m_node_padded x_held x_block).bind fun r_1 => (m_node_mixBig x_h r_1 c0 c2 true node).bind fun r_2 => (m_mixb_Bytes r_2).bind fun r_3 => some (r_3, x_h, x_count_Lo, x_count_Hi, x_held, x_block)
noncomputable def m_node_half_uint64_out (x_h : Vec UInt64 8) (x_count_Lo : UInt64) (x_count_Hi : UInt64) (x_held : List UInt8) (x_block : Int) (node : Bool) : Option (List UInt8 × Vec UInt64 8 × UInt64 × UInt64 × List UInt8 × Int) :=
  (m_word_Add x_count_Lo x_count_Hi (UInt64.ofInt ((x_held.length : Nat) : Int))).bind fun r_ => m_node_half_uint64_out_j0 x_h x_count_Lo x_count_Hi x_held x_block node r_.1 r_.2.1
theorem c_node_half_uint64_out {F O : Nat → Prop} {w : World} (x_h : Vec UInt64 8) (x_count_Lo : UInt64) (x_count_Hi : UInt64) (x_held : List UInt8) (x_block : Int) (node : Bool) (g_x : Nat) (A_x_held : Option Addr) (n_x_held : Nat) (c_x_held : Nat) (k : Cx F O w w [Bx 206 g_x [.ar e64 x_h, .u64 x_count_Lo, .u64 x_count_Hi, sl A_x_held n_x_held c_x_held, I x_block, .v (.func (.func 132) ⟨SV.vals []⟩ ⟨SV.vals []⟩), .v (.func (.func 133) ⟨SV.vals []⟩ ⟨SV.vals []⟩)], Ow e8 A_x_held n_x_held c_x_held x_held]) (r : (List UInt8 × Vec UInt64 8 × UInt64 × UInt64 × List UInt8 × Int)) (hm : m_node_half_uint64_out x_h x_count_Lo x_count_Hi x_held x_block node = some r) :
    Calls Tryz.prog 184 (vals [pt g_x 0, .b node]) w (fun e w' => ∃ A n c A1 n1 c1, r.1.length = n ∧ r.2.2.2.2.1.length = n1 ∧ e = .returned (SV.val (sl A n c)) ∧ Cx F O w w' [Ow e8 A n c r.1, Bx 206 g_x [.ar e64 r.2.1, .u64 r.2.2.1, .u64 r.2.2.2.1, sl A1 n1 c1, I r.2.2.2.2.2, .v (.func (.func 132) ⟨SV.vals []⟩ ⟨SV.vals []⟩), .v (.func (.func 133) ⟨SV.vals []⟩ ⟨SV.vals []⟩)], Ow e8 A1 n1 c1 r.2.2.2.2.1]) := by
 unfold m_node_half_uint64_out at hm
 obtain rfl := k.len 1 rfl
 refine calls [pt g_x 0, .b node] Tryz.func184 rfl (of_decide_eq_true (by kernel_rfl)) ?_
 refine W_seq <| W_q [] .a qe (by kernel_rfl) ?_
 refine At_go <| W_seq <| W_cutr (fun L wr => ∃ (c0 : UInt64) (c2 : UInt64) (g : Nat), m_node_half_uint64_out_j0 x_h x_count_Lo x_count_Hi x_held x_block node c0 c2 = some r ∧ L = [(0, pt g_x 0), (1, .b node), (5, pt g 0)] ∧ Cx F O w wr [Bx 206 g_x [.ar e64 x_h, .u64 x_count_Lo, .u64 x_count_Hi, sl A_x_held x_held.length c_x_held, I x_block, .v (.func (.func 132) ⟨SV.vals []⟩ ⟨SV.vals []⟩), .v (.func (.func 133) ⟨SV.vals []⟩ ⟨SV.vals []⟩)], Ow e8 A_x_held x_held.length c_x_held x_held, Bx 204 g [.u64 c0, .u64 c2]]) ?_ ?_
 ·
  have k_ := k.drew 1
  refine W_m yz_mixed (.q 0 2 (.q 1 2 (.q 2 2 (.q 3 1 (.q 4 2 (.q 5 2 (.q 6 2 (.q 7 2 (.q 8 2 (.q 9 1 (.br 10 14 (.q 11 2 (.q 12 2 (.q 13 3 (.op 14 (.op 15 (.q 16 3 .nil)))))) (.op 10 (.q 11 2 (.q 12 2 (.q 13 3 (.op 15 (.q 16 3 .nil))))))))))))))))) [10, 14, 15] k_ (.c (.kk .e) (.c (.kk .e) (.c (.kk .e) .l))) (by kernel_rfl) (fun _ => ?_)
  refine MXq 3 2 [] (.n 10 (pt g_x 8) .a) (fun x hx => qs g_x 0 <| qs g_x 0 <| qe) (by kernel_rfl) (fun _ => ?_)
  refine MXq 1 1 [] (.n 11 (.agg [.u64 x_count_Lo, .u64 x_count_Hi]) (.s .a)) (fun x hx => qT hx 0 rfl 8 2 [.u64 x_count_Lo, .u64 x_count_Hi] (by kernel_rfl) (by decide) <| qe) (by kernel_rfl) (fun _ => ?_)
  refine MXq 5 2 [] (.n 16 (I ((x_held.length : Nat) : Int)) .a) (fun x hx => qs g_x 0 <| qs g_x 0 <| qB hx 0 rfl 10 (sl A_x_held x_held.length c_x_held) (by kernel_rfl) <| qe) (by kernel_rfl) (fun _ => ?_)
  refine MXq 1 1 [] (.n 17 (.u64 (UInt64.ofInt ((x_held.length : Nat) : Int))) (.s .a)) (fun x hx => qe) (by kernel_rfl) (fun _ => ?_)
  refine MX_br (by kernel_rfl) (by kernel_rfl) rfl rfl ?_ ?_
  ·
   obtain ⟨r_, h_r_, hm⟩ := ob hm
   refine Op_call [] 18 _ yz_go187 (by kernel_rfl) (c_word_Add (F := N0) (O := N0) _ _ _ (Cx.refl _) _ h_r_) ?_
   rintro e_ w_ ⟨rfl, k_1⟩
   have k_2 := k_.call k_1
   refine ⟨.tup [.agg [.u64 r_.1, .u64 r_.2.1], .b r_.2.2], rfl, ?_⟩
   refine ⟨k_2, fun _ => ?_⟩
   refine MXq 2 2 [] (.n 7 (.tup [.agg [.u64 r_.1, .u64 r_.2.1], .b r_.2.2]) (.n 19 (.agg [.u64 r_.1, .u64 r_.2.1]) (.sss .a))) (fun x hx => qe) (by kernel_rfl) (fun _ => ?_)
   refine MXq 1 3 [] (.n 20 (.b r_.2.2) (.s .a)) (fun x hx => qe) (by kernel_rfl) (fun _ => ?_)
   refine MX_op (by kernel_rfl) rfl <| Op_alloc [] 5 [.u64 0, .u64 0] (by kernel_rfl) k_2 ?_
   intro g1 w_1 k_3
   refine ⟨(k_3.sel (.kk .z)), fun _ => ?_⟩
   refine MX_op (by kernel_rfl) rfl <| Op_b [] 2 (.agg [.u64 r_.1, .u64 r_.2.1]) [.u64 r_.1, .u64 r_.2.1] (Pt.at g1 0) k_3 rfl .all (by kernel_rfl) (by kernel_rfl) ?_
   intro w_2 k_4
   refine ⟨(k_4.sel (.kk .z)), fun _ => ?_⟩
   refine MXq 1 3 [] (.k (.ss .a)) (fun x hx => qe) (by kernel_rfl) (fun _ => ?_)
   refine MX_nil ?_
   exact At_c ⟨r_.1, r_.2.1, g1, hm, rfl, k_4⟩ (by kernel_rfl)
  ·
   refine Op_alloc [] 5 [.u64 0, .u64 0] (by kernel_rfl) k_ ?_
   intro g1 w_ k_1
   refine ⟨(k_1.sel (.kk .z)), fun _ => ?_⟩
   refine MX_op (by kernel_rfl) rfl ?_
   obtain ⟨r_, h_r_, hm⟩ := ob hm
   refine Op_call [] 18 _ yz_go187 (by kernel_rfl) (c_word_Add (F := N0) (O := N0) _ _ _ (Cx.refl _) _ h_r_) ?_
   rintro e_ w_1 ⟨rfl, k_2⟩
   have k_3 := k_1.call k_2
   refine ⟨.tup [.agg [.u64 r_.1, .u64 r_.2.1], .b r_.2.2], rfl, ?_⟩
   refine ⟨(k_3.sel (.kk .z)), fun _ => ?_⟩
   refine MXq 2 2 [] (.n 7 (.tup [.agg [.u64 r_.1, .u64 r_.2.1], .b r_.2.2]) (.n 19 (.agg [.u64 r_.1, .u64 r_.2.1]) (.s (.k (.ss .a))))) (fun x hx => qe) (by kernel_rfl) (fun _ => ?_)
   refine MXq 1 3 [] (.n 20 (.b r_.2.2) (.s .a)) (fun x hx => qe) (by kernel_rfl) (fun _ => ?_)
   refine MX_op (by kernel_rfl) rfl <| Op_b [] 2 (.agg [.u64 r_.1, .u64 r_.2.1]) [.u64 r_.1, .u64 r_.2.1] (Pt.at g1 0) k_3 rfl .all (by kernel_rfl) (by kernel_rfl) ?_
   intro w_2 k_4
   refine ⟨(k_4.sel (.kk .z)), fun _ => ?_⟩
   refine MXq 1 3 [] (.ss .a) (fun x hx => qe) (by kernel_rfl) (fun _ => ?_)
   refine MX_nil ?_
   exact At_c ⟨r_.1, r_.2.1, g1, hm, rfl, k_4⟩ (by kernel_rfl)
 rintro L_ w_3 ⟨c0, c2, g, hm, rfl, k_5⟩
 simp only [m_node_half_uint64_out_j0] at hm
 refine At_go <| W_seq ?_
 have k_6 := k_5.drew 1
 refine W_m yz_mixed (.q 21 2 (.q 22 2 (.q 0 3 (.q 1 3 (.q 2 3 (.q 3 2 (.q 4 3 (.q 5 3 (.q 6 3 (.q 7 2 (.q 8 3 (.q 9 3 (.q 10 3 (.q 11 2 (.q 12 3 (.q 13 3 (.q 14 3 (.q 15 2 (.q 16 3 (.q 17 3 (.q 18 3 (.q 19 2 (.op 20 (.op 23 (.op 24 (.q 25 3 .nil)))))))))))))))))))))))))) [20, 23, 24] k_6 (.c (.kk (.k .e)) (.c (.kk (.k .e)) (.c (.kk (.k .e)) .l))) (by kernel_rfl) (fun _ => ?_)
 refine MXq 2 2 [] (.n 42 (.agg [.u64 c0, .u64 c2]) (.n 43 (.b node) (.k .z))) (fun x hx => qT hx 2 rfl 0 2 [.u64 c0, .u64 c2] (by kernel_rfl) (by decide) <| qe) (by kernel_rfl) (fun _ => ?_)
 refine MXq 3 3 [] (.n 23 (pt g_x 13) .a) (fun x hx => qs g_x 0 <| qs g_x 0 <| qe) (by kernel_rfl) (fun _ => ?_)
 refine MXq 1 2 [] (.n 24 (.v (.func (.func 133) ⟨SV.vals []⟩ ⟨SV.vals []⟩)) (.s .a)) (fun x hx => qB hx 0 rfl 13 (.v (.func (.func 133) ⟨SV.vals []⟩ ⟨SV.vals []⟩)) (by kernel_rfl) <| qe) (by kernel_rfl) (fun _ => ?_)
 refine MXq 3 3 [] (.n 27 (pt g_x 12) .a) (fun x hx => qs g_x 0 <| qs g_x 0 <| qe) (by kernel_rfl) (fun _ => ?_)
 refine MXq 1 2 [] (.n 28 (.v (.func (.func 132) ⟨SV.vals []⟩ ⟨SV.vals []⟩)) (.s .a)) (fun x hx => qB hx 0 rfl 12 (.v (.func (.func 132) ⟨SV.vals []⟩ ⟨SV.vals []⟩)) (by kernel_rfl) <| qe) (by kernel_rfl) (fun _ => ?_)
 refine MXq 3 3 [] (.n 31 (pt g_x 0) .a) (fun x hx => qs g_x 0 <| qs g_x 0 <| qe) (by kernel_rfl) (fun _ => ?_)
 refine MXq 1 2 [] (.n 32 (.agg [.ar e64 x_h]) (.s .a)) (fun x hx => qT hx 0 rfl 0 8 [.ar e64 x_h] (by kernel_rfl) (by decide) <| qe) (by kernel_rfl) (fun _ => ?_)
 refine MXq 3 3 [] (.n 35 (pt g_x 10) .a) (fun x hx => qs g_x 0 <| qs g_x 0 <| qe) (by kernel_rfl) (fun _ => ?_)
 refine MXq 1 2 [] (.n 36 (sl A_x_held x_held.length c_x_held) (.s .a)) (fun x hx => qB hx 0 rfl 10 (sl A_x_held x_held.length c_x_held) (by kernel_rfl) <| qe) (by kernel_rfl) (fun _ => ?_)
 refine MXq 3 3 [] (.n 39 (pt g_x 11) (.kkkk (.kk .z))) (fun x hx => qs g_x 0 <| qs g_x 0 <| qe) (by kernel_rfl) (fun _ => ?_)
 refine MXq 1 2 [] (.n 40 (I x_block) (.s .a)) (fun x hx => qB hx 0 rfl 11 (I x_block) (by kernel_rfl) <| qe) (by kernel_rfl) (fun _ => ?_)
 refine MX_op (by kernel_rfl) rfl ?_
 obtain ⟨r_1, h_r_1, hm⟩ := ob hm
 refine Op_call [] 41 _ yz_go120 (by kernel_rfl) (c_node_padded (F := N0) (O := N0) _ _ _ _ _ (Ro.n0 (k_6.rd 1 rfl)) (k_6.len 1 rfl) (k_6.lec 1 rfl) (Cx.refl _) _ h_r_1) ?_
 rintro e_ w_4 ⟨A0, _, c3, rfl, rfl, k_7⟩
 have k_8 := k_6.call k_7
 refine ⟨sl A0 r_1.length c3, rfl, ?_⟩
 refine ⟨(k_8.sel (.kk (.k .z))), fun _ => ?_⟩
 refine MX_op (by kernel_rfl) rfl ?_
 obtain ⟨r_2, h_r_2, hm⟩ := ob hm
 refine Op_callv [] 44 [] [.agg [.ar e64 x_h], sl A0 r_1.length c3, .agg [.u64 c0, .u64 c2], .b true, .b node] [] yz_go132 (by kernel_rfl) (c_node_mixBig (F := N0) (O := N0) _ _ _ _ _ _ _ _ _ (Ro.n0 (k_8.rd 3 rfl)) (k_8.len 3 rfl) (k_8.lec 3 rfl) (Cx.refl _) _ h_r_2) ?_
 rintro e_ w_5 ⟨rfl, k_9⟩
 have k_10 := k_8.call k_9
 refine ⟨.agg [.ar e64 r_2], rfl, ?_⟩
 have k_11 := k_10.sel (.kk (.k .z))
 refine ⟨k_11, fun _ => ?_⟩
 refine MX_op (by kernel_rfl) rfl ?_
 obtain ⟨r_3, h_r_3, hm⟩ := ob hm
 refine Op_callv [] 45 [] [.agg [.ar e64 r_2]] [] yz_go133 (by kernel_rfl) (c_mixb_Bytes (F := N0) (O := N0) _ (Cx.refl _) _ h_r_3) ?_
 rintro e_ w_6 ⟨A2, _, c4, rfl, rfl, k_12⟩
 have k_13 := k_11.call k_12
 refine ⟨sl A2 r_3.length c4, rfl, ?_⟩
 refine ⟨(k_13.sel (.kk (.k .z))), fun _ => ?_⟩
 refine MXq 1 3 [] (.n 4 (sl A2 r_3.length c4) .z) (fun x hx => qe) (by kernel_rfl) (fun _ => ?_)
 refine MX_nil <| At_go <| W_ret ?_
 obtain rfl := Option.some.inj hm
 refine At_rt [sl A2 r_3.length c4] qe (by kernel_rfl) ?_
 have k_14 := (((k_13.pk (.t .h)).pk (.t .h)).pk (.t (.t (.t .h)))).sel (.kk (.k .z))
 exact ⟨A2, r_3.length, c4, A_x_held, x_held.length, c_x_held, k_14.len 0 rfl, k_14.len 2 rfl, rfl, k_14⟩
end Go.Sx
