import Derived.Test.YtlekdnlojpnlmaaW2
namespace Go.Sx
open Go.RowKit Go.Proofs
set_option linter.unusedVariables false
set_option linter.unusedSimpArgs false
set_option maxRecDepth 20000
variable {F O : Nat → Prop} {w : World}
theorem c_xof_Stream_give_s2 (x_s_kind : Int) (x_s_full : Int) (x_s_code : UInt32) (x_s_total : UInt64) (x_s_known : Bool) (x_key : List UInt8) (x_salt : List UInt8) (x_personal : List UInt8) (x_n_kind : Int) (x_n_digest : Int) (x_n_block : List UInt8) (x_n_key : List UInt8) (x_n_last : Bool) (x_n_written : UInt64) (x_n_e_h : Vec UInt32 8) (x_n_e_count_Lo : UInt64) (x_n_e_count_Hi : UInt64) (x_n_e_held : List UInt8) (x_n_e_block : Int) (x_at : UInt64) (x_now : Vec UInt8 64) (x_have : Int) (g_x : Nat) (A_x_key : Option Addr) (n_x_key : Nat) (c_x_key : Nat) (A_x_salt : Option Addr) (n_x_salt : Nat) (c_x_salt : Nat) (A_x_personal : Option Addr) (n_x_personal : Nat) (c_x_personal : Nat) (g_x_n : Nat) (A_x_n_block : Option Addr) (n_x_n_block : Nat) (c_x_n_block : Nat) (A_x_n_key : Option Addr) (n_x_n_key : Nat) (c_x_n_key : Nat) (g_x_n_e : Nat) (A_x_n_e_held : Option Addr) (n_x_n_e_held : Nat) (c_x_n_e_held : Nat) (k : Cx F O w w [Bx 52 g_x [I x_s_kind, I x_s_full, .u32 x_s_code, .u64 x_s_total, .b x_s_known, sl A_x_key n_x_key c_x_key, sl A_x_salt n_x_salt c_x_salt, sl A_x_personal n_x_personal c_x_personal, pt g_x_n 0, sl none 0 0, .u64 x_at, .ar e8 x_now, I x_have, .v (.func (.func 28) ⟨SV.vals [pt g_x 0]⟩ ⟨SV.vals []⟩)], Ow e8 A_x_key n_x_key c_x_key x_key, Ow e8 A_x_salt n_x_salt c_x_salt x_salt, Ow e8 A_x_personal n_x_personal c_x_personal x_personal, Bx 77 g_x_n [I x_n_kind, I x_n_digest, sl A_x_n_block n_x_n_block c_x_n_block, sl A_x_n_key n_x_n_key c_x_n_key, .b x_n_last, .u64 x_n_written, .v (.iface 124 (SV.val (pt g_x_n_e 0)))], Ow e8 A_x_n_block n_x_n_block c_x_n_block x_n_block, Ow e8 A_x_n_key n_x_n_key c_x_n_key x_n_key, Bx 128 g_x_n_e [.ar e32 x_n_e_h, .u64 x_n_e_count_Lo, .u64 x_n_e_count_Hi, sl A_x_n_e_held n_x_n_e_held c_x_n_e_held, I x_n_e_block, .v (.func (.func 65) ⟨SV.vals []⟩ ⟨SV.vals []⟩), .v (.func (.func 66) ⟨SV.vals []⟩ ⟨SV.vals []⟩)], Ow e8 A_x_n_e_held n_x_n_e_held c_x_n_e_held x_n_e_held]) (r : (Vec UInt32 8 × UInt64 × UInt64 × List UInt8 × Int × Int × Int × List UInt8 × List UInt8 × Bool × UInt64 × Int × Int × UInt32 × UInt64 × Bool × List UInt8 × List UInt8 × List UInt8 × List UInt8 × UInt64 × Vec UInt8 64 × Int)) (hm : m_xof_Stream_give_s2 x_s_kind x_s_full x_s_code x_s_total x_s_known x_key x_salt x_personal x_n_kind x_n_digest x_n_block x_n_key x_n_last x_n_written x_n_e_h x_n_e_count_Lo x_n_e_count_Hi x_n_e_held x_n_e_block x_at x_now x_have = some r) :
    Calls Try.prog 17 (vals [pt g_x 0]) w (fun e w' => ∃ A n c A1 n1 c1 A2 n2 c2 A3 n3 c3 A4 n4 c4 A5 n5 c5 g n6 c6, r.2.2.2.1.length = n ∧ r.2.2.2.2.2.2.2.1.length = n1 ∧ r.2.2.2.2.2.2.2.2.1.length = n2 ∧ r.2.2.2.2.2.2.2.2.2.2.2.2.2.2.2.2.1.length = n3 ∧ r.2.2.2.2.2.2.2.2.2.2.2.2.2.2.2.2.2.1.length = n4 ∧ r.2.2.2.2.2.2.2.2.2.2.2.2.2.2.2.2.2.2.1.length = n5 ∧ r.2.2.2.2.2.2.2.2.2.2.2.2.2.2.2.2.2.2.2.1.length = n6 ∧ e = .returned (SV.val (.tup [])) ∧ Cx F O w w' [Bx 128 g_x_n_e [.ar e32 r.1, .u64 r.2.1, .u64 r.2.2.1, sl A n c, I r.2.2.2.2.1, .v (.func (.func 65) ⟨SV.vals []⟩ ⟨SV.vals []⟩), .v (.func (.func 66) ⟨SV.vals []⟩ ⟨SV.vals []⟩)], Ow e8 A n c r.2.2.2.1, Bx 77 g_x_n [I r.2.2.2.2.2.1, I r.2.2.2.2.2.2.1, sl A1 n1 c1, sl A2 n2 c2, .b r.2.2.2.2.2.2.2.2.2.1, .u64 r.2.2.2.2.2.2.2.2.2.2.1, .v (.iface 124 (SV.val (pt g_x_n_e 0)))], Ow e8 A1 n1 c1 r.2.2.2.2.2.2.2.1, Ow e8 A2 n2 c2 r.2.2.2.2.2.2.2.2.1, Bx 52 g_x [I r.2.2.2.2.2.2.2.2.2.2.2.1, I r.2.2.2.2.2.2.2.2.2.2.2.2.1, .u32 r.2.2.2.2.2.2.2.2.2.2.2.2.2.1, .u64 r.2.2.2.2.2.2.2.2.2.2.2.2.2.2.1, .b r.2.2.2.2.2.2.2.2.2.2.2.2.2.2.2.1, sl A3 n3 c3, sl A4 n4 c4, sl A5 n5 c5, pt g_x_n 0, sl (some ⟨g, 0, none⟩) n6 c6, .u64 r.2.2.2.2.2.2.2.2.2.2.2.2.2.2.2.2.2.2.2.2.1, .ar e8 r.2.2.2.2.2.2.2.2.2.2.2.2.2.2.2.2.2.2.2.2.2.1, I r.2.2.2.2.2.2.2.2.2.2.2.2.2.2.2.2.2.2.2.2.2.2, .v (.func (.func 30) ⟨SV.vals [pt g_x 0]⟩ ⟨SV.vals []⟩)], Ow e8 A3 n3 c3 r.2.2.2.2.2.2.2.2.2.2.2.2.2.2.2.2.1, Ow e8 A4 n4 c4 r.2.2.2.2.2.2.2.2.2.2.2.2.2.2.2.2.2.1, Ow e8 A5 n5 c5 r.2.2.2.2.2.2.2.2.2.2.2.2.2.2.2.2.2.2.1, Sh (SH e8) [((some ⟨g, 0, none⟩), n6, c6)] [r.2.2.2.2.2.2.2.2.2.2.2.2.2.2.2.2.2.2.2.1]]) := by
 unfold m_xof_Stream_give_s2 at hm
 obtain rfl := k.len 1 rfl
 obtain rfl := k.len 2 rfl
 obtain rfl := k.len 3 rfl
 obtain rfl := k.len 5 rfl
 obtain rfl := k.len 6 rfl
 obtain rfl := k.len 8 rfl
 refine calz [pt g_x 0] Try.func17 rfl ?_
 refine W_seq <| Wa (.n 6 (.b true) .a) (qs g_x 0 <| qs g_x 0 <| qB k 0 rfl 9 (sl none 0 0) (by kernel_rfl) <| qe) ?_
 refine W_cond true (by kernel_rfl) (fun _ => ?_) (fun h => by cases h)
 refine W_seq ?_
 have k_ := k.drew 1
 refine W_m ws_mixed (.q 0 1 (.q 1 1 (.q 2 1 (.q 3 0 (.q 4 0 (.q 5 1 (.q 6 1 (.q 7 1 (.q 8 0 (.q 9 0 (.op 10 (.q 11 1 (.q 12 1 (.q 14 1 (.q 15 1 (.q 13 2 (.op 16 .nil))))))))))))))))) [10, 16] k_ (.c (.kkkk .z) (.c (.s (.kk (.k .e))) .l)) (by kernel_rfl) (fun _ => ?_)
 refine MXz 3 1 (.n 8 (pt g_x 0) (.n 10 (pt g_x 0) (.s .a))) (fun x hx => qs g_x 0 <| qe) fun _ => ?_
 refine MXz 2 0 (.n 12 (pt g_x_n 0) (.k (.s .a))) (fun x hx => qs g_x 0 <| qB hx 0 rfl 8 (pt g_x_n 0) (by kernel_rfl) <| qe) fun _ => ?_
 refine MXz 3 1 (.n 15 (pt g_x 0) .a) (fun x hx => qs g_x 0 <| qs g_x 0 <| qe) fun _ => ?_
 refine MXz 2 0 (.n 17 (I x_s_full) (.s .a)) (fun x hx => qs g_x 0 <| qB hx 0 rfl 1 (I x_s_full) (by kernel_rfl) <| qe) fun _ => ?_
 refine MX_op (by kernel_rfl) rfl ?_
 obtain ⟨r_, h_r_, hm⟩ := ob hm
 obtain ⟨F1, O1, kin, hO, hre, hF, hb⟩ := k_.go (.r (.r (.r (.r (.i (.i (.i (.i (.i .e)))))))))
 refine Op_cz 18 ws_go29 (c_node_Node_Out_s1 (F := F1) (O := O1) _ _ _ _ _ _ _ _ _ _ _ _ _ _ _ _ _ _ _ _ _ _ _ kin _ h_r_) ?_
 rintro e_ w_ ⟨A0, _, c0, A6, _, c7, A7, _, c8, A8, _, c9, rfl, rfl, rfl, rfl, rfl, k_1⟩
 have k_2 := hb w_ _ _ k_1 (.c (.c (.c (.c (.c (.c .n))))))
 refine ⟨.tup [sl A0 r_.1.length c0, I r_.2.1], rfl, ?_⟩
 refine ⟨(k_2.sel (.ssss (.ss (.kkkk .e)))), fun _ => ?_⟩
 refine MXz 4 1 (.n 7 (.tup [sl A0 r_.1.length c0, I r_.2.1]) (.n 19 (sl A0 r_.1.length c0) (.n 22 (pt g_x 9) (.ssss .a)))) (fun x hx => qs g_x 0 <| qs g_x 0 <| qe) fun _ => ?_
 refine MXz 1 2 (.s .a) (fun x hx => qe) fun _ => ?_
 refine MX_op (by kernel_rfl) rfl ?_
 obtain ⟨u, h_u, hm⟩ := ob hm
 obtain ⟨g0, rfl⟩ := k_2.owsome 0 rfl (need_some h_u)
 have k_3 := k_2.share
 refine Op_bz 6 (sl (some ⟨g0, 0, none⟩) r_.1.length c0) [sl (some ⟨g0, 0, none⟩) r_.1.length c0] (Pt.at g_x 9) k_3 rfl (.kkkk (.kkkk (.k .h))) ?_
 intro w_1 k_4
 refine ⟨(k_4.sel (.ssss (.ss (.s (.kk (.k .e)))))), fun _ => ?_⟩
 refine MX_nil <| At_go <| W_reg <| Wl 5 (.n 25 (.v (.func (.func 30) ⟨SV.vals [pt g_x 0]⟩ ⟨SV.vals []⟩)) (.n 27 (pt g_x 76) .z)) (qs g_x 0 <| qs g_x 0 <| qe) ?_
 refine WL_op <| Op_bz 6 (.v (.func (.func 30) ⟨SV.vals [pt g_x 0]⟩ ⟨SV.vals []⟩)) [.v (.func (.func 30) ⟨SV.vals [pt g_x 0]⟩ ⟨SV.vals []⟩)] (Pt.at g_x 76) k_4 rfl (.kkkk (.kkkk (.kkkk (.k .h)))) ?_
 intro w_2 k_5
 refine WL_nil ?_
 obtain rfl := si hm
 refine At_en [] qe (by kernel_rfl) ?_
 have k_6 := (((((((((k_5.pk .h).pk (.t (.t (.t (.t (.t (.t (.t (.t (.t .h)))))))))).pk (.t (.t (.t (.t (.t (.t (.t (.t (.t .h)))))))))).pk (.t (.t (.t (.t (.t (.t (.t (.t (.t .h)))))))))).pk (.t (.t (.t (.t (.t (.t (.t (.t (.t .h)))))))))).pk (.t (.t (.t (.t (.t (.t (.t (.t (.t .h)))))))))).pk (.t (.t (.t (.t (.t (.t (.t (.t (.t .h)))))))))).pk (.t (.t (.t (.t (.t (.t (.t (.t (.t .h)))))))))).pk (.t (.t (.t (.t (.t (.t (.t (.t (.t .h)))))))))).pk (.t (.t (.t (.t (.t (.t (.t (.t (.t .h)))))))))
 exact ⟨A6, r_.2.2.2.2.2.1.length, c7, A7, r_.2.2.2.2.2.2.2.2.2.1.length, c8, A8, r_.2.2.2.2.2.2.2.2.2.2.1.length, c9, A_x_key, x_key.length, c_x_key, A_x_salt, x_salt.length, c_x_salt, A_x_personal, x_personal.length, c_x_personal, g0, r_.1.length, c0, k_6.len 1 rfl, k_6.len 3 rfl, k_6.len 4 rfl, k_6.len 6 rfl, k_6.len 7 rfl, k_6.len 8 rfl, k_6.shlen 9 rfl, rfl, k_6⟩
theorem c_xof_Stream_Skip_s1 (x_s_kind : Int) (x_s_full : Int) (x_s_code : UInt32) (x_s_total : UInt64) (x_s_known : Bool) (x_key : List UInt8) (x_salt : List UInt8) (x_personal : List UInt8) (x_n_kind : Int) (x_n_digest : Int) (x_n_block : List UInt8) (x_n_key : List UInt8) (x_n_last : Bool) (x_n_written : UInt64) (x_n_e_h : Vec UInt32 8) (x_n_e_count_Lo : UInt64) (x_n_e_count_Hi : UInt64) (x_n_e_held : List UInt8) (x_n_e_block : Int) (x_at : UInt64) (x_now : Vec UInt8 64) (x_have : Int) (n : UInt64) (g_x : Nat) (A_x_key : Option Addr) (n_x_key : Nat) (c_x_key : Nat) (A_x_salt : Option Addr) (n_x_salt : Nat) (c_x_salt : Nat) (A_x_personal : Option Addr) (n_x_personal : Nat) (c_x_personal : Nat) (g_x_n : Nat) (A_x_n_block : Option Addr) (n_x_n_block : Nat) (c_x_n_block : Nat) (A_x_n_key : Option Addr) (n_x_n_key : Nat) (c_x_n_key : Nat) (g_x_n_e : Nat) (A_x_n_e_held : Option Addr) (n_x_n_e_held : Nat) (c_x_n_e_held : Nat) (k : Cx F O w w [Bx 52 g_x [I x_s_kind, I x_s_full, .u32 x_s_code, .u64 x_s_total, .b x_s_known, sl A_x_key n_x_key c_x_key, sl A_x_salt n_x_salt c_x_salt, sl A_x_personal n_x_personal c_x_personal, pt g_x_n 0, sl none 0 0, .u64 x_at, .ar e8 x_now, I x_have, .v (.func (.func 28) ⟨SV.vals [pt g_x 0]⟩ ⟨SV.vals []⟩)], Ow e8 A_x_key n_x_key c_x_key x_key, Ow e8 A_x_salt n_x_salt c_x_salt x_salt, Ow e8 A_x_personal n_x_personal c_x_personal x_personal, Bx 77 g_x_n [I x_n_kind, I x_n_digest, sl A_x_n_block n_x_n_block c_x_n_block, sl A_x_n_key n_x_n_key c_x_n_key, .b x_n_last, .u64 x_n_written, .v (.iface 124 (SV.val (pt g_x_n_e 0)))], Ow e8 A_x_n_block n_x_n_block c_x_n_block x_n_block, Ow e8 A_x_n_key n_x_n_key c_x_n_key x_n_key, Bx 128 g_x_n_e [.ar e32 x_n_e_h, .u64 x_n_e_count_Lo, .u64 x_n_e_count_Hi, sl A_x_n_e_held n_x_n_e_held c_x_n_e_held, I x_n_e_block, .v (.func (.func 65) ⟨SV.vals []⟩ ⟨SV.vals []⟩), .v (.func (.func 66) ⟨SV.vals []⟩ ⟨SV.vals []⟩)], Ow e8 A_x_n_e_held n_x_n_e_held c_x_n_e_held x_n_e_held]) (r : (UInt64 × Int × Vec UInt32 8 × UInt64 × UInt64 × List UInt8 × Int × Int × Int × List UInt8 × List UInt8 × Bool × UInt64 × Int × Int × UInt32 × UInt64 × Bool × List UInt8 × List UInt8 × List UInt8 × List UInt8 × UInt64 × Vec UInt8 64 × Int)) (hm : m_xof_Stream_Skip_s1 x_s_kind x_s_full x_s_code x_s_total x_s_known x_key x_salt x_personal x_n_kind x_n_digest x_n_block x_n_key x_n_last x_n_written x_n_e_h x_n_e_count_Lo x_n_e_count_Hi x_n_e_held x_n_e_block x_at x_now x_have n = some r) :
    Calls Try.prog 20 (vals [pt g_x 0, .u64 n]) w (fun e w' => ∃ A n1 c A1 n2 c1 A2 n3 c2 A3 n4 c3 A4 n5 c4 A5 n6 c5 g n7 c6, r.2.2.2.2.2.1.length = n1 ∧ r.2.2.2.2.2.2.2.2.2.1.length = n2 ∧ r.2.2.2.2.2.2.2.2.2.2.1.length = n3 ∧ r.2.2.2.2.2.2.2.2.2.2.2.2.2.2.2.2.2.2.1.length = n4 ∧ r.2.2.2.2.2.2.2.2.2.2.2.2.2.2.2.2.2.2.2.1.length = n5 ∧ r.2.2.2.2.2.2.2.2.2.2.2.2.2.2.2.2.2.2.2.2.1.length = n6 ∧ r.2.2.2.2.2.2.2.2.2.2.2.2.2.2.2.2.2.2.2.2.2.1.length = n7 ∧ e = .returned (SV.val (.tup [.u64 r.1, I r.2.1])) ∧ Cx F O w w' [Bx 128 g_x_n_e [.ar e32 r.2.2.1, .u64 r.2.2.2.1, .u64 r.2.2.2.2.1, sl A n1 c, I r.2.2.2.2.2.2.1, .v (.func (.func 65) ⟨SV.vals []⟩ ⟨SV.vals []⟩), .v (.func (.func 66) ⟨SV.vals []⟩ ⟨SV.vals []⟩)], Ow e8 A n1 c r.2.2.2.2.2.1, Bx 77 g_x_n [I r.2.2.2.2.2.2.2.1, I r.2.2.2.2.2.2.2.2.1, sl A1 n2 c1, sl A2 n3 c2, .b r.2.2.2.2.2.2.2.2.2.2.2.1, .u64 r.2.2.2.2.2.2.2.2.2.2.2.2.1, .v (.iface 124 (SV.val (pt g_x_n_e 0)))], Ow e8 A1 n2 c1 r.2.2.2.2.2.2.2.2.2.1, Ow e8 A2 n3 c2 r.2.2.2.2.2.2.2.2.2.2.1, Bx 52 g_x [I r.2.2.2.2.2.2.2.2.2.2.2.2.2.1, I r.2.2.2.2.2.2.2.2.2.2.2.2.2.2.1, .u32 r.2.2.2.2.2.2.2.2.2.2.2.2.2.2.2.1, .u64 r.2.2.2.2.2.2.2.2.2.2.2.2.2.2.2.2.1, .b r.2.2.2.2.2.2.2.2.2.2.2.2.2.2.2.2.2.1, sl A3 n4 c3, sl A4 n5 c4, sl A5 n6 c5, pt g_x_n 0, sl (some ⟨g, 0, none⟩) n7 c6, .u64 r.2.2.2.2.2.2.2.2.2.2.2.2.2.2.2.2.2.2.2.2.2.2.1, .ar e8 r.2.2.2.2.2.2.2.2.2.2.2.2.2.2.2.2.2.2.2.2.2.2.2.1, I r.2.2.2.2.2.2.2.2.2.2.2.2.2.2.2.2.2.2.2.2.2.2.2.2, .v (.func (.func 30) ⟨SV.vals [pt g_x 0]⟩ ⟨SV.vals []⟩)], Ow e8 A3 n4 c3 r.2.2.2.2.2.2.2.2.2.2.2.2.2.2.2.2.2.2.1, Ow e8 A4 n5 c4 r.2.2.2.2.2.2.2.2.2.2.2.2.2.2.2.2.2.2.2.1, Ow e8 A5 n6 c5 r.2.2.2.2.2.2.2.2.2.2.2.2.2.2.2.2.2.2.2.2.1, Sh (SH e8) [((some ⟨g, 0, none⟩), n7, c6)] [r.2.2.2.2.2.2.2.2.2.2.2.2.2.2.2.2.2.2.2.2.2.1]]) := by
 unfold m_xof_Stream_Skip_s1 at hm
 obtain rfl := k.len 1 rfl
 obtain rfl := k.len 2 rfl
 obtain rfl := k.len 3 rfl
 obtain rfl := k.len 5 rfl
 obtain rfl := k.len 6 rfl
 obtain rfl := k.len 8 rfl
 refine calz [pt g_x 0, .u64 n] Try.func20 rfl ?_
 refine W_seq <| Wq .a ?_
 refine W_seq <| W_seq <| W_reg <| We 1 (.n 7 (pt g_x 0) .a) ?_
 refine WL_op ?_
 obtain ⟨r_, h_r_, hm⟩ := ob hm
 obtain ⟨F1, O1, kin, hO, hre, hF, hb⟩ := k.go (.i (.i (.i (.i (.i (.i (.i (.i (.i .e)))))))))
 refine Op_cz 8 ws_go16 (c_xof_Stream_none_s2 (F := F1) (O := O1) _ _ _ _ _ _ _ _ _ _ _ _ _ _ _ _ _ _ _ _ _ _ _ _ _ _ _ _ _ _ _ _ _ _ _ _ _ _ _ _ _ _ _ kin _ h_r_) ?_
 rintro e_ w_ ⟨A0, _, c0, A6, _, c7, A7, _, c8, A8, _, c9, A9, _, c10, A10, _, c11, rfl, rfl, rfl, rfl, rfl, rfl, rfl, k_⟩
 have k_1 := hb w_ _ _ k_ (.c (.c (.c (.c (.c (.c (.c (.c (.c .n)))))))))
 refine ⟨.b false, rfl, ?_⟩
 refine Wn <| W_cond false (by kernel_rfl) (fun h => by cases h) (fun _ => ?_)
 refine W_skip <| At_go <| W_seq <| W_reg <| We 1 (.n 9 (pt g_x 0) (.ss .a)) ?_
 refine WL_op ?_
 obtain ⟨r_1, h_r_1, hm⟩ := ob hm
 have k_2 := ((((((((k_1.pk (.t .h)).pk (.t .h)).pk (.t (.t (.t (.t .h))))).pk (.t (.t (.t (.t .h))))).pk (.t (.t (.t (.t .h))))).pk (.t (.t (.t (.t (.t (.t (.t (.t .h))))))))).pk (.t (.t (.t (.t (.t (.t (.t (.t .h))))))))).pk (.t (.t (.t (.t (.t (.t (.t (.t .h))))))))).pk (.t (.t (.t (.t (.t (.t (.t (.t .h))))))))
 obtain ⟨F11, O11, kin1, hO1, hre1, hF1, hb1⟩ := k_2.go (.i (.i (.i (.i (.i (.i (.i (.i (.i .e)))))))))
 refine Op_cz 10 ws_go17 (c_xof_Stream_give_s2 (F := F11) (O := O11) _ _ _ _ _ _ _ _ _ _ _ _ _ _ _ _ _ _ _ _ _ _ _ _ _ _ _ _ _ _ _ _ _ _ _ _ _ _ _ _ _ _ _ kin1 _ h_r_1) ?_
 rintro e_ w_1 ⟨A11, _, c12, A12, _, c13, A13, _, c14, A14, _, c15, A15, _, c16, A16, _, c17, g0, _, c18, rfl, rfl, rfl, rfl, rfl, rfl, rfl, rfl, k_3⟩
 have k_4 := hb1 w_1 _ _ k_3 (.c (.c (.c (.c (.c (.c (.c (.c (.c (.c .n))))))))))
 refine ⟨.tup [], rfl, ?_⟩
 refine Wn <| W_seq <| W_d ws_mixed (by kernel_rfl) (.n 6 (.u64 (r_1.2.2.2.2.2.2.2.2.2.2.2.2.2.2.1 - r_1.2.2.2.2.2.2.2.2.2.2.2.2.2.2.2.2.2.2.2.2.1)) (.ss .a)) (fun m => qs g_x 0 <| qs g_x 0 <| qs g_x 0 <| qB (k_4.drew m) 5 rfl 3 (.u64 r_1.2.2.2.2.2.2.2.2.2.2.2.2.2.2.1) (by kernel_rfl) <| qs g_x 0 <| qs g_x 0 <| qB (k_4.drew m) 5 rfl 10 (.u64 r_1.2.2.2.2.2.2.2.2.2.2.2.2.2.2.2.2.2.2.2.2.1) (by kernel_rfl) <| qe) (by kernel_rfl) (fun m_ => ?_)
 have k_5 := k_4.drew m_
 refine At_go <| W_seq <| W_seq <| Wq (.n 26 (.b ((decide ((0 : UInt64) < n)) && (decide ((r_1.2.2.2.2.2.2.2.2.2.2.2.2.2.2.1 - r_1.2.2.2.2.2.2.2.2.2.2.2.2.2.2.2.2.2.2.2.2.1) = 0)))) .a) ?_
 refine W_cz ((decide ((0 : UInt64) < n)) && (decide ((r_1.2.2.2.2.2.2.2.2.2.2.2.2.2.2.1 - r_1.2.2.2.2.2.2.2.2.2.2.2.2.2.2.2.2.2.2.2.2.1) = 0))) (fun hc => ?_) fun hc => ?_
 · rw [if_pos hc] at hm
   refine W_seq <| Wq (.n 4 (.u64 0) (.n 5 (I 70) .z)) ?_
   refine W_ret (At_tr ?_)
   obtain rfl := si hm
   refine At_rz [.u64 0, I 70] qe ?_
   exact ⟨A11, r_1.2.2.2.1.length, c12, A12, r_1.2.2.2.2.2.2.2.1.length, c13, A13, r_1.2.2.2.2.2.2.2.2.1.length, c14, A14, r_1.2.2.2.2.2.2.2.2.2.2.2.2.2.2.2.2.1.length, c15, A15, r_1.2.2.2.2.2.2.2.2.2.2.2.2.2.2.2.2.2.1.length, c16, A16, r_1.2.2.2.2.2.2.2.2.2.2.2.2.2.2.2.2.2.2.1.length, c17, g0, r_1.2.2.2.2.2.2.2.2.2.2.2.2.2.2.2.2.2.2.2.1.length, c18, k_5.len 1 rfl, k_5.len 3 rfl, k_5.len 4 rfl, k_5.len 6 rfl, k_5.len 7 rfl, k_5.len 8 rfl, k_5.shlen 9 rfl, rfl, k_5⟩
 rw [if_neg (by rw [hc]; decide)] at hm
 refine W_skip <| At_go <| W_seq <| Wq (.n 1 (.u64 (umin n (r_1.2.2.2.2.2.2.2.2.2.2.2.2.2.2.1 - r_1.2.2.2.2.2.2.2.2.2.2.2.2.2.2.2.2.2.2.2.2.1))) (.ss (.k .z))) ?_
 refine W_seq <| W_reg <| Wl 8 (.n 35 (.u64 (r_1.2.2.2.2.2.2.2.2.2.2.2.2.2.2.2.2.2.2.2.2.1 + (umin n (r_1.2.2.2.2.2.2.2.2.2.2.2.2.2.2.1 - r_1.2.2.2.2.2.2.2.2.2.2.2.2.2.2.2.2.2.2.2.2.1)))) (.n 37 (pt g_x 10) (.k .z))) (qs g_x 0 <| qs g_x 0 <| qB k_5 5 rfl 10 (.u64 r_1.2.2.2.2.2.2.2.2.2.2.2.2.2.2.2.2.2.2.2.2.1) (by kernel_rfl) <| qs g_x 0 <| qs g_x 0 <| qe) ?_
 refine WL_op <| Op_bz 5 (.u64 (r_1.2.2.2.2.2.2.2.2.2.2.2.2.2.2.2.2.2.2.2.2.1 + (umin n (r_1.2.2.2.2.2.2.2.2.2.2.2.2.2.2.1 - r_1.2.2.2.2.2.2.2.2.2.2.2.2.2.2.2.2.2.2.2.2.1)))) [.u64 (r_1.2.2.2.2.2.2.2.2.2.2.2.2.2.2.2.2.2.2.2.2.1 + (umin n (r_1.2.2.2.2.2.2.2.2.2.2.2.2.2.2.1 - r_1.2.2.2.2.2.2.2.2.2.2.2.2.2.2.2.2.2.2.2.2.1)))] (Pt.at g_x 10) k_5 rfl (.kkkk (.kkkk (.kk .h))) ?_
 intro w_2 k_6
 refine Wn <| W_seq <| Wq (.n 4 (.u64 (umin n (r_1.2.2.2.2.2.2.2.2.2.2.2.2.2.2.1 - r_1.2.2.2.2.2.2.2.2.2.2.2.2.2.2.2.2.2.2.2.2.1))) (.n 5 (I 0) .z)) ?_
 refine W_ret ?_
 obtain rfl := si hm
 refine At_rz [.u64 (umin n (r_1.2.2.2.2.2.2.2.2.2.2.2.2.2.2.1 - r_1.2.2.2.2.2.2.2.2.2.2.2.2.2.2.2.2.2.2.2.2.1)), I 0] qe ?_
 exact ⟨A11, r_1.2.2.2.1.length, c12, A12, r_1.2.2.2.2.2.2.2.1.length, c13, A13, r_1.2.2.2.2.2.2.2.2.1.length, c14, A14, r_1.2.2.2.2.2.2.2.2.2.2.2.2.2.2.2.2.1.length, c15, A15, r_1.2.2.2.2.2.2.2.2.2.2.2.2.2.2.2.2.2.1.length, c16, A16, r_1.2.2.2.2.2.2.2.2.2.2.2.2.2.2.2.2.2.2.1.length, c17, g0, r_1.2.2.2.2.2.2.2.2.2.2.2.2.2.2.2.2.2.2.2.1.length, c18, k_6.len 1 rfl, k_6.len 3 rfl, k_6.len 4 rfl, k_6.len 6 rfl, k_6.len 7 rfl, k_6.len 8 rfl, k_6.shlen 9 rfl, rfl, k_6⟩
theorem c_xof_Stream_none_s3 (x_s_kind : Int) (x_s_full : Int) (x_s_code : UInt32) (x_s_total : UInt64) (x_s_known : Bool) (x_key : List UInt8) (x_salt : List UInt8) (x_personal : List UInt8) (x_n_kind : Int) (x_n_digest : Int) (x_n_block : List UInt8) (x_n_key : List UInt8) (x_n_last : Bool) (x_n_written : UInt64) (x_n_e_h : Vec UInt32 8) (x_n_e_count_Lo : UInt64) (x_n_e_count_Hi : UInt64) (x_n_e_held : List UInt8) (x_n_e_block : Int) (x_root : List UInt8) (x_at : UInt64) (x_now : Vec UInt8 64) (x_have : Int) (g_x : Nat) (A_x_key : Option Addr) (n_x_key : Nat) (c_x_key : Nat) (A_x_salt : Option Addr) (n_x_salt : Nat) (c_x_salt : Nat) (A_x_personal : Option Addr) (n_x_personal : Nat) (c_x_personal : Nat) (g_x_n : Nat) (A_x_n_block : Option Addr) (n_x_n_block : Nat) (c_x_n_block : Nat) (A_x_n_key : Option Addr) (n_x_n_key : Nat) (c_x_n_key : Nat) (g_x_n_e : Nat) (A_x_n_e_held : Option Addr) (n_x_n_e_held : Nat) (c_x_n_e_held : Nat) (g_x_root : Nat) (n_x_root : Nat) (c_x_root : Nat) (h_x_root : Ro F w (some ⟨g_x_root, 0, none⟩) (e8.all x_root)) (hn_x_root : x_root.length = n_x_root) (hc_x_root : n_x_root ≤ c_x_root) (k : Cx F O w w [Bx 52 g_x [I x_s_kind, I x_s_full, .u32 x_s_code, .u64 x_s_total, .b x_s_known, sl A_x_key n_x_key c_x_key, sl A_x_salt n_x_salt c_x_salt, sl A_x_personal n_x_personal c_x_personal, pt g_x_n 0, sl (some ⟨g_x_root, 0, none⟩) n_x_root c_x_root, .u64 x_at, .ar e8 x_now, I x_have, .v (.func (.func 30) ⟨SV.vals [pt g_x 0]⟩ ⟨SV.vals []⟩)], Ow e8 A_x_key n_x_key c_x_key x_key, Ow e8 A_x_salt n_x_salt c_x_salt x_salt, Ow e8 A_x_personal n_x_personal c_x_personal x_personal, Bx 77 g_x_n [I x_n_kind, I x_n_digest, sl A_x_n_block n_x_n_block c_x_n_block, sl A_x_n_key n_x_n_key c_x_n_key, .b x_n_last, .u64 x_n_written, .v (.iface 124 (SV.val (pt g_x_n_e 0)))], Ow e8 A_x_n_block n_x_n_block c_x_n_block x_n_block, Ow e8 A_x_n_key n_x_n_key c_x_n_key x_n_key, Bx 128 g_x_n_e [.ar e32 x_n_e_h, .u64 x_n_e_count_Lo, .u64 x_n_e_count_Hi, sl A_x_n_e_held n_x_n_e_held c_x_n_e_held, I x_n_e_block, .v (.func (.func 65) ⟨SV.vals []⟩ ⟨SV.vals []⟩), .v (.func (.func 66) ⟨SV.vals []⟩ ⟨SV.vals []⟩)], Ow e8 A_x_n_e_held n_x_n_e_held c_x_n_e_held x_n_e_held]) (r : (Vec UInt32 8 × UInt64 × UInt64 × List UInt8 × Int × Int × Int × List UInt8 × List UInt8 × Bool × UInt64 × Int × Int × UInt32 × UInt64 × Bool × List UInt8 × List UInt8 × List UInt8 × UInt64 × Vec UInt8 64 × Int)) (hm : m_xof_Stream_none_s3 x_s_kind x_s_full x_s_code x_s_total x_s_known x_key x_salt x_personal x_n_kind x_n_digest x_n_block x_n_key x_n_last x_n_written x_n_e_h x_n_e_count_Lo x_n_e_count_Hi x_n_e_held x_n_e_block x_root x_at x_now x_have = some r) :
    Calls Try.prog 16 (vals [pt g_x 0]) w (fun e w' => ∃ A n c A1 n1 c1 A2 n2 c2 A3 n3 c3 A4 n4 c4 A5 n5 c5, r.2.2.2.1.length = n ∧ r.2.2.2.2.2.2.2.1.length = n1 ∧ r.2.2.2.2.2.2.2.2.1.length = n2 ∧ r.2.2.2.2.2.2.2.2.2.2.2.2.2.2.2.2.1.length = n3 ∧ r.2.2.2.2.2.2.2.2.2.2.2.2.2.2.2.2.2.1.length = n4 ∧ r.2.2.2.2.2.2.2.2.2.2.2.2.2.2.2.2.2.2.1.length = n5 ∧ e = .returned (SV.val (.b false)) ∧ Cx F O w w' [Bx 128 g_x_n_e [.ar e32 r.1, .u64 r.2.1, .u64 r.2.2.1, sl A n c, I r.2.2.2.2.1, .v (.func (.func 65) ⟨SV.vals []⟩ ⟨SV.vals []⟩), .v (.func (.func 66) ⟨SV.vals []⟩ ⟨SV.vals []⟩)], Ow e8 A n c r.2.2.2.1, Bx 77 g_x_n [I r.2.2.2.2.2.1, I r.2.2.2.2.2.2.1, sl A1 n1 c1, sl A2 n2 c2, .b r.2.2.2.2.2.2.2.2.2.1, .u64 r.2.2.2.2.2.2.2.2.2.2.1, .v (.iface 124 (SV.val (pt g_x_n_e 0)))], Ow e8 A1 n1 c1 r.2.2.2.2.2.2.2.1, Ow e8 A2 n2 c2 r.2.2.2.2.2.2.2.2.1, Bx 52 g_x [I r.2.2.2.2.2.2.2.2.2.2.2.1, I r.2.2.2.2.2.2.2.2.2.2.2.2.1, .u32 r.2.2.2.2.2.2.2.2.2.2.2.2.2.1, .u64 r.2.2.2.2.2.2.2.2.2.2.2.2.2.2.1, .b r.2.2.2.2.2.2.2.2.2.2.2.2.2.2.2.1, sl A3 n3 c3, sl A4 n4 c4, sl A5 n5 c5, pt g_x_n 0, sl (some ⟨g_x_root, 0, none⟩) n_x_root c_x_root, .u64 r.2.2.2.2.2.2.2.2.2.2.2.2.2.2.2.2.2.2.2.1, .ar e8 r.2.2.2.2.2.2.2.2.2.2.2.2.2.2.2.2.2.2.2.2.1, I r.2.2.2.2.2.2.2.2.2.2.2.2.2.2.2.2.2.2.2.2.2, .v (.func (.func 30) ⟨SV.vals [pt g_x 0]⟩ ⟨SV.vals []⟩)], Ow e8 A3 n3 c3 r.2.2.2.2.2.2.2.2.2.2.2.2.2.2.2.2.1, Ow e8 A4 n4 c4 r.2.2.2.2.2.2.2.2.2.2.2.2.2.2.2.2.2.1, Ow e8 A5 n5 c5 r.2.2.2.2.2.2.2.2.2.2.2.2.2.2.2.2.2.2.1]) := by
 unfold m_xof_Stream_none_s3 at hm
 obtain rfl := k.len 1 rfl
 obtain rfl := k.len 2 rfl
 obtain rfl := k.len 3 rfl
 obtain rfl := k.len 5 rfl
 obtain rfl := k.len 6 rfl
 obtain rfl := k.len 8 rfl
 subst hn_x_root
 refine calz [pt g_x 0] Try.func16 rfl ?_
 refine W_seq <| Wq .a ?_
 refine W_seq <| W_q [5] (.n 2 (.b false) .z) (qs g_x 0 <| qs g_x 0 <| qB k 0 rfl 76 (.v (.func (.func 30) ⟨SV.vals [pt g_x 0]⟩ ⟨SV.vals []⟩)) (by kernel_rfl) <| qe) (by kernel_rfl) ?_
 refine At_go <| W_ret ?_
 obtain rfl := si hm
 refine At_rz [.b false] qe ?_
 have k_ := ((((((((k.pk (.t (.t (.t .h)))).pk (.t (.t (.t .h)))).pk (.t (.t (.t .h)))).pk (.t (.t (.t .h)))).pk (.t (.t (.t (.t (.t (.t .h))))))).pk (.t (.t (.t (.t (.t (.t .h))))))).pk (.t (.t (.t (.t (.t (.t .h))))))).pk (.t (.t (.t (.t (.t (.t (.t (.t .h))))))))).pk (.t (.t (.t (.t (.t (.t (.t (.t .h))))))))
 exact ⟨A_x_n_e_held, x_n_e_held.length, c_x_n_e_held, A_x_n_block, x_n_block.length, c_x_n_block, A_x_n_key, x_n_key.length, c_x_n_key, A_x_key, x_key.length, c_x_key, A_x_salt, x_salt.length, c_x_salt, A_x_personal, x_personal.length, c_x_personal, k_.len 1 rfl, k_.len 3 rfl, k_.len 4 rfl, k_.len 6 rfl, k_.len 7 rfl, k_.len 8 rfl, rfl, k_⟩
theorem c_xof_Stream_give_s3 (x_s_kind : Int) (x_s_full : Int) (x_s_code : UInt32) (x_s_total : UInt64) (x_s_known : Bool) (x_key : List UInt8) (x_salt : List UInt8) (x_personal : List UInt8) (x_n_kind : Int) (x_n_digest : Int) (x_n_block : List UInt8) (x_n_key : List UInt8) (x_n_last : Bool) (x_n_written : UInt64) (x_n_e_h : Vec UInt32 8) (x_n_e_count_Lo : UInt64) (x_n_e_count_Hi : UInt64) (x_n_e_held : List UInt8) (x_n_e_block : Int) (x_root : List UInt8) (x_at : UInt64) (x_now : Vec UInt8 64) (x_have : Int) (g_x : Nat) (A_x_key : Option Addr) (n_x_key : Nat) (c_x_key : Nat) (A_x_salt : Option Addr) (n_x_salt : Nat) (c_x_salt : Nat) (A_x_personal : Option Addr) (n_x_personal : Nat) (c_x_personal : Nat) (g_x_n : Nat) (A_x_n_block : Option Addr) (n_x_n_block : Nat) (c_x_n_block : Nat) (A_x_n_key : Option Addr) (n_x_n_key : Nat) (c_x_n_key : Nat) (g_x_n_e : Nat) (A_x_n_e_held : Option Addr) (n_x_n_e_held : Nat) (c_x_n_e_held : Nat) (g_x_root : Nat) (n_x_root : Nat) (c_x_root : Nat) (h_x_root : Ro F w (some ⟨g_x_root, 0, none⟩) (e8.all x_root)) (hn_x_root : x_root.length = n_x_root) (hc_x_root : n_x_root ≤ c_x_root) (k : Cx F O w w [Bx 52 g_x [I x_s_kind, I x_s_full, .u32 x_s_code, .u64 x_s_total, .b x_s_known, sl A_x_key n_x_key c_x_key, sl A_x_salt n_x_salt c_x_salt, sl A_x_personal n_x_personal c_x_personal, pt g_x_n 0, sl (some ⟨g_x_root, 0, none⟩) n_x_root c_x_root, .u64 x_at, .ar e8 x_now, I x_have, .v (.func (.func 30) ⟨SV.vals [pt g_x 0]⟩ ⟨SV.vals []⟩)], Ow e8 A_x_key n_x_key c_x_key x_key, Ow e8 A_x_salt n_x_salt c_x_salt x_salt, Ow e8 A_x_personal n_x_personal c_x_personal x_personal, Bx 77 g_x_n [I x_n_kind, I x_n_digest, sl A_x_n_block n_x_n_block c_x_n_block, sl A_x_n_key n_x_n_key c_x_n_key, .b x_n_last, .u64 x_n_written, .v (.iface 124 (SV.val (pt g_x_n_e 0)))], Ow e8 A_x_n_block n_x_n_block c_x_n_block x_n_block, Ow e8 A_x_n_key n_x_n_key c_x_n_key x_n_key, Bx 128 g_x_n_e [.ar e32 x_n_e_h, .u64 x_n_e_count_Lo, .u64 x_n_e_count_Hi, sl A_x_n_e_held n_x_n_e_held c_x_n_e_held, I x_n_e_block, .v (.func (.func 65) ⟨SV.vals []⟩ ⟨SV.vals []⟩), .v (.func (.func 66) ⟨SV.vals []⟩ ⟨SV.vals []⟩)], Ow e8 A_x_n_e_held n_x_n_e_held c_x_n_e_held x_n_e_held]) (r : (Vec UInt32 8 × UInt64 × UInt64 × List UInt8 × Int × Int × Int × List UInt8 × List UInt8 × Bool × UInt64 × Int × Int × UInt32 × UInt64 × Bool × List UInt8 × List UInt8 × List UInt8 × UInt64 × Vec UInt8 64 × Int)) (hm : m_xof_Stream_give_s3 x_s_kind x_s_full x_s_code x_s_total x_s_known x_key x_salt x_personal x_n_kind x_n_digest x_n_block x_n_key x_n_last x_n_written x_n_e_h x_n_e_count_Lo x_n_e_count_Hi x_n_e_held x_n_e_block x_root x_at x_now x_have = some r) :
    Calls Try.prog 17 (vals [pt g_x 0]) w (fun e w' => ∃ A n c A1 n1 c1 A2 n2 c2 A3 n3 c3 A4 n4 c4 A5 n5 c5, r.2.2.2.1.length = n ∧ r.2.2.2.2.2.2.2.1.length = n1 ∧ r.2.2.2.2.2.2.2.2.1.length = n2 ∧ r.2.2.2.2.2.2.2.2.2.2.2.2.2.2.2.2.1.length = n3 ∧ r.2.2.2.2.2.2.2.2.2.2.2.2.2.2.2.2.2.1.length = n4 ∧ r.2.2.2.2.2.2.2.2.2.2.2.2.2.2.2.2.2.2.1.length = n5 ∧ e = .returned (SV.val (.tup [])) ∧ Cx F O w w' [Bx 128 g_x_n_e [.ar e32 r.1, .u64 r.2.1, .u64 r.2.2.1, sl A n c, I r.2.2.2.2.1, .v (.func (.func 65) ⟨SV.vals []⟩ ⟨SV.vals []⟩), .v (.func (.func 66) ⟨SV.vals []⟩ ⟨SV.vals []⟩)], Ow e8 A n c r.2.2.2.1, Bx 77 g_x_n [I r.2.2.2.2.2.1, I r.2.2.2.2.2.2.1, sl A1 n1 c1, sl A2 n2 c2, .b r.2.2.2.2.2.2.2.2.2.1, .u64 r.2.2.2.2.2.2.2.2.2.2.1, .v (.iface 124 (SV.val (pt g_x_n_e 0)))], Ow e8 A1 n1 c1 r.2.2.2.2.2.2.2.1, Ow e8 A2 n2 c2 r.2.2.2.2.2.2.2.2.1, Bx 52 g_x [I r.2.2.2.2.2.2.2.2.2.2.2.1, I r.2.2.2.2.2.2.2.2.2.2.2.2.1, .u32 r.2.2.2.2.2.2.2.2.2.2.2.2.2.1, .u64 r.2.2.2.2.2.2.2.2.2.2.2.2.2.2.1, .b r.2.2.2.2.2.2.2.2.2.2.2.2.2.2.2.1, sl A3 n3 c3, sl A4 n4 c4, sl A5 n5 c5, pt g_x_n 0, sl (some ⟨g_x_root, 0, none⟩) n_x_root c_x_root, .u64 r.2.2.2.2.2.2.2.2.2.2.2.2.2.2.2.2.2.2.2.1, .ar e8 r.2.2.2.2.2.2.2.2.2.2.2.2.2.2.2.2.2.2.2.2.1, I r.2.2.2.2.2.2.2.2.2.2.2.2.2.2.2.2.2.2.2.2.2, .v (.func (.func 30) ⟨SV.vals [pt g_x 0]⟩ ⟨SV.vals []⟩)], Ow e8 A3 n3 c3 r.2.2.2.2.2.2.2.2.2.2.2.2.2.2.2.2.1, Ow e8 A4 n4 c4 r.2.2.2.2.2.2.2.2.2.2.2.2.2.2.2.2.2.1, Ow e8 A5 n5 c5 r.2.2.2.2.2.2.2.2.2.2.2.2.2.2.2.2.2.2.1]) := by
 unfold m_xof_Stream_give_s3 at hm
 obtain rfl := k.len 1 rfl
 obtain rfl := k.len 2 rfl
 obtain rfl := k.len 3 rfl
 obtain rfl := k.len 5 rfl
 obtain rfl := k.len 6 rfl
 obtain rfl := k.len 8 rfl
 subst hn_x_root
 refine calz [pt g_x 0] Try.func17 rfl ?_
 refine W_seq <| Wa (.n 6 (.b false) .a) (qs g_x 0 <| qs g_x 0 <| qB k 0 rfl 9 (sl (some ⟨g_x_root, 0, none⟩) x_root.length c_x_root) (by kernel_rfl) <| qe) ?_
 refine W_cond false (by kernel_rfl) (fun h => by cases h) (fun _ => ?_)
 refine W_skip ?_
 obtain rfl := si hm
 refine At_en [] qe (by kernel_rfl) ?_
 have k_ := ((((((((k.pk (.t (.t (.t .h)))).pk (.t (.t (.t .h)))).pk (.t (.t (.t .h)))).pk (.t (.t (.t .h)))).pk (.t (.t (.t (.t (.t (.t .h))))))).pk (.t (.t (.t (.t (.t (.t .h))))))).pk (.t (.t (.t (.t (.t (.t .h))))))).pk (.t (.t (.t (.t (.t (.t (.t (.t .h))))))))).pk (.t (.t (.t (.t (.t (.t (.t (.t .h))))))))
 exact ⟨A_x_n_e_held, x_n_e_held.length, c_x_n_e_held, A_x_n_block, x_n_block.length, c_x_n_block, A_x_n_key, x_n_key.length, c_x_n_key, A_x_key, x_key.length, c_x_key, A_x_salt, x_salt.length, c_x_salt, A_x_personal, x_personal.length, c_x_personal, k_.len 1 rfl, k_.len 3 rfl, k_.len 4 rfl, k_.len 6 rfl, k_.len 7 rfl, k_.len 8 rfl, rfl, k_⟩
theorem c_xof_Stream_Read_s1 (x_s_kind : Int) (x_s_full : Int) (x_s_code : UInt32) (x_s_total : UInt64) (x_s_known : Bool) (x_key : List UInt8) (x_salt : List UInt8) (x_personal : List UInt8) (x_n_kind : Int) (x_n_digest : Int) (x_n_block : List UInt8) (x_n_key : List UInt8) (x_n_last : Bool) (x_n_written : UInt64) (x_n_e_h : Vec UInt32 8) (x_n_e_count_Lo : UInt64) (x_n_e_count_Hi : UInt64) (x_n_e_held : List UInt8) (x_n_e_block : Int) (x_root : List UInt8) (x_at : UInt64) (x_now : Vec UInt8 64) (x_have : Int) (n : Int) (g_x : Nat) (A_x_key : Option Addr) (n_x_key : Nat) (c_x_key : Nat) (A_x_salt : Option Addr) (n_x_salt : Nat) (c_x_salt : Nat) (A_x_personal : Option Addr) (n_x_personal : Nat) (c_x_personal : Nat) (g_x_n : Nat) (A_x_n_block : Option Addr) (n_x_n_block : Nat) (c_x_n_block : Nat) (A_x_n_key : Option Addr) (n_x_n_key : Nat) (c_x_n_key : Nat) (g_x_n_e : Nat) (A_x_n_e_held : Option Addr) (n_x_n_e_held : Nat) (c_x_n_e_held : Nat) (g_x_root : Nat) (n_x_root : Nat) (c_x_root : Nat) (h_x_root : Ro F w (some ⟨g_x_root, 0, none⟩) (e8.all x_root)) (hn_x_root : x_root.length = n_x_root) (hc_x_root : n_x_root ≤ c_x_root) (k : Cx F O w w [Bx 52 g_x [I x_s_kind, I x_s_full, .u32 x_s_code, .u64 x_s_total, .b x_s_known, sl A_x_key n_x_key c_x_key, sl A_x_salt n_x_salt c_x_salt, sl A_x_personal n_x_personal c_x_personal, pt g_x_n 0, sl (some ⟨g_x_root, 0, none⟩) n_x_root c_x_root, .u64 x_at, .ar e8 x_now, I x_have, .v (.func (.func 30) ⟨SV.vals [pt g_x 0]⟩ ⟨SV.vals []⟩)], Ow e8 A_x_key n_x_key c_x_key x_key, Ow e8 A_x_salt n_x_salt c_x_salt x_salt, Ow e8 A_x_personal n_x_personal c_x_personal x_personal, Bx 77 g_x_n [I x_n_kind, I x_n_digest, sl A_x_n_block n_x_n_block c_x_n_block, sl A_x_n_key n_x_n_key c_x_n_key, .b x_n_last, .u64 x_n_written, .v (.iface 124 (SV.val (pt g_x_n_e 0)))], Ow e8 A_x_n_block n_x_n_block c_x_n_block x_n_block, Ow e8 A_x_n_key n_x_n_key c_x_n_key x_n_key, Bx 128 g_x_n_e [.ar e32 x_n_e_h, .u64 x_n_e_count_Lo, .u64 x_n_e_count_Hi, sl A_x_n_e_held n_x_n_e_held c_x_n_e_held, I x_n_e_block, .v (.func (.func 65) ⟨SV.vals []⟩ ⟨SV.vals []⟩), .v (.func (.func 66) ⟨SV.vals []⟩ ⟨SV.vals []⟩)], Ow e8 A_x_n_e_held n_x_n_e_held c_x_n_e_held x_n_e_held]) (r : (List UInt8 × Int × Vec UInt32 8 × UInt64 × UInt64 × List UInt8 × Int × Int × Int × List UInt8 × List UInt8 × Bool × UInt64 × Int × Int × UInt32 × UInt64 × Bool × List UInt8 × List UInt8 × List UInt8 × UInt64 × Vec UInt8 64 × Int)) (hm : m_xof_Stream_Read_s1 x_s_kind x_s_full x_s_code x_s_total x_s_known x_key x_salt x_personal x_n_kind x_n_digest x_n_block x_n_key x_n_last x_n_written x_n_e_h x_n_e_count_Lo x_n_e_count_Hi x_n_e_held x_n_e_block x_root x_at x_now x_have n = some r) :
    Calls Try.prog 7 (vals [pt g_x 0, I n]) w (fun e w' => ∃ A n1 c A1 n2 c1 A2 n3 c2 A3 n4 c3 A4 n5 c4 A5 n6 c5 A6 n7 c6, r.1.length = n1 ∧ r.2.2.2.2.2.1.length = n2 ∧ r.2.2.2.2.2.2.2.2.2.1.length = n3 ∧ r.2.2.2.2.2.2.2.2.2.2.1.length = n4 ∧ r.2.2.2.2.2.2.2.2.2.2.2.2.2.2.2.2.2.2.1.length = n5 ∧ r.2.2.2.2.2.2.2.2.2.2.2.2.2.2.2.2.2.2.2.1.length = n6 ∧ r.2.2.2.2.2.2.2.2.2.2.2.2.2.2.2.2.2.2.2.2.1.length = n7 ∧ e = .returned (SV.val (.tup [sl A n1 c, I r.2.1])) ∧ Cx F O w w' [Ow e8 A n1 c r.1, Bx 128 g_x_n_e [.ar e32 r.2.2.1, .u64 r.2.2.2.1, .u64 r.2.2.2.2.1, sl A1 n2 c1, I r.2.2.2.2.2.2.1, .v (.func (.func 65) ⟨SV.vals []⟩ ⟨SV.vals []⟩), .v (.func (.func 66) ⟨SV.vals []⟩ ⟨SV.vals []⟩)], Ow e8 A1 n2 c1 r.2.2.2.2.2.1, Bx 77 g_x_n [I r.2.2.2.2.2.2.2.1, I r.2.2.2.2.2.2.2.2.1, sl A2 n3 c2, sl A3 n4 c3, .b r.2.2.2.2.2.2.2.2.2.2.2.1, .u64 r.2.2.2.2.2.2.2.2.2.2.2.2.1, .v (.iface 124 (SV.val (pt g_x_n_e 0)))], Ow e8 A2 n3 c2 r.2.2.2.2.2.2.2.2.2.1, Ow e8 A3 n4 c3 r.2.2.2.2.2.2.2.2.2.2.1, Bx 52 g_x [I r.2.2.2.2.2.2.2.2.2.2.2.2.2.1, I r.2.2.2.2.2.2.2.2.2.2.2.2.2.2.1, .u32 r.2.2.2.2.2.2.2.2.2.2.2.2.2.2.2.1, .u64 r.2.2.2.2.2.2.2.2.2.2.2.2.2.2.2.2.1, .b r.2.2.2.2.2.2.2.2.2.2.2.2.2.2.2.2.2.1, sl A4 n5 c4, sl A5 n6 c5, sl A6 n7 c6, pt g_x_n 0, sl (some ⟨g_x_root, 0, none⟩) n_x_root c_x_root, .u64 r.2.2.2.2.2.2.2.2.2.2.2.2.2.2.2.2.2.2.2.2.2.1, .ar e8 r.2.2.2.2.2.2.2.2.2.2.2.2.2.2.2.2.2.2.2.2.2.2.1, I r.2.2.2.2.2.2.2.2.2.2.2.2.2.2.2.2.2.2.2.2.2.2.2, .v (.func (.func 30) ⟨SV.vals [pt g_x 0]⟩ ⟨SV.vals []⟩)], Ow e8 A4 n5 c4 r.2.2.2.2.2.2.2.2.2.2.2.2.2.2.2.2.2.2.1, Ow e8 A5 n6 c5 r.2.2.2.2.2.2.2.2.2.2.2.2.2.2.2.2.2.2.2.1, Ow e8 A6 n7 c6 r.2.2.2.2.2.2.2.2.2.2.2.2.2.2.2.2.2.2.2.2.1]) := by
 unfold m_xof_Stream_Read_s1 at hm
 obtain rfl := k.len 1 rfl
 obtain rfl := k.len 2 rfl
 obtain rfl := k.len 3 rfl
 obtain rfl := k.len 5 rfl
 obtain rfl := k.len 6 rfl
 obtain rfl := k.len 8 rfl
 subst hn_x_root
 refine calz [pt g_x 0, I n] Try.func7 rfl ?_
 refine W_seq <| Wq .a ?_
 refine W_seq <| W_seq <| W_reg <| We 1 (.n 11 (pt g_x 0) .a) ?_
 refine WL_op ?_
 obtain ⟨r_, h_r_, hm⟩ := ob hm
 obtain ⟨F1, O1, kin, hO, hre, hF, hb⟩ := k.go (.i (.i (.i (.i (.i (.i (.i (.i (.i .e)))))))))
 refine Op_cz 12 ws_go16 (c_xof_Stream_none_s3 (F := F1) (O := O1) _ _ _ _ _ _ _ _ _ _ _ _ _ _ _ _ _ _ _ _ _ _ _ _ _ _ _ _ _ _ _ _ _ _ _ _ _ _ _ _ _ _ _ _ _ _ _ (Ro.of_old h_x_root k hF) rfl hc_x_root kin _ h_r_) ?_
 rintro e_ w_ ⟨A0, _, c0, A7, _, c7, A8, _, c8, A9, _, c9, A10, _, c10, A11, _, c11, rfl, rfl, rfl, rfl, rfl, rfl, rfl, k_⟩
 have k_1 := hb w_ _ _ k_ (.c (.c (.c (.c (.c (.c (.c (.c (.c .n)))))))))
 refine ⟨.b false, rfl, ?_⟩
 refine Wn <| W_cond false (by kernel_rfl) (fun h => by cases h) (fun _ => ?_)
 refine W_skip <| At_go <| W_seq <| W_seq <| Wq (.n 18 (.b ((decide (n < 0)) || (decide (65536 < n)))) (.ss .a)) ?_
 refine W_cz ((decide (n < 0)) || (decide (65536 < n))) (fun hc => ?_) fun hc => ?_
 · rw [if_pos hc] at hm
   refine W_seq <| Wq (.n 4 (sl none 0 0) (.n 5 (I 1) .z)) ?_
   refine W_ret (At_tr ?_)
   have k_2 := k_1.nil e8
   obtain rfl := si hm
   refine At_rz [sl none 0 0, I 1] qe ?_
   have k_3 := (((((((((k_2.pk (.t (.t (.t (.t (.t (.t (.t (.t .h))))))))).pk (.t (.t (.t (.t (.t (.t (.t (.t .h))))))))).pk (.t (.t (.t (.t (.t (.t (.t (.t .h))))))))).pk (.t (.t (.t (.t (.t (.t (.t (.t .h))))))))).pk (.t (.t (.t (.t (.t (.t (.t (.t .h))))))))).pk (.t (.t (.t (.t (.t (.t (.t (.t .h))))))))).pk (.t (.t (.t (.t (.t (.t (.t (.t .h))))))))).pk (.t (.t (.t (.t (.t (.t (.t (.t .h))))))))).pk (.t (.t (.t (.t (.t (.t (.t (.t .h))))))))).pk (.t (.t (.t (.t (.t (.t (.t (.t (.t .h)))))))))
   exact ⟨none, 0, 0, A0, r_.2.2.2.1.length, c0, A7, r_.2.2.2.2.2.2.2.1.length, c7, A8, r_.2.2.2.2.2.2.2.2.1.length, c8, A9, r_.2.2.2.2.2.2.2.2.2.2.2.2.2.2.2.2.1.length, c9, A10, r_.2.2.2.2.2.2.2.2.2.2.2.2.2.2.2.2.2.1.length, c10, A11, r_.2.2.2.2.2.2.2.2.2.2.2.2.2.2.2.2.2.2.1.length, c11, k_3.len 0 rfl, k_3.len 2 rfl, k_3.len 4 rfl, k_3.len 5 rfl, k_3.len 7 rfl, k_3.len 8 rfl, k_3.len 9 rfl, rfl, k_3⟩
 rw [if_neg (by rw [hc]; decide)] at hm
 refine W_skip <| At_go <| W_seq <| W_reg <| We 1 (.n 19 (pt g_x 0) (.s .a)) ?_
 refine WL_op ?_
 obtain ⟨r_1, h_r_1, hm⟩ := ob hm
 have k_4 := ((((((((k_1.pk (.t .h)).pk (.t .h)).pk (.t (.t (.t (.t .h))))).pk (.t (.t (.t (.t .h))))).pk (.t (.t (.t (.t .h))))).pk (.t (.t (.t (.t (.t (.t (.t (.t .h))))))))).pk (.t (.t (.t (.t (.t (.t (.t (.t .h))))))))).pk (.t (.t (.t (.t (.t (.t (.t (.t .h))))))))).pk (.t (.t (.t (.t (.t (.t (.t (.t .h))))))))
 obtain ⟨F11, O11, kin1, hO1, hre1, hF1, hb1⟩ := k_4.go (.i (.i (.i (.i (.i (.i (.i (.i (.i .e)))))))))
 refine Op_cz 20 ws_go17 (c_xof_Stream_give_s3 (F := F11) (O := O11) _ _ _ _ _ _ _ _ _ _ _ _ _ _ _ _ _ _ _ _ _ _ _ _ _ _ _ _ _ _ _ _ _ _ _ _ _ _ _ _ _ _ _ _ _ _ _ (Ro.of_old h_x_root k_4 hF1) rfl hc_x_root kin1 _ h_r_1) ?_
 rintro e_ w_1 ⟨A12, _, c12, A13, _, c13, A14, _, c14, A15, _, c15, A16, _, c16, A17, _, c17, rfl, rfl, rfl, rfl, rfl, rfl, rfl, k_5⟩
 have k_6 := hb1 w_1 _ _ k_5 (.c (.c (.c (.c (.c (.c (.c (.c (.c .n)))))))))
 refine ⟨.tup [], rfl, ?_⟩
 refine Wn <| W_seq <| W_d ws_mixed (by kernel_rfl) (.n 6 (.u64 (r_1.2.2.2.2.2.2.2.2.2.2.2.2.2.2.1 - r_1.2.2.2.2.2.2.2.2.2.2.2.2.2.2.2.2.2.2.2.1)) (.ss .a)) (fun m => qs g_x 0 <| qs g_x 0 <| qs g_x 0 <| qB (k_6.drew m) 5 rfl 3 (.u64 r_1.2.2.2.2.2.2.2.2.2.2.2.2.2.2.1) (by kernel_rfl) <| qs g_x 0 <| qs g_x 0 <| qB (k_6.drew m) 5 rfl 10 (.u64 r_1.2.2.2.2.2.2.2.2.2.2.2.2.2.2.2.2.2.2.2.1) (by kernel_rfl) <| qe) (by kernel_rfl) (fun m_ => ?_)
 have k_7 := k_6.drew m_
 refine At_go <| W_seq <| W_seq <| Wq (.n 36 (.b ((decide (0 < n)) && (decide ((r_1.2.2.2.2.2.2.2.2.2.2.2.2.2.2.1 - r_1.2.2.2.2.2.2.2.2.2.2.2.2.2.2.2.2.2.2.2.1) = 0)))) .a) ?_
 refine W_cz ((decide (0 < n)) && (decide ((r_1.2.2.2.2.2.2.2.2.2.2.2.2.2.2.1 - r_1.2.2.2.2.2.2.2.2.2.2.2.2.2.2.2.2.2.2.2.1) = 0))) (fun hc1 => ?_) fun hc1 => ?_
 · rw [if_pos hc1] at hm
   refine W_seq <| Wq (.n 4 (sl none 0 0) (.n 5 (I 70) .z)) ?_
   refine W_ret (At_tr ?_)
   have k_8 := k_7.nil e8
   obtain rfl := si hm
   refine At_rz [sl none 0 0, I 70] qe ?_
   have k_9 := (((((((((k_8.pk (.t (.t (.t (.t (.t (.t (.t (.t .h))))))))).pk (.t (.t (.t (.t (.t (.t (.t (.t .h))))))))).pk (.t (.t (.t (.t (.t (.t (.t (.t .h))))))))).pk (.t (.t (.t (.t (.t (.t (.t (.t .h))))))))).pk (.t (.t (.t (.t (.t (.t (.t (.t .h))))))))).pk (.t (.t (.t (.t (.t (.t (.t (.t .h))))))))).pk (.t (.t (.t (.t (.t (.t (.t (.t .h))))))))).pk (.t (.t (.t (.t (.t (.t (.t (.t .h))))))))).pk (.t (.t (.t (.t (.t (.t (.t (.t .h))))))))).pk (.t (.t (.t (.t (.t (.t (.t (.t (.t .h)))))))))
   exact ⟨none, 0, 0, A12, r_1.2.2.2.1.length, c12, A13, r_1.2.2.2.2.2.2.2.1.length, c13, A14, r_1.2.2.2.2.2.2.2.2.1.length, c14, A15, r_1.2.2.2.2.2.2.2.2.2.2.2.2.2.2.2.2.1.length, c15, A16, r_1.2.2.2.2.2.2.2.2.2.2.2.2.2.2.2.2.2.1.length, c16, A17, r_1.2.2.2.2.2.2.2.2.2.2.2.2.2.2.2.2.2.2.1.length, c17, k_9.len 0 rfl, k_9.len 2 rfl, k_9.len 4 rfl, k_9.len 5 rfl, k_9.len 7 rfl, k_9.len 8 rfl, k_9.len 9 rfl, rfl, k_9⟩
 rw [if_neg (by rw [hc1]; decide)] at hm
 refine W_skip <| At_go <| W_cut (fun L wr => ∃ (n8 : Int), m_xof_Stream_Read_s1_j0 x_root r_1 n8 = some r ∧ L = [(0, pt g_x 0), (1, I n8)] ∧ Cx F O w wr [Bx 52 g_x [I r_1.2.2.2.2.2.2.2.2.2.2.2.1, I r_1.2.2.2.2.2.2.2.2.2.2.2.2.1, .u32 r_1.2.2.2.2.2.2.2.2.2.2.2.2.2.1, .u64 r_1.2.2.2.2.2.2.2.2.2.2.2.2.2.2.1, .b r_1.2.2.2.2.2.2.2.2.2.2.2.2.2.2.2.1, sl A15 r_1.2.2.2.2.2.2.2.2.2.2.2.2.2.2.2.2.1.length c15, sl A16 r_1.2.2.2.2.2.2.2.2.2.2.2.2.2.2.2.2.2.1.length c16, sl A17 r_1.2.2.2.2.2.2.2.2.2.2.2.2.2.2.2.2.2.2.1.length c17, pt g_x_n 0, sl (some ⟨g_x_root, 0, none⟩) x_root.length c_x_root, .u64 r_1.2.2.2.2.2.2.2.2.2.2.2.2.2.2.2.2.2.2.2.1, .ar e8 r_1.2.2.2.2.2.2.2.2.2.2.2.2.2.2.2.2.2.2.2.2.1, I r_1.2.2.2.2.2.2.2.2.2.2.2.2.2.2.2.2.2.2.2.2.2, .v (.func (.func 30) ⟨SV.vals [pt g_x 0]⟩ ⟨SV.vals []⟩)], Ow e8 A15 r_1.2.2.2.2.2.2.2.2.2.2.2.2.2.2.2.2.1.length c15 r_1.2.2.2.2.2.2.2.2.2.2.2.2.2.2.2.2.1, Ow e8 A16 r_1.2.2.2.2.2.2.2.2.2.2.2.2.2.2.2.2.2.1.length c16 r_1.2.2.2.2.2.2.2.2.2.2.2.2.2.2.2.2.2.1, Ow e8 A17 r_1.2.2.2.2.2.2.2.2.2.2.2.2.2.2.2.2.2.2.1.length c17 r_1.2.2.2.2.2.2.2.2.2.2.2.2.2.2.2.2.2.2.1, Bx 77 g_x_n [I r_1.2.2.2.2.2.1, I r_1.2.2.2.2.2.2.1, sl A13 r_1.2.2.2.2.2.2.2.1.length c13, sl A14 r_1.2.2.2.2.2.2.2.2.1.length c14, .b r_1.2.2.2.2.2.2.2.2.2.1, .u64 r_1.2.2.2.2.2.2.2.2.2.2.1, .v (.iface 124 (SV.val (pt g_x_n_e 0)))], Ow e8 A13 r_1.2.2.2.2.2.2.2.1.length c13 r_1.2.2.2.2.2.2.2.1, Ow e8 A14 r_1.2.2.2.2.2.2.2.2.1.length c14 r_1.2.2.2.2.2.2.2.2.1, Bx 128 g_x_n_e [.ar e32 r_1.1, .u64 r_1.2.1, .u64 r_1.2.2.1, sl A12 r_1.2.2.2.1.length c12, I r_1.2.2.2.2.1, .v (.func (.func 65) ⟨SV.vals []⟩ ⟨SV.vals []⟩), .v (.func (.func 66) ⟨SV.vals []⟩ ⟨SV.vals []⟩)], Ow e8 A12 r_1.2.2.2.1.length c12 r_1.2.2.2.1]) ?_ ?_
 ·
  refine W_seq <| Wq (.n 40 (.b (decide ((r_1.2.2.2.2.2.2.2.2.2.2.2.2.2.2.1 - r_1.2.2.2.2.2.2.2.2.2.2.2.2.2.2.2.2.2.2.2.1) < (UInt64.ofInt n)))) (.s .a)) ?_
  refine W_pz ((r_1.2.2.2.2.2.2.2.2.2.2.2.2.2.2.1 - r_1.2.2.2.2.2.2.2.2.2.2.2.2.2.2.2.2.2.2.2.1) < (UInt64.ofInt n)) (fun hc2 => ?_) fun hc2 => ?_
  · rw [if_pos hc2] at hm
    refine W_q [] (.n 1 (I (w64 (r_1.2.2.2.2.2.2.2.2.2.2.2.2.2.2.1 - r_1.2.2.2.2.2.2.2.2.2.2.2.2.2.2.2.2.2.2.2.1).toNat)) (.ss (.k .z))) qe (by kernel_rfl) ?_
    have k_10 := ((((((((k_7.pk (.t .h)).pk (.t .h)).pk (.t (.t (.t (.t .h))))).pk (.t (.t (.t (.t .h))))).pk (.t (.t (.t (.t .h))))).pk (.t (.t (.t (.t (.t (.t (.t (.t .h))))))))).pk (.t (.t (.t (.t (.t (.t (.t (.t .h))))))))).pk (.t (.t (.t (.t (.t (.t (.t (.t .h))))))))).pk (.t (.t (.t (.t (.t (.t (.t (.t .h))))))))
    exact At_cz ⟨w64 (r_1.2.2.2.2.2.2.2.2.2.2.2.2.2.2.1 - r_1.2.2.2.2.2.2.2.2.2.2.2.2.2.2.2.2.2.2.2.1).toNat, hm, rfl, k_10⟩
  rw [if_neg hc2] at hm
  refine W_skip ?_
  have k_11 := ((((((((k_7.pk (.t .h)).pk (.t .h)).pk (.t (.t (.t (.t .h))))).pk (.t (.t (.t (.t .h))))).pk (.t (.t (.t (.t .h))))).pk (.t (.t (.t (.t (.t (.t (.t (.t .h))))))))).pk (.t (.t (.t (.t (.t (.t (.t (.t .h))))))))).pk (.t (.t (.t (.t (.t (.t (.t (.t .h))))))))).pk (.t (.t (.t (.t (.t (.t (.t (.t .h))))))))
  exact At_cz ⟨n, hm, rfl, k_11⟩
 rintro L_ w_2 ⟨n8, hm, rfl, k_12⟩
 simp only [m_xof_Stream_Read_s1_j0] at hm
 refine W_seq <| Wq (.n 7 (sl none 0 0) .a) ?_
 refine W_seq <| W_block ?_
 have k_14 := k_12.nil e8
 refine W_lp (m_xof_Stream_Read_s1_l0 x_root r_1 n8) (fun s L wr => ∃ (x_0 : UInt64) (x_24 : Vec UInt8 64) (x_25 : Int) (out : List UInt8) (A18 : Option Addr) (n9 : Nat) (c18 : Nat), (x_0, x_24, x_25, out) = s ∧ L = [(0, pt g_x 0), (1, I n8), (7, sl A18 n9 c18)] ∧ out.length = n9 ∧ Cx F O w wr [Bx 52 g_x [I r_1.2.2.2.2.2.2.2.2.2.2.2.1, I r_1.2.2.2.2.2.2.2.2.2.2.2.2.1, .u32 r_1.2.2.2.2.2.2.2.2.2.2.2.2.2.1, .u64 r_1.2.2.2.2.2.2.2.2.2.2.2.2.2.2.1, .b r_1.2.2.2.2.2.2.2.2.2.2.2.2.2.2.2.1, sl A15 r_1.2.2.2.2.2.2.2.2.2.2.2.2.2.2.2.2.1.length c15, sl A16 r_1.2.2.2.2.2.2.2.2.2.2.2.2.2.2.2.2.2.1.length c16, sl A17 r_1.2.2.2.2.2.2.2.2.2.2.2.2.2.2.2.2.2.2.1.length c17, pt g_x_n 0, sl (some ⟨g_x_root, 0, none⟩) x_root.length c_x_root, .u64 x_0, .ar e8 x_24, I x_25, .v (.func (.func 30) ⟨SV.vals [pt g_x 0]⟩ ⟨SV.vals []⟩)], Ow e8 A15 r_1.2.2.2.2.2.2.2.2.2.2.2.2.2.2.2.2.1.length c15 r_1.2.2.2.2.2.2.2.2.2.2.2.2.2.2.2.2.1, Ow e8 A16 r_1.2.2.2.2.2.2.2.2.2.2.2.2.2.2.2.2.2.1.length c16 r_1.2.2.2.2.2.2.2.2.2.2.2.2.2.2.2.2.2.1, Ow e8 A17 r_1.2.2.2.2.2.2.2.2.2.2.2.2.2.2.2.2.2.2.1.length c17 r_1.2.2.2.2.2.2.2.2.2.2.2.2.2.2.2.2.2.2.1, Bx 77 g_x_n [I r_1.2.2.2.2.2.1, I r_1.2.2.2.2.2.2.1, sl A13 r_1.2.2.2.2.2.2.2.1.length c13, sl A14 r_1.2.2.2.2.2.2.2.2.1.length c14, .b r_1.2.2.2.2.2.2.2.2.2.1, .u64 r_1.2.2.2.2.2.2.2.2.2.2.1, .v (.iface 124 (SV.val (pt g_x_n_e 0)))], Ow e8 A13 r_1.2.2.2.2.2.2.2.1.length c13 r_1.2.2.2.2.2.2.2.1, Ow e8 A14 r_1.2.2.2.2.2.2.2.2.1.length c14 r_1.2.2.2.2.2.2.2.2.1, Bx 128 g_x_n_e [.ar e32 r_1.1, .u64 r_1.2.1, .u64 r_1.2.2.1, sl A12 r_1.2.2.2.1.length c12, I r_1.2.2.2.2.1, .v (.func (.func 65) ⟨SV.vals []⟩ ⟨SV.vals []⟩), .v (.func (.func 66) ⟨SV.vals []⟩ ⟨SV.vals []⟩)], Ow e8 A12 r_1.2.2.2.1.length c12 r_1.2.2.2.1, Ow e8 A18 n9 c18 out]) (r_1.2.2.2.2.2.2.2.2.2.2.2.2.2.2.2.2.2.2.2.1, r_1.2.2.2.2.2.2.2.2.2.2.2.2.2.2.2.2.2.2.2.2.1, r_1.2.2.2.2.2.2.2.2.2.2.2.2.2.2.2.2.2.2.2.2.2, ([] : List UInt8)) r hm ⟨r_1.2.2.2.2.2.2.2.2.2.2.2.2.2.2.2.2.2.2.2.1, r_1.2.2.2.2.2.2.2.2.2.2.2.2.2.2.2.2.2.2.2.2.1, r_1.2.2.2.2.2.2.2.2.2.2.2.2.2.2.2.2.2.2.2.2.2, ([] : List UInt8), none, 0, 0, rfl, rfl, k_14.len 9 rfl, k_14⟩ (by kernel_rfl) ?_
 intro s0_ L_ w_3 y0 hrel hstep hr0
 obtain ⟨x_0, x_24, x_25, out, A18, _, c18, rfl, rfl, rfl, k_13⟩ := hrel
 have hm := hstep; simp only [m_xof_Stream_Read_s1_l0] at hm
 clear hstep
 refine W_seq <| W_seq <| Wq (.n 46 (.b (decide ((out.length : Int) < n8))) .a) ?_
 refine W_pz ((out.length : Int) < n8) (fun hc3 => ?_) fun hc3 => ?_
 · rw [if_pos hc3] at hm
   refine W_skip <| At_go <| W_block <| W_seq ?_
   obtain ⟨u, h_u, hm⟩ := ob hm
   refine W_d ws_mixed (by kernel_rfl) (.n 8 (.u64 (x_0 / (UInt64.ofInt r_1.2.2.2.2.2.2.2.2.2.2.2.2.1))) (.s .a)) (fun m => qs g_x 0 <| qs g_x 0 <| qB (k_13.drew m) 0 rfl 10 (.u64 x_0) (by kernel_rfl) <| qs g_x 0 <| qs g_x 0 <| qs g_x 0 <| qB (k_13.drew m) 0 rfl 1 (I r_1.2.2.2.2.2.2.2.2.2.2.2.2.1) (by kernel_rfl) <| qp ((UInt64.ofInt r_1.2.2.2.2.2.2.2.2.2.2.2.2.1) ≠ 0) (need_some h_u) <| qe) (by kernel_rfl) (fun m_1 => ?_)
   have k_15 := k_13.drew m_1
   refine At_go <| W_cut (fun L wr => ∃ (x_26 : Vec UInt8 64) (x_27 : Int), m_xof_Stream_Read_s1_j1 r_1 n8 x_0 out x_26 x_27 = some y0 ∧ L = [(0, pt g_x 0), (1, I n8), (7, sl A18 out.length c18)] ∧ Cx F O w wr [Bx 52 g_x [I r_1.2.2.2.2.2.2.2.2.2.2.2.1, I r_1.2.2.2.2.2.2.2.2.2.2.2.2.1, .u32 r_1.2.2.2.2.2.2.2.2.2.2.2.2.2.1, .u64 r_1.2.2.2.2.2.2.2.2.2.2.2.2.2.2.1, .b r_1.2.2.2.2.2.2.2.2.2.2.2.2.2.2.2.1, sl A15 r_1.2.2.2.2.2.2.2.2.2.2.2.2.2.2.2.2.1.length c15, sl A16 r_1.2.2.2.2.2.2.2.2.2.2.2.2.2.2.2.2.2.1.length c16, sl A17 r_1.2.2.2.2.2.2.2.2.2.2.2.2.2.2.2.2.2.2.1.length c17, pt g_x_n 0, sl (some ⟨g_x_root, 0, none⟩) x_root.length c_x_root, .u64 x_0, .ar e8 x_26, I x_27, .v (.func (.func 30) ⟨SV.vals [pt g_x 0]⟩ ⟨SV.vals []⟩)], Ow e8 A15 r_1.2.2.2.2.2.2.2.2.2.2.2.2.2.2.2.2.1.length c15 r_1.2.2.2.2.2.2.2.2.2.2.2.2.2.2.2.2.1, Ow e8 A16 r_1.2.2.2.2.2.2.2.2.2.2.2.2.2.2.2.2.2.1.length c16 r_1.2.2.2.2.2.2.2.2.2.2.2.2.2.2.2.2.2.1, Ow e8 A17 r_1.2.2.2.2.2.2.2.2.2.2.2.2.2.2.2.2.2.2.1.length c17 r_1.2.2.2.2.2.2.2.2.2.2.2.2.2.2.2.2.2.2.1, Bx 77 g_x_n [I r_1.2.2.2.2.2.1, I r_1.2.2.2.2.2.2.1, sl A13 r_1.2.2.2.2.2.2.2.1.length c13, sl A14 r_1.2.2.2.2.2.2.2.2.1.length c14, .b r_1.2.2.2.2.2.2.2.2.2.1, .u64 r_1.2.2.2.2.2.2.2.2.2.2.1, .v (.iface 124 (SV.val (pt g_x_n_e 0)))], Ow e8 A13 r_1.2.2.2.2.2.2.2.1.length c13 r_1.2.2.2.2.2.2.2.1, Ow e8 A14 r_1.2.2.2.2.2.2.2.2.1.length c14 r_1.2.2.2.2.2.2.2.2.1, Bx 128 g_x_n_e [.ar e32 r_1.1, .u64 r_1.2.1, .u64 r_1.2.2.1, sl A12 r_1.2.2.2.1.length c12, I r_1.2.2.2.2.1, .v (.func (.func 65) ⟨SV.vals []⟩ ⟨SV.vals []⟩), .v (.func (.func 66) ⟨SV.vals []⟩ ⟨SV.vals []⟩)], Ow e8 A12 r_1.2.2.2.1.length c12 r_1.2.2.2.1, Ow e8 A18 out.length c18 out]) ?_ ?_
   ·
    refine W_seq <| Wa (.n 64 (.b (decide (x_25 ≠ (w64 (x_0 / (UInt64.ofInt r_1.2.2.2.2.2.2.2.2.2.2.2.2.1)).toNat)))) .a) (qs g_x 0 <| qs g_x 0 <| qB k_15 0 rfl 75 (I x_25) (by kernel_rfl) <| qe) ?_
    refine W_pz (x_25 ≠ (w64 (x_0 / (UInt64.ofInt r_1.2.2.2.2.2.2.2.2.2.2.2.2.1)).toNat)) (fun hc4 => ?_) fun hc4 => ?_
    · rw [if_pos hc4] at hm
      refine W_seq ?_
      have k_16 := k_15.drew 1
      refine W_m ws_mixed (.q 20 0 (.q 0 2 (.q 1 2 (.q 2 1 (.q 3 1 (.q 4 2 (.q 5 2 (.q 6 1 (.q 7 0 (.q 8 2 (.q 9 2 (.q 10 1 (.q 11 0 (.q 12 2 (.q 13 2 (.q 14 1 (.q 15 0 (.q 16 2 (.q 17 2 (.q 18 1 (.q 19 0 (.op 21 (.op 22 .nil))))))))))))))))))))))) [21, 22] k_16 (.c (.kkkk (.kkkk (.kk .e))) (.c (.s (.kkkk (.kkkk (.k .e)))) .l)) (by kernel_rfl) (fun _ => ?_)
      refine MXz 1 0 (.n 85 (.u64 (x_0 / (UInt64.ofInt r_1.2.2.2.2.2.2.2.2.2.2.2.2.1))) (.s .a)) (fun x hx => qe) fun _ => ?_
      refine MXz 2 2 (.n 66 (pt g_x 0) .a) (fun x hx => qs g_x 0 <| qe) fun _ => ?_
      refine MXz 2 1 (.n 68 (sl (some ⟨g_x, 11, none⟩) 64 64) (.s .a)) (fun x hx => qs g_x 0 <| qo (.v (.slice (some ⟨g_x, 11, none⟩) 64 64)) <| qp (((some ⟨g_x, 11, none⟩) : Option Addr).isSome = true ∧ Value.slice (slA (some ⟨g_x, 11, none⟩) 0 64 1) (64 - 0) (64 - 0) = .slice (some ⟨g_x, 11, none⟩) 64 64) ⟨rfl, slx0 _ _ _ _ _ rfl⟩ <| qe) fun _ => ?_
      refine MXz 2 2 (.n 70 (pt g_x 0) .a) (fun x hx => qs g_x 0 <| qe) fun _ => ?_
      refine MXz 1 1 (.n 71 (pt g_x 0) (.s .a)) (fun x hx => qs g_x 0 <| qe) fun _ => ?_
      refine MXz 1 0 (.n 72 (.agg [I r_1.2.2.2.2.2.2.2.2.2.2.2.1, I r_1.2.2.2.2.2.2.2.2.2.2.2.2.1, .u32 r_1.2.2.2.2.2.2.2.2.2.2.2.2.2.1, .u64 r_1.2.2.2.2.2.2.2.2.2.2.2.2.2.2.1, .b r_1.2.2.2.2.2.2.2.2.2.2.2.2.2.2.2.1]) (.s .a)) (fun x hx => qT hx 0 rfl 0 5 [I r_1.2.2.2.2.2.2.2.2.2.2.2.1, I r_1.2.2.2.2.2.2.2.2.2.2.2.2.1, .u32 r_1.2.2.2.2.2.2.2.2.2.2.2.2.2.1, .u64 r_1.2.2.2.2.2.2.2.2.2.2.2.2.2.2.1, .b r_1.2.2.2.2.2.2.2.2.2.2.2.2.2.2.2.1] (by kernel_rfl) (by decide) <| qe) fun _ => ?_
      refine MXz 2 2 (.n 74 (pt g_x 0) .a) (fun x hx => qs g_x 0 <| qe) fun _ => ?_
      refine MXz 1 1 (.n 75 (pt g_x 6) (.s .a)) (fun x hx => qs g_x 0 <| qe) fun _ => ?_
      refine MXz 1 0 (.n 76 (sl A16 r_1.2.2.2.2.2.2.2.2.2.2.2.2.2.2.2.2.2.1.length c16) (.s .a)) (fun x hx => qB hx 0 rfl 6 (sl A16 r_1.2.2.2.2.2.2.2.2.2.2.2.2.2.2.2.2.2.1.length c16) (by kernel_rfl) <| qe) fun _ => ?_
      refine MXz 2 2 (.n 78 (pt g_x 0) .a) (fun x hx => qs g_x 0 <| qe) fun _ => ?_
      refine MXz 1 1 (.n 79 (pt g_x 7) (.s .a)) (fun x hx => qs g_x 0 <| qe) fun _ => ?_
      refine MXz 1 0 (.n 80 (sl A17 r_1.2.2.2.2.2.2.2.2.2.2.2.2.2.2.2.2.2.2.1.length c17) (.s .a)) (fun x hx => qB hx 0 rfl 7 (sl A17 r_1.2.2.2.2.2.2.2.2.2.2.2.2.2.2.2.2.2.2.1.length c17) (by kernel_rfl) <| qe) fun _ => ?_
      refine MXz 2 2 (.n 82 (pt g_x 0) .a) (fun x hx => qs g_x 0 <| qe) fun _ => ?_
      refine MXz 1 1 (.n 83 (pt g_x 9) (.s .a)) (fun x hx => qs g_x 0 <| qe) fun _ => ?_
      refine MXz 1 0 (.n 84 (sl (some ⟨g_x_root, 0, none⟩) x_root.length c_x_root) (.s .a)) (fun x hx => qB hx 0 rfl 9 (sl (some ⟨g_x_root, 0, none⟩) x_root.length c_x_root) (by kernel_rfl) <| qe) fun _ => ?_
      refine MX_op (by kernel_rfl) rfl ?_
      obtain ⟨r_2, h_r_2, hm⟩ := ob hm
      refine Op_cz 86 ws_go18 (c_xof_shape_piece (F := N0) (O := N0) _ _ _ _ _ _ _ _ _ _ _ _ _ _ _ _ _ _ (Ro.n0 (k_16.rd 2 rfl)) (k_16.len 2 rfl) (k_16.lec 2 rfl) (Ro.n0 (k_16.rd 3 rfl)) (k_16.len 3 rfl) (k_16.lec 3 rfl) (Ro.n0 (h_x_root.cx k_16)) rfl hc_x_root (Cx.refl _) _ h_r_2) ?_
      rintro e_ w_4 ⟨A19, _, c19, rfl, rfl, k_17⟩
      have k_18 := k_16.call k_17
      refine ⟨sl A19 r_2.length c19, rfl, ?_⟩
      refine ⟨(k_18.sel (.kkkk (.kkkk (.kk .z)))), fun _ => ?_⟩
      refine MX_op (by kernel_rfl) rfl <| Op_vcp (E := e8) (dn := 64) (dc := 64) (v := sl A19 r_2.length c19) (src := r_2) (lo := 0) (m' := 64) ws_tf23 [] 87 0 [I r_1.2.2.2.2.2.2.2.2.2.2.2.1, I r_1.2.2.2.2.2.2.2.2.2.2.2.2.1, .u32 r_1.2.2.2.2.2.2.2.2.2.2.2.2.2.1, .u64 r_1.2.2.2.2.2.2.2.2.2.2.2.2.2.2.1, .b r_1.2.2.2.2.2.2.2.2.2.2.2.2.2.2.2.1, sl A15 r_1.2.2.2.2.2.2.2.2.2.2.2.2.2.2.2.2.1.length c15, sl A16 r_1.2.2.2.2.2.2.2.2.2.2.2.2.2.2.2.2.2.1.length c16, sl A17 r_1.2.2.2.2.2.2.2.2.2.2.2.2.2.2.2.2.2.2.1.length c17, pt g_x_n 0, sl (some ⟨g_x_root, 0, none⟩) x_root.length c_x_root, .u64 x_0] [I x_25, .v (.func (.func 30) ⟨SV.vals [pt g_x 0]⟩ ⟨SV.vals []⟩)] x_24 (by kernel_rfl) (slA_zero _ _ _).symm k_18 rfl (Src.sl (k_18.rd 10 rfl) (k_18.len 10 rfl) (by rfl)) (k_18.len 10 rfl) (by have := x_24.h; omega) (by omega) (by omega) ?_
      intro w_5 k_19
      refine ⟨(k_19.sel (.s (.kkkk (.kkkk (.k .z))))), fun _ => ?_⟩
      refine MX_nil <| At_go <| W_reg <| Wl 5 (.n 90 (I (w64 (x_0 / (UInt64.ofInt r_1.2.2.2.2.2.2.2.2.2.2.2.2.1)).toNat)) (.n 92 (pt g_x 75) (.ssss (.ssss (.s .a))))) (qs g_x 0 <| qs g_x 0 <| qe) ?_
      refine WL_op <| Op_bz 0 (I (w64 (x_0 / (UInt64.ofInt r_1.2.2.2.2.2.2.2.2.2.2.2.2.1)).toNat)) [I (w64 (x_0 / (UInt64.ofInt r_1.2.2.2.2.2.2.2.2.2.2.2.2.1)).toNat)] (Pt.at g_x 75) k_19 rfl (.kkkk (.kkkk (.kkkk .h))) ?_
      intro w_6 k_20
      have k_21 := k_20.sel (.kkkk (.kkkk (.kk .z)))
      refine WL_nil ?_
      exact At_cz ⟨(vcp x_24 0 64 r_2), w64 (x_0 / (UInt64.ofInt r_1.2.2.2.2.2.2.2.2.2.2.2.2.1)).toNat, hm, rfl, k_21⟩
    rw [if_neg hc4] at hm
    refine W_skip ?_
    exact At_cz ⟨x_24, x_25, hm, rfl, k_15⟩
   rintro L_ w_7 ⟨x_26, x_27, hm, rfl, k_22⟩
   simp only [m_xof_Stream_Read_s1_j1] at hm
   refine W_seq ?_
   obtain ⟨u1, h_u1, hm⟩ := ob hm
   refine W_d ws_mixed (by kernel_rfl) (.n 9 (I (w64 (x_0 % (UInt64.ofInt r_1.2.2.2.2.2.2.2.2.2.2.2.2.1)).toNat)) .a) (fun m => qs g_x 0 <| qs g_x 0 <| qB (k_22.drew m) 0 rfl 10 (.u64 x_0) (by kernel_rfl) <| qs g_x 0 <| qs g_x 0 <| qs g_x 0 <| qB (k_22.drew m) 0 rfl 1 (I r_1.2.2.2.2.2.2.2.2.2.2.2.2.1) (by kernel_rfl) <| qp ((UInt64.ofInt r_1.2.2.2.2.2.2.2.2.2.2.2.2.1) ≠ 0) (need_some h_u1) <| qe) (by kernel_rfl) (fun m_2 => ?_)
   have k_23 := k_22.drew m_2
   refine At_go <| W_seq <| Wa (.n 10 (I (if w64 (r_1.2.2.2.2.2.2.2.2.2.2.2.2.1 - (w64 (x_0 % (UInt64.ofInt r_1.2.2.2.2.2.2.2.2.2.2.2.2.1)).toNat)) < w64 (n8 - (out.length : Int)) then w64 (r_1.2.2.2.2.2.2.2.2.2.2.2.2.1 - (w64 (x_0 % (UInt64.ofInt r_1.2.2.2.2.2.2.2.2.2.2.2.2.1)).toNat)) else w64 (n8 - (out.length : Int)))) .a) (qs g_x 0 <| qs g_x 0 <| qs g_x 0 <| qB k_23 0 rfl 1 (I r_1.2.2.2.2.2.2.2.2.2.2.2.2.1) (by kernel_rfl) <| qe) ?_
   refine W_seq <| W_reg ?_
   obtain ⟨b, h_b, hm⟩ := ob hm
   have hs := slc_some h_b
   have hl := slc_len h_b
   have hn : x_26.l.length = 64 := x_26.h
   have hc5 : 64 ≤ 64 := (Nat.le_refl _)
   obtain ⟨A20, c20, e_, hc6, hA, hc7⟩ := slx (some ⟨g_x, 11, none⟩) (Int.toNat (w64 (x_0 % (UInt64.ofInt r_1.2.2.2.2.2.2.2.2.2.2.2.2.1)).toNat)) 64 1 (Int.toNat (w64 ((w64 (x_0 % (UInt64.ofInt r_1.2.2.2.2.2.2.2.2.2.2.2.2.1)).toNat) + (if w64 (r_1.2.2.2.2.2.2.2.2.2.2.2.2.1 - (w64 (x_0 % (UInt64.ofInt r_1.2.2.2.2.2.2.2.2.2.2.2.2.1)).toNat)) < w64 (n8 - (out.length : Int)) then w64 (r_1.2.2.2.2.2.2.2.2.2.2.2.2.1 - (w64 (x_0 % (UInt64.ofInt r_1.2.2.2.2.2.2.2.2.2.2.2.2.1)).toNat)) else w64 (n8 - (out.length : Int))))) - Int.toNat (w64 (x_0 % (UInt64.ofInt r_1.2.2.2.2.2.2.2.2.2.2.2.2.1)).toNat)) b.length (by omega) (by omega)
   refine Wl 9 (.n 117 (sl A18 out.length c18) (.n 125 (sl A20 b.length c20) (.k (.s .a)))) (qs g_x 0 <| qs g_x 0 <| qp (0 ≤ w64 ((w64 (x_0 % (UInt64.ofInt r_1.2.2.2.2.2.2.2.2.2.2.2.2.1)).toNat) + (if w64 (r_1.2.2.2.2.2.2.2.2.2.2.2.2.1 - (w64 (x_0 % (UInt64.ofInt r_1.2.2.2.2.2.2.2.2.2.2.2.2.1)).toNat)) < w64 (n8 - (out.length : Int)) then w64 (r_1.2.2.2.2.2.2.2.2.2.2.2.2.1 - (w64 (x_0 % (UInt64.ofInt r_1.2.2.2.2.2.2.2.2.2.2.2.2.1)).toNat)) else w64 (n8 - (out.length : Int)))) ∧ w64 ((w64 (x_0 % (UInt64.ofInt r_1.2.2.2.2.2.2.2.2.2.2.2.2.1)).toNat) + (if w64 (r_1.2.2.2.2.2.2.2.2.2.2.2.2.1 - (w64 (x_0 % (UInt64.ofInt r_1.2.2.2.2.2.2.2.2.2.2.2.2.1)).toNat)) < w64 (n8 - (out.length : Int)) then w64 (r_1.2.2.2.2.2.2.2.2.2.2.2.2.1 - (w64 (x_0 % (UInt64.ofInt r_1.2.2.2.2.2.2.2.2.2.2.2.2.1)).toNat)) else w64 (n8 - (out.length : Int)))) ≤ ((64 : Nat) : Int)) (by omega) <| qp (0 ≤ w64 (x_0 % (UInt64.ofInt r_1.2.2.2.2.2.2.2.2.2.2.2.2.1)).toNat ∧ w64 (x_0 % (UInt64.ofInt r_1.2.2.2.2.2.2.2.2.2.2.2.2.1)).toNat ≤ ((Int.toNat (w64 ((w64 (x_0 % (UInt64.ofInt r_1.2.2.2.2.2.2.2.2.2.2.2.2.1)).toNat) + (if w64 (r_1.2.2.2.2.2.2.2.2.2.2.2.2.1 - (w64 (x_0 % (UInt64.ofInt r_1.2.2.2.2.2.2.2.2.2.2.2.2.1)).toNat)) < w64 (n8 - (out.length : Int)) then w64 (r_1.2.2.2.2.2.2.2.2.2.2.2.2.1 - (w64 (x_0 % (UInt64.ofInt r_1.2.2.2.2.2.2.2.2.2.2.2.2.1)).toNat)) else w64 (n8 - (out.length : Int))))) : Nat) : Int)) (by omega) <| qo (.v (.slice A20 b.length c20)) <| qp (((some ⟨g_x, 11, none⟩) : Option Addr).isSome = true ∧ Value.slice (slA (some ⟨g_x, 11, none⟩) (Int.toNat (w64 (x_0 % (UInt64.ofInt r_1.2.2.2.2.2.2.2.2.2.2.2.2.1)).toNat)) 64 1) (Int.toNat (w64 ((w64 (x_0 % (UInt64.ofInt r_1.2.2.2.2.2.2.2.2.2.2.2.2.1)).toNat) + (if w64 (r_1.2.2.2.2.2.2.2.2.2.2.2.2.1 - (w64 (x_0 % (UInt64.ofInt r_1.2.2.2.2.2.2.2.2.2.2.2.2.1)).toNat)) < w64 (n8 - (out.length : Int)) then w64 (r_1.2.2.2.2.2.2.2.2.2.2.2.2.1 - (w64 (x_0 % (UInt64.ofInt r_1.2.2.2.2.2.2.2.2.2.2.2.2.1)).toNat)) else w64 (n8 - (out.length : Int))))) - Int.toNat (w64 (x_0 % (UInt64.ofInt r_1.2.2.2.2.2.2.2.2.2.2.2.2.1)).toNat)) (64 - Int.toNat (w64 (x_0 % (UInt64.ofInt r_1.2.2.2.2.2.2.2.2.2.2.2.2.1)).toNat)) = .slice A20 b.length c20) ⟨rfl, e_⟩ <| qe) ?_
   refine WL_op ?_
   obtain ⟨out1, h_out1, hm⟩ := ob hm
   obtain ⟨hz, hl1⟩ := app_some h_out1
   refine Op_append (E := e8) (v := sl A20 b.length c20) (ys := b) ws_tf23 [] 126 9 (by kernel_rfl) k_23 rfl (Src.sl (Rd.cut (Rd.vec (k_23.brd 0 rfl) (c := Enc.all e8 x_26.l) (off := 11) (by kernel_rfl)) h_b rfl (by rfl) hA (by omega)) rfl (by rfl)) rfl (by have := k_23.len 9 rfl; have := hm; omega) ?_
   intro A21 c21 w_8 k_24
   rw [← hl1] at k_24
   refine We 1 (.n 7 (sl A21 (out.length + b.length) c21) (.sss (.kkk .z))) ?_
   refine Wn <| W_reg <| Wl 9 (.n 133 (.u64 (x_0 + (UInt64.ofInt (if w64 (r_1.2.2.2.2.2.2.2.2.2.2.2.2.1 - (w64 (x_0 % (UInt64.ofInt r_1.2.2.2.2.2.2.2.2.2.2.2.2.1)).toNat)) < w64 (n8 - (out.length : Int)) then w64 (r_1.2.2.2.2.2.2.2.2.2.2.2.2.1 - (w64 (x_0 % (UInt64.ofInt r_1.2.2.2.2.2.2.2.2.2.2.2.2.1)).toNat)) else w64 (n8 - (out.length : Int)))))) (.n 135 (pt g_x 10) (.k (.s .a)))) (qs g_x 0 <| qs g_x 0 <| qB k_24 0 rfl 10 (.u64 x_0) (by kernel_rfl) <| qs g_x 0 <| qs g_x 0 <| qe) ?_
   refine WL_op <| Op_bz 0 (.u64 (x_0 + (UInt64.ofInt (if w64 (r_1.2.2.2.2.2.2.2.2.2.2.2.2.1 - (w64 (x_0 % (UInt64.ofInt r_1.2.2.2.2.2.2.2.2.2.2.2.2.1)).toNat)) < w64 (n8 - (out.length : Int)) then w64 (r_1.2.2.2.2.2.2.2.2.2.2.2.2.1 - (w64 (x_0 % (UInt64.ofInt r_1.2.2.2.2.2.2.2.2.2.2.2.2.1)).toNat)) else w64 (n8 - (out.length : Int)))))) [.u64 (x_0 + (UInt64.ofInt (if w64 (r_1.2.2.2.2.2.2.2.2.2.2.2.2.1 - (w64 (x_0 % (UInt64.ofInt r_1.2.2.2.2.2.2.2.2.2.2.2.2.1)).toNat)) < w64 (n8 - (out.length : Int)) then w64 (r_1.2.2.2.2.2.2.2.2.2.2.2.2.1 - (w64 (x_0 % (UInt64.ofInt r_1.2.2.2.2.2.2.2.2.2.2.2.2.1)).toNat)) else w64 (n8 - (out.length : Int)))))] (Pt.at g_x 10) k_24 rfl (.kkkk (.kkkk (.kk .h))) ?_
   intro w_9 k_25
   refine WL_nil <| At_in ?_
   exact At_rd (x_0 + (UInt64.ofInt (if w64 (r_1.2.2.2.2.2.2.2.2.2.2.2.2.1 - (w64 (x_0 % (UInt64.ofInt r_1.2.2.2.2.2.2.2.2.2.2.2.2.1)).toNat)) < w64 (n8 - (out.length : Int)) then w64 (r_1.2.2.2.2.2.2.2.2.2.2.2.2.1 - (w64 (x_0 % (UInt64.ofInt r_1.2.2.2.2.2.2.2.2.2.2.2.2.1)).toNat)) else w64 (n8 - (out.length : Int)))), x_26, x_27, out1) (Option.some.inj hm).symm ⟨x_0 + (UInt64.ofInt (if w64 (r_1.2.2.2.2.2.2.2.2.2.2.2.2.1 - (w64 (x_0 % (UInt64.ofInt r_1.2.2.2.2.2.2.2.2.2.2.2.2.1)).toNat)) < w64 (n8 - (out.length : Int)) then w64 (r_1.2.2.2.2.2.2.2.2.2.2.2.2.1 - (w64 (x_0 % (UInt64.ofInt r_1.2.2.2.2.2.2.2.2.2.2.2.2.1)).toNat)) else w64 (n8 - (out.length : Int)))), x_26, x_27, out1, A21, out.length + b.length, c21, rfl, rfl, k_25.len 9 rfl, k_25⟩ (by kernel_rfl)
 rw [if_neg hc3] at hm
 refine W_exit (At_te (At_te (At_ie ?_)))
 have hm := exit_of hm hr0
 refine At_go <| W_seq <| Wq (.n 4 (sl A18 out.length c18) (.n 5 (I 0) .z)) ?_
 refine W_ret ?_
 obtain rfl := si hm
 refine At_rz [sl A18 out.length c18, I 0] qe ?_
 have k_26 := (((((((((k_13.pk (.t (.t (.t .h)))).pk (.t (.t (.t .h)))).pk (.t (.t (.t .h)))).pk (.t (.t (.t .h)))).pk (.t (.t (.t (.t (.t (.t .h))))))).pk (.t (.t (.t (.t (.t (.t .h))))))).pk (.t (.t (.t (.t (.t (.t .h))))))).pk (.t (.t (.t (.t (.t (.t (.t (.t .h))))))))).pk (.t (.t (.t (.t (.t (.t (.t (.t .h))))))))).pk (.t (.t (.t (.t (.t (.t (.t (.t (.t .h)))))))))
 exact ⟨A18, out.length, c18, A12, r_1.2.2.2.1.length, c12, A13, r_1.2.2.2.2.2.2.2.1.length, c13, A14, r_1.2.2.2.2.2.2.2.2.1.length, c14, A15, r_1.2.2.2.2.2.2.2.2.2.2.2.2.2.2.2.2.1.length, c15, A16, r_1.2.2.2.2.2.2.2.2.2.2.2.2.2.2.2.2.2.1.length, c16, A17, r_1.2.2.2.2.2.2.2.2.2.2.2.2.2.2.2.2.2.2.1.length, c17, k_26.len 0 rfl, k_26.len 2 rfl, k_26.len 4 rfl, k_26.len 5 rfl, k_26.len 7 rfl, k_26.len 8 rfl, k_26.len 9 rfl, rfl, k_26⟩
theorem c_xof_Take (k_ : Int) (length : Int) (key : List UInt8) (data : List UInt8) (from_ : UInt64) (n : Int) (A_key : Option Addr) (n_key : Nat) (c_key : Nat) (A_data : Option Addr) (n_data : Nat) (c_data : Nat) (h_key : Ro F w A_key (e8.all key)) (hn_key : key.length = n_key) (hc_key : n_key ≤ c_key) (h_data : Ro F w A_data (e8.all data)) (hn_data : data.length = n_data) (hc_data : n_data ≤ c_data) (k : Cx F O w w []) (r : (List UInt8 × Int)) (hm : m_xof_Take k_ length key data from_ n = some r) :
    Calls Try.prog 9 (vals [I k_, I length, sl A_key n_key c_key, sl A_data n_data c_data, .u64 from_, I n]) w (fun e w' => ∃ A n1 c, r.1.length = n1 ∧ e = .returned (SV.val (.tup [sl A n1 c, I r.2])) ∧ Cx F O w w' [Ow e8 A n1 c r.1]) := by
 unfold m_xof_Take at hm
 subst hn_key
 subst hn_data
 refine calz [I k_, I length, sl A_key key.length c_key, sl A_data data.length c_data, .u64 from_, I n] Try.func9 rfl ?_
 refine W_seq <| Wq .a ?_
 refine W_seq <| W_reg <| We 3 (.n 17 (I k_) (.n 18 (I length) (.n 19 (sl A_key key.length c_key) (.sss .a)))) ?_
 refine WL_op ?_
 obtain ⟨r_, h_r_, hm⟩ := ob hm
 refine Op_cz 20 ws_go5 (c_xof_New_w (F := N0) (O := N0) _ _ _ _ _ _ _ _ _ _ _ _ _ _ (Ro.n0 (h_key.cx k)) rfl hc_key (Ro.nilE e8) rfl (Nat.le_refl 0) (Ro.nilE e8) rfl (Nat.le_refl 0) (Cx.refl _) _ h_r_) ?_
 rcases r_ with r_1 | r_2 | r_3
 · simp only [Sum.elim_inl, Sum.elim_inr] at hm
   rintro e_ w_ ⟨rfl, k_1⟩
   have k_2 := k.call k_1
   refine ⟨.tup [.v (.pointer none), I r_1], rfl, ?_⟩
   refine We 5 (.n 14 (.v (.pointer none)) (.n 15 (I r_1) (.ssss .a))) ?_
   refine Wn <| W_seq <| W_seq <| Wq (.n 24 (.b (decide (r_1 ≠ 0))) .a) ?_
   refine W_pz (r_1 ≠ 0) (fun hc => ?_) fun hc => ?_
   · rw [if_pos hc] at hm
     refine W_seq <| Wq (.n 12 (sl none 0 0) (.n 13 (I r_1) .z)) ?_
     refine W_ret (At_tr ?_)
     have k_3 := k_2.nil e8
     obtain rfl := si hm
     refine At_rz [sl none 0 0, I r_1] qe ?_
     exact ⟨none, 0, 0, k_3.len 0 rfl, rfl, k_3⟩
   rw [if_neg hc] at hm
   refine W_skip <| At_go <| W_seq <| W_seq <| Wq (.n 31 (.b ((decide (n < 0)) || (decide (65536 < n)))) (.s (.k (.s .a)))) ?_
   refine W_cz ((decide (n < 0)) || (decide (65536 < n))) (fun hc1 => ?_) fun hc1 => ?_
   · rw [if_pos hc1] at hm
     refine W_seq <| Wq (.n 12 (sl none 0 0) (.n 13 (I 1) .z)) ?_
     refine W_ret (At_tr ?_)
     have k_4 := k_2.nil e8
     obtain rfl := si hm
     refine At_rz [sl none 0 0, I 1] qe ?_
     exact ⟨none, 0, 0, k_4.len 0 rfl, rfl, k_4⟩
   rw [if_neg (by rw [hc1]; decide)] at hm
   cases hm
 · simp only [Sum.elim_inl, Sum.elim_inr] at hm
   rintro e_ w_0 ⟨g, A0, _, c0, A1, _, c1, A2, _, c2, g1, A3, _, c3, A4, _, c4, g2, A5, _, c5, rfl, rfl, rfl, rfl, rfl, rfl, rfl, k_5⟩
   have k_6 := k.call k_5
   refine ⟨.tup [pt g 0, I 0], rfl, ?_⟩
   refine We 5 (.n 14 (pt g 0) (.n 15 (I 0) (.ssss .a))) ?_
   refine Wn <| W_seq <| W_seq <| Wq (.n 24 (.b false) .a) ?_
   refine W_cond false (by kernel_rfl) (fun h => by cases h) (fun _ => ?_)
   refine W_skip <| At_go <| W_seq <| W_seq <| Wq (.n 31 (.b ((decide (n < 0)) || (decide (65536 < n)))) (.s (.k (.s .a)))) ?_
   refine W_cz ((decide (n < 0)) || (decide (65536 < n))) (fun hc0 => ?_) fun hc0 => ?_
   · rw [if_pos hc0] at hm
     refine W_seq <| Wq (.n 12 (sl none 0 0) (.n 13 (I 1) .z)) ?_
     refine W_ret (At_tr ?_)
     have k_7 := k_6.nil e8
     obtain rfl := si hm
     refine At_rz [sl none 0 0, I 1] qe ?_
     have k_8 := k_7.sel (.ssss (.ssss (.s (.k .e))))
     exact ⟨none, 0, 0, k_8.len 0 rfl, rfl, k_8⟩
   rw [if_neg (by rw [hc0]; decide)] at hm
   refine W_skip <| At_go <| W_seq <| W_seq <| Wa (.n 42 (.b ((decide (0 < n)) && (decide (r_2.2.2.2.1 ≤ from_)))) (.s .a)) (qp ((decide (0 < n)) = true → (some ⟨g, 0, none⟩ : Option Addr).isSome = true) (fun hg0 => rfl) <| qp ((decide (0 < n)) = true → (some ⟨g, 0, none⟩ : Option Addr).isSome = true) (fun hg0 => rfl) <| qp ((decide (0 < n)) = true → (some ⟨g, 0, none⟩ : Option Addr).isSome = true) (fun hg0 => rfl) <| qo (.u64 r_2.2.2.2.1) <| qc (fun w => (decide (0 < n)) = true → ∃ a, (some ⟨g, 3, none⟩ : Option Addr) = some a ∧ w.cell? a = some (SV.val (.u64 r_2.2.2.2.1))) (fun hg0 => k_6.bld 0 rfl 3 (.u64 r_2.2.2.2.1) (by kernel_rfl)) <| qe) ?_
   refine W_cz ((decide (0 < n)) && (decide (r_2.2.2.2.1 ≤ from_))) (fun hc2 => ?_) fun hc2 => ?_
   · rw [if_pos hc2] at hm
     refine W_seq <| Wq (.n 12 (sl none 0 0) (.n 13 (I 70) .z)) ?_
     refine W_ret (At_tr ?_)
     have k_9 := k_6.nil e8
     obtain rfl := si hm
     refine At_rz [sl none 0 0, I 70] qe ?_
     have k_10 := k_9.sel (.ssss (.ssss (.s (.k .e))))
     exact ⟨none, 0, 0, k_10.len 0 rfl, rfl, k_10⟩
   rw [if_neg (by rw [hc2]; decide)] at hm
   refine W_skip <| At_go <| W_seq <| W_reg <| We 2 (.n 43 (pt g 0) (.n 44 (sl A_data data.length c_data) (.s (.k (.s .a))))) ?_
   refine WL_op ?_
   obtain ⟨r_4, h_r_4, hm⟩ := ob hm
   obtain ⟨F1, O1, kin, hO, hre, hF, hb⟩ := k_6.go (.i (.i (.i (.i (.i (.i (.i (.i (.i .e)))))))))
   refine Op_cz 45 ws_go6 (c_xof_Stream_Write (F := F1) (O := O1) _ _ _ _ _ _ _ _ _ _ _ _ _ _ _ _ _ _ _ _ _ _ _ _ _ _ _ _ _ _ _ _ _ _ _ _ _ _ _ _ _ _ _ _ _ _ _ (Ro.of_old h_data k_6 hF) rfl hc_data kin _ h_r_4) ?_
   rintro e_ w_1 ⟨A6, _, c6, A7, _, c7, A8, _, c8, A9, _, c9, A10, _, c10, A11, _, c11, rfl, rfl, rfl, rfl, rfl, rfl, rfl, k_11⟩
   have k_12 := hb w_1 _ _ k_11 (.c (.c (.c (.c (.c (.c (.c (.c (.c .n)))))))))
   refine ⟨I 0, rfl, ?_⟩
   refine Wn <| W_seq <| W_reg <| We 2 (.n 46 (pt g 0) (.n 47 (.u64 from_) (.sss (.k (.s .a))))) ?_
   refine WL_op ?_
   obtain ⟨r_5, h_r_5, hm⟩ := ob hm
   have k_13 := ((((((((k_12.pk (.t .h)).pk (.t .h)).pk (.t (.t (.t (.t .h))))).pk (.t (.t (.t (.t .h))))).pk (.t (.t (.t (.t .h))))).pk (.t (.t (.t (.t (.t (.t (.t (.t .h))))))))).pk (.t (.t (.t (.t (.t (.t (.t (.t .h))))))))).pk (.t (.t (.t (.t (.t (.t (.t (.t .h))))))))).pk (.t (.t (.t (.t (.t (.t (.t (.t .h))))))))
   obtain ⟨F11, O11, kin1, hO1, hre1, hF1, hb1⟩ := k_13.go (.i (.i (.i (.i (.i (.i (.i (.i (.i .e)))))))))
   refine Op_cz 48 ws_go20 (c_xof_Stream_Skip (F := F11) (O := O11) _ _ _ _ _ _ _ _ _ _ _ _ _ _ _ _ _ _ _ _ _ _ _ _ _ _ _ _ _ _ _ _ _ _ _ _ _ _ _ _ _ _ _ _ kin1 _ h_r_5) ?_
   rintro e_ w_2 ⟨A12, _, c12, A13, _, c13, A14, _, c14, A15, _, c15, A16, _, c16, A17, _, c17, g3, _, c18, rfl, rfl, rfl, rfl, rfl, rfl, rfl, rfl, k_14⟩
   have k_15 := hb1 w_2 _ _ k_14 (.c (.c (.c (.c (.c (.c (.c (.c (.c (.c .n))))))))))
   refine ⟨.tup [.u64 r_5.1, I r_5.2.1], rfl, ?_⟩
   refine Wn <| W_seq <| W_reg <| We 2 (.n 49 (pt g 0) (.n 50 (I n) .z)) ?_
   refine WL_op ?_
   obtain ⟨r_6, h_r_6, hm⟩ := ob hm
   have k_16 := (((((((((k_15.pk (.t (.t (.t (.t (.t (.t (.t (.t (.t .h)))))))))).pk (.t (.t .h))).pk (.t (.t .h))).pk (.t (.t (.t (.t (.t .h)))))).pk (.t (.t (.t (.t (.t .h)))))).pk (.t (.t (.t (.t (.t .h)))))).pk (.t (.t (.t (.t (.t (.t (.t (.t (.t .h)))))))))).pk (.t (.t (.t (.t (.t (.t (.t (.t (.t .h)))))))))).pk (.t (.t (.t (.t (.t (.t (.t (.t (.t .h)))))))))).pk (.t (.t (.t (.t (.t (.t (.t (.t (.t .h)))))))))
   obtain ⟨F12, O12, kin2, hO2, hre2, hF2, hb2⟩ := k_16.go (.i (.i (.i (.i (.i (.i (.i (.i (.i (.r .e))))))))))
   refine Op_cz 51 ws_go7 (c_xof_Stream_Read (F := F12) (O := O12) _ _ _ _ _ _ _ _ _ _ _ _ _ _ _ _ _ _ _ _ _ _ _ _ _ _ _ _ _ _ _ _ _ _ _ _ _ _ _ _ _ _ _ _ _ _ _ _ (Ro.of_sh kin2.off hre2 0 rfl) (k_16.shlen 9 rfl) (k_16.shlec 9 rfl) kin2 _ h_r_6) ?_
   rintro e_ w_3 ⟨A18, _, c19, A19, _, c20, A20, _, c21, A21, _, c22, A22, _, c23, A23, _, c24, A24, _, c25, rfl, rfl, rfl, rfl, rfl, rfl, rfl, rfl, k_17⟩
   have k_18 := hb2 w_3 _ _ k_17 (.c (.c (.c (.c (.c (.c (.c (.c (.c (.c .n))))))))))
   refine ⟨.tup [sl A18 r_6.1.length c19, I r_6.2.1], rfl, ?_⟩
   have k_19 := k_18.sel (.k .z)
   refine We 4 (.n 12 (sl A18 r_6.1.length c19) (.n 13 (I r_6.2.1) .z)) ?_
   refine Wn <| W_ret ?_
   obtain rfl := si hm
   refine At_rz [sl A18 r_6.1.length c19, I r_6.2.1] qe ?_
   exact ⟨A18, r_6.1.length, c19, k_19.len 0 rfl, rfl, k_19⟩
 · simp only [Sum.elim_inl, Sum.elim_inr] at hm
   rintro e_ w_4 ⟨g0, A25, _, c26, A26, _, c27, A27, _, c28, g4, A28, _, c29, A29, _, c30, g5, A30, _, c31, rfl, rfl, rfl, rfl, rfl, rfl, rfl, k_20⟩
   have k_21 := k.call k_20
   refine ⟨.tup [pt g0 0, I 0], rfl, ?_⟩
   refine We 5 (.n 14 (pt g0 0) (.n 15 (I 0) (.ssss .a))) ?_
   refine Wn <| W_seq <| W_seq <| Wq (.n 24 (.b false) .a) ?_
   refine W_cond false (by kernel_rfl) (fun h => by cases h) (fun _ => ?_)
   refine W_skip <| At_go <| W_seq <| W_seq <| Wq (.n 31 (.b ((decide (n < 0)) || (decide (65536 < n)))) (.s (.k (.s .a)))) ?_
   refine W_cz ((decide (n < 0)) || (decide (65536 < n))) (fun hc3 => ?_) fun hc3 => ?_
   · rw [if_pos hc3] at hm
     refine W_seq <| Wq (.n 12 (sl none 0 0) (.n 13 (I 1) .z)) ?_
     refine W_ret (At_tr ?_)
     have k_22 := k_21.nil e8
     obtain rfl := si hm
     refine At_rz [sl none 0 0, I 1] qe ?_
     have k_23 := k_22.sel (.ssss (.ssss (.s (.k .e))))
     exact ⟨none, 0, 0, k_23.len 0 rfl, rfl, k_23⟩
   rw [if_neg (by rw [hc3]; decide)] at hm
   refine W_skip <| At_go <| W_seq <| W_seq <| Wa (.n 42 (.b ((decide (0 < n)) && (decide (r_3.2.2.2.1 ≤ from_)))) (.s .a)) (qp ((decide (0 < n)) = true → (some ⟨g0, 0, none⟩ : Option Addr).isSome = true) (fun hg0 => rfl) <| qp ((decide (0 < n)) = true → (some ⟨g0, 0, none⟩ : Option Addr).isSome = true) (fun hg0 => rfl) <| qp ((decide (0 < n)) = true → (some ⟨g0, 0, none⟩ : Option Addr).isSome = true) (fun hg0 => rfl) <| qo (.u64 r_3.2.2.2.1) <| qc (fun w => (decide (0 < n)) = true → ∃ a, (some ⟨g0, 3, none⟩ : Option Addr) = some a ∧ w.cell? a = some (SV.val (.u64 r_3.2.2.2.1))) (fun hg0 => k_21.bld 0 rfl 3 (.u64 r_3.2.2.2.1) (by kernel_rfl)) <| qe) ?_
   refine W_cz ((decide (0 < n)) && (decide (r_3.2.2.2.1 ≤ from_))) (fun hc4 => ?_) fun hc4 => ?_
   · rw [if_pos hc4] at hm
     refine W_seq <| Wq (.n 12 (sl none 0 0) (.n 13 (I 70) .z)) ?_
     refine W_ret (At_tr ?_)
     have k_24 := k_21.nil e8
     obtain rfl := si hm
     refine At_rz [sl none 0 0, I 70] qe ?_
     have k_25 := k_24.sel (.ssss (.ssss (.s (.k .e))))
     exact ⟨none, 0, 0, k_25.len 0 rfl, rfl, k_25⟩
   rw [if_neg (by rw [hc4]; decide)] at hm
   refine W_skip <| At_go <| W_seq <| W_reg <| We 2 (.n 43 (pt g0 0) (.n 44 (sl A_data data.length c_data) (.s (.k (.s .a))))) ?_
   refine WL_op ?_
   obtain ⟨r_7, h_r_7, hm⟩ := ob hm
   obtain ⟨F10, O10, kin0, hO0, hre0, hF0, hb0⟩ := k_21.go (.i (.i (.i (.i (.i (.i (.i (.i (.i .e)))))))))
   refine Op_cz 45 ws_go6 (c_xof_Stream_Write_s1 (F := F10) (O := O10) _ _ _ _ _ _ _ _ _ _ _ _ _ _ _ _ _ _ _ _ _ _ _ _ _ _ _ _ _ _ _ _ _ _ _ _ _ _ _ _ _ _ _ _ _ _ _ (Ro.of_old h_data k_21 hF0) rfl hc_data kin0 _ h_r_7) ?_
   rintro e_ w_5 ⟨A31, _, c32, A32, _, c33, A33, _, c34, A34, _, c35, A35, _, c36, A36, _, c37, rfl, rfl, rfl, rfl, rfl, rfl, rfl, k_26⟩
   have k_27 := hb0 w_5 _ _ k_26 (.c (.c (.c (.c (.c (.c (.c (.c (.c .n)))))))))
   refine ⟨I 0, rfl, ?_⟩
   refine Wn <| W_seq <| W_reg <| We 2 (.n 46 (pt g0 0) (.n 47 (.u64 from_) (.sss (.k (.s .a))))) ?_
   refine WL_op ?_
   obtain ⟨r_8, h_r_8, hm⟩ := ob hm
   have k_28 := ((((((((k_27.pk (.t .h)).pk (.t .h)).pk (.t (.t (.t (.t .h))))).pk (.t (.t (.t (.t .h))))).pk (.t (.t (.t (.t .h))))).pk (.t (.t (.t (.t (.t (.t (.t (.t .h))))))))).pk (.t (.t (.t (.t (.t (.t (.t (.t .h))))))))).pk (.t (.t (.t (.t (.t (.t (.t (.t .h))))))))).pk (.t (.t (.t (.t (.t (.t (.t (.t .h))))))))
   obtain ⟨F13, O13, kin3, hO3, hre3, hF3, hb3⟩ := k_28.go (.i (.i (.i (.i (.i (.i (.i (.i (.i .e)))))))))
   refine Op_cz 48 ws_go20 (c_xof_Stream_Skip_s1 (F := F13) (O := O13) _ _ _ _ _ _ _ _ _ _ _ _ _ _ _ _ _ _ _ _ _ _ _ _ _ _ _ _ _ _ _ _ _ _ _ _ _ _ _ _ _ _ _ _ kin3 _ h_r_8) ?_
   rintro e_ w_6 ⟨A37, _, c38, A38, _, c39, A39, _, c40, A40, _, c41, A41, _, c42, A42, _, c43, g6, _, c44, rfl, rfl, rfl, rfl, rfl, rfl, rfl, rfl, k_29⟩
   have k_30 := hb3 w_6 _ _ k_29 (.c (.c (.c (.c (.c (.c (.c (.c (.c (.c .n))))))))))
   refine ⟨.tup [.u64 r_8.1, I r_8.2.1], rfl, ?_⟩
   refine Wn <| W_seq <| W_reg <| We 2 (.n 49 (pt g0 0) (.n 50 (I n) .z)) ?_
   refine WL_op ?_
   obtain ⟨r_9, h_r_9, hm⟩ := ob hm
   have k_31 := (((((((((k_30.pk (.t (.t (.t (.t (.t (.t (.t (.t (.t .h)))))))))).pk (.t (.t .h))).pk (.t (.t .h))).pk (.t (.t (.t (.t (.t .h)))))).pk (.t (.t (.t (.t (.t .h)))))).pk (.t (.t (.t (.t (.t .h)))))).pk (.t (.t (.t (.t (.t (.t (.t (.t (.t .h)))))))))).pk (.t (.t (.t (.t (.t (.t (.t (.t (.t .h)))))))))).pk (.t (.t (.t (.t (.t (.t (.t (.t (.t .h)))))))))).pk (.t (.t (.t (.t (.t (.t (.t (.t (.t .h)))))))))
   obtain ⟨F14, O14, kin4, hO4, hre4, hF4, hb4⟩ := k_31.go (.i (.i (.i (.i (.i (.i (.i (.i (.i (.r .e))))))))))
   refine Op_cz 51 ws_go7 (c_xof_Stream_Read_s1 (F := F14) (O := O14) _ _ _ _ _ _ _ _ _ _ _ _ _ _ _ _ _ _ _ _ _ _ _ _ _ _ _ _ _ _ _ _ _ _ _ _ _ _ _ _ _ _ _ _ _ _ _ _ (Ro.of_sh kin4.off hre4 0 rfl) (k_31.shlen 9 rfl) (k_31.shlec 9 rfl) kin4 _ h_r_9) ?_
   rintro e_ w_7 ⟨A43, _, c45, A44, _, c46, A45, _, c47, A46, _, c48, A47, _, c49, A48, _, c50, A49, _, c51, rfl, rfl, rfl, rfl, rfl, rfl, rfl, rfl, k_32⟩
   have k_33 := hb4 w_7 _ _ k_32 (.c (.c (.c (.c (.c (.c (.c (.c (.c (.c .n))))))))))
   refine ⟨.tup [sl A43 r_9.1.length c45, I r_9.2.1], rfl, ?_⟩
   have k_34 := k_33.sel (.k .z)
   refine We 4 (.n 12 (sl A43 r_9.1.length c45) (.n 13 (I r_9.2.1) .z)) ?_
   refine Wn <| W_ret ?_
   obtain rfl := si hm
   refine At_rz [sl A43 r_9.1.length c45, I r_9.2.1] qe ?_
   exact ⟨A43, r_9.1.length, c45, k_34.len 0 rfl, rfl, k_34⟩
theorem c_crew_stream (k_ : Int) (size : Int) (key : List UInt8) (data : List UInt8) (A_key : Option Addr) (n_key : Nat) (c_key : Nat) (A_data : Option Addr) (n_data : Nat) (c_data : Nat) (h_key : Ro F w A_key (e8.all key)) (hn_key : key.length = n_key) (hc_key : n_key ≤ c_key) (h_data : Ro F w A_data (e8.all data)) (hn_data : data.length = n_data) (hc_data : n_data ≤ c_data) (k : Cx F O w w []) (r : (List UInt8 × Int)) (hm : m_crew_stream k_ size key data = some r) :
    Calls Try.prog 23 (vals [I k_, I size, sl A_key n_key c_key, sl A_data n_data c_data]) w (fun e w' => ∃ A n c, r.1.length = n ∧ e = .returned (SV.val (.tup [sl A n c, I r.2])) ∧ Cx F O w w' [Ow e8 A n c r.1]) := by
 unfold m_crew_stream at hm
 subst hn_key
 subst hn_data
 refine calz [I k_, I size, sl A_key key.length c_key, sl A_data data.length c_data] Try.func23 rfl ?_
 refine W_seq <| Wq .a ?_
 refine W_seq <| W_reg <| We 5 (.n 10 (I k_) (.n 11 (I size) (.n 12 (sl A_key key.length c_key) (.n 13 (sl A_data data.length c_data) (.n 14 (I size) .z))))) ?_
 refine WL_op ?_
 obtain ⟨r_, h_r_, hm⟩ := ob hm
 refine Op_cz 15 ws_go9 (c_xof_Take (F := N0) (O := N0) _ _ _ _ _ _ _ _ _ _ _ _ (Ro.n0 (h_key.cx k)) rfl hc_key (Ro.n0 (h_data.cx k)) rfl hc_data (Cx.refl _) _ h_r_) ?_
 rintro e_ w_ ⟨A0, _, c0, rfl, rfl, k_1⟩
 have k_2 := k.call k_1
 refine ⟨.tup [sl A0 r_.1.length c0, I r_.2], rfl, ?_⟩
 refine We 4 (.n 8 (sl A0 r_.1.length c0) (.n 9 (I r_.2) .z)) ?_
 refine Wn <| W_ret ?_
 obtain rfl := si hm
 refine At_rz [sl A0 r_.1.length c0, I r_.2] qe ?_
 exact ⟨A0, r_.1.length, c0, k_2.len 0 rfl, rfl, k_2⟩
theorem c_crew_Named (name : List UInt8) (size : Int) (key : List UInt8) (data : List UInt8) (A_key : Option Addr) (n_key : Nat) (c_key : Nat) (A_data : Option Addr) (n_data : Nat) (c_data : Nat) (h_key : Ro F w A_key (e8.all key)) (hn_key : key.length = n_key) (hc_key : n_key ≤ c_key) (h_data : Ro F w A_data (e8.all data)) (hn_data : data.length = n_data) (hc_data : n_data ≤ c_data) (k : Cx F O w w []) (r : (List UInt8 × Int)) (hm : m_crew_Named name size key data = some r) :
    Calls Try.prog 4 (vals [.s name, I size, sl A_key n_key c_key, sl A_data n_data c_data]) w (fun e w' => ∃ A n c, r.1.length = n ∧ e = .returned (SV.val (.tup [sl A n c, I r.2])) ∧ Cx F O w w' [Ow e8 A n c r.1]) := by
 unfold m_crew_Named at hm
 subst hn_key
 subst hn_data
 refine calz [.s name, I size, sl A_key key.length c_key, sl A_data data.length c_data] Try.func4 rfl ?_
 refine W_seq <| Wq .a ?_
 refine W_seq <| W_seq <| W_reg <| WL_op ?_
 obtain ⟨r_, h_r_, hm⟩ := ob hm
 refine Op_cz 12 ws_go12 (c_crew_variants (F := N0) (O := N0)  (Cx.refl _) _ h_r_) ?_
 rintro e_ w_ ⟨g, rfl, k_⟩
 have k_1 := k.call k_
 refine ⟨.v (.slice (some ⟨g, 0, none⟩) 6 6), rfl, ?_⟩
 refine We 2 (.n 13 (I 6) (.n 14 (I 0) .a)) ?_
 refine Wn <| W_block <| W_un ?_
 refine W_seq <| Wq (.n 15 (.b true) .a) ?_
 refine W_seq <| W_cond true (by kernel_rfl) (fun _ => ?_) (fun h => by cases h)
 refine W_skip <| At_go <| W_seq <| W_block <| W_seq <| W_reg <| Wl 2 (.n 17 (.agg [.s ([98, 108, 97, 107, 101, 50, 98] : List UInt8), I 1, I 64, I 64, .v (.func (.func 21) ⟨SV.vals []⟩ ⟨SV.vals []⟩)]) (.s .a)) (qJp (i := 0) (m := 6) (A := some ⟨g, 0, none⟩) ⟨by omega, by omega, rfl⟩ <| qT k_1 0 rfl 0 5 [.s ([98, 108, 97, 107, 101, 50, 98] : List UInt8), I 1, I 64, I 64, .v (.func (.func 21) ⟨SV.vals []⟩ ⟨SV.vals []⟩)] (by kernel_rfl) (by decide) <| qe) ?_
 refine WL_op <| Op_alloc [] 11 [.s ([] : List UInt8), I 0, I 0, I 0, .v .nilFunc] (by kernel_rfl) k_1 ?_
 intro g1 w_1 k_2
 refine WL_op <| Op_bz 1 (.agg [.s ([98, 108, 97, 107, 101, 50, 98] : List UInt8), I 1, I 64, I 64, .v (.func (.func 21) ⟨SV.vals []⟩ ⟨SV.vals []⟩)]) [.s ([98, 108, 97, 107, 101, 50, 98] : List UInt8), I 1, I 64, I 64, .v (.func (.func 21) ⟨SV.vals []⟩ ⟨SV.vals []⟩)] (Pt.at g1 0) k_2 rfl .all ?_
 intro w_2 k_3
 refine Wn <| W_seq <| W_seq <| Wa (.n 21 (.b (decide (([98, 108, 97, 107, 101, 50, 98] : List UInt8) ≠ name))) (.k (.s .a))) (qs g1 0 <| qB k_3 1 rfl 0 (.s ([98, 108, 97, 107, 101, 50, 98] : List UInt8)) (by kernel_rfl) <| qe) ?_
 refine W_pz (([98, 108, 97, 107, 101, 50, 98] : List UInt8) ≠ name) (fun hc => ?_) fun hc => ?_
 · rw [if_pos hc] at hm
   refine W_exit (At_te (At_ie ?_))
   refine At_go <| W_q [] (.n 14 (I 1) (.ss (.k (.s .a)))) qe (by kernel_rfl) ?_
   refine At_un ?_
   refine W_seq <| Wq (.n 15 (.b true) .a) ?_
   refine W_seq <| W_cond true (by kernel_rfl) (fun _ => ?_) (fun h => by cases h)
   refine W_skip <| At_go <| W_seq <| W_block <| W_seq <| W_reg <| Wl 2 (.n 17 (.agg [.s ([98, 108, 97, 107, 101, 50, 115] : List UInt8), I 2, I 32, I 32, .v (.func (.func 21) ⟨SV.vals []⟩ ⟨SV.vals []⟩)]) (.s .a)) (qJp (i := 1) (m := 6) (A := some ⟨g, 0, none⟩) ⟨by omega, by omega, rfl⟩ <| qT k_3 0 rfl 5 5 [.s ([98, 108, 97, 107, 101, 50, 115] : List UInt8), I 2, I 32, I 32, .v (.func (.func 21) ⟨SV.vals []⟩ ⟨SV.vals []⟩)] (by kernel_rfl) (by decide) <| qe) ?_
   refine WL_op <| Op_alloc [] 11 [.s ([] : List UInt8), I 0, I 0, I 0, .v .nilFunc] (by kernel_rfl) k_3 ?_
   intro g2 w_3 k_4
   refine WL_op ?_
   have k_5 := k_4.sel (.kk (.k .e))
   refine Op_bz 2 (.agg [.s ([98, 108, 97, 107, 101, 50, 115] : List UInt8), I 2, I 32, I 32, .v (.func (.func 21) ⟨SV.vals []⟩ ⟨SV.vals []⟩)]) [.s ([98, 108, 97, 107, 101, 50, 115] : List UInt8), I 2, I 32, I 32, .v (.func (.func 21) ⟨SV.vals []⟩ ⟨SV.vals []⟩)] (Pt.at g2 0) k_5 rfl .all ?_
   intro w_4 k_6
   have k_7 := k_6.sel (.k (.s (.k .e)))
   refine Wn <| W_seq <| W_seq <| Wa (.n 21 (.b (decide (([98, 108, 97, 107, 101, 50, 115] : List UInt8) ≠ name))) (.k (.s .a))) (qs g2 0 <| qB k_7 1 rfl 0 (.s ([98, 108, 97, 107, 101, 50, 115] : List UInt8)) (by kernel_rfl) <| qe) ?_
   refine W_pz (([98, 108, 97, 107, 101, 50, 115] : List UInt8) ≠ name) (fun hc1 => ?_) fun hc1 => ?_
   · rw [if_pos hc1] at hm
     refine W_exit (At_te (At_ie ?_))
     refine At_go <| W_q [] (.n 14 (I 2) (.sss .a)) qe (by kernel_rfl) ?_
     refine At_un ?_
     refine W_seq <| Wq (.n 15 (.b true) .a) ?_
     refine W_seq <| W_cond true (by kernel_rfl) (fun _ => ?_) (fun h => by cases h)
     refine W_skip <| At_go <| W_seq <| W_block <| W_seq <| W_reg <| Wl 2 (.n 17 (.agg [.s ([98, 108, 97, 107, 101, 50, 98, 112] : List UInt8), I 1, I 64, I 64, .v (.func (.func 22) ⟨SV.vals []⟩ ⟨SV.vals []⟩)]) (.s .a)) (qJp (i := 2) (m := 6) (A := some ⟨g, 0, none⟩) ⟨by omega, by omega, rfl⟩ <| qT k_7 0 rfl 10 5 [.s ([98, 108, 97, 107, 101, 50, 98, 112] : List UInt8), I 1, I 64, I 64, .v (.func (.func 22) ⟨SV.vals []⟩ ⟨SV.vals []⟩)] (by kernel_rfl) (by decide) <| qe) ?_
     refine WL_op <| Op_alloc [] 11 [.s ([] : List UInt8), I 0, I 0, I 0, .v .nilFunc] (by kernel_rfl) k_7 ?_
     intro g3 w_5 k_8
     refine WL_op <| Op_bz 2 (.agg [.s ([98, 108, 97, 107, 101, 50, 98, 112] : List UInt8), I 1, I 64, I 64, .v (.func (.func 22) ⟨SV.vals []⟩ ⟨SV.vals []⟩)]) [.s ([98, 108, 97, 107, 101, 50, 98, 112] : List UInt8), I 1, I 64, I 64, .v (.func (.func 22) ⟨SV.vals []⟩ ⟨SV.vals []⟩)] (Pt.at g3 0) k_8 rfl .all ?_
     intro w_6 k_9
     have k_10 := k_9.sel (.k (.s (.k .e)))
     refine Wn <| W_seq <| W_seq <| Wa (.n 21 (.b (decide (([98, 108, 97, 107, 101, 50, 98, 112] : List UInt8) ≠ name))) (.k (.s .a))) (qs g3 0 <| qB k_10 1 rfl 0 (.s ([98, 108, 97, 107, 101, 50, 98, 112] : List UInt8)) (by kernel_rfl) <| qe) ?_
     refine W_pz (([98, 108, 97, 107, 101, 50, 98, 112] : List UInt8) ≠ name) (fun hc2 => ?_) fun hc2 => ?_
     · rw [if_pos hc2] at hm
       refine W_exit (At_te (At_ie ?_))
       refine At_go <| W_q [] (.n 14 (I 3) (.sss .a)) qe (by kernel_rfl) ?_
       refine At_un ?_
       refine W_seq <| Wq (.n 15 (.b true) .a) ?_
       refine W_seq <| W_cond true (by kernel_rfl) (fun _ => ?_) (fun h => by cases h)
       refine W_skip <| At_go <| W_seq <| W_block <| W_seq <| W_reg <| Wl 2 (.n 17 (.agg [.s ([98, 108, 97, 107, 101, 50, 115, 112] : List UInt8), I 2, I 32, I 32, .v (.func (.func 22) ⟨SV.vals []⟩ ⟨SV.vals []⟩)]) (.s .a)) (qJp (i := 3) (m := 6) (A := some ⟨g, 0, none⟩) ⟨by omega, by omega, rfl⟩ <| qT k_10 0 rfl 15 5 [.s ([98, 108, 97, 107, 101, 50, 115, 112] : List UInt8), I 2, I 32, I 32, .v (.func (.func 22) ⟨SV.vals []⟩ ⟨SV.vals []⟩)] (by kernel_rfl) (by decide) <| qe) ?_
       refine WL_op <| Op_alloc [] 11 [.s ([] : List UInt8), I 0, I 0, I 0, .v .nilFunc] (by kernel_rfl) k_10 ?_
       intro g4 w_7 k_11
       refine WL_op ?_
       have k_12 := k_11.sel (.kk (.k .e))
       refine Op_bz 2 (.agg [.s ([98, 108, 97, 107, 101, 50, 115, 112] : List UInt8), I 2, I 32, I 32, .v (.func (.func 22) ⟨SV.vals []⟩ ⟨SV.vals []⟩)]) [.s ([98, 108, 97, 107, 101, 50, 115, 112] : List UInt8), I 2, I 32, I 32, .v (.func (.func 22) ⟨SV.vals []⟩ ⟨SV.vals []⟩)] (Pt.at g4 0) k_12 rfl .all ?_
       intro w_8 k_13
       have k_14 := k_13.sel (.k (.s (.k .e)))
       refine Wn <| W_seq <| W_seq <| Wa (.n 21 (.b (decide (([98, 108, 97, 107, 101, 50, 115, 112] : List UInt8) ≠ name))) (.k (.s .a))) (qs g4 0 <| qB k_14 1 rfl 0 (.s ([98, 108, 97, 107, 101, 50, 115, 112] : List UInt8)) (by kernel_rfl) <| qe) ?_
       refine W_pz (([98, 108, 97, 107, 101, 50, 115, 112] : List UInt8) ≠ name) (fun hc3 => ?_) fun hc3 => ?_
       · rw [if_pos hc3] at hm
         refine W_exit (At_te (At_ie ?_))
         refine At_go <| W_q [] (.n 14 (I 4) (.sss .a)) qe (by kernel_rfl) ?_
         refine At_un ?_
         refine W_seq <| Wq (.n 15 (.b true) .a) ?_
         refine W_seq <| W_cond true (by kernel_rfl) (fun _ => ?_) (fun h => by cases h)
         refine W_skip <| At_go <| W_seq <| W_block <| W_seq <| W_reg <| Wl 2 (.n 17 (.agg [.s ([98, 108, 97, 107, 101, 50, 120, 98] : List UInt8), I 1, I 65536, I 64, .v (.func (.func 23) ⟨SV.vals []⟩ ⟨SV.vals []⟩)]) (.s .a)) (qJp (i := 4) (m := 6) (A := some ⟨g, 0, none⟩) ⟨by omega, by omega, rfl⟩ <| qT k_14 0 rfl 20 5 [.s ([98, 108, 97, 107, 101, 50, 120, 98] : List UInt8), I 1, I 65536, I 64, .v (.func (.func 23) ⟨SV.vals []⟩ ⟨SV.vals []⟩)] (by kernel_rfl) (by decide) <| qe) ?_
         refine WL_op <| Op_alloc [] 11 [.s ([] : List UInt8), I 0, I 0, I 0, .v .nilFunc] (by kernel_rfl) k_14 ?_
         intro g5 w_9 k_15
         refine WL_op <| Op_bz 2 (.agg [.s ([98, 108, 97, 107, 101, 50, 120, 98] : List UInt8), I 1, I 65536, I 64, .v (.func (.func 23) ⟨SV.vals []⟩ ⟨SV.vals []⟩)]) [.s ([98, 108, 97, 107, 101, 50, 120, 98] : List UInt8), I 1, I 65536, I 64, .v (.func (.func 23) ⟨SV.vals []⟩ ⟨SV.vals []⟩)] (Pt.at g5 0) k_15 rfl .all ?_
         intro w_10 k_16
         have k_17 := k_16.sel (.k (.s (.k .e)))
         refine Wn <| W_seq <| W_seq <| Wa (.n 21 (.b (decide (([98, 108, 97, 107, 101, 50, 120, 98] : List UInt8) ≠ name))) (.k (.s .a))) (qs g5 0 <| qB k_17 1 rfl 0 (.s ([98, 108, 97, 107, 101, 50, 120, 98] : List UInt8)) (by kernel_rfl) <| qe) ?_
         refine W_pz (([98, 108, 97, 107, 101, 50, 120, 98] : List UInt8) ≠ name) (fun hc4 => ?_) fun hc4 => ?_
         · rw [if_pos hc4] at hm
           refine W_exit (At_te (At_ie ?_))
           refine At_go <| W_q [] (.n 14 (I 5) (.sss .a)) qe (by kernel_rfl) ?_
           refine At_un ?_
           refine W_seq <| Wq (.n 15 (.b true) .a) ?_
           refine W_seq <| W_cond true (by kernel_rfl) (fun _ => ?_) (fun h => by cases h)
           refine W_skip <| At_go <| W_seq <| W_block <| W_seq <| W_reg <| Wl 2 (.n 17 (.agg [.s ([98, 108, 97, 107, 101, 50, 120, 115] : List UInt8), I 2, I 65534, I 32, .v (.func (.func 23) ⟨SV.vals []⟩ ⟨SV.vals []⟩)]) (.s .a)) (qJp (i := 5) (m := 6) (A := some ⟨g, 0, none⟩) ⟨by omega, by omega, rfl⟩ <| qT k_17 0 rfl 25 5 [.s ([98, 108, 97, 107, 101, 50, 120, 115] : List UInt8), I 2, I 65534, I 32, .v (.func (.func 23) ⟨SV.vals []⟩ ⟨SV.vals []⟩)] (by kernel_rfl) (by decide) <| qe) ?_
           refine WL_op <| Op_alloc [] 11 [.s ([] : List UInt8), I 0, I 0, I 0, .v .nilFunc] (by kernel_rfl) k_17 ?_
           intro g6 w_11 k_18
           refine WL_op ?_
           have k_19 := k_18.sel (.kk (.k .e))
           refine Op_bz 2 (.agg [.s ([98, 108, 97, 107, 101, 50, 120, 115] : List UInt8), I 2, I 65534, I 32, .v (.func (.func 23) ⟨SV.vals []⟩ ⟨SV.vals []⟩)]) [.s ([98, 108, 97, 107, 101, 50, 120, 115] : List UInt8), I 2, I 65534, I 32, .v (.func (.func 23) ⟨SV.vals []⟩ ⟨SV.vals []⟩)] (Pt.at g6 0) k_19 rfl .all ?_
           intro w_12 k_20
           have k_21 := k_20.sel (.k (.s (.k .e)))
           refine Wn <| W_seq <| W_seq <| Wa (.n 21 (.b (decide (([98, 108, 97, 107, 101, 50, 120, 115] : List UInt8) ≠ name))) (.k (.s .a))) (qs g6 0 <| qB k_21 1 rfl 0 (.s ([98, 108, 97, 107, 101, 50, 120, 115] : List UInt8)) (by kernel_rfl) <| qe) ?_
           refine W_pz (([98, 108, 97, 107, 101, 50, 120, 115] : List UInt8) ≠ name) (fun hc5 => ?_) fun hc5 => ?_
           · rw [if_pos hc5] at hm
             refine W_exit (At_te (At_ie ?_))
             refine At_go <| W_q [] (.n 14 (I 6) (.sss .a)) qe (by kernel_rfl) ?_
             refine At_un ?_
             refine W_seq <| Wq (.n 15 (.b false) .a) ?_
             refine W_seq <| W_cond false (by kernel_rfl) (fun h => by cases h) (fun _ => ?_)
             refine W_exit (At_te (At_te (At_ie ?_)))
             refine At_go <| W_seq <| Wq (.n 8 (sl none 0 0) (.n 9 (I 171) .z)) ?_
             refine W_ret ?_
             have k_22 := k_21.nil e8
             obtain rfl := si hm
             refine At_rz [sl none 0 0, I 171] qe ?_
             have k_23 := k_22.sel (.ss (.k .e))
             exact ⟨none, 0, 0, k_23.len 0 rfl, rfl, k_23⟩
           rw [if_neg hc5] at hm
           refine W_skip <| At_go <| W_seq <| W_seq <| Wa (.n 29 (.b ((decide (size < 1)) || (decide (65534 < size)))) (.s (.k (.ssss .a)))) (qp ((decide (size < 1)) = false → (some ⟨g6, 0, none⟩ : Option Addr).isSome = true) (fun hg0 => rfl) <| qo (I 65534) <| qc (fun w => (decide (size < 1)) = false → ∃ a, (some ⟨g6, 2, none⟩ : Option Addr) = some a ∧ w.cell? a = some (SV.val (I 65534))) (fun hg0 => k_21.bld 1 rfl 2 (I 65534) (by kernel_rfl)) <| qe) ?_
           refine W_cz ((decide (size < 1)) || (decide (65534 < size))) (fun hc6 => ?_) fun hc6 => ?_
           · rw [if_pos hc6] at hm
             refine W_seq <| Wq (.n 8 (sl none 0 0) (.n 9 (I 1) .z)) ?_
             refine W_ret (At_tr (At_ir (At_tr (At_tr (At_ir (At_tr ?_))))))
             have k_24 := k_21.nil e8
             obtain rfl := si hm
             refine At_rz [sl none 0 0, I 1] qe ?_
             have k_25 := k_24.sel (.ss (.k .e))
             exact ⟨none, 0, 0, k_25.len 0 rfl, rfl, k_25⟩
           rw [if_neg (by rw [hc6]; decide)] at hm
           refine W_skip <| At_go <| W_seq <| W_seq <| Wa (.n 34 (.b (decide (32 < (key.length : Int)))) (.s .a)) (qs g6 0 <| qB k_21 1 rfl 3 (I 32) (by kernel_rfl) <| qe) ?_
           refine W_pz (32 < (key.length : Int)) (fun hc7 => ?_) fun hc7 => ?_
           · rw [if_pos hc7] at hm
             refine W_seq <| Wq (.n 8 (sl none 0 0) (.n 9 (I 8) .z)) ?_
             refine W_ret (At_tr (At_ir (At_tr (At_tr (At_ir (At_tr ?_))))))
             have k_26 := k_21.nil e8
             obtain rfl := si hm
             refine At_rz [sl none 0 0, I 8] qe ?_
             have k_27 := k_26.sel (.ss (.k .e))
             exact ⟨none, 0, 0, k_27.len 0 rfl, rfl, k_27⟩
           rw [if_neg hc7] at hm
           refine W_skip <| At_go <| W_seq <| W_reg <| Wl 7 (.n 36 (.v (.func (.func 23) ⟨SV.vals []⟩ ⟨SV.vals []⟩)) (.n 38 (I 2) (.n 39 (I size) (.n 40 (sl A_key key.length c_key) (.n 41 (sl A_data data.length c_data) .z))))) (qs g6 0 <| qB k_21 1 rfl 4 (.v (.func (.func 23) ⟨SV.vals []⟩ ⟨SV.vals []⟩)) (by kernel_rfl) <| qs g6 0 <| qB k_21 1 rfl 1 (I 2) (by kernel_rfl) <| qe) ?_
           refine WL_op ?_
           obtain ⟨r_1, h_r_1, hm⟩ := ob hm
           refine Op_callv [] 42 [] [I 2, I size, sl A_key key.length c_key, sl A_data data.length c_data] [] ws_go23 (by kernel_rfl) (c_crew_stream (F := N0) (O := N0) _ _ _ _ _ _ _ _ _ _ (Ro.n0 (h_key.cx k_21)) rfl hc_key (Ro.n0 (h_data.cx k_21)) rfl hc_data (Cx.refl _) _ h_r_1) ?_
           rintro e_ w_13 ⟨A0, _, c0, rfl, rfl, k_28⟩
           have k_29 := k_21.call k_28
           refine ⟨.tup [sl A0 r_1.1.length c0, I r_1.2], rfl, ?_⟩
           have k_30 := k_29.sel (.ss (.k .e))
           refine We 4 (.n 8 (sl A0 r_1.1.length c0) (.n 9 (I r_1.2) .z)) ?_
           refine Wn <| W_ret (At_ir (At_tr (At_tr (At_ir (At_tr ?_)))))
           obtain rfl := si hm
           refine At_rz [sl A0 r_1.1.length c0, I r_1.2] qe ?_
           exact ⟨A0, r_1.1.length, c0, k_30.len 0 rfl, rfl, k_30⟩
         rw [if_neg hc4] at hm
         refine W_skip <| At_go <| W_seq <| W_seq <| Wa (.n 29 (.b ((decide (size < 1)) || (decide (65536 < size)))) (.s (.k (.ssss .a)))) (qp ((decide (size < 1)) = false → (some ⟨g5, 0, none⟩ : Option Addr).isSome = true) (fun hg0 => rfl) <| qo (I 65536) <| qc (fun w => (decide (size < 1)) = false → ∃ a, (some ⟨g5, 2, none⟩ : Option Addr) = some a ∧ w.cell? a = some (SV.val (I 65536))) (fun hg0 => k_17.bld 1 rfl 2 (I 65536) (by kernel_rfl)) <| qe) ?_
         refine W_cz ((decide (size < 1)) || (decide (65536 < size))) (fun hc8 => ?_) fun hc8 => ?_
         · rw [if_pos hc8] at hm
           refine W_seq <| Wq (.n 8 (sl none 0 0) (.n 9 (I 1) .z)) ?_
           refine W_ret (At_tr (At_ir (At_tr (At_tr (At_ir (At_tr ?_))))))
           have k_31 := k_17.nil e8
           obtain rfl := si hm
           refine At_rz [sl none 0 0, I 1] qe ?_
           have k_32 := k_31.sel (.ss (.k .e))
           exact ⟨none, 0, 0, k_32.len 0 rfl, rfl, k_32⟩
         rw [if_neg (by rw [hc8]; decide)] at hm
         refine W_skip <| At_go <| W_seq <| W_seq <| Wa (.n 34 (.b (decide (64 < (key.length : Int)))) (.s .a)) (qs g5 0 <| qB k_17 1 rfl 3 (I 64) (by kernel_rfl) <| qe) ?_
         refine W_pz (64 < (key.length : Int)) (fun hc9 => ?_) fun hc9 => ?_
         · rw [if_pos hc9] at hm
           refine W_seq <| Wq (.n 8 (sl none 0 0) (.n 9 (I 8) .z)) ?_
           refine W_ret (At_tr (At_ir (At_tr (At_tr (At_ir (At_tr ?_))))))
           have k_33 := k_17.nil e8
           obtain rfl := si hm
           refine At_rz [sl none 0 0, I 8] qe ?_
           have k_34 := k_33.sel (.ss (.k .e))
           exact ⟨none, 0, 0, k_34.len 0 rfl, rfl, k_34⟩
         rw [if_neg hc9] at hm
         refine W_skip <| At_go <| W_seq <| W_reg <| Wl 7 (.n 36 (.v (.func (.func 23) ⟨SV.vals []⟩ ⟨SV.vals []⟩)) (.n 38 (I 1) (.n 39 (I size) (.n 40 (sl A_key key.length c_key) (.n 41 (sl A_data data.length c_data) .z))))) (qs g5 0 <| qB k_17 1 rfl 4 (.v (.func (.func 23) ⟨SV.vals []⟩ ⟨SV.vals []⟩)) (by kernel_rfl) <| qs g5 0 <| qB k_17 1 rfl 1 (I 1) (by kernel_rfl) <| qe) ?_
         refine WL_op ?_
         obtain ⟨r_2, h_r_2, hm⟩ := ob hm
         refine Op_callv [] 42 [] [I 1, I size, sl A_key key.length c_key, sl A_data data.length c_data] [] ws_go23 (by kernel_rfl) (c_crew_stream (F := N0) (O := N0) _ _ _ _ _ _ _ _ _ _ (Ro.n0 (h_key.cx k_17)) rfl hc_key (Ro.n0 (h_data.cx k_17)) rfl hc_data (Cx.refl _) _ h_r_2) ?_
         rintro e_ w_14 ⟨A1, _, c1, rfl, rfl, k_35⟩
         have k_36 := k_17.call k_35
         refine ⟨.tup [sl A1 r_2.1.length c1, I r_2.2], rfl, ?_⟩
         have k_37 := k_36.sel (.ss (.k .e))
         refine We 4 (.n 8 (sl A1 r_2.1.length c1) (.n 9 (I r_2.2) .z)) ?_
         refine Wn <| W_ret (At_ir (At_tr (At_tr (At_ir (At_tr ?_)))))
         obtain rfl := si hm
         refine At_rz [sl A1 r_2.1.length c1, I r_2.2] qe ?_
         exact ⟨A1, r_2.1.length, c1, k_37.len 0 rfl, rfl, k_37⟩
       rw [if_neg hc3] at hm
       refine W_skip <| At_go <| W_seq <| W_seq <| Wa (.n 29 (.b ((decide (size < 1)) || (decide (32 < size)))) (.s (.k (.ssss .a)))) (qp ((decide (size < 1)) = false → (some ⟨g4, 0, none⟩ : Option Addr).isSome = true) (fun hg0 => rfl) <| qo (I 32) <| qc (fun w => (decide (size < 1)) = false → ∃ a, (some ⟨g4, 2, none⟩ : Option Addr) = some a ∧ w.cell? a = some (SV.val (I 32))) (fun hg0 => k_14.bld 1 rfl 2 (I 32) (by kernel_rfl)) <| qe) ?_
       refine W_cz ((decide (size < 1)) || (decide (32 < size))) (fun hc10 => ?_) fun hc10 => ?_
       · rw [if_pos hc10] at hm
         refine W_seq <| Wq (.n 8 (sl none 0 0) (.n 9 (I 1) .z)) ?_
         refine W_ret (At_tr (At_ir (At_tr (At_tr (At_ir (At_tr ?_))))))
         have k_38 := k_14.nil e8
         obtain rfl := si hm
         refine At_rz [sl none 0 0, I 1] qe ?_
         have k_39 := k_38.sel (.ss (.k .e))
         exact ⟨none, 0, 0, k_39.len 0 rfl, rfl, k_39⟩
       rw [if_neg (by rw [hc10]; decide)] at hm
       refine W_skip <| At_go <| W_seq <| W_seq <| Wa (.n 34 (.b (decide (32 < (key.length : Int)))) (.s .a)) (qs g4 0 <| qB k_14 1 rfl 3 (I 32) (by kernel_rfl) <| qe) ?_
       refine W_pz (32 < (key.length : Int)) (fun hc11 => ?_) fun hc11 => ?_
       · rw [if_pos hc11] at hm
         refine W_seq <| Wq (.n 8 (sl none 0 0) (.n 9 (I 8) .z)) ?_
         refine W_ret (At_tr (At_ir (At_tr (At_tr (At_ir (At_tr ?_))))))
         have k_40 := k_14.nil e8
         obtain rfl := si hm
         refine At_rz [sl none 0 0, I 8] qe ?_
         have k_41 := k_40.sel (.ss (.k .e))
         exact ⟨none, 0, 0, k_41.len 0 rfl, rfl, k_41⟩
       rw [if_neg hc11] at hm
       cases hm
     rw [if_neg hc2] at hm
     refine W_skip <| At_go <| W_seq <| W_seq <| Wa (.n 29 (.b ((decide (size < 1)) || (decide (64 < size)))) (.s (.k (.ssss .a)))) (qp ((decide (size < 1)) = false → (some ⟨g3, 0, none⟩ : Option Addr).isSome = true) (fun hg0 => rfl) <| qo (I 64) <| qc (fun w => (decide (size < 1)) = false → ∃ a, (some ⟨g3, 2, none⟩ : Option Addr) = some a ∧ w.cell? a = some (SV.val (I 64))) (fun hg0 => k_10.bld 1 rfl 2 (I 64) (by kernel_rfl)) <| qe) ?_
     refine W_cz ((decide (size < 1)) || (decide (64 < size))) (fun hc12 => ?_) fun hc12 => ?_
     · rw [if_pos hc12] at hm
       refine W_seq <| Wq (.n 8 (sl none 0 0) (.n 9 (I 1) .z)) ?_
       refine W_ret (At_tr (At_ir (At_tr (At_tr (At_ir (At_tr ?_))))))
       have k_42 := k_10.nil e8
       obtain rfl := si hm
       refine At_rz [sl none 0 0, I 1] qe ?_
       have k_43 := k_42.sel (.ss (.k .e))
       exact ⟨none, 0, 0, k_43.len 0 rfl, rfl, k_43⟩
     rw [if_neg (by rw [hc12]; decide)] at hm
     refine W_skip <| At_go <| W_seq <| W_seq <| Wa (.n 34 (.b (decide (64 < (key.length : Int)))) (.s .a)) (qs g3 0 <| qB k_10 1 rfl 3 (I 64) (by kernel_rfl) <| qe) ?_
     refine W_pz (64 < (key.length : Int)) (fun hc13 => ?_) fun hc13 => ?_
     · rw [if_pos hc13] at hm
       refine W_seq <| Wq (.n 8 (sl none 0 0) (.n 9 (I 8) .z)) ?_
       refine W_ret (At_tr (At_ir (At_tr (At_tr (At_ir (At_tr ?_))))))
       have k_44 := k_10.nil e8
       obtain rfl := si hm
       refine At_rz [sl none 0 0, I 8] qe ?_
       have k_45 := k_44.sel (.ss (.k .e))
       exact ⟨none, 0, 0, k_45.len 0 rfl, rfl, k_45⟩
     rw [if_neg hc13] at hm
     cases hm
   rw [if_neg hc1] at hm
   refine W_skip <| At_go <| W_seq <| W_seq <| Wa (.n 29 (.b ((decide (size < 1)) || (decide (32 < size)))) (.s (.k (.ssss .a)))) (qp ((decide (size < 1)) = false → (some ⟨g2, 0, none⟩ : Option Addr).isSome = true) (fun hg0 => rfl) <| qo (I 32) <| qc (fun w => (decide (size < 1)) = false → ∃ a, (some ⟨g2, 2, none⟩ : Option Addr) = some a ∧ w.cell? a = some (SV.val (I 32))) (fun hg0 => k_7.bld 1 rfl 2 (I 32) (by kernel_rfl)) <| qe) ?_
   refine W_cz ((decide (size < 1)) || (decide (32 < size))) (fun hc14 => ?_) fun hc14 => ?_
   · rw [if_pos hc14] at hm
     refine W_seq <| Wq (.n 8 (sl none 0 0) (.n 9 (I 1) .z)) ?_
     refine W_ret (At_tr (At_ir (At_tr (At_tr (At_ir (At_tr ?_))))))
     have k_46 := k_7.nil e8
     obtain rfl := si hm
     refine At_rz [sl none 0 0, I 1] qe ?_
     have k_47 := k_46.sel (.ss (.k .e))
     exact ⟨none, 0, 0, k_47.len 0 rfl, rfl, k_47⟩
   rw [if_neg (by rw [hc14]; decide)] at hm
   refine W_skip <| At_go <| W_seq <| W_seq <| Wa (.n 34 (.b (decide (32 < (key.length : Int)))) (.s .a)) (qs g2 0 <| qB k_7 1 rfl 3 (I 32) (by kernel_rfl) <| qe) ?_
   refine W_pz (32 < (key.length : Int)) (fun hc15 => ?_) fun hc15 => ?_
   · rw [if_pos hc15] at hm
     refine W_seq <| Wq (.n 8 (sl none 0 0) (.n 9 (I 8) .z)) ?_
     refine W_ret (At_tr (At_ir (At_tr (At_tr (At_ir (At_tr ?_))))))
     have k_48 := k_7.nil e8
     obtain rfl := si hm
     refine At_rz [sl none 0 0, I 8] qe ?_
     have k_49 := k_48.sel (.ss (.k .e))
     exact ⟨none, 0, 0, k_49.len 0 rfl, rfl, k_49⟩
   rw [if_neg hc15] at hm
   cases hm
 rw [if_neg hc] at hm
 refine W_skip <| At_go <| W_seq <| W_seq <| Wa (.n 29 (.b ((decide (size < 1)) || (decide (64 < size)))) (.s (.k (.ssss .a)))) (qp ((decide (size < 1)) = false → (some ⟨g1, 0, none⟩ : Option Addr).isSome = true) (fun hg0 => rfl) <| qo (I 64) <| qc (fun w => (decide (size < 1)) = false → ∃ a, (some ⟨g1, 2, none⟩ : Option Addr) = some a ∧ w.cell? a = some (SV.val (I 64))) (fun hg0 => k_3.bld 1 rfl 2 (I 64) (by kernel_rfl)) <| qe) ?_
 refine W_cz ((decide (size < 1)) || (decide (64 < size))) (fun hc16 => ?_) fun hc16 => ?_
 · rw [if_pos hc16] at hm
   refine W_seq <| Wq (.n 8 (sl none 0 0) (.n 9 (I 1) .z)) ?_
   refine W_ret (At_tr (At_ir (At_tr (At_tr (At_ir (At_tr ?_))))))
   have k_50 := k_3.nil e8
   obtain rfl := si hm
   refine At_rz [sl none 0 0, I 1] qe ?_
   have k_51 := k_50.sel (.ss (.k .e))
   exact ⟨none, 0, 0, k_51.len 0 rfl, rfl, k_51⟩
 rw [if_neg (by rw [hc16]; decide)] at hm
 refine W_skip <| At_go <| W_seq <| W_seq <| Wa (.n 34 (.b (decide (64 < (key.length : Int)))) (.s .a)) (qs g1 0 <| qB k_3 1 rfl 3 (I 64) (by kernel_rfl) <| qe) ?_
 refine W_pz (64 < (key.length : Int)) (fun hc17 => ?_) fun hc17 => ?_
 · rw [if_pos hc17] at hm
   refine W_seq <| Wq (.n 8 (sl none 0 0) (.n 9 (I 8) .z)) ?_
   refine W_ret (At_tr (At_ir (At_tr (At_tr (At_ir (At_tr ?_))))))
   have k_52 := k_3.nil e8
   obtain rfl := si hm
   refine At_rz [sl none 0 0, I 8] qe ?_
   have k_53 := k_52.sel (.ss (.k .e))
   exact ⟨none, 0, 0, k_53.len 0 rfl, rfl, k_53⟩
 rw [if_neg hc17] at hm
 cases hm
theorem c_xof_Stream_none_s4 (k : Cx F O w w []) (r : Unit) (hm : m_xof_Stream_none_s4 = some r) :
    Calls Try.prog 16 (vals [.v (.pointer none)]) w (fun e w' => e = .returned (SV.val (.b true)) ∧ Cx F O w w' []) := by
 unfold m_xof_Stream_none_s4 at hm
 refine calz [.v (.pointer none)] Try.func16 rfl ?_
 refine W_seq <| Wq .a ?_
 refine W_seq <| W_q [5] (.n 2 (.b true) .z) qe (by kernel_rfl) ?_
 refine At_go <| W_ret ?_
 obtain rfl := si hm
 refine At_rz [.b true] qe ?_
 exact ⟨rfl, k⟩
theorem c_xof_Stream_Write_s2 (b : List UInt8) (A_b : Option Addr) (n_b : Nat) (c_b : Nat) (h_b : Ro F w A_b (e8.all b)) (hn_b : b.length = n_b) (hc_b : n_b ≤ c_b) (k : Cx F O w w []) (r : Unit) (hm : m_xof_Stream_Write_s2 b = some r) :
    Calls Try.prog 6 (vals [.v (.pointer none), sl A_b n_b c_b]) w (fun e w' => e = .returned (SV.val (I 7)) ∧ Cx F O w w' []) := by
 unfold m_xof_Stream_Write_s2 at hm
 subst hn_b
 refine calz [.v (.pointer none), sl A_b b.length c_b] Try.func6 rfl ?_
 refine W_seq <| Wq .a ?_
 refine W_seq <| W_seq <| W_reg <| We 1 (.n 5 (.v (.pointer none)) .a) ?_
 refine WL_op ?_
 obtain ⟨r_, h_r_, hm⟩ := ob hm
 refine Op_cz 6 ws_go16 (c_xof_Stream_none_s4 (F := N0) (O := N0)  (Cx.refl _) _ h_r_) ?_
 rintro e_ w_ ⟨rfl, k_⟩
 have k_1 := k.call k_
 refine ⟨.b true, rfl, ?_⟩
 refine Wn <| W_cond true (by kernel_rfl) (fun _ => ?_) (fun h => by cases h)
 refine W_seq <| Wq (.n 4 (I 7) .z) ?_
 refine W_ret (At_tr ?_)
 obtain rfl := si hm
 refine At_rz [I 7] qe ?_
 exact ⟨rfl, k_1⟩
theorem c_xof_Stream_Read_s2 (x_s_kind : Int) (x_s_full : Int) (x_s_code : UInt32) (x_s_total : UInt64) (x_s_known : Bool) (x_key : List UInt8) (x_salt : List UInt8) (x_personal : List UInt8) (x_n_kind : Int) (x_n_digest : Int) (x_n_block : List UInt8) (x_n_key : List UInt8) (x_n_last : Bool) (x_n_written : UInt64) (x_n_e_h : Vec UInt64 8) (x_n_e_count_Lo : UInt64) (x_n_e_count_Hi : UInt64) (x_n_e_held : List UInt8) (x_n_e_block : Int) (x_at : UInt64) (x_now : Vec UInt8 64) (x_have : Int) (n : Int) (g_x : Nat) (A_x_key : Option Addr) (n_x_key : Nat) (c_x_key : Nat) (A_x_salt : Option Addr) (n_x_salt : Nat) (c_x_salt : Nat) (A_x_personal : Option Addr) (n_x_personal : Nat) (c_x_personal : Nat) (g_x_n : Nat) (A_x_n_block : Option Addr) (n_x_n_block : Nat) (c_x_n_block : Nat) (A_x_n_key : Option Addr) (n_x_n_key : Nat) (c_x_n_key : Nat) (g_x_n_e : Nat) (A_x_n_e_held : Option Addr) (n_x_n_e_held : Nat) (c_x_n_e_held : Nat) (k : Cx F O w w [Bx 52 g_x [I x_s_kind, I x_s_full, .u32 x_s_code, .u64 x_s_total, .b x_s_known, sl A_x_key n_x_key c_x_key, sl A_x_salt n_x_salt c_x_salt, sl A_x_personal n_x_personal c_x_personal, pt g_x_n 0, sl none 0 0, .u64 x_at, .ar e8 x_now, I x_have, .v (.func (.func 28) ⟨SV.vals [pt g_x 0]⟩ ⟨SV.vals []⟩)], Ow e8 A_x_key n_x_key c_x_key x_key, Ow e8 A_x_salt n_x_salt c_x_salt x_salt, Ow e8 A_x_personal n_x_personal c_x_personal x_personal, Bx 77 g_x_n [I x_n_kind, I x_n_digest, sl A_x_n_block n_x_n_block c_x_n_block, sl A_x_n_key n_x_n_key c_x_n_key, .b x_n_last, .u64 x_n_written, .v (.iface 114 (SV.val (pt g_x_n_e 0)))], Ow e8 A_x_n_block n_x_n_block c_x_n_block x_n_block, Ow e8 A_x_n_key n_x_n_key c_x_n_key x_n_key, Bx 120 g_x_n_e [.ar e64 x_n_e_h, .u64 x_n_e_count_Lo, .u64 x_n_e_count_Hi, sl A_x_n_e_held n_x_n_e_held c_x_n_e_held, I x_n_e_block, .v (.func (.func 62) ⟨SV.vals []⟩ ⟨SV.vals []⟩), .v (.func (.func 63) ⟨SV.vals []⟩ ⟨SV.vals []⟩)], Ow e8 A_x_n_e_held n_x_n_e_held c_x_n_e_held x_n_e_held]) (r : (List UInt8 × Int × Vec UInt64 8 × UInt64 × UInt64 × List UInt8 × Int × Int × Int × List UInt8 × List UInt8 × Bool × UInt64 × Int × Int × UInt32 × UInt64 × Bool × List UInt8 × List UInt8 × List UInt8 × List UInt8 × UInt64 × Vec UInt8 64 × Int)) (hm : m_xof_Stream_Read_s2 x_s_kind x_s_full x_s_code x_s_total x_s_known x_key x_salt x_personal x_n_kind x_n_digest x_n_block x_n_key x_n_last x_n_written x_n_e_h x_n_e_count_Lo x_n_e_count_Hi x_n_e_held x_n_e_block x_at x_now x_have n = some r) :
    Calls Try.prog 7 (vals [pt g_x 0, I n]) w (fun e w' => ∃ A n1 c A1 n2 c1 A2 n3 c2 A3 n4 c3 A4 n5 c4 A5 n6 c5 A6 n7 c6 g n8 c7, r.1.length = n1 ∧ r.2.2.2.2.2.1.length = n2 ∧ r.2.2.2.2.2.2.2.2.2.1.length = n3 ∧ r.2.2.2.2.2.2.2.2.2.2.1.length = n4 ∧ r.2.2.2.2.2.2.2.2.2.2.2.2.2.2.2.2.2.2.1.length = n5 ∧ r.2.2.2.2.2.2.2.2.2.2.2.2.2.2.2.2.2.2.2.1.length = n6 ∧ r.2.2.2.2.2.2.2.2.2.2.2.2.2.2.2.2.2.2.2.2.1.length = n7 ∧ r.2.2.2.2.2.2.2.2.2.2.2.2.2.2.2.2.2.2.2.2.2.1.length = n8 ∧ e = .returned (SV.val (.tup [sl A n1 c, I r.2.1])) ∧ Cx F O w w' [Ow e8 A n1 c r.1, Bx 120 g_x_n_e [.ar e64 r.2.2.1, .u64 r.2.2.2.1, .u64 r.2.2.2.2.1, sl A1 n2 c1, I r.2.2.2.2.2.2.1, .v (.func (.func 62) ⟨SV.vals []⟩ ⟨SV.vals []⟩), .v (.func (.func 63) ⟨SV.vals []⟩ ⟨SV.vals []⟩)], Ow e8 A1 n2 c1 r.2.2.2.2.2.1, Bx 77 g_x_n [I r.2.2.2.2.2.2.2.1, I r.2.2.2.2.2.2.2.2.1, sl A2 n3 c2, sl A3 n4 c3, .b r.2.2.2.2.2.2.2.2.2.2.2.1, .u64 r.2.2.2.2.2.2.2.2.2.2.2.2.1, .v (.iface 114 (SV.val (pt g_x_n_e 0)))], Ow e8 A2 n3 c2 r.2.2.2.2.2.2.2.2.2.1, Ow e8 A3 n4 c3 r.2.2.2.2.2.2.2.2.2.2.1, Bx 52 g_x [I r.2.2.2.2.2.2.2.2.2.2.2.2.2.1, I r.2.2.2.2.2.2.2.2.2.2.2.2.2.2.1, .u32 r.2.2.2.2.2.2.2.2.2.2.2.2.2.2.2.1, .u64 r.2.2.2.2.2.2.2.2.2.2.2.2.2.2.2.2.1, .b r.2.2.2.2.2.2.2.2.2.2.2.2.2.2.2.2.2.1, sl A4 n5 c4, sl A5 n6 c5, sl A6 n7 c6, pt g_x_n 0, sl (some ⟨g, 0, none⟩) n8 c7, .u64 r.2.2.2.2.2.2.2.2.2.2.2.2.2.2.2.2.2.2.2.2.2.2.1, .ar e8 r.2.2.2.2.2.2.2.2.2.2.2.2.2.2.2.2.2.2.2.2.2.2.2.1, I r.2.2.2.2.2.2.2.2.2.2.2.2.2.2.2.2.2.2.2.2.2.2.2.2, .v (.func (.func 30) ⟨SV.vals [pt g_x 0]⟩ ⟨SV.vals []⟩)], Ow e8 A4 n5 c4 r.2.2.2.2.2.2.2.2.2.2.2.2.2.2.2.2.2.2.1, Ow e8 A5 n6 c5 r.2.2.2.2.2.2.2.2.2.2.2.2.2.2.2.2.2.2.2.1, Ow e8 A6 n7 c6 r.2.2.2.2.2.2.2.2.2.2.2.2.2.2.2.2.2.2.2.2.1, Sh (SH e8) [((some ⟨g, 0, none⟩), n8, c7)] [r.2.2.2.2.2.2.2.2.2.2.2.2.2.2.2.2.2.2.2.2.2.1]]) := by
 unfold m_xof_Stream_Read_s2 at hm
 obtain rfl := k.len 1 rfl
 obtain rfl := k.len 2 rfl
 obtain rfl := k.len 3 rfl
 obtain rfl := k.len 5 rfl
 obtain rfl := k.len 6 rfl
 obtain rfl := k.len 8 rfl
 refine calz [pt g_x 0, I n] Try.func7 rfl ?_
 refine W_seq <| Wq .a ?_
 refine W_seq <| W_seq <| W_reg <| We 1 (.n 11 (pt g_x 0) .a) ?_
 refine WL_op ?_
 obtain ⟨r_, h_r_, hm⟩ := ob hm
 obtain ⟨F1, O1, kin, hO, hre, hF, hb⟩ := k.go (.i (.i (.i (.i (.i (.i (.i (.i (.i .e)))))))))
 refine Op_cz 12 ws_go16 (c_xof_Stream_none (F := F1) (O := O1) _ _ _ _ _ _ _ _ _ _ _ _ _ _ _ _ _ _ _ _ _ _ _ _ _ _ _ _ _ _ _ _ _ _ _ _ _ _ _ _ _ _ _ kin _ h_r_) ?_
 rintro e_ w_ ⟨A0, _, c0, A7, _, c8, A8, _, c9, A9, _, c10, A10, _, c11, A11, _, c12, rfl, rfl, rfl, rfl, rfl, rfl, rfl, k_⟩
 have k_1 := hb w_ _ _ k_ (.c (.c (.c (.c (.c (.c (.c (.c (.c .n)))))))))
 refine ⟨.b false, rfl, ?_⟩
 refine Wn <| W_cond false (by kernel_rfl) (fun h => by cases h) (fun _ => ?_)
 refine W_skip <| At_go <| W_seq <| W_seq <| Wq (.n 18 (.b ((decide (n < 0)) || (decide (65536 < n)))) (.ss .a)) ?_
 refine W_cz ((decide (n < 0)) || (decide (65536 < n))) (fun hc => ?_) fun hc => ?_
 · rw [if_pos hc] at hm
   cases hm
 rw [if_neg (by rw [hc]; decide)] at hm
 refine W_skip <| At_go <| W_seq <| W_reg <| We 1 (.n 19 (pt g_x 0) (.s .a)) ?_
 refine WL_op ?_
 obtain ⟨r_1, h_r_1, hm⟩ := ob hm
 have k_2 := ((((((((k_1.pk (.t .h)).pk (.t .h)).pk (.t (.t (.t (.t .h))))).pk (.t (.t (.t (.t .h))))).pk (.t (.t (.t (.t .h))))).pk (.t (.t (.t (.t (.t (.t (.t (.t .h))))))))).pk (.t (.t (.t (.t (.t (.t (.t (.t .h))))))))).pk (.t (.t (.t (.t (.t (.t (.t (.t .h))))))))).pk (.t (.t (.t (.t (.t (.t (.t (.t .h))))))))
 obtain ⟨F11, O11, kin1, hO1, hre1, hF1, hb1⟩ := k_2.go (.i (.i (.i (.i (.i (.i (.i (.i (.i .e)))))))))
 refine Op_cz 20 ws_go17 (c_xof_Stream_give (F := F11) (O := O11) _ _ _ _ _ _ _ _ _ _ _ _ _ _ _ _ _ _ _ _ _ _ _ _ _ _ _ _ _ _ _ _ _ _ _ _ _ _ _ _ _ _ _ kin1 _ h_r_1) ?_
 rintro e_ w_1 ⟨A12, _, c13, A13, _, c14, A14, _, c15, A15, _, c16, A16, _, c17, A17, _, c18, g0, _, c19, rfl, rfl, rfl, rfl, rfl, rfl, rfl, rfl, k_3⟩
 have k_4 := hb1 w_1 _ _ k_3 (.c (.c (.c (.c (.c (.c (.c (.c (.c (.c .n))))))))))
 refine ⟨.tup [], rfl, ?_⟩
 refine Wn <| W_seq <| W_d ws_mixed (by kernel_rfl) (.n 6 (.u64 (r_1.2.2.2.2.2.2.2.2.2.2.2.2.2.2.1 - r_1.2.2.2.2.2.2.2.2.2.2.2.2.2.2.2.2.2.2.2.2.1)) (.ss .a)) (fun m => qs g_x 0 <| qs g_x 0 <| qs g_x 0 <| qB (k_4.drew m) 5 rfl 3 (.u64 r_1.2.2.2.2.2.2.2.2.2.2.2.2.2.2.1) (by kernel_rfl) <| qs g_x 0 <| qs g_x 0 <| qB (k_4.drew m) 5 rfl 10 (.u64 r_1.2.2.2.2.2.2.2.2.2.2.2.2.2.2.2.2.2.2.2.2.1) (by kernel_rfl) <| qe) (by kernel_rfl) (fun m_ => ?_)
 have k_5 := k_4.drew m_
 refine At_go <| W_seq <| W_seq <| Wq (.n 36 (.b ((decide (0 < n)) && (decide ((r_1.2.2.2.2.2.2.2.2.2.2.2.2.2.2.1 - r_1.2.2.2.2.2.2.2.2.2.2.2.2.2.2.2.2.2.2.2.2.1) = 0)))) .a) ?_
 refine W_cz ((decide (0 < n)) && (decide ((r_1.2.2.2.2.2.2.2.2.2.2.2.2.2.2.1 - r_1.2.2.2.2.2.2.2.2.2.2.2.2.2.2.2.2.2.2.2.2.1) = 0))) (fun hc1 => ?_) fun hc1 => ?_
 · rw [if_pos hc1] at hm
   refine W_seq <| Wq (.n 4 (sl none 0 0) (.n 5 (I 70) .z)) ?_
   refine W_ret (At_tr ?_)
   have k_6 := k_5.nil e8
   obtain rfl := si hm
   refine At_rz [sl none 0 0, I 70] qe ?_
   have k_7 := ((((((((((k_6.pk (.t (.t (.t (.t (.t (.t (.t (.t (.t .h)))))))))).pk (.t (.t (.t (.t (.t (.t (.t (.t (.t .h)))))))))).pk (.t (.t (.t (.t (.t (.t (.t (.t (.t .h)))))))))).pk (.t (.t (.t (.t (.t (.t (.t (.t (.t .h)))))))))).pk (.t (.t (.t (.t (.t (.t (.t (.t (.t .h)))))))))).pk (.t (.t (.t (.t (.t (.t (.t (.t (.t .h)))))))))).pk (.t (.t (.t (.t (.t (.t (.t (.t (.t .h)))))))))).pk (.t (.t (.t (.t (.t (.t (.t (.t (.t .h)))))))))).pk (.t (.t (.t (.t (.t (.t (.t (.t (.t .h)))))))))).pk (.t (.t (.t (.t (.t (.t (.t (.t (.t .h)))))))))).pk (.t (.t (.t (.t (.t (.t (.t (.t (.t (.t .h))))))))))
   exact ⟨none, 0, 0, A12, r_1.2.2.2.1.length, c13, A13, r_1.2.2.2.2.2.2.2.1.length, c14, A14, r_1.2.2.2.2.2.2.2.2.1.length, c15, A15, r_1.2.2.2.2.2.2.2.2.2.2.2.2.2.2.2.2.1.length, c16, A16, r_1.2.2.2.2.2.2.2.2.2.2.2.2.2.2.2.2.2.1.length, c17, A17, r_1.2.2.2.2.2.2.2.2.2.2.2.2.2.2.2.2.2.2.1.length, c18, g0, r_1.2.2.2.2.2.2.2.2.2.2.2.2.2.2.2.2.2.2.2.1.length, c19, k_7.len 0 rfl, k_7.len 2 rfl, k_7.len 4 rfl, k_7.len 5 rfl, k_7.len 7 rfl, k_7.len 8 rfl, k_7.len 9 rfl, k_7.shlen 10 rfl, rfl, k_7⟩
 rw [if_neg (by rw [hc1]; decide)] at hm
 refine W_skip <| At_go <| W_cut (fun L wr => ∃ (n9 : Int), m_xof_Stream_Read_s2_j0 r_1 n9 = some r ∧ L = [(0, pt g_x 0), (1, I n9)] ∧ Cx F O w wr [Bx 52 g_x [I r_1.2.2.2.2.2.2.2.2.2.2.2.1, I r_1.2.2.2.2.2.2.2.2.2.2.2.2.1, .u32 r_1.2.2.2.2.2.2.2.2.2.2.2.2.2.1, .u64 r_1.2.2.2.2.2.2.2.2.2.2.2.2.2.2.1, .b r_1.2.2.2.2.2.2.2.2.2.2.2.2.2.2.2.1, sl A15 r_1.2.2.2.2.2.2.2.2.2.2.2.2.2.2.2.2.1.length c16, sl A16 r_1.2.2.2.2.2.2.2.2.2.2.2.2.2.2.2.2.2.1.length c17, sl A17 r_1.2.2.2.2.2.2.2.2.2.2.2.2.2.2.2.2.2.2.1.length c18, pt g_x_n 0, sl (some ⟨g0, 0, none⟩) r_1.2.2.2.2.2.2.2.2.2.2.2.2.2.2.2.2.2.2.2.1.length c19, .u64 r_1.2.2.2.2.2.2.2.2.2.2.2.2.2.2.2.2.2.2.2.2.1, .ar e8 r_1.2.2.2.2.2.2.2.2.2.2.2.2.2.2.2.2.2.2.2.2.2.1, I r_1.2.2.2.2.2.2.2.2.2.2.2.2.2.2.2.2.2.2.2.2.2.2, .v (.func (.func 30) ⟨SV.vals [pt g_x 0]⟩ ⟨SV.vals []⟩)], Ow e8 A15 r_1.2.2.2.2.2.2.2.2.2.2.2.2.2.2.2.2.1.length c16 r_1.2.2.2.2.2.2.2.2.2.2.2.2.2.2.2.2.1, Ow e8 A16 r_1.2.2.2.2.2.2.2.2.2.2.2.2.2.2.2.2.2.1.length c17 r_1.2.2.2.2.2.2.2.2.2.2.2.2.2.2.2.2.2.1, Ow e8 A17 r_1.2.2.2.2.2.2.2.2.2.2.2.2.2.2.2.2.2.2.1.length c18 r_1.2.2.2.2.2.2.2.2.2.2.2.2.2.2.2.2.2.2.1, Bx 77 g_x_n [I r_1.2.2.2.2.2.1, I r_1.2.2.2.2.2.2.1, sl A13 r_1.2.2.2.2.2.2.2.1.length c14, sl A14 r_1.2.2.2.2.2.2.2.2.1.length c15, .b r_1.2.2.2.2.2.2.2.2.2.1, .u64 r_1.2.2.2.2.2.2.2.2.2.2.1, .v (.iface 114 (SV.val (pt g_x_n_e 0)))], Ow e8 A13 r_1.2.2.2.2.2.2.2.1.length c14 r_1.2.2.2.2.2.2.2.1, Ow e8 A14 r_1.2.2.2.2.2.2.2.2.1.length c15 r_1.2.2.2.2.2.2.2.2.1, Bx 120 g_x_n_e [.ar e64 r_1.1, .u64 r_1.2.1, .u64 r_1.2.2.1, sl A12 r_1.2.2.2.1.length c13, I r_1.2.2.2.2.1, .v (.func (.func 62) ⟨SV.vals []⟩ ⟨SV.vals []⟩), .v (.func (.func 63) ⟨SV.vals []⟩ ⟨SV.vals []⟩)], Ow e8 A12 r_1.2.2.2.1.length c13 r_1.2.2.2.1, Sh (SH e8) [((some ⟨g0, 0, none⟩), r_1.2.2.2.2.2.2.2.2.2.2.2.2.2.2.2.2.2.2.2.1.length, c19)] [r_1.2.2.2.2.2.2.2.2.2.2.2.2.2.2.2.2.2.2.2.1]]) ?_ ?_
 ·
  refine W_seq <| Wq (.n 40 (.b (decide ((r_1.2.2.2.2.2.2.2.2.2.2.2.2.2.2.1 - r_1.2.2.2.2.2.2.2.2.2.2.2.2.2.2.2.2.2.2.2.2.1) < (UInt64.ofInt n)))) (.s .a)) ?_
  refine W_pz ((r_1.2.2.2.2.2.2.2.2.2.2.2.2.2.2.1 - r_1.2.2.2.2.2.2.2.2.2.2.2.2.2.2.2.2.2.2.2.2.1) < (UInt64.ofInt n)) (fun hc2 => ?_) fun hc2 => ?_
  · rw [if_pos hc2] at hm
    refine W_q [] (.n 1 (I (w64 (r_1.2.2.2.2.2.2.2.2.2.2.2.2.2.2.1 - r_1.2.2.2.2.2.2.2.2.2.2.2.2.2.2.2.2.2.2.2.2.1).toNat)) (.ss (.k .z))) qe (by kernel_rfl) ?_
    have k_8 := (((((((((k_5.pk (.t (.t (.t (.t (.t (.t (.t (.t (.t .h)))))))))).pk (.t (.t .h))).pk (.t (.t .h))).pk (.t (.t (.t (.t (.t .h)))))).pk (.t (.t (.t (.t (.t .h)))))).pk (.t (.t (.t (.t (.t .h)))))).pk (.t (.t (.t (.t (.t (.t (.t (.t (.t .h)))))))))).pk (.t (.t (.t (.t (.t (.t (.t (.t (.t .h)))))))))).pk (.t (.t (.t (.t (.t (.t (.t (.t (.t .h)))))))))).pk (.t (.t (.t (.t (.t (.t (.t (.t (.t .h)))))))))
    exact At_cz ⟨w64 (r_1.2.2.2.2.2.2.2.2.2.2.2.2.2.2.1 - r_1.2.2.2.2.2.2.2.2.2.2.2.2.2.2.2.2.2.2.2.2.1).toNat, hm, rfl, k_8⟩
  rw [if_neg hc2] at hm
  refine W_skip ?_
  have k_9 := (((((((((k_5.pk (.t (.t (.t (.t (.t (.t (.t (.t (.t .h)))))))))).pk (.t (.t .h))).pk (.t (.t .h))).pk (.t (.t (.t (.t (.t .h)))))).pk (.t (.t (.t (.t (.t .h)))))).pk (.t (.t (.t (.t (.t .h)))))).pk (.t (.t (.t (.t (.t (.t (.t (.t (.t .h)))))))))).pk (.t (.t (.t (.t (.t (.t (.t (.t (.t .h)))))))))).pk (.t (.t (.t (.t (.t (.t (.t (.t (.t .h)))))))))).pk (.t (.t (.t (.t (.t (.t (.t (.t (.t .h)))))))))
  exact At_cz ⟨n, hm, rfl, k_9⟩
 rintro L_ w_2 ⟨n9, hm, rfl, k_10⟩
 simp only [m_xof_Stream_Read_s2_j0] at hm
 refine W_seq <| Wq (.n 7 (sl none 0 0) .a) ?_
 refine W_seq <| W_block ?_
 have k_12 := k_10.nil e8
 refine W_lp (m_xof_Stream_Read_s2_l0 r_1 n9) (fun s L wr => ∃ (x_0 : UInt64) (x_25 : Vec UInt8 64) (x_26 : Int) (out : List UInt8) (A18 : Option Addr) (n10 : Nat) (c20 : Nat), (x_0, x_25, x_26, out) = s ∧ L = [(0, pt g_x 0), (1, I n9), (7, sl A18 n10 c20)] ∧ out.length = n10 ∧ Cx F O w wr [Bx 52 g_x [I r_1.2.2.2.2.2.2.2.2.2.2.2.1, I r_1.2.2.2.2.2.2.2.2.2.2.2.2.1, .u32 r_1.2.2.2.2.2.2.2.2.2.2.2.2.2.1, .u64 r_1.2.2.2.2.2.2.2.2.2.2.2.2.2.2.1, .b r_1.2.2.2.2.2.2.2.2.2.2.2.2.2.2.2.1, sl A15 r_1.2.2.2.2.2.2.2.2.2.2.2.2.2.2.2.2.1.length c16, sl A16 r_1.2.2.2.2.2.2.2.2.2.2.2.2.2.2.2.2.2.1.length c17, sl A17 r_1.2.2.2.2.2.2.2.2.2.2.2.2.2.2.2.2.2.2.1.length c18, pt g_x_n 0, sl (some ⟨g0, 0, none⟩) r_1.2.2.2.2.2.2.2.2.2.2.2.2.2.2.2.2.2.2.2.1.length c19, .u64 x_0, .ar e8 x_25, I x_26, .v (.func (.func 30) ⟨SV.vals [pt g_x 0]⟩ ⟨SV.vals []⟩)], Ow e8 A15 r_1.2.2.2.2.2.2.2.2.2.2.2.2.2.2.2.2.1.length c16 r_1.2.2.2.2.2.2.2.2.2.2.2.2.2.2.2.2.1, Ow e8 A16 r_1.2.2.2.2.2.2.2.2.2.2.2.2.2.2.2.2.2.1.length c17 r_1.2.2.2.2.2.2.2.2.2.2.2.2.2.2.2.2.2.1, Ow e8 A17 r_1.2.2.2.2.2.2.2.2.2.2.2.2.2.2.2.2.2.2.1.length c18 r_1.2.2.2.2.2.2.2.2.2.2.2.2.2.2.2.2.2.2.1, Bx 77 g_x_n [I r_1.2.2.2.2.2.1, I r_1.2.2.2.2.2.2.1, sl A13 r_1.2.2.2.2.2.2.2.1.length c14, sl A14 r_1.2.2.2.2.2.2.2.2.1.length c15, .b r_1.2.2.2.2.2.2.2.2.2.1, .u64 r_1.2.2.2.2.2.2.2.2.2.2.1, .v (.iface 114 (SV.val (pt g_x_n_e 0)))], Ow e8 A13 r_1.2.2.2.2.2.2.2.1.length c14 r_1.2.2.2.2.2.2.2.1, Ow e8 A14 r_1.2.2.2.2.2.2.2.2.1.length c15 r_1.2.2.2.2.2.2.2.2.1, Bx 120 g_x_n_e [.ar e64 r_1.1, .u64 r_1.2.1, .u64 r_1.2.2.1, sl A12 r_1.2.2.2.1.length c13, I r_1.2.2.2.2.1, .v (.func (.func 62) ⟨SV.vals []⟩ ⟨SV.vals []⟩), .v (.func (.func 63) ⟨SV.vals []⟩ ⟨SV.vals []⟩)], Ow e8 A12 r_1.2.2.2.1.length c13 r_1.2.2.2.1, Sh (SH e8) [((some ⟨g0, 0, none⟩), r_1.2.2.2.2.2.2.2.2.2.2.2.2.2.2.2.2.2.2.2.1.length, c19)] [r_1.2.2.2.2.2.2.2.2.2.2.2.2.2.2.2.2.2.2.2.1], Ow e8 A18 n10 c20 out]) (r_1.2.2.2.2.2.2.2.2.2.2.2.2.2.2.2.2.2.2.2.2.1, r_1.2.2.2.2.2.2.2.2.2.2.2.2.2.2.2.2.2.2.2.2.2.1, r_1.2.2.2.2.2.2.2.2.2.2.2.2.2.2.2.2.2.2.2.2.2.2, ([] : List UInt8)) r hm ⟨r_1.2.2.2.2.2.2.2.2.2.2.2.2.2.2.2.2.2.2.2.2.1, r_1.2.2.2.2.2.2.2.2.2.2.2.2.2.2.2.2.2.2.2.2.2.1, r_1.2.2.2.2.2.2.2.2.2.2.2.2.2.2.2.2.2.2.2.2.2.2, ([] : List UInt8), none, 0, 0, rfl, rfl, k_12.len 10 rfl, k_12⟩ (by kernel_rfl) ?_
 intro s0_ L_ w_3 y0 hrel hstep hr0
 obtain ⟨x_0, x_25, x_26, out, A18, _, c20, rfl, rfl, rfl, k_11⟩ := hrel
 have hm := hstep; simp only [m_xof_Stream_Read_s2_l0] at hm
 clear hstep
 refine W_seq <| W_seq <| Wq (.n 46 (.b (decide ((out.length : Int) < n9))) .a) ?_
 refine W_pz ((out.length : Int) < n9) (fun hc3 => ?_) fun hc3 => ?_
 · rw [if_pos hc3] at hm
   refine W_skip <| At_go <| W_block <| W_seq ?_
   obtain ⟨u, h_u, hm⟩ := ob hm
   refine W_d ws_mixed (by kernel_rfl) (.n 8 (.u64 (x_0 / (UInt64.ofInt r_1.2.2.2.2.2.2.2.2.2.2.2.2.1))) (.s .a)) (fun m => qs g_x 0 <| qs g_x 0 <| qB (k_11.drew m) 0 rfl 10 (.u64 x_0) (by kernel_rfl) <| qs g_x 0 <| qs g_x 0 <| qs g_x 0 <| qB (k_11.drew m) 0 rfl 1 (I r_1.2.2.2.2.2.2.2.2.2.2.2.2.1) (by kernel_rfl) <| qp ((UInt64.ofInt r_1.2.2.2.2.2.2.2.2.2.2.2.2.1) ≠ 0) (need_some h_u) <| qe) (by kernel_rfl) (fun m_1 => ?_)
   have k_13 := k_11.drew m_1
   refine At_go <| W_cut (fun L wr => ∃ (x_27 : Vec UInt8 64) (x_28 : Int), m_xof_Stream_Read_s2_j1 r_1 n9 x_0 out x_27 x_28 = some y0 ∧ L = [(0, pt g_x 0), (1, I n9), (7, sl A18 out.length c20)] ∧ Cx F O w wr [Bx 52 g_x [I r_1.2.2.2.2.2.2.2.2.2.2.2.1, I r_1.2.2.2.2.2.2.2.2.2.2.2.2.1, .u32 r_1.2.2.2.2.2.2.2.2.2.2.2.2.2.1, .u64 r_1.2.2.2.2.2.2.2.2.2.2.2.2.2.2.1, .b r_1.2.2.2.2.2.2.2.2.2.2.2.2.2.2.2.1, sl A15 r_1.2.2.2.2.2.2.2.2.2.2.2.2.2.2.2.2.1.length c16, sl A16 r_1.2.2.2.2.2.2.2.2.2.2.2.2.2.2.2.2.2.1.length c17, sl A17 r_1.2.2.2.2.2.2.2.2.2.2.2.2.2.2.2.2.2.2.1.length c18, pt g_x_n 0, sl (some ⟨g0, 0, none⟩) r_1.2.2.2.2.2.2.2.2.2.2.2.2.2.2.2.2.2.2.2.1.length c19, .u64 x_0, .ar e8 x_27, I x_28, .v (.func (.func 30) ⟨SV.vals [pt g_x 0]⟩ ⟨SV.vals []⟩)], Ow e8 A15 r_1.2.2.2.2.2.2.2.2.2.2.2.2.2.2.2.2.1.length c16 r_1.2.2.2.2.2.2.2.2.2.2.2.2.2.2.2.2.1, Ow e8 A16 r_1.2.2.2.2.2.2.2.2.2.2.2.2.2.2.2.2.2.1.length c17 r_1.2.2.2.2.2.2.2.2.2.2.2.2.2.2.2.2.2.1, Ow e8 A17 r_1.2.2.2.2.2.2.2.2.2.2.2.2.2.2.2.2.2.2.1.length c18 r_1.2.2.2.2.2.2.2.2.2.2.2.2.2.2.2.2.2.2.1, Bx 77 g_x_n [I r_1.2.2.2.2.2.1, I r_1.2.2.2.2.2.2.1, sl A13 r_1.2.2.2.2.2.2.2.1.length c14, sl A14 r_1.2.2.2.2.2.2.2.2.1.length c15, .b r_1.2.2.2.2.2.2.2.2.2.1, .u64 r_1.2.2.2.2.2.2.2.2.2.2.1, .v (.iface 114 (SV.val (pt g_x_n_e 0)))], Ow e8 A13 r_1.2.2.2.2.2.2.2.1.length c14 r_1.2.2.2.2.2.2.2.1, Ow e8 A14 r_1.2.2.2.2.2.2.2.2.1.length c15 r_1.2.2.2.2.2.2.2.2.1, Bx 120 g_x_n_e [.ar e64 r_1.1, .u64 r_1.2.1, .u64 r_1.2.2.1, sl A12 r_1.2.2.2.1.length c13, I r_1.2.2.2.2.1, .v (.func (.func 62) ⟨SV.vals []⟩ ⟨SV.vals []⟩), .v (.func (.func 63) ⟨SV.vals []⟩ ⟨SV.vals []⟩)], Ow e8 A12 r_1.2.2.2.1.length c13 r_1.2.2.2.1, Sh (SH e8) [((some ⟨g0, 0, none⟩), r_1.2.2.2.2.2.2.2.2.2.2.2.2.2.2.2.2.2.2.2.1.length, c19)] [r_1.2.2.2.2.2.2.2.2.2.2.2.2.2.2.2.2.2.2.2.1], Ow e8 A18 out.length c20 out]) ?_ ?_
   ·
    refine W_seq <| Wa (.n 64 (.b (decide (x_26 ≠ (w64 (x_0 / (UInt64.ofInt r_1.2.2.2.2.2.2.2.2.2.2.2.2.1)).toNat)))) .a) (qs g_x 0 <| qs g_x 0 <| qB k_13 0 rfl 75 (I x_26) (by kernel_rfl) <| qe) ?_
    refine W_pz (x_26 ≠ (w64 (x_0 / (UInt64.ofInt r_1.2.2.2.2.2.2.2.2.2.2.2.2.1)).toNat)) (fun hc4 => ?_) fun hc4 => ?_
    · rw [if_pos hc4] at hm
      refine W_seq ?_
      have k_14 := k_13.drew 1
      refine W_m ws_mixed (.q 20 0 (.q 0 2 (.q 1 2 (.q 2 1 (.q 3 1 (.q 4 2 (.q 5 2 (.q 6 1 (.q 7 0 (.q 8 2 (.q 9 2 (.q 10 1 (.q 11 0 (.q 12 2 (.q 13 2 (.q 14 1 (.q 15 0 (.q 16 2 (.q 17 2 (.q 18 1 (.q 19 0 (.op 21 (.op 22 .nil))))))))))))))))))))))) [21, 22] k_14 (.c (.kkkk (.kkkk (.kk (.k .e)))) (.c (.s (.kkkk (.kkkk (.kk .e)))) .l)) (by kernel_rfl) (fun _ => ?_)
      refine MXz 1 0 (.n 85 (.u64 (x_0 / (UInt64.ofInt r_1.2.2.2.2.2.2.2.2.2.2.2.2.1))) (.s .a)) (fun x hx => qe) fun _ => ?_
      refine MXz 2 2 (.n 66 (pt g_x 0) .a) (fun x hx => qs g_x 0 <| qe) fun _ => ?_
      refine MXz 2 1 (.n 68 (sl (some ⟨g_x, 11, none⟩) 64 64) (.s .a)) (fun x hx => qs g_x 0 <| qo (.v (.slice (some ⟨g_x, 11, none⟩) 64 64)) <| qp (((some ⟨g_x, 11, none⟩) : Option Addr).isSome = true ∧ Value.slice (slA (some ⟨g_x, 11, none⟩) 0 64 1) (64 - 0) (64 - 0) = .slice (some ⟨g_x, 11, none⟩) 64 64) ⟨rfl, slx0 _ _ _ _ _ rfl⟩ <| qe) fun _ => ?_
      refine MXz 2 2 (.n 70 (pt g_x 0) .a) (fun x hx => qs g_x 0 <| qe) fun _ => ?_
      refine MXz 1 1 (.n 71 (pt g_x 0) (.s .a)) (fun x hx => qs g_x 0 <| qe) fun _ => ?_
      refine MXz 1 0 (.n 72 (.agg [I r_1.2.2.2.2.2.2.2.2.2.2.2.1, I r_1.2.2.2.2.2.2.2.2.2.2.2.2.1, .u32 r_1.2.2.2.2.2.2.2.2.2.2.2.2.2.1, .u64 r_1.2.2.2.2.2.2.2.2.2.2.2.2.2.2.1, .b r_1.2.2.2.2.2.2.2.2.2.2.2.2.2.2.2.1]) (.s .a)) (fun x hx => qT hx 0 rfl 0 5 [I r_1.2.2.2.2.2.2.2.2.2.2.2.1, I r_1.2.2.2.2.2.2.2.2.2.2.2.2.1, .u32 r_1.2.2.2.2.2.2.2.2.2.2.2.2.2.1, .u64 r_1.2.2.2.2.2.2.2.2.2.2.2.2.2.2.1, .b r_1.2.2.2.2.2.2.2.2.2.2.2.2.2.2.2.1] (by kernel_rfl) (by decide) <| qe) fun _ => ?_
      refine MXz 2 2 (.n 74 (pt g_x 0) .a) (fun x hx => qs g_x 0 <| qe) fun _ => ?_
      refine MXz 1 1 (.n 75 (pt g_x 6) (.s .a)) (fun x hx => qs g_x 0 <| qe) fun _ => ?_
      refine MXz 1 0 (.n 76 (sl A16 r_1.2.2.2.2.2.2.2.2.2.2.2.2.2.2.2.2.2.1.length c17) (.s .a)) (fun x hx => qB hx 0 rfl 6 (sl A16 r_1.2.2.2.2.2.2.2.2.2.2.2.2.2.2.2.2.2.1.length c17) (by kernel_rfl) <| qe) fun _ => ?_
      refine MXz 2 2 (.n 78 (pt g_x 0) .a) (fun x hx => qs g_x 0 <| qe) fun _ => ?_
      refine MXz 1 1 (.n 79 (pt g_x 7) (.s .a)) (fun x hx => qs g_x 0 <| qe) fun _ => ?_
      refine MXz 1 0 (.n 80 (sl A17 r_1.2.2.2.2.2.2.2.2.2.2.2.2.2.2.2.2.2.2.1.length c18) (.s .a)) (fun x hx => qB hx 0 rfl 7 (sl A17 r_1.2.2.2.2.2.2.2.2.2.2.2.2.2.2.2.2.2.2.1.length c18) (by kernel_rfl) <| qe) fun _ => ?_
      refine MXz 2 2 (.n 82 (pt g_x 0) .a) (fun x hx => qs g_x 0 <| qe) fun _ => ?_
      refine MXz 1 1 (.n 83 (pt g_x 9) (.s .a)) (fun x hx => qs g_x 0 <| qe) fun _ => ?_
      refine MXz 1 0 (.n 84 (sl (some ⟨g0, 0, none⟩) r_1.2.2.2.2.2.2.2.2.2.2.2.2.2.2.2.2.2.2.2.1.length c19) (.s .a)) (fun x hx => qB hx 0 rfl 9 (sl (some ⟨g0, 0, none⟩) r_1.2.2.2.2.2.2.2.2.2.2.2.2.2.2.2.2.2.2.2.1.length c19) (by kernel_rfl) <| qe) fun _ => ?_
      refine MX_op (by kernel_rfl) rfl ?_
      obtain ⟨r_2, h_r_2, hm⟩ := ob hm
      refine Op_cz 86 ws_go18 (c_xof_shape_piece (F := N0) (O := N0) _ _ _ _ _ _ _ _ _ _ _ _ _ _ _ _ _ _ (Ro.n0 (k_14.rd 2 rfl)) (k_14.len 2 rfl) (k_14.lec 2 rfl) (Ro.n0 (k_14.rd 3 rfl)) (k_14.len 3 rfl) (k_14.lec 3 rfl) (Ro.n0 (k_14.shrd 9 rfl)) (k_14.shlen 9 rfl) (k_14.shlec 9 rfl) (Cx.refl _) _ h_r_2) ?_
      rintro e_ w_4 ⟨A19, _, c21, rfl, rfl, k_15⟩
      have k_16 := k_14.call k_15
      refine ⟨sl A19 r_2.length c21, rfl, ?_⟩
      refine ⟨(k_16.sel (.kkkk (.kkkk (.kk (.k .z))))), fun _ => ?_⟩
      refine MX_op (by kernel_rfl) rfl <| Op_vcp (E := e8) (dn := 64) (dc := 64) (v := sl A19 r_2.length c21) (src := r_2) (lo := 0) (m' := 64) ws_tf23 [] 87 0 [I r_1.2.2.2.2.2.2.2.2.2.2.2.1, I r_1.2.2.2.2.2.2.2.2.2.2.2.2.1, .u32 r_1.2.2.2.2.2.2.2.2.2.2.2.2.2.1, .u64 r_1.2.2.2.2.2.2.2.2.2.2.2.2.2.2.1, .b r_1.2.2.2.2.2.2.2.2.2.2.2.2.2.2.2.1, sl A15 r_1.2.2.2.2.2.2.2.2.2.2.2.2.2.2.2.2.1.length c16, sl A16 r_1.2.2.2.2.2.2.2.2.2.2.2.2.2.2.2.2.2.1.length c17, sl A17 r_1.2.2.2.2.2.2.2.2.2.2.2.2.2.2.2.2.2.2.1.length c18, pt g_x_n 0, sl (some ⟨g0, 0, none⟩) r_1.2.2.2.2.2.2.2.2.2.2.2.2.2.2.2.2.2.2.2.1.length c19, .u64 x_0] [I x_26, .v (.func (.func 30) ⟨SV.vals [pt g_x 0]⟩ ⟨SV.vals []⟩)] x_25 (by kernel_rfl) (slA_zero _ _ _).symm k_16 rfl (Src.sl (k_16.rd 11 rfl) (k_16.len 11 rfl) (by rfl)) (k_16.len 11 rfl) (by have := x_25.h; omega) (by omega) (by omega) ?_
      intro w_5 k_17
      refine ⟨(k_17.sel (.s (.kkkk (.kkkk (.kk .z))))), fun _ => ?_⟩
      refine MX_nil <| At_go <| W_reg <| Wl 5 (.n 90 (I (w64 (x_0 / (UInt64.ofInt r_1.2.2.2.2.2.2.2.2.2.2.2.2.1)).toNat)) (.n 92 (pt g_x 75) (.ssss (.ssss (.s .a))))) (qs g_x 0 <| qs g_x 0 <| qe) ?_
      refine WL_op <| Op_bz 0 (I (w64 (x_0 / (UInt64.ofInt r_1.2.2.2.2.2.2.2.2.2.2.2.2.1)).toNat)) [I (w64 (x_0 / (UInt64.ofInt r_1.2.2.2.2.2.2.2.2.2.2.2.2.1)).toNat)] (Pt.at g_x 75) k_17 rfl (.kkkk (.kkkk (.kkkk .h))) ?_
      intro w_6 k_18
      have k_19 := k_18.sel (.kkkk (.kkkk (.kk (.k .z))))
      refine WL_nil ?_
      exact At_cz ⟨(vcp x_25 0 64 r_2), w64 (x_0 / (UInt64.ofInt r_1.2.2.2.2.2.2.2.2.2.2.2.2.1)).toNat, hm, rfl, k_19⟩
    rw [if_neg hc4] at hm
    refine W_skip ?_
    exact At_cz ⟨x_25, x_26, hm, rfl, k_13⟩
   rintro L_ w_7 ⟨x_27, x_28, hm, rfl, k_20⟩
   simp only [m_xof_Stream_Read_s2_j1] at hm
   refine W_seq ?_
   obtain ⟨u1, h_u1, hm⟩ := ob hm
   refine W_d ws_mixed (by kernel_rfl) (.n 9 (I (w64 (x_0 % (UInt64.ofInt r_1.2.2.2.2.2.2.2.2.2.2.2.2.1)).toNat)) .a) (fun m => qs g_x 0 <| qs g_x 0 <| qB (k_20.drew m) 0 rfl 10 (.u64 x_0) (by kernel_rfl) <| qs g_x 0 <| qs g_x 0 <| qs g_x 0 <| qB (k_20.drew m) 0 rfl 1 (I r_1.2.2.2.2.2.2.2.2.2.2.2.2.1) (by kernel_rfl) <| qp ((UInt64.ofInt r_1.2.2.2.2.2.2.2.2.2.2.2.2.1) ≠ 0) (need_some h_u1) <| qe) (by kernel_rfl) (fun m_2 => ?_)
   have k_21 := k_20.drew m_2
   refine At_go <| W_seq <| Wa (.n 10 (I (if w64 (r_1.2.2.2.2.2.2.2.2.2.2.2.2.1 - (w64 (x_0 % (UInt64.ofInt r_1.2.2.2.2.2.2.2.2.2.2.2.2.1)).toNat)) < w64 (n9 - (out.length : Int)) then w64 (r_1.2.2.2.2.2.2.2.2.2.2.2.2.1 - (w64 (x_0 % (UInt64.ofInt r_1.2.2.2.2.2.2.2.2.2.2.2.2.1)).toNat)) else w64 (n9 - (out.length : Int)))) .a) (qs g_x 0 <| qs g_x 0 <| qs g_x 0 <| qB k_21 0 rfl 1 (I r_1.2.2.2.2.2.2.2.2.2.2.2.2.1) (by kernel_rfl) <| qe) ?_
   refine W_seq <| W_reg ?_
   obtain ⟨b, h_b, hm⟩ := ob hm
   have hs := slc_some h_b
   have hl := slc_len h_b
   have hn : x_27.l.length = 64 := x_27.h
   have hc5 : 64 ≤ 64 := (Nat.le_refl _)
   obtain ⟨A20, c22, e_, hc6, hA, hc7⟩ := slx (some ⟨g_x, 11, none⟩) (Int.toNat (w64 (x_0 % (UInt64.ofInt r_1.2.2.2.2.2.2.2.2.2.2.2.2.1)).toNat)) 64 1 (Int.toNat (w64 ((w64 (x_0 % (UInt64.ofInt r_1.2.2.2.2.2.2.2.2.2.2.2.2.1)).toNat) + (if w64 (r_1.2.2.2.2.2.2.2.2.2.2.2.2.1 - (w64 (x_0 % (UInt64.ofInt r_1.2.2.2.2.2.2.2.2.2.2.2.2.1)).toNat)) < w64 (n9 - (out.length : Int)) then w64 (r_1.2.2.2.2.2.2.2.2.2.2.2.2.1 - (w64 (x_0 % (UInt64.ofInt r_1.2.2.2.2.2.2.2.2.2.2.2.2.1)).toNat)) else w64 (n9 - (out.length : Int))))) - Int.toNat (w64 (x_0 % (UInt64.ofInt r_1.2.2.2.2.2.2.2.2.2.2.2.2.1)).toNat)) b.length (by omega) (by omega)
   refine Wl 9 (.n 117 (sl A18 out.length c20) (.n 125 (sl A20 b.length c22) (.k (.s .a)))) (qs g_x 0 <| qs g_x 0 <| qp (0 ≤ w64 ((w64 (x_0 % (UInt64.ofInt r_1.2.2.2.2.2.2.2.2.2.2.2.2.1)).toNat) + (if w64 (r_1.2.2.2.2.2.2.2.2.2.2.2.2.1 - (w64 (x_0 % (UInt64.ofInt r_1.2.2.2.2.2.2.2.2.2.2.2.2.1)).toNat)) < w64 (n9 - (out.length : Int)) then w64 (r_1.2.2.2.2.2.2.2.2.2.2.2.2.1 - (w64 (x_0 % (UInt64.ofInt r_1.2.2.2.2.2.2.2.2.2.2.2.2.1)).toNat)) else w64 (n9 - (out.length : Int)))) ∧ w64 ((w64 (x_0 % (UInt64.ofInt r_1.2.2.2.2.2.2.2.2.2.2.2.2.1)).toNat) + (if w64 (r_1.2.2.2.2.2.2.2.2.2.2.2.2.1 - (w64 (x_0 % (UInt64.ofInt r_1.2.2.2.2.2.2.2.2.2.2.2.2.1)).toNat)) < w64 (n9 - (out.length : Int)) then w64 (r_1.2.2.2.2.2.2.2.2.2.2.2.2.1 - (w64 (x_0 % (UInt64.ofInt r_1.2.2.2.2.2.2.2.2.2.2.2.2.1)).toNat)) else w64 (n9 - (out.length : Int)))) ≤ ((64 : Nat) : Int)) (by omega) <| qp (0 ≤ w64 (x_0 % (UInt64.ofInt r_1.2.2.2.2.2.2.2.2.2.2.2.2.1)).toNat ∧ w64 (x_0 % (UInt64.ofInt r_1.2.2.2.2.2.2.2.2.2.2.2.2.1)).toNat ≤ ((Int.toNat (w64 ((w64 (x_0 % (UInt64.ofInt r_1.2.2.2.2.2.2.2.2.2.2.2.2.1)).toNat) + (if w64 (r_1.2.2.2.2.2.2.2.2.2.2.2.2.1 - (w64 (x_0 % (UInt64.ofInt r_1.2.2.2.2.2.2.2.2.2.2.2.2.1)).toNat)) < w64 (n9 - (out.length : Int)) then w64 (r_1.2.2.2.2.2.2.2.2.2.2.2.2.1 - (w64 (x_0 % (UInt64.ofInt r_1.2.2.2.2.2.2.2.2.2.2.2.2.1)).toNat)) else w64 (n9 - (out.length : Int))))) : Nat) : Int)) (by omega) <| qo (.v (.slice A20 b.length c22)) <| qp (((some ⟨g_x, 11, none⟩) : Option Addr).isSome = true ∧ Value.slice (slA (some ⟨g_x, 11, none⟩) (Int.toNat (w64 (x_0 % (UInt64.ofInt r_1.2.2.2.2.2.2.2.2.2.2.2.2.1)).toNat)) 64 1) (Int.toNat (w64 ((w64 (x_0 % (UInt64.ofInt r_1.2.2.2.2.2.2.2.2.2.2.2.2.1)).toNat) + (if w64 (r_1.2.2.2.2.2.2.2.2.2.2.2.2.1 - (w64 (x_0 % (UInt64.ofInt r_1.2.2.2.2.2.2.2.2.2.2.2.2.1)).toNat)) < w64 (n9 - (out.length : Int)) then w64 (r_1.2.2.2.2.2.2.2.2.2.2.2.2.1 - (w64 (x_0 % (UInt64.ofInt r_1.2.2.2.2.2.2.2.2.2.2.2.2.1)).toNat)) else w64 (n9 - (out.length : Int))))) - Int.toNat (w64 (x_0 % (UInt64.ofInt r_1.2.2.2.2.2.2.2.2.2.2.2.2.1)).toNat)) (64 - Int.toNat (w64 (x_0 % (UInt64.ofInt r_1.2.2.2.2.2.2.2.2.2.2.2.2.1)).toNat)) = .slice A20 b.length c22) ⟨rfl, e_⟩ <| qe) ?_
   refine WL_op ?_
   obtain ⟨out1, h_out1, hm⟩ := ob hm
   obtain ⟨hz, hl1⟩ := app_some h_out1
   refine Op_append (E := e8) (v := sl A20 b.length c22) (ys := b) ws_tf23 [] 126 10 (by kernel_rfl) k_21 rfl (Src.sl (Rd.cut (Rd.vec (k_21.brd 0 rfl) (c := Enc.all e8 x_27.l) (off := 11) (by kernel_rfl)) h_b rfl (by rfl) hA (by omega)) rfl (by rfl)) rfl (by have := k_21.len 10 rfl; have := hm; omega) ?_
   intro A21 c23 w_8 k_22
   rw [← hl1] at k_22
   refine We 1 (.n 7 (sl A21 (out.length + b.length) c23) (.sss (.kkk .z))) ?_
   refine Wn <| W_reg <| Wl 9 (.n 133 (.u64 (x_0 + (UInt64.ofInt (if w64 (r_1.2.2.2.2.2.2.2.2.2.2.2.2.1 - (w64 (x_0 % (UInt64.ofInt r_1.2.2.2.2.2.2.2.2.2.2.2.2.1)).toNat)) < w64 (n9 - (out.length : Int)) then w64 (r_1.2.2.2.2.2.2.2.2.2.2.2.2.1 - (w64 (x_0 % (UInt64.ofInt r_1.2.2.2.2.2.2.2.2.2.2.2.2.1)).toNat)) else w64 (n9 - (out.length : Int)))))) (.n 135 (pt g_x 10) (.k (.s .a)))) (qs g_x 0 <| qs g_x 0 <| qB k_22 0 rfl 10 (.u64 x_0) (by kernel_rfl) <| qs g_x 0 <| qs g_x 0 <| qe) ?_
   refine WL_op <| Op_bz 0 (.u64 (x_0 + (UInt64.ofInt (if w64 (r_1.2.2.2.2.2.2.2.2.2.2.2.2.1 - (w64 (x_0 % (UInt64.ofInt r_1.2.2.2.2.2.2.2.2.2.2.2.2.1)).toNat)) < w64 (n9 - (out.length : Int)) then w64 (r_1.2.2.2.2.2.2.2.2.2.2.2.2.1 - (w64 (x_0 % (UInt64.ofInt r_1.2.2.2.2.2.2.2.2.2.2.2.2.1)).toNat)) else w64 (n9 - (out.length : Int)))))) [.u64 (x_0 + (UInt64.ofInt (if w64 (r_1.2.2.2.2.2.2.2.2.2.2.2.2.1 - (w64 (x_0 % (UInt64.ofInt r_1.2.2.2.2.2.2.2.2.2.2.2.2.1)).toNat)) < w64 (n9 - (out.length : Int)) then w64 (r_1.2.2.2.2.2.2.2.2.2.2.2.2.1 - (w64 (x_0 % (UInt64.ofInt r_1.2.2.2.2.2.2.2.2.2.2.2.2.1)).toNat)) else w64 (n9 - (out.length : Int)))))] (Pt.at g_x 10) k_22 rfl (.kkkk (.kkkk (.kk .h))) ?_
   intro w_9 k_23
   refine WL_nil <| At_in ?_
   exact At_rd (x_0 + (UInt64.ofInt (if w64 (r_1.2.2.2.2.2.2.2.2.2.2.2.2.1 - (w64 (x_0 % (UInt64.ofInt r_1.2.2.2.2.2.2.2.2.2.2.2.2.1)).toNat)) < w64 (n9 - (out.length : Int)) then w64 (r_1.2.2.2.2.2.2.2.2.2.2.2.2.1 - (w64 (x_0 % (UInt64.ofInt r_1.2.2.2.2.2.2.2.2.2.2.2.2.1)).toNat)) else w64 (n9 - (out.length : Int)))), x_27, x_28, out1) (Option.some.inj hm).symm ⟨x_0 + (UInt64.ofInt (if w64 (r_1.2.2.2.2.2.2.2.2.2.2.2.2.1 - (w64 (x_0 % (UInt64.ofInt r_1.2.2.2.2.2.2.2.2.2.2.2.2.1)).toNat)) < w64 (n9 - (out.length : Int)) then w64 (r_1.2.2.2.2.2.2.2.2.2.2.2.2.1 - (w64 (x_0 % (UInt64.ofInt r_1.2.2.2.2.2.2.2.2.2.2.2.2.1)).toNat)) else w64 (n9 - (out.length : Int)))), x_27, x_28, out1, A21, out.length + b.length, c23, rfl, rfl, k_23.len 10 rfl, k_23⟩ (by kernel_rfl)
 rw [if_neg hc3] at hm
 refine W_exit (At_te (At_te (At_ie ?_)))
 have hm := exit_of hm hr0
 refine At_go <| W_seq <| Wq (.n 4 (sl A18 out.length c20) (.n 5 (I 0) .z)) ?_
 refine W_ret ?_
 obtain rfl := si hm
 refine At_rz [sl A18 out.length c20, I 0] qe ?_
 have k_24 := ((((((((((k_11.pk (.t (.t (.t (.t (.t (.t (.t (.t (.t .h)))))))))).pk (.t (.t (.t (.t .h))))).pk (.t (.t (.t (.t .h))))).pk (.t (.t (.t (.t .h))))).pk (.t (.t (.t (.t .h))))).pk (.t (.t (.t (.t (.t (.t (.t .h)))))))).pk (.t (.t (.t (.t (.t (.t (.t .h)))))))).pk (.t (.t (.t (.t (.t (.t (.t .h)))))))).pk (.t (.t (.t (.t (.t (.t (.t (.t (.t .h)))))))))).pk (.t (.t (.t (.t (.t (.t (.t (.t (.t .h)))))))))).pk (.t (.t (.t (.t (.t (.t (.t (.t (.t (.t .h))))))))))
 exact ⟨A18, out.length, c20, A12, r_1.2.2.2.1.length, c13, A13, r_1.2.2.2.2.2.2.2.1.length, c14, A14, r_1.2.2.2.2.2.2.2.2.1.length, c15, A15, r_1.2.2.2.2.2.2.2.2.2.2.2.2.2.2.2.2.1.length, c16, A16, r_1.2.2.2.2.2.2.2.2.2.2.2.2.2.2.2.2.2.1.length, c17, A17, r_1.2.2.2.2.2.2.2.2.2.2.2.2.2.2.2.2.2.2.1.length, c18, g0, r_1.2.2.2.2.2.2.2.2.2.2.2.2.2.2.2.2.2.2.2.1.length, c19, k_24.len 0 rfl, k_24.len 2 rfl, k_24.len 4 rfl, k_24.len 5 rfl, k_24.len 7 rfl, k_24.len 8 rfl, k_24.len 9 rfl, k_24.shlen 10 rfl, rfl, k_24⟩
theorem c_r01_Same (a_ : List UInt8) (b : List UInt8) (A_a_ : Option Addr) (n_a_ : Nat) (c_a_ : Nat) (A_b : Option Addr) (n_b : Nat) (c_b : Nat) (h_a_ : Ro F w A_a_ (e8.all a_)) (hn_a_ : a_.length = n_a_) (hc_a_ : n_a_ ≤ c_a_) (h_b : Ro F w A_b (e8.all b)) (hn_b : b.length = n_b) (hc_b : n_b ≤ c_b) (k : Cx F O w w []) (r : Bool) (hm : m_r01_Same a_ b = some r) :
    Calls Try.prog 19 (vals [sl A_a_ n_a_ c_a_, sl A_b n_b c_b]) w (fun e w' => e = .returned (SV.val (.b r)) ∧ Cx F O w w' []) := by
 unfold m_r01_Same at hm
 subst hn_a_
 subst hn_b
 refine calz [sl A_a_ a_.length c_a_, sl A_b b.length c_b] Try.func19 rfl ?_
 refine W_seq <| Wq .a ?_
 refine W_seq <| W_seq <| Wq (.n 10 (.b (decide ((a_.length : Int) ≠ (b.length : Int)))) .a) ?_
 refine W_pz ((a_.length : Int) ≠ (b.length : Int)) (fun hc => ?_) fun hc => ?_
 · rw [if_pos hc] at hm
   refine W_seq <| Wq (.n 4 (.b false) .z) ?_
   refine W_ret (At_tr ?_)
   obtain rfl := si hm
   refine At_rz [.b false] qe ?_
   exact ⟨rfl, k⟩
 rw [if_neg hc] at hm
 refine W_skip <| At_go <| W_seq <| W_seq <| Wq (.n 5 (I 0) (.s .a)) ?_
 refine W_block <| W_lp (m_r01_Same_l0 a_ b) (fun s L wr => ∃ (i : Int), i = s ∧ L = [(0, sl A_a_ a_.length c_a_), (1, sl A_b b.length c_b), (5, I i)] ∧ Cx F O w wr []) (0 : Int) r hm ⟨(0 : Int), rfl, rfl, k⟩ (by kernel_rfl) ?_
 intro s0_ L_ w_ y0 hrel hstep hr0
 obtain ⟨i, rfl, rfl, k_⟩ := hrel
 have hm := hstep; simp only [m_r01_Same_l0] at hm
 clear hstep
 refine W_seq <| W_seq <| Wq (.n 14 (.b (decide (i < (a_.length : Int)))) .a) ?_
 refine W_pz (i < (a_.length : Int)) (fun hc1 => ?_) fun hc1 => ?_
 · rw [if_pos hc1] at hm
   refine W_skip <| At_go <| W_seq <| W_block <| W_seq ?_
   obtain ⟨x_0, zh0, hm⟩ := ob hm
   obtain ⟨x_1, zh1, hm⟩ := ob hm
   refine W_d ws_mixed (by kernel_rfl) (.n 25 (.b (decide (x_0 ≠ x_1))) (.s .a)) (fun m => qW (h_a_.cx (k_.drew m)) zh0 rfl (.u8 x_0) rfl <| qW (h_b.cx (k_.drew m)) zh1 rfl (.u8 x_1) rfl <| qe) (by kernel_rfl) (fun m_ => ?_)
   have k_1 := k_.drew m_
   refine At_go <| W_pz (x_0 ≠ x_1) (fun hc2 => ?_) fun hc2 => ?_
   · rw [if_pos hc2] at hm
     refine W_seq <| Wq (.n 4 (.b false) .z) ?_
     refine W_ret (At_ir (At_tr (At_tr (At_ir (At_tr ?_)))))
     have hm := exit_of hm hr0
     obtain rfl := si hm
     refine At_rz [.b false] qe ?_
     exact ⟨rfl, k_1⟩
   rw [if_neg hc2] at hm
   refine W_skip <| At_in <| At_go <| W_q [] (.n 5 (I (w64 (i + 1))) (.s (.kk .z))) qe (by kernel_rfl) ?_
   exact At_rd (w64 (i + 1)) (Option.some.inj hm).symm ⟨w64 (i + 1), rfl, rfl, k_1⟩ (by kernel_rfl)
 rw [if_neg hc1] at hm
 refine W_exit (At_te (At_te (At_ie ?_)))
 have hm := exit_of hm hr0
 refine At_go <| W_seq <| Wq (.n 4 (.b true) .z) ?_
 refine W_ret ?_
 obtain rfl := si hm
 refine At_rz [.b true] qe ?_
 exact ⟨rfl, k_⟩
theorem c_top_same (a_ : List UInt8) (b : List UInt8) (A_a_ : Option Addr) (n_a_ : Nat) (c_a_ : Nat) (A_b : Option Addr) (n_b : Nat) (c_b : Nat) (h_a_ : Ro F w A_a_ (e8.all a_)) (hn_a_ : a_.length = n_a_) (hc_a_ : n_a_ ≤ c_a_) (h_b : Ro F w A_b (e8.all b)) (hn_b : b.length = n_b) (hc_b : n_b ≤ c_b) (k : Cx F O w w []) (r : Bool) (hm : m_top_same a_ b = some r) :
    Calls Try.prog 8 (vals [sl A_a_ n_a_ c_a_, sl A_b n_b c_b]) w (fun e w' => e = .returned (SV.val (.b r)) ∧ Cx F O w w' []) := by
 unfold m_top_same at hm
 subst hn_a_
 subst hn_b
 refine calz [sl A_a_ a_.length c_a_, sl A_b b.length c_b] Try.func8 rfl ?_
 refine W_seq <| Wq .a ?_
 refine W_seq <| W_reg <| We 2 (.n 5 (sl A_a_ a_.length c_a_) (.n 6 (sl A_b b.length c_b) .z)) ?_
 refine WL_op ?_
 obtain ⟨r_, h_r_, hm⟩ := ob hm
 refine Op_cz 7 ws_go19 (c_r01_Same (F := N0) (O := N0) _ _ _ _ _ _ _ _ (Ro.n0 (h_a_.cx k)) rfl hc_a_ (Ro.n0 (h_b.cx k)) rfl hc_b (Cx.refl _) _ h_r_) ?_
 rintro e_ w_ ⟨rfl, k_⟩
 have k_1 := k.call k_
 refine ⟨.b r_, rfl, ?_⟩
 refine We 1 (.n 4 (.b r_) .z) ?_
 refine Wn <| W_ret ?_
 obtain rfl := si hm
 refine At_rz [.b r_] qe ?_
 exact ⟨rfl, k_1⟩
theorem c_xof_Stream_At (x_s_kind : Int) (x_s_full : Int) (x_s_code : UInt32) (x_s_total : UInt64) (x_s_known : Bool) (x_key : List UInt8) (x_salt : List UInt8) (x_personal : List UInt8) (x_n_kind : Int) (x_n_digest : Int) (x_n_block : List UInt8) (x_n_key : List UInt8) (x_n_last : Bool) (x_n_written : UInt64) (x_n_e_h : Vec UInt64 8) (x_n_e_count_Lo : UInt64) (x_n_e_count_Hi : UInt64) (x_n_e_held : List UInt8) (x_n_e_block : Int) (x_root : List UInt8) (x_at : UInt64) (x_now : Vec UInt8 64) (x_have : Int) (g_x : Nat) (A_x_key : Option Addr) (n_x_key : Nat) (c_x_key : Nat) (A_x_salt : Option Addr) (n_x_salt : Nat) (c_x_salt : Nat) (A_x_personal : Option Addr) (n_x_personal : Nat) (c_x_personal : Nat) (g_x_n : Nat) (A_x_n_block : Option Addr) (n_x_n_block : Nat) (c_x_n_block : Nat) (A_x_n_key : Option Addr) (n_x_n_key : Nat) (c_x_n_key : Nat) (g_x_n_e : Nat) (A_x_n_e_held : Option Addr) (n_x_n_e_held : Nat) (c_x_n_e_held : Nat) (g_x_root : Nat) (n_x_root : Nat) (c_x_root : Nat) (h_x_root : Ro F w (some ⟨g_x_root, 0, none⟩) (e8.all x_root)) (hn_x_root : x_root.length = n_x_root) (hc_x_root : n_x_root ≤ c_x_root) (k : Cx F O w w [Bx 52 g_x [I x_s_kind, I x_s_full, .u32 x_s_code, .u64 x_s_total, .b x_s_known, sl A_x_key n_x_key c_x_key, sl A_x_salt n_x_salt c_x_salt, sl A_x_personal n_x_personal c_x_personal, pt g_x_n 0, sl (some ⟨g_x_root, 0, none⟩) n_x_root c_x_root, .u64 x_at, .ar e8 x_now, I x_have, .v (.func (.func 30) ⟨SV.vals [pt g_x 0]⟩ ⟨SV.vals []⟩)], Ow e8 A_x_key n_x_key c_x_key x_key, Ow e8 A_x_salt n_x_salt c_x_salt x_salt, Ow e8 A_x_personal n_x_personal c_x_personal x_personal, Bx 77 g_x_n [I x_n_kind, I x_n_digest, sl A_x_n_block n_x_n_block c_x_n_block, sl A_x_n_key n_x_n_key c_x_n_key, .b x_n_last, .u64 x_n_written, .v (.iface 114 (SV.val (pt g_x_n_e 0)))], Ow e8 A_x_n_block n_x_n_block c_x_n_block x_n_block, Ow e8 A_x_n_key n_x_n_key c_x_n_key x_n_key, Bx 120 g_x_n_e [.ar e64 x_n_e_h, .u64 x_n_e_count_Lo, .u64 x_n_e_count_Hi, sl A_x_n_e_held n_x_n_e_held c_x_n_e_held, I x_n_e_block, .v (.func (.func 62) ⟨SV.vals []⟩ ⟨SV.vals []⟩), .v (.func (.func 63) ⟨SV.vals []⟩ ⟨SV.vals []⟩)], Ow e8 A_x_n_e_held n_x_n_e_held c_x_n_e_held x_n_e_held]) (r : (UInt64 × Vec UInt64 8 × UInt64 × UInt64 × List UInt8 × Int × Int × Int × List UInt8 × List UInt8 × Bool × UInt64 × Int × Int × UInt32 × UInt64 × Bool × List UInt8 × List UInt8 × List UInt8 × UInt64 × Vec UInt8 64 × Int)) (hm : m_xof_Stream_At x_s_kind x_s_full x_s_code x_s_total x_s_known x_key x_salt x_personal x_n_kind x_n_digest x_n_block x_n_key x_n_last x_n_written x_n_e_h x_n_e_count_Lo x_n_e_count_Hi x_n_e_held x_n_e_block x_root x_at x_now x_have = some r) :
    Calls Try.prog 10 (vals [pt g_x 0]) w (fun e w' => ∃ A n c A1 n1 c1 A2 n2 c2 A3 n3 c3 A4 n4 c4 A5 n5 c5, r.2.2.2.2.1.length = n ∧ r.2.2.2.2.2.2.2.2.1.length = n1 ∧ r.2.2.2.2.2.2.2.2.2.1.length = n2 ∧ r.2.2.2.2.2.2.2.2.2.2.2.2.2.2.2.2.2.1.length = n3 ∧ r.2.2.2.2.2.2.2.2.2.2.2.2.2.2.2.2.2.2.1.length = n4 ∧ r.2.2.2.2.2.2.2.2.2.2.2.2.2.2.2.2.2.2.2.1.length = n5 ∧ e = .returned (SV.val (.u64 r.1)) ∧ Cx F O w w' [Bx 120 g_x_n_e [.ar e64 r.2.1, .u64 r.2.2.1, .u64 r.2.2.2.1, sl A n c, I r.2.2.2.2.2.1, .v (.func (.func 62) ⟨SV.vals []⟩ ⟨SV.vals []⟩), .v (.func (.func 63) ⟨SV.vals []⟩ ⟨SV.vals []⟩)], Ow e8 A n c r.2.2.2.2.1, Bx 77 g_x_n [I r.2.2.2.2.2.2.1, I r.2.2.2.2.2.2.2.1, sl A1 n1 c1, sl A2 n2 c2, .b r.2.2.2.2.2.2.2.2.2.2.1, .u64 r.2.2.2.2.2.2.2.2.2.2.2.1, .v (.iface 114 (SV.val (pt g_x_n_e 0)))], Ow e8 A1 n1 c1 r.2.2.2.2.2.2.2.2.1, Ow e8 A2 n2 c2 r.2.2.2.2.2.2.2.2.2.1, Bx 52 g_x [I r.2.2.2.2.2.2.2.2.2.2.2.2.1, I r.2.2.2.2.2.2.2.2.2.2.2.2.2.1, .u32 r.2.2.2.2.2.2.2.2.2.2.2.2.2.2.1, .u64 r.2.2.2.2.2.2.2.2.2.2.2.2.2.2.2.1, .b r.2.2.2.2.2.2.2.2.2.2.2.2.2.2.2.2.1, sl A3 n3 c3, sl A4 n4 c4, sl A5 n5 c5, pt g_x_n 0, sl (some ⟨g_x_root, 0, none⟩) n_x_root c_x_root, .u64 r.2.2.2.2.2.2.2.2.2.2.2.2.2.2.2.2.2.2.2.2.1, .ar e8 r.2.2.2.2.2.2.2.2.2.2.2.2.2.2.2.2.2.2.2.2.2.1, I r.2.2.2.2.2.2.2.2.2.2.2.2.2.2.2.2.2.2.2.2.2.2, .v (.func (.func 30) ⟨SV.vals [pt g_x 0]⟩ ⟨SV.vals []⟩)], Ow e8 A3 n3 c3 r.2.2.2.2.2.2.2.2.2.2.2.2.2.2.2.2.2.1, Ow e8 A4 n4 c4 r.2.2.2.2.2.2.2.2.2.2.2.2.2.2.2.2.2.2.1, Ow e8 A5 n5 c5 r.2.2.2.2.2.2.2.2.2.2.2.2.2.2.2.2.2.2.2.1]) := by
 unfold m_xof_Stream_At at hm
 obtain rfl := k.len 1 rfl
 obtain rfl := k.len 2 rfl
 obtain rfl := k.len 3 rfl
 obtain rfl := k.len 5 rfl
 obtain rfl := k.len 6 rfl
 obtain rfl := k.len 8 rfl
 subst hn_x_root
 refine calz [pt g_x 0] Try.func10 rfl ?_
 refine W_seq <| Wq .a ?_
 refine W_seq <| W_seq <| W_reg <| We 1 (.n 3 (pt g_x 0) .a) ?_
 refine WL_op ?_
 obtain ⟨r_, h_r_, hm⟩ := ob hm
 obtain ⟨F1, O1, kin, hO, hre, hF, hb⟩ := k.go (.i (.i (.i (.i (.i (.i (.i (.i (.i .e)))))))))
 refine Op_cz 4 ws_go16 (c_xof_Stream_none_s1 (F := F1) (O := O1) _ _ _ _ _ _ _ _ _ _ _ _ _ _ _ _ _ _ _ _ _ _ _ _ _ _ _ _ _ _ _ _ _ _ _ _ _ _ _ _ _ _ _ _ _ _ _ (Ro.of_old h_x_root k hF) rfl hc_x_root kin _ h_r_) ?_
 rintro e_ w_ ⟨A0, _, c0, A6, _, c6, A7, _, c7, A8, _, c8, A9, _, c9, A10, _, c10, rfl, rfl, rfl, rfl, rfl, rfl, rfl, k_⟩
 have k_1 := hb w_ _ _ k_ (.c (.c (.c (.c (.c (.c (.c (.c (.c .n)))))))))
 refine ⟨.b false, rfl, ?_⟩
 refine Wn <| W_cond false (by kernel_rfl) (fun h => by cases h) (fun _ => ?_)
 refine W_skip <| At_go <| W_seq <| Wa (.n 2 (.u64 r_.2.2.2.2.2.2.2.2.2.2.2.2.2.2.2.2.2.2.2.1) .z) (qs g_x 0 <| qs g_x 0 <| qB k_1 5 rfl 10 (.u64 r_.2.2.2.2.2.2.2.2.2.2.2.2.2.2.2.2.2.2.2.1) (by kernel_rfl) <| qe) ?_
 refine W_ret ?_
 obtain rfl := si hm
 refine At_rz [.u64 r_.2.2.2.2.2.2.2.2.2.2.2.2.2.2.2.2.2.2.2.1] qe ?_
 exact ⟨A0, r_.2.2.2.1.length, c0, A6, r_.2.2.2.2.2.2.2.1.length, c6, A7, r_.2.2.2.2.2.2.2.2.1.length, c7, A8, r_.2.2.2.2.2.2.2.2.2.2.2.2.2.2.2.2.1.length, c8, A9, r_.2.2.2.2.2.2.2.2.2.2.2.2.2.2.2.2.2.1.length, c9, A10, r_.2.2.2.2.2.2.2.2.2.2.2.2.2.2.2.2.2.2.1.length, c10, k_1.len 1 rfl, k_1.len 3 rfl, k_1.len 4 rfl, k_1.len 6 rfl, k_1.len 7 rfl, k_1.len 8 rfl, rfl, k_1⟩
theorem c_xof_Stream_Left (x_s_kind : Int) (x_s_full : Int) (x_s_code : UInt32) (x_s_total : UInt64) (x_s_known : Bool) (x_key : List UInt8) (x_salt : List UInt8) (x_personal : List UInt8) (x_n_kind : Int) (x_n_digest : Int) (x_n_block : List UInt8) (x_n_key : List UInt8) (x_n_last : Bool) (x_n_written : UInt64) (x_n_e_h : Vec UInt64 8) (x_n_e_count_Lo : UInt64) (x_n_e_count_Hi : UInt64) (x_n_e_held : List UInt8) (x_n_e_block : Int) (x_root : List UInt8) (x_at : UInt64) (x_now : Vec UInt8 64) (x_have : Int) (g_x : Nat) (A_x_key : Option Addr) (n_x_key : Nat) (c_x_key : Nat) (A_x_salt : Option Addr) (n_x_salt : Nat) (c_x_salt : Nat) (A_x_personal : Option Addr) (n_x_personal : Nat) (c_x_personal : Nat) (g_x_n : Nat) (A_x_n_block : Option Addr) (n_x_n_block : Nat) (c_x_n_block : Nat) (A_x_n_key : Option Addr) (n_x_n_key : Nat) (c_x_n_key : Nat) (g_x_n_e : Nat) (A_x_n_e_held : Option Addr) (n_x_n_e_held : Nat) (c_x_n_e_held : Nat) (g_x_root : Nat) (n_x_root : Nat) (c_x_root : Nat) (h_x_root : Ro F w (some ⟨g_x_root, 0, none⟩) (e8.all x_root)) (hn_x_root : x_root.length = n_x_root) (hc_x_root : n_x_root ≤ c_x_root) (k : Cx F O w w [Bx 52 g_x [I x_s_kind, I x_s_full, .u32 x_s_code, .u64 x_s_total, .b x_s_known, sl A_x_key n_x_key c_x_key, sl A_x_salt n_x_salt c_x_salt, sl A_x_personal n_x_personal c_x_personal, pt g_x_n 0, sl (some ⟨g_x_root, 0, none⟩) n_x_root c_x_root, .u64 x_at, .ar e8 x_now, I x_have, .v (.func (.func 30) ⟨SV.vals [pt g_x 0]⟩ ⟨SV.vals []⟩)], Ow e8 A_x_key n_x_key c_x_key x_key, Ow e8 A_x_salt n_x_salt c_x_salt x_salt, Ow e8 A_x_personal n_x_personal c_x_personal x_personal, Bx 77 g_x_n [I x_n_kind, I x_n_digest, sl A_x_n_block n_x_n_block c_x_n_block, sl A_x_n_key n_x_n_key c_x_n_key, .b x_n_last, .u64 x_n_written, .v (.iface 114 (SV.val (pt g_x_n_e 0)))], Ow e8 A_x_n_block n_x_n_block c_x_n_block x_n_block, Ow e8 A_x_n_key n_x_n_key c_x_n_key x_n_key, Bx 120 g_x_n_e [.ar e64 x_n_e_h, .u64 x_n_e_count_Lo, .u64 x_n_e_count_Hi, sl A_x_n_e_held n_x_n_e_held c_x_n_e_held, I x_n_e_block, .v (.func (.func 62) ⟨SV.vals []⟩ ⟨SV.vals []⟩), .v (.func (.func 63) ⟨SV.vals []⟩ ⟨SV.vals []⟩)], Ow e8 A_x_n_e_held n_x_n_e_held c_x_n_e_held x_n_e_held]) (r : (UInt64 × Vec UInt64 8 × UInt64 × UInt64 × List UInt8 × Int × Int × Int × List UInt8 × List UInt8 × Bool × UInt64 × Int × Int × UInt32 × UInt64 × Bool × List UInt8 × List UInt8 × List UInt8 × UInt64 × Vec UInt8 64 × Int)) (hm : m_xof_Stream_Left x_s_kind x_s_full x_s_code x_s_total x_s_known x_key x_salt x_personal x_n_kind x_n_digest x_n_block x_n_key x_n_last x_n_written x_n_e_h x_n_e_count_Lo x_n_e_count_Hi x_n_e_held x_n_e_block x_root x_at x_now x_have = some r) :
    Calls Try.prog 11 (vals [pt g_x 0]) w (fun e w' => ∃ A n c A1 n1 c1 A2 n2 c2 A3 n3 c3 A4 n4 c4 A5 n5 c5, r.2.2.2.2.1.length = n ∧ r.2.2.2.2.2.2.2.2.1.length = n1 ∧ r.2.2.2.2.2.2.2.2.2.1.length = n2 ∧ r.2.2.2.2.2.2.2.2.2.2.2.2.2.2.2.2.2.1.length = n3 ∧ r.2.2.2.2.2.2.2.2.2.2.2.2.2.2.2.2.2.2.1.length = n4 ∧ r.2.2.2.2.2.2.2.2.2.2.2.2.2.2.2.2.2.2.2.1.length = n5 ∧ e = .returned (SV.val (.u64 r.1)) ∧ Cx F O w w' [Bx 120 g_x_n_e [.ar e64 r.2.1, .u64 r.2.2.1, .u64 r.2.2.2.1, sl A n c, I r.2.2.2.2.2.1, .v (.func (.func 62) ⟨SV.vals []⟩ ⟨SV.vals []⟩), .v (.func (.func 63) ⟨SV.vals []⟩ ⟨SV.vals []⟩)], Ow e8 A n c r.2.2.2.2.1, Bx 77 g_x_n [I r.2.2.2.2.2.2.1, I r.2.2.2.2.2.2.2.1, sl A1 n1 c1, sl A2 n2 c2, .b r.2.2.2.2.2.2.2.2.2.2.1, .u64 r.2.2.2.2.2.2.2.2.2.2.2.1, .v (.iface 114 (SV.val (pt g_x_n_e 0)))], Ow e8 A1 n1 c1 r.2.2.2.2.2.2.2.2.1, Ow e8 A2 n2 c2 r.2.2.2.2.2.2.2.2.2.1, Bx 52 g_x [I r.2.2.2.2.2.2.2.2.2.2.2.2.1, I r.2.2.2.2.2.2.2.2.2.2.2.2.2.1, .u32 r.2.2.2.2.2.2.2.2.2.2.2.2.2.2.1, .u64 r.2.2.2.2.2.2.2.2.2.2.2.2.2.2.2.1, .b r.2.2.2.2.2.2.2.2.2.2.2.2.2.2.2.2.1, sl A3 n3 c3, sl A4 n4 c4, sl A5 n5 c5, pt g_x_n 0, sl (some ⟨g_x_root, 0, none⟩) n_x_root c_x_root, .u64 r.2.2.2.2.2.2.2.2.2.2.2.2.2.2.2.2.2.2.2.2.1, .ar e8 r.2.2.2.2.2.2.2.2.2.2.2.2.2.2.2.2.2.2.2.2.2.1, I r.2.2.2.2.2.2.2.2.2.2.2.2.2.2.2.2.2.2.2.2.2.2, .v (.func (.func 30) ⟨SV.vals [pt g_x 0]⟩ ⟨SV.vals []⟩)], Ow e8 A3 n3 c3 r.2.2.2.2.2.2.2.2.2.2.2.2.2.2.2.2.2.1, Ow e8 A4 n4 c4 r.2.2.2.2.2.2.2.2.2.2.2.2.2.2.2.2.2.2.1, Ow e8 A5 n5 c5 r.2.2.2.2.2.2.2.2.2.2.2.2.2.2.2.2.2.2.2.1]) := by
 unfold m_xof_Stream_Left at hm
 obtain rfl := k.len 1 rfl
 obtain rfl := k.len 2 rfl
 obtain rfl := k.len 3 rfl
 obtain rfl := k.len 5 rfl
 obtain rfl := k.len 6 rfl
 obtain rfl := k.len 8 rfl
 subst hn_x_root
 refine calz [pt g_x 0] Try.func11 rfl ?_
 refine W_seq <| Wq .a ?_
 refine W_seq <| W_seq <| W_reg <| We 1 (.n 3 (pt g_x 0) .a) ?_
 refine WL_op ?_
 obtain ⟨r_, h_r_, hm⟩ := ob hm
 obtain ⟨F1, O1, kin, hO, hre, hF, hb⟩ := k.go (.i (.i (.i (.i (.i (.i (.i (.i (.i .e)))))))))
 refine Op_cz 4 ws_go16 (c_xof_Stream_none_s1 (F := F1) (O := O1) _ _ _ _ _ _ _ _ _ _ _ _ _ _ _ _ _ _ _ _ _ _ _ _ _ _ _ _ _ _ _ _ _ _ _ _ _ _ _ _ _ _ _ _ _ _ _ (Ro.of_old h_x_root k hF) rfl hc_x_root kin _ h_r_) ?_
 rintro e_ w_ ⟨A0, _, c0, A6, _, c6, A7, _, c7, A8, _, c8, A9, _, c9, A10, _, c10, rfl, rfl, rfl, rfl, rfl, rfl, rfl, k_⟩
 have k_1 := hb w_ _ _ k_ (.c (.c (.c (.c (.c (.c (.c (.c (.c .n)))))))))
 refine ⟨.b false, rfl, ?_⟩
 refine Wn <| W_cond false (by kernel_rfl) (fun h => by cases h) (fun _ => ?_)
 refine W_skip <| At_go <| W_seq <| W_d ws_mixed (by kernel_rfl) (.n 2 (.u64 (r_.2.2.2.2.2.2.2.2.2.2.2.2.2.2.1 - r_.2.2.2.2.2.2.2.2.2.2.2.2.2.2.2.2.2.2.2.1)) .z) (fun m => qs g_x 0 <| qs g_x 0 <| qs g_x 0 <| qB (k_1.drew m) 5 rfl 3 (.u64 r_.2.2.2.2.2.2.2.2.2.2.2.2.2.2.1) (by kernel_rfl) <| qs g_x 0 <| qs g_x 0 <| qB (k_1.drew m) 5 rfl 10 (.u64 r_.2.2.2.2.2.2.2.2.2.2.2.2.2.2.2.2.2.2.2.1) (by kernel_rfl) <| qe) (by kernel_rfl) (fun m_ => ?_)
 have k_2 := k_1.drew m_
 refine At_go <| W_ret ?_
 obtain rfl := si hm
 refine At_rz [.u64 (r_.2.2.2.2.2.2.2.2.2.2.2.2.2.2.1 - r_.2.2.2.2.2.2.2.2.2.2.2.2.2.2.2.2.2.2.2.1)] qe ?_
 exact ⟨A0, r_.2.2.2.1.length, c0, A6, r_.2.2.2.2.2.2.2.1.length, c6, A7, r_.2.2.2.2.2.2.2.2.1.length, c7, A8, r_.2.2.2.2.2.2.2.2.2.2.2.2.2.2.2.2.1.length, c8, A9, r_.2.2.2.2.2.2.2.2.2.2.2.2.2.2.2.2.2.1.length, c9, A10, r_.2.2.2.2.2.2.2.2.2.2.2.2.2.2.2.2.2.2.1.length, c10, k_2.len 1 rfl, k_2.len 3 rfl, k_2.len 4 rfl, k_2.len 6 rfl, k_2.len 7 rfl, k_2.len 8 rfl, rfl, k_2⟩
theorem c_xof_Stream_At_s1 (x_s_kind : Int) (x_s_full : Int) (x_s_code : UInt32) (x_s_total : UInt64) (x_s_known : Bool) (x_key : List UInt8) (x_salt : List UInt8) (x_personal : List UInt8) (x_n_kind : Int) (x_n_digest : Int) (x_n_block : List UInt8) (x_n_key : List UInt8) (x_n_last : Bool) (x_n_written : UInt64) (x_n_e_h : Vec UInt64 8) (x_n_e_count_Lo : UInt64) (x_n_e_count_Hi : UInt64) (x_n_e_held : List UInt8) (x_n_e_block : Int) (x_at : UInt64) (x_now : Vec UInt8 64) (x_have : Int) (g_x : Nat) (A_x_key : Option Addr) (n_x_key : Nat) (c_x_key : Nat) (A_x_salt : Option Addr) (n_x_salt : Nat) (c_x_salt : Nat) (A_x_personal : Option Addr) (n_x_personal : Nat) (c_x_personal : Nat) (g_x_n : Nat) (A_x_n_block : Option Addr) (n_x_n_block : Nat) (c_x_n_block : Nat) (A_x_n_key : Option Addr) (n_x_n_key : Nat) (c_x_n_key : Nat) (g_x_n_e : Nat) (A_x_n_e_held : Option Addr) (n_x_n_e_held : Nat) (c_x_n_e_held : Nat) (k : Cx F O w w [Bx 52 g_x [I x_s_kind, I x_s_full, .u32 x_s_code, .u64 x_s_total, .b x_s_known, sl A_x_key n_x_key c_x_key, sl A_x_salt n_x_salt c_x_salt, sl A_x_personal n_x_personal c_x_personal, pt g_x_n 0, sl none 0 0, .u64 x_at, .ar e8 x_now, I x_have, .v (.func (.func 28) ⟨SV.vals [pt g_x 0]⟩ ⟨SV.vals []⟩)], Ow e8 A_x_key n_x_key c_x_key x_key, Ow e8 A_x_salt n_x_salt c_x_salt x_salt, Ow e8 A_x_personal n_x_personal c_x_personal x_personal, Bx 77 g_x_n [I x_n_kind, I x_n_digest, sl A_x_n_block n_x_n_block c_x_n_block, sl A_x_n_key n_x_n_key c_x_n_key, .b x_n_last, .u64 x_n_written, .v (.iface 114 (SV.val (pt g_x_n_e 0)))], Ow e8 A_x_n_block n_x_n_block c_x_n_block x_n_block, Ow e8 A_x_n_key n_x_n_key c_x_n_key x_n_key, Bx 120 g_x_n_e [.ar e64 x_n_e_h, .u64 x_n_e_count_Lo, .u64 x_n_e_count_Hi, sl A_x_n_e_held n_x_n_e_held c_x_n_e_held, I x_n_e_block, .v (.func (.func 62) ⟨SV.vals []⟩ ⟨SV.vals []⟩), .v (.func (.func 63) ⟨SV.vals []⟩ ⟨SV.vals []⟩)], Ow e8 A_x_n_e_held n_x_n_e_held c_x_n_e_held x_n_e_held]) (r : (UInt64 × Vec UInt64 8 × UInt64 × UInt64 × List UInt8 × Int × Int × Int × List UInt8 × List UInt8 × Bool × UInt64 × Int × Int × UInt32 × UInt64 × Bool × List UInt8 × List UInt8 × List UInt8 × UInt64 × Vec UInt8 64 × Int)) (hm : m_xof_Stream_At_s1 x_s_kind x_s_full x_s_code x_s_total x_s_known x_key x_salt x_personal x_n_kind x_n_digest x_n_block x_n_key x_n_last x_n_written x_n_e_h x_n_e_count_Lo x_n_e_count_Hi x_n_e_held x_n_e_block x_at x_now x_have = some r) :
    Calls Try.prog 10 (vals [pt g_x 0]) w (fun e w' => ∃ A n c A1 n1 c1 A2 n2 c2 A3 n3 c3 A4 n4 c4 A5 n5 c5, r.2.2.2.2.1.length = n ∧ r.2.2.2.2.2.2.2.2.1.length = n1 ∧ r.2.2.2.2.2.2.2.2.2.1.length = n2 ∧ r.2.2.2.2.2.2.2.2.2.2.2.2.2.2.2.2.2.1.length = n3 ∧ r.2.2.2.2.2.2.2.2.2.2.2.2.2.2.2.2.2.2.1.length = n4 ∧ r.2.2.2.2.2.2.2.2.2.2.2.2.2.2.2.2.2.2.2.1.length = n5 ∧ e = .returned (SV.val (.u64 r.1)) ∧ Cx F O w w' [Bx 120 g_x_n_e [.ar e64 r.2.1, .u64 r.2.2.1, .u64 r.2.2.2.1, sl A n c, I r.2.2.2.2.2.1, .v (.func (.func 62) ⟨SV.vals []⟩ ⟨SV.vals []⟩), .v (.func (.func 63) ⟨SV.vals []⟩ ⟨SV.vals []⟩)], Ow e8 A n c r.2.2.2.2.1, Bx 77 g_x_n [I r.2.2.2.2.2.2.1, I r.2.2.2.2.2.2.2.1, sl A1 n1 c1, sl A2 n2 c2, .b r.2.2.2.2.2.2.2.2.2.2.1, .u64 r.2.2.2.2.2.2.2.2.2.2.2.1, .v (.iface 114 (SV.val (pt g_x_n_e 0)))], Ow e8 A1 n1 c1 r.2.2.2.2.2.2.2.2.1, Ow e8 A2 n2 c2 r.2.2.2.2.2.2.2.2.2.1, Bx 52 g_x [I r.2.2.2.2.2.2.2.2.2.2.2.2.1, I r.2.2.2.2.2.2.2.2.2.2.2.2.2.1, .u32 r.2.2.2.2.2.2.2.2.2.2.2.2.2.2.1, .u64 r.2.2.2.2.2.2.2.2.2.2.2.2.2.2.2.1, .b r.2.2.2.2.2.2.2.2.2.2.2.2.2.2.2.2.1, sl A3 n3 c3, sl A4 n4 c4, sl A5 n5 c5, pt g_x_n 0, sl none 0 0, .u64 r.2.2.2.2.2.2.2.2.2.2.2.2.2.2.2.2.2.2.2.2.1, .ar e8 r.2.2.2.2.2.2.2.2.2.2.2.2.2.2.2.2.2.2.2.2.2.1, I r.2.2.2.2.2.2.2.2.2.2.2.2.2.2.2.2.2.2.2.2.2.2, .v (.func (.func 28) ⟨SV.vals [pt g_x 0]⟩ ⟨SV.vals []⟩)], Ow e8 A3 n3 c3 r.2.2.2.2.2.2.2.2.2.2.2.2.2.2.2.2.2.1, Ow e8 A4 n4 c4 r.2.2.2.2.2.2.2.2.2.2.2.2.2.2.2.2.2.2.1, Ow e8 A5 n5 c5 r.2.2.2.2.2.2.2.2.2.2.2.2.2.2.2.2.2.2.2.1]) := by
 unfold m_xof_Stream_At_s1 at hm
 obtain rfl := k.len 1 rfl
 obtain rfl := k.len 2 rfl
 obtain rfl := k.len 3 rfl
 obtain rfl := k.len 5 rfl
 obtain rfl := k.len 6 rfl
 obtain rfl := k.len 8 rfl
 refine calz [pt g_x 0] Try.func10 rfl ?_
 refine W_seq <| Wq .a ?_
 refine W_seq <| W_seq <| W_reg <| We 1 (.n 3 (pt g_x 0) .a) ?_
 refine WL_op ?_
 obtain ⟨r_, h_r_, hm⟩ := ob hm
 obtain ⟨F1, O1, kin, hO, hre, hF, hb⟩ := k.go (.i (.i (.i (.i (.i (.i (.i (.i (.i .e)))))))))
 refine Op_cz 4 ws_go16 (c_xof_Stream_none (F := F1) (O := O1) _ _ _ _ _ _ _ _ _ _ _ _ _ _ _ _ _ _ _ _ _ _ _ _ _ _ _ _ _ _ _ _ _ _ _ _ _ _ _ _ _ _ _ kin _ h_r_) ?_
 rintro e_ w_ ⟨A0, _, c0, A6, _, c6, A7, _, c7, A8, _, c8, A9, _, c9, A10, _, c10, rfl, rfl, rfl, rfl, rfl, rfl, rfl, k_⟩
 have k_1 := hb w_ _ _ k_ (.c (.c (.c (.c (.c (.c (.c (.c (.c .n)))))))))
 refine ⟨.b false, rfl, ?_⟩
 refine Wn <| W_cond false (by kernel_rfl) (fun h => by cases h) (fun _ => ?_)
 refine W_skip <| At_go <| W_seq <| Wa (.n 2 (.u64 r_.2.2.2.2.2.2.2.2.2.2.2.2.2.2.2.2.2.2.2.1) .z) (qs g_x 0 <| qs g_x 0 <| qB k_1 5 rfl 10 (.u64 r_.2.2.2.2.2.2.2.2.2.2.2.2.2.2.2.2.2.2.2.1) (by kernel_rfl) <| qe) ?_
 refine W_ret ?_
 obtain rfl := si hm
 refine At_rz [.u64 r_.2.2.2.2.2.2.2.2.2.2.2.2.2.2.2.2.2.2.2.1] qe ?_
 exact ⟨A0, r_.2.2.2.1.length, c0, A6, r_.2.2.2.2.2.2.2.1.length, c6, A7, r_.2.2.2.2.2.2.2.2.1.length, c7, A8, r_.2.2.2.2.2.2.2.2.2.2.2.2.2.2.2.2.1.length, c8, A9, r_.2.2.2.2.2.2.2.2.2.2.2.2.2.2.2.2.2.1.length, c9, A10, r_.2.2.2.2.2.2.2.2.2.2.2.2.2.2.2.2.2.2.1.length, c10, k_1.len 1 rfl, k_1.len 3 rfl, k_1.len 4 rfl, k_1.len 6 rfl, k_1.len 7 rfl, k_1.len 8 rfl, rfl, k_1⟩
theorem c_xof_Stream_Left_s1 (x_s_kind : Int) (x_s_full : Int) (x_s_code : UInt32) (x_s_total : UInt64) (x_s_known : Bool) (x_key : List UInt8) (x_salt : List UInt8) (x_personal : List UInt8) (x_n_kind : Int) (x_n_digest : Int) (x_n_block : List UInt8) (x_n_key : List UInt8) (x_n_last : Bool) (x_n_written : UInt64) (x_n_e_h : Vec UInt64 8) (x_n_e_count_Lo : UInt64) (x_n_e_count_Hi : UInt64) (x_n_e_held : List UInt8) (x_n_e_block : Int) (x_at : UInt64) (x_now : Vec UInt8 64) (x_have : Int) (g_x : Nat) (A_x_key : Option Addr) (n_x_key : Nat) (c_x_key : Nat) (A_x_salt : Option Addr) (n_x_salt : Nat) (c_x_salt : Nat) (A_x_personal : Option Addr) (n_x_personal : Nat) (c_x_personal : Nat) (g_x_n : Nat) (A_x_n_block : Option Addr) (n_x_n_block : Nat) (c_x_n_block : Nat) (A_x_n_key : Option Addr) (n_x_n_key : Nat) (c_x_n_key : Nat) (g_x_n_e : Nat) (A_x_n_e_held : Option Addr) (n_x_n_e_held : Nat) (c_x_n_e_held : Nat) (k : Cx F O w w [Bx 52 g_x [I x_s_kind, I x_s_full, .u32 x_s_code, .u64 x_s_total, .b x_s_known, sl A_x_key n_x_key c_x_key, sl A_x_salt n_x_salt c_x_salt, sl A_x_personal n_x_personal c_x_personal, pt g_x_n 0, sl none 0 0, .u64 x_at, .ar e8 x_now, I x_have, .v (.func (.func 28) ⟨SV.vals [pt g_x 0]⟩ ⟨SV.vals []⟩)], Ow e8 A_x_key n_x_key c_x_key x_key, Ow e8 A_x_salt n_x_salt c_x_salt x_salt, Ow e8 A_x_personal n_x_personal c_x_personal x_personal, Bx 77 g_x_n [I x_n_kind, I x_n_digest, sl A_x_n_block n_x_n_block c_x_n_block, sl A_x_n_key n_x_n_key c_x_n_key, .b x_n_last, .u64 x_n_written, .v (.iface 114 (SV.val (pt g_x_n_e 0)))], Ow e8 A_x_n_block n_x_n_block c_x_n_block x_n_block, Ow e8 A_x_n_key n_x_n_key c_x_n_key x_n_key, Bx 120 g_x_n_e [.ar e64 x_n_e_h, .u64 x_n_e_count_Lo, .u64 x_n_e_count_Hi, sl A_x_n_e_held n_x_n_e_held c_x_n_e_held, I x_n_e_block, .v (.func (.func 62) ⟨SV.vals []⟩ ⟨SV.vals []⟩), .v (.func (.func 63) ⟨SV.vals []⟩ ⟨SV.vals []⟩)], Ow e8 A_x_n_e_held n_x_n_e_held c_x_n_e_held x_n_e_held]) (r : (UInt64 × Vec UInt64 8 × UInt64 × UInt64 × List UInt8 × Int × Int × Int × List UInt8 × List UInt8 × Bool × UInt64 × Int × Int × UInt32 × UInt64 × Bool × List UInt8 × List UInt8 × List UInt8 × UInt64 × Vec UInt8 64 × Int)) (hm : m_xof_Stream_Left_s1 x_s_kind x_s_full x_s_code x_s_total x_s_known x_key x_salt x_personal x_n_kind x_n_digest x_n_block x_n_key x_n_last x_n_written x_n_e_h x_n_e_count_Lo x_n_e_count_Hi x_n_e_held x_n_e_block x_at x_now x_have = some r) :
    Calls Try.prog 11 (vals [pt g_x 0]) w (fun e w' => ∃ A n c A1 n1 c1 A2 n2 c2 A3 n3 c3 A4 n4 c4 A5 n5 c5, r.2.2.2.2.1.length = n ∧ r.2.2.2.2.2.2.2.2.1.length = n1 ∧ r.2.2.2.2.2.2.2.2.2.1.length = n2 ∧ r.2.2.2.2.2.2.2.2.2.2.2.2.2.2.2.2.2.1.length = n3 ∧ r.2.2.2.2.2.2.2.2.2.2.2.2.2.2.2.2.2.2.1.length = n4 ∧ r.2.2.2.2.2.2.2.2.2.2.2.2.2.2.2.2.2.2.2.1.length = n5 ∧ e = .returned (SV.val (.u64 r.1)) ∧ Cx F O w w' [Bx 120 g_x_n_e [.ar e64 r.2.1, .u64 r.2.2.1, .u64 r.2.2.2.1, sl A n c, I r.2.2.2.2.2.1, .v (.func (.func 62) ⟨SV.vals []⟩ ⟨SV.vals []⟩), .v (.func (.func 63) ⟨SV.vals []⟩ ⟨SV.vals []⟩)], Ow e8 A n c r.2.2.2.2.1, Bx 77 g_x_n [I r.2.2.2.2.2.2.1, I r.2.2.2.2.2.2.2.1, sl A1 n1 c1, sl A2 n2 c2, .b r.2.2.2.2.2.2.2.2.2.2.1, .u64 r.2.2.2.2.2.2.2.2.2.2.2.1, .v (.iface 114 (SV.val (pt g_x_n_e 0)))], Ow e8 A1 n1 c1 r.2.2.2.2.2.2.2.2.1, Ow e8 A2 n2 c2 r.2.2.2.2.2.2.2.2.2.1, Bx 52 g_x [I r.2.2.2.2.2.2.2.2.2.2.2.2.1, I r.2.2.2.2.2.2.2.2.2.2.2.2.2.1, .u32 r.2.2.2.2.2.2.2.2.2.2.2.2.2.2.1, .u64 r.2.2.2.2.2.2.2.2.2.2.2.2.2.2.2.1, .b r.2.2.2.2.2.2.2.2.2.2.2.2.2.2.2.2.1, sl A3 n3 c3, sl A4 n4 c4, sl A5 n5 c5, pt g_x_n 0, sl none 0 0, .u64 r.2.2.2.2.2.2.2.2.2.2.2.2.2.2.2.2.2.2.2.2.1, .ar e8 r.2.2.2.2.2.2.2.2.2.2.2.2.2.2.2.2.2.2.2.2.2.1, I r.2.2.2.2.2.2.2.2.2.2.2.2.2.2.2.2.2.2.2.2.2.2, .v (.func (.func 28) ⟨SV.vals [pt g_x 0]⟩ ⟨SV.vals []⟩)], Ow e8 A3 n3 c3 r.2.2.2.2.2.2.2.2.2.2.2.2.2.2.2.2.2.1, Ow e8 A4 n4 c4 r.2.2.2.2.2.2.2.2.2.2.2.2.2.2.2.2.2.2.1, Ow e8 A5 n5 c5 r.2.2.2.2.2.2.2.2.2.2.2.2.2.2.2.2.2.2.2.1]) := by
 unfold m_xof_Stream_Left_s1 at hm
 obtain rfl := k.len 1 rfl
 obtain rfl := k.len 2 rfl
 obtain rfl := k.len 3 rfl
 obtain rfl := k.len 5 rfl
 obtain rfl := k.len 6 rfl
 obtain rfl := k.len 8 rfl
 refine calz [pt g_x 0] Try.func11 rfl ?_
 refine W_seq <| Wq .a ?_
 refine W_seq <| W_seq <| W_reg <| We 1 (.n 3 (pt g_x 0) .a) ?_
 refine WL_op ?_
 obtain ⟨r_, h_r_, hm⟩ := ob hm
 obtain ⟨F1, O1, kin, hO, hre, hF, hb⟩ := k.go (.i (.i (.i (.i (.i (.i (.i (.i (.i .e)))))))))
 refine Op_cz 4 ws_go16 (c_xof_Stream_none (F := F1) (O := O1) _ _ _ _ _ _ _ _ _ _ _ _ _ _ _ _ _ _ _ _ _ _ _ _ _ _ _ _ _ _ _ _ _ _ _ _ _ _ _ _ _ _ _ kin _ h_r_) ?_
 rintro e_ w_ ⟨A0, _, c0, A6, _, c6, A7, _, c7, A8, _, c8, A9, _, c9, A10, _, c10, rfl, rfl, rfl, rfl, rfl, rfl, rfl, k_⟩
 have k_1 := hb w_ _ _ k_ (.c (.c (.c (.c (.c (.c (.c (.c (.c .n)))))))))
 refine ⟨.b false, rfl, ?_⟩
 refine Wn <| W_cond false (by kernel_rfl) (fun h => by cases h) (fun _ => ?_)
 refine W_skip <| At_go <| W_seq <| W_d ws_mixed (by kernel_rfl) (.n 2 (.u64 (r_.2.2.2.2.2.2.2.2.2.2.2.2.2.2.1 - r_.2.2.2.2.2.2.2.2.2.2.2.2.2.2.2.2.2.2.2.1)) .z) (fun m => qs g_x 0 <| qs g_x 0 <| qs g_x 0 <| qB (k_1.drew m) 5 rfl 3 (.u64 r_.2.2.2.2.2.2.2.2.2.2.2.2.2.2.1) (by kernel_rfl) <| qs g_x 0 <| qs g_x 0 <| qB (k_1.drew m) 5 rfl 10 (.u64 r_.2.2.2.2.2.2.2.2.2.2.2.2.2.2.2.2.2.2.2.1) (by kernel_rfl) <| qe) (by kernel_rfl) (fun m_ => ?_)
 have k_2 := k_1.drew m_
 refine At_go <| W_ret ?_
 obtain rfl := si hm
 refine At_rz [.u64 (r_.2.2.2.2.2.2.2.2.2.2.2.2.2.2.1 - r_.2.2.2.2.2.2.2.2.2.2.2.2.2.2.2.2.2.2.2.1)] qe ?_
 exact ⟨A0, r_.2.2.2.1.length, c0, A6, r_.2.2.2.2.2.2.2.1.length, c6, A7, r_.2.2.2.2.2.2.2.2.1.length, c7, A8, r_.2.2.2.2.2.2.2.2.2.2.2.2.2.2.2.2.1.length, c8, A9, r_.2.2.2.2.2.2.2.2.2.2.2.2.2.2.2.2.2.1.length, c9, A10, r_.2.2.2.2.2.2.2.2.2.2.2.2.2.2.2.2.2.2.1.length, c10, k_2.len 1 rfl, k_2.len 3 rfl, k_2.len 4 rfl, k_2.len 6 rfl, k_2.len 7 rfl, k_2.len 8 rfl, rfl, k_2⟩
theorem c_xof_Stream_Read_s3 (x_s_kind : Int) (x_s_full : Int) (x_s_code : UInt32) (x_s_total : UInt64) (x_s_known : Bool) (x_key : List UInt8) (x_salt : List UInt8) (x_personal : List UInt8) (x_n_kind : Int) (x_n_digest : Int) (x_n_block : List UInt8) (x_n_key : List UInt8) (x_n_last : Bool) (x_n_written : UInt64) (x_n_e_h : Vec UInt32 8) (x_n_e_count_Lo : UInt64) (x_n_e_count_Hi : UInt64) (x_n_e_held : List UInt8) (x_n_e_block : Int) (x_at : UInt64) (x_now : Vec UInt8 64) (x_have : Int) (n : Int) (g_x : Nat) (A_x_key : Option Addr) (n_x_key : Nat) (c_x_key : Nat) (A_x_salt : Option Addr) (n_x_salt : Nat) (c_x_salt : Nat) (A_x_personal : Option Addr) (n_x_personal : Nat) (c_x_personal : Nat) (g_x_n : Nat) (A_x_n_block : Option Addr) (n_x_n_block : Nat) (c_x_n_block : Nat) (A_x_n_key : Option Addr) (n_x_n_key : Nat) (c_x_n_key : Nat) (g_x_n_e : Nat) (A_x_n_e_held : Option Addr) (n_x_n_e_held : Nat) (c_x_n_e_held : Nat) (k : Cx F O w w [Bx 52 g_x [I x_s_kind, I x_s_full, .u32 x_s_code, .u64 x_s_total, .b x_s_known, sl A_x_key n_x_key c_x_key, sl A_x_salt n_x_salt c_x_salt, sl A_x_personal n_x_personal c_x_personal, pt g_x_n 0, sl none 0 0, .u64 x_at, .ar e8 x_now, I x_have, .v (.func (.func 28) ⟨SV.vals [pt g_x 0]⟩ ⟨SV.vals []⟩)], Ow e8 A_x_key n_x_key c_x_key x_key, Ow e8 A_x_salt n_x_salt c_x_salt x_salt, Ow e8 A_x_personal n_x_personal c_x_personal x_personal, Bx 77 g_x_n [I x_n_kind, I x_n_digest, sl A_x_n_block n_x_n_block c_x_n_block, sl A_x_n_key n_x_n_key c_x_n_key, .b x_n_last, .u64 x_n_written, .v (.iface 124 (SV.val (pt g_x_n_e 0)))], Ow e8 A_x_n_block n_x_n_block c_x_n_block x_n_block, Ow e8 A_x_n_key n_x_n_key c_x_n_key x_n_key, Bx 128 g_x_n_e [.ar e32 x_n_e_h, .u64 x_n_e_count_Lo, .u64 x_n_e_count_Hi, sl A_x_n_e_held n_x_n_e_held c_x_n_e_held, I x_n_e_block, .v (.func (.func 65) ⟨SV.vals []⟩ ⟨SV.vals []⟩), .v (.func (.func 66) ⟨SV.vals []⟩ ⟨SV.vals []⟩)], Ow e8 A_x_n_e_held n_x_n_e_held c_x_n_e_held x_n_e_held]) (r : (List UInt8 × Int × Vec UInt32 8 × UInt64 × UInt64 × List UInt8 × Int × Int × Int × List UInt8 × List UInt8 × Bool × UInt64 × Int × Int × UInt32 × UInt64 × Bool × List UInt8 × List UInt8 × List UInt8 × List UInt8 × UInt64 × Vec UInt8 64 × Int)) (hm : m_xof_Stream_Read_s3 x_s_kind x_s_full x_s_code x_s_total x_s_known x_key x_salt x_personal x_n_kind x_n_digest x_n_block x_n_key x_n_last x_n_written x_n_e_h x_n_e_count_Lo x_n_e_count_Hi x_n_e_held x_n_e_block x_at x_now x_have n = some r) :
    Calls Try.prog 7 (vals [pt g_x 0, I n]) w (fun e w' => ∃ A n1 c A1 n2 c1 A2 n3 c2 A3 n4 c3 A4 n5 c4 A5 n6 c5 A6 n7 c6 g n8 c7, r.1.length = n1 ∧ r.2.2.2.2.2.1.length = n2 ∧ r.2.2.2.2.2.2.2.2.2.1.length = n3 ∧ r.2.2.2.2.2.2.2.2.2.2.1.length = n4 ∧ r.2.2.2.2.2.2.2.2.2.2.2.2.2.2.2.2.2.2.1.length = n5 ∧ r.2.2.2.2.2.2.2.2.2.2.2.2.2.2.2.2.2.2.2.1.length = n6 ∧ r.2.2.2.2.2.2.2.2.2.2.2.2.2.2.2.2.2.2.2.2.1.length = n7 ∧ r.2.2.2.2.2.2.2.2.2.2.2.2.2.2.2.2.2.2.2.2.2.1.length = n8 ∧ e = .returned (SV.val (.tup [sl A n1 c, I r.2.1])) ∧ Cx F O w w' [Ow e8 A n1 c r.1, Bx 128 g_x_n_e [.ar e32 r.2.2.1, .u64 r.2.2.2.1, .u64 r.2.2.2.2.1, sl A1 n2 c1, I r.2.2.2.2.2.2.1, .v (.func (.func 65) ⟨SV.vals []⟩ ⟨SV.vals []⟩), .v (.func (.func 66) ⟨SV.vals []⟩ ⟨SV.vals []⟩)], Ow e8 A1 n2 c1 r.2.2.2.2.2.1, Bx 77 g_x_n [I r.2.2.2.2.2.2.2.1, I r.2.2.2.2.2.2.2.2.1, sl A2 n3 c2, sl A3 n4 c3, .b r.2.2.2.2.2.2.2.2.2.2.2.1, .u64 r.2.2.2.2.2.2.2.2.2.2.2.2.1, .v (.iface 124 (SV.val (pt g_x_n_e 0)))], Ow e8 A2 n3 c2 r.2.2.2.2.2.2.2.2.2.1, Ow e8 A3 n4 c3 r.2.2.2.2.2.2.2.2.2.2.1, Bx 52 g_x [I r.2.2.2.2.2.2.2.2.2.2.2.2.2.1, I r.2.2.2.2.2.2.2.2.2.2.2.2.2.2.1, .u32 r.2.2.2.2.2.2.2.2.2.2.2.2.2.2.2.1, .u64 r.2.2.2.2.2.2.2.2.2.2.2.2.2.2.2.2.1, .b r.2.2.2.2.2.2.2.2.2.2.2.2.2.2.2.2.2.1, sl A4 n5 c4, sl A5 n6 c5, sl A6 n7 c6, pt g_x_n 0, sl (some ⟨g, 0, none⟩) n8 c7, .u64 r.2.2.2.2.2.2.2.2.2.2.2.2.2.2.2.2.2.2.2.2.2.2.1, .ar e8 r.2.2.2.2.2.2.2.2.2.2.2.2.2.2.2.2.2.2.2.2.2.2.2.1, I r.2.2.2.2.2.2.2.2.2.2.2.2.2.2.2.2.2.2.2.2.2.2.2.2, .v (.func (.func 30) ⟨SV.vals [pt g_x 0]⟩ ⟨SV.vals []⟩)], Ow e8 A4 n5 c4 r.2.2.2.2.2.2.2.2.2.2.2.2.2.2.2.2.2.2.1, Ow e8 A5 n6 c5 r.2.2.2.2.2.2.2.2.2.2.2.2.2.2.2.2.2.2.2.1, Ow e8 A6 n7 c6 r.2.2.2.2.2.2.2.2.2.2.2.2.2.2.2.2.2.2.2.2.1, Sh (SH e8) [((some ⟨g, 0, none⟩), n8, c7)] [r.2.2.2.2.2.2.2.2.2.2.2.2.2.2.2.2.2.2.2.2.2.1]]) := by
 unfold m_xof_Stream_Read_s3 at hm
 obtain rfl := k.len 1 rfl
 obtain rfl := k.len 2 rfl
 obtain rfl := k.len 3 rfl
 obtain rfl := k.len 5 rfl
 obtain rfl := k.len 6 rfl
 obtain rfl := k.len 8 rfl
 refine calz [pt g_x 0, I n] Try.func7 rfl ?_
 refine W_seq <| Wq .a ?_
 refine W_seq <| W_seq <| W_reg <| We 1 (.n 11 (pt g_x 0) .a) ?_
 refine WL_op ?_
 obtain ⟨r_, h_r_, hm⟩ := ob hm
 obtain ⟨F1, O1, kin, hO, hre, hF, hb⟩ := k.go (.i (.i (.i (.i (.i (.i (.i (.i (.i .e)))))))))
 refine Op_cz 12 ws_go16 (c_xof_Stream_none_s2 (F := F1) (O := O1) _ _ _ _ _ _ _ _ _ _ _ _ _ _ _ _ _ _ _ _ _ _ _ _ _ _ _ _ _ _ _ _ _ _ _ _ _ _ _ _ _ _ _ kin _ h_r_) ?_
 rintro e_ w_ ⟨A0, _, c0, A7, _, c8, A8, _, c9, A9, _, c10, A10, _, c11, A11, _, c12, rfl, rfl, rfl, rfl, rfl, rfl, rfl, k_⟩
 have k_1 := hb w_ _ _ k_ (.c (.c (.c (.c (.c (.c (.c (.c (.c .n)))))))))
 refine ⟨.b false, rfl, ?_⟩
 refine Wn <| W_cond false (by kernel_rfl) (fun h => by cases h) (fun _ => ?_)
 refine W_skip <| At_go <| W_seq <| W_seq <| Wq (.n 18 (.b ((decide (n < 0)) || (decide (65536 < n)))) (.ss .a)) ?_
 refine W_cz ((decide (n < 0)) || (decide (65536 < n))) (fun hc => ?_) fun hc => ?_
 · rw [if_pos hc] at hm
   cases hm
 rw [if_neg (by rw [hc]; decide)] at hm
 refine W_skip <| At_go <| W_seq <| W_reg <| We 1 (.n 19 (pt g_x 0) (.s .a)) ?_
 refine WL_op ?_
 obtain ⟨r_1, h_r_1, hm⟩ := ob hm
 have k_2 := ((((((((k_1.pk (.t .h)).pk (.t .h)).pk (.t (.t (.t (.t .h))))).pk (.t (.t (.t (.t .h))))).pk (.t (.t (.t (.t .h))))).pk (.t (.t (.t (.t (.t (.t (.t (.t .h))))))))).pk (.t (.t (.t (.t (.t (.t (.t (.t .h))))))))).pk (.t (.t (.t (.t (.t (.t (.t (.t .h))))))))).pk (.t (.t (.t (.t (.t (.t (.t (.t .h))))))))
 obtain ⟨F11, O11, kin1, hO1, hre1, hF1, hb1⟩ := k_2.go (.i (.i (.i (.i (.i (.i (.i (.i (.i .e)))))))))
 refine Op_cz 20 ws_go17 (c_xof_Stream_give_s2 (F := F11) (O := O11) _ _ _ _ _ _ _ _ _ _ _ _ _ _ _ _ _ _ _ _ _ _ _ _ _ _ _ _ _ _ _ _ _ _ _ _ _ _ _ _ _ _ _ kin1 _ h_r_1) ?_
 rintro e_ w_1 ⟨A12, _, c13, A13, _, c14, A14, _, c15, A15, _, c16, A16, _, c17, A17, _, c18, g0, _, c19, rfl, rfl, rfl, rfl, rfl, rfl, rfl, rfl, k_3⟩
 have k_4 := hb1 w_1 _ _ k_3 (.c (.c (.c (.c (.c (.c (.c (.c (.c (.c .n))))))))))
 refine ⟨.tup [], rfl, ?_⟩
 refine Wn <| W_seq <| W_d ws_mixed (by kernel_rfl) (.n 6 (.u64 (r_1.2.2.2.2.2.2.2.2.2.2.2.2.2.2.1 - r_1.2.2.2.2.2.2.2.2.2.2.2.2.2.2.2.2.2.2.2.2.1)) (.ss .a)) (fun m => qs g_x 0 <| qs g_x 0 <| qs g_x 0 <| qB (k_4.drew m) 5 rfl 3 (.u64 r_1.2.2.2.2.2.2.2.2.2.2.2.2.2.2.1) (by kernel_rfl) <| qs g_x 0 <| qs g_x 0 <| qB (k_4.drew m) 5 rfl 10 (.u64 r_1.2.2.2.2.2.2.2.2.2.2.2.2.2.2.2.2.2.2.2.2.1) (by kernel_rfl) <| qe) (by kernel_rfl) (fun m_ => ?_)
 have k_5 := k_4.drew m_
 refine At_go <| W_seq <| W_seq <| Wq (.n 36 (.b ((decide (0 < n)) && (decide ((r_1.2.2.2.2.2.2.2.2.2.2.2.2.2.2.1 - r_1.2.2.2.2.2.2.2.2.2.2.2.2.2.2.2.2.2.2.2.2.1) = 0)))) .a) ?_
 refine W_cz ((decide (0 < n)) && (decide ((r_1.2.2.2.2.2.2.2.2.2.2.2.2.2.2.1 - r_1.2.2.2.2.2.2.2.2.2.2.2.2.2.2.2.2.2.2.2.2.1) = 0))) (fun hc1 => ?_) fun hc1 => ?_
 · rw [if_pos hc1] at hm
   refine W_seq <| Wq (.n 4 (sl none 0 0) (.n 5 (I 70) .z)) ?_
   refine W_ret (At_tr ?_)
   have k_6 := k_5.nil e8
   obtain rfl := si hm
   refine At_rz [sl none 0 0, I 70] qe ?_
   have k_7 := ((((((((((k_6.pk (.t (.t (.t (.t (.t (.t (.t (.t (.t .h)))))))))).pk (.t (.t (.t (.t (.t (.t (.t (.t (.t .h)))))))))).pk (.t (.t (.t (.t (.t (.t (.t (.t (.t .h)))))))))).pk (.t (.t (.t (.t (.t (.t (.t (.t (.t .h)))))))))).pk (.t (.t (.t (.t (.t (.t (.t (.t (.t .h)))))))))).pk (.t (.t (.t (.t (.t (.t (.t (.t (.t .h)))))))))).pk (.t (.t (.t (.t (.t (.t (.t (.t (.t .h)))))))))).pk (.t (.t (.t (.t (.t (.t (.t (.t (.t .h)))))))))).pk (.t (.t (.t (.t (.t (.t (.t (.t (.t .h)))))))))).pk (.t (.t (.t (.t (.t (.t (.t (.t (.t .h)))))))))).pk (.t (.t (.t (.t (.t (.t (.t (.t (.t (.t .h))))))))))
   exact ⟨none, 0, 0, A12, r_1.2.2.2.1.length, c13, A13, r_1.2.2.2.2.2.2.2.1.length, c14, A14, r_1.2.2.2.2.2.2.2.2.1.length, c15, A15, r_1.2.2.2.2.2.2.2.2.2.2.2.2.2.2.2.2.1.length, c16, A16, r_1.2.2.2.2.2.2.2.2.2.2.2.2.2.2.2.2.2.1.length, c17, A17, r_1.2.2.2.2.2.2.2.2.2.2.2.2.2.2.2.2.2.2.1.length, c18, g0, r_1.2.2.2.2.2.2.2.2.2.2.2.2.2.2.2.2.2.2.2.1.length, c19, k_7.len 0 rfl, k_7.len 2 rfl, k_7.len 4 rfl, k_7.len 5 rfl, k_7.len 7 rfl, k_7.len 8 rfl, k_7.len 9 rfl, k_7.shlen 10 rfl, rfl, k_7⟩
 rw [if_neg (by rw [hc1]; decide)] at hm
 refine W_skip <| At_go <| W_cut (fun L wr => ∃ (n9 : Int), m_xof_Stream_Read_s3_j0 r_1 n9 = some r ∧ L = [(0, pt g_x 0), (1, I n9)] ∧ Cx F O w wr [Bx 52 g_x [I r_1.2.2.2.2.2.2.2.2.2.2.2.1, I r_1.2.2.2.2.2.2.2.2.2.2.2.2.1, .u32 r_1.2.2.2.2.2.2.2.2.2.2.2.2.2.1, .u64 r_1.2.2.2.2.2.2.2.2.2.2.2.2.2.2.1, .b r_1.2.2.2.2.2.2.2.2.2.2.2.2.2.2.2.1, sl A15 r_1.2.2.2.2.2.2.2.2.2.2.2.2.2.2.2.2.1.length c16, sl A16 r_1.2.2.2.2.2.2.2.2.2.2.2.2.2.2.2.2.2.1.length c17, sl A17 r_1.2.2.2.2.2.2.2.2.2.2.2.2.2.2.2.2.2.2.1.length c18, pt g_x_n 0, sl (some ⟨g0, 0, none⟩) r_1.2.2.2.2.2.2.2.2.2.2.2.2.2.2.2.2.2.2.2.1.length c19, .u64 r_1.2.2.2.2.2.2.2.2.2.2.2.2.2.2.2.2.2.2.2.2.1, .ar e8 r_1.2.2.2.2.2.2.2.2.2.2.2.2.2.2.2.2.2.2.2.2.2.1, I r_1.2.2.2.2.2.2.2.2.2.2.2.2.2.2.2.2.2.2.2.2.2.2, .v (.func (.func 30) ⟨SV.vals [pt g_x 0]⟩ ⟨SV.vals []⟩)], Ow e8 A15 r_1.2.2.2.2.2.2.2.2.2.2.2.2.2.2.2.2.1.length c16 r_1.2.2.2.2.2.2.2.2.2.2.2.2.2.2.2.2.1, Ow e8 A16 r_1.2.2.2.2.2.2.2.2.2.2.2.2.2.2.2.2.2.1.length c17 r_1.2.2.2.2.2.2.2.2.2.2.2.2.2.2.2.2.2.1, Ow e8 A17 r_1.2.2.2.2.2.2.2.2.2.2.2.2.2.2.2.2.2.2.1.length c18 r_1.2.2.2.2.2.2.2.2.2.2.2.2.2.2.2.2.2.2.1, Bx 77 g_x_n [I r_1.2.2.2.2.2.1, I r_1.2.2.2.2.2.2.1, sl A13 r_1.2.2.2.2.2.2.2.1.length c14, sl A14 r_1.2.2.2.2.2.2.2.2.1.length c15, .b r_1.2.2.2.2.2.2.2.2.2.1, .u64 r_1.2.2.2.2.2.2.2.2.2.2.1, .v (.iface 124 (SV.val (pt g_x_n_e 0)))], Ow e8 A13 r_1.2.2.2.2.2.2.2.1.length c14 r_1.2.2.2.2.2.2.2.1, Ow e8 A14 r_1.2.2.2.2.2.2.2.2.1.length c15 r_1.2.2.2.2.2.2.2.2.1, Bx 128 g_x_n_e [.ar e32 r_1.1, .u64 r_1.2.1, .u64 r_1.2.2.1, sl A12 r_1.2.2.2.1.length c13, I r_1.2.2.2.2.1, .v (.func (.func 65) ⟨SV.vals []⟩ ⟨SV.vals []⟩), .v (.func (.func 66) ⟨SV.vals []⟩ ⟨SV.vals []⟩)], Ow e8 A12 r_1.2.2.2.1.length c13 r_1.2.2.2.1, Sh (SH e8) [((some ⟨g0, 0, none⟩), r_1.2.2.2.2.2.2.2.2.2.2.2.2.2.2.2.2.2.2.2.1.length, c19)] [r_1.2.2.2.2.2.2.2.2.2.2.2.2.2.2.2.2.2.2.2.1]]) ?_ ?_
 ·
  refine W_seq <| Wq (.n 40 (.b (decide ((r_1.2.2.2.2.2.2.2.2.2.2.2.2.2.2.1 - r_1.2.2.2.2.2.2.2.2.2.2.2.2.2.2.2.2.2.2.2.2.1) < (UInt64.ofInt n)))) (.s .a)) ?_
  refine W_pz ((r_1.2.2.2.2.2.2.2.2.2.2.2.2.2.2.1 - r_1.2.2.2.2.2.2.2.2.2.2.2.2.2.2.2.2.2.2.2.2.1) < (UInt64.ofInt n)) (fun hc2 => ?_) fun hc2 => ?_
  · rw [if_pos hc2] at hm
    refine W_q [] (.n 1 (I (w64 (r_1.2.2.2.2.2.2.2.2.2.2.2.2.2.2.1 - r_1.2.2.2.2.2.2.2.2.2.2.2.2.2.2.2.2.2.2.2.2.1).toNat)) (.ss (.k .z))) qe (by kernel_rfl) ?_
    have k_8 := (((((((((k_5.pk (.t (.t (.t (.t (.t (.t (.t (.t (.t .h)))))))))).pk (.t (.t .h))).pk (.t (.t .h))).pk (.t (.t (.t (.t (.t .h)))))).pk (.t (.t (.t (.t (.t .h)))))).pk (.t (.t (.t (.t (.t .h)))))).pk (.t (.t (.t (.t (.t (.t (.t (.t (.t .h)))))))))).pk (.t (.t (.t (.t (.t (.t (.t (.t (.t .h)))))))))).pk (.t (.t (.t (.t (.t (.t (.t (.t (.t .h)))))))))).pk (.t (.t (.t (.t (.t (.t (.t (.t (.t .h)))))))))
    exact At_cz ⟨w64 (r_1.2.2.2.2.2.2.2.2.2.2.2.2.2.2.1 - r_1.2.2.2.2.2.2.2.2.2.2.2.2.2.2.2.2.2.2.2.2.1).toNat, hm, rfl, k_8⟩
  rw [if_neg hc2] at hm
  refine W_skip ?_
  have k_9 := (((((((((k_5.pk (.t (.t (.t (.t (.t (.t (.t (.t (.t .h)))))))))).pk (.t (.t .h))).pk (.t (.t .h))).pk (.t (.t (.t (.t (.t .h)))))).pk (.t (.t (.t (.t (.t .h)))))).pk (.t (.t (.t (.t (.t .h)))))).pk (.t (.t (.t (.t (.t (.t (.t (.t (.t .h)))))))))).pk (.t (.t (.t (.t (.t (.t (.t (.t (.t .h)))))))))).pk (.t (.t (.t (.t (.t (.t (.t (.t (.t .h)))))))))).pk (.t (.t (.t (.t (.t (.t (.t (.t (.t .h)))))))))
  exact At_cz ⟨n, hm, rfl, k_9⟩
 rintro L_ w_2 ⟨n9, hm, rfl, k_10⟩
 simp only [m_xof_Stream_Read_s3_j0] at hm
 refine W_seq <| Wq (.n 7 (sl none 0 0) .a) ?_
 refine W_seq <| W_block ?_
 have k_12 := k_10.nil e8
 refine W_lp (m_xof_Stream_Read_s3_l0 r_1 n9) (fun s L wr => ∃ (x_0 : UInt64) (x_25 : Vec UInt8 64) (x_26 : Int) (out : List UInt8) (A18 : Option Addr) (n10 : Nat) (c20 : Nat), (x_0, x_25, x_26, out) = s ∧ L = [(0, pt g_x 0), (1, I n9), (7, sl A18 n10 c20)] ∧ out.length = n10 ∧ Cx F O w wr [Bx 52 g_x [I r_1.2.2.2.2.2.2.2.2.2.2.2.1, I r_1.2.2.2.2.2.2.2.2.2.2.2.2.1, .u32 r_1.2.2.2.2.2.2.2.2.2.2.2.2.2.1, .u64 r_1.2.2.2.2.2.2.2.2.2.2.2.2.2.2.1, .b r_1.2.2.2.2.2.2.2.2.2.2.2.2.2.2.2.1, sl A15 r_1.2.2.2.2.2.2.2.2.2.2.2.2.2.2.2.2.1.length c16, sl A16 r_1.2.2.2.2.2.2.2.2.2.2.2.2.2.2.2.2.2.1.length c17, sl A17 r_1.2.2.2.2.2.2.2.2.2.2.2.2.2.2.2.2.2.2.1.length c18, pt g_x_n 0, sl (some ⟨g0, 0, none⟩) r_1.2.2.2.2.2.2.2.2.2.2.2.2.2.2.2.2.2.2.2.1.length c19, .u64 x_0, .ar e8 x_25, I x_26, .v (.func (.func 30) ⟨SV.vals [pt g_x 0]⟩ ⟨SV.vals []⟩)], Ow e8 A15 r_1.2.2.2.2.2.2.2.2.2.2.2.2.2.2.2.2.1.length c16 r_1.2.2.2.2.2.2.2.2.2.2.2.2.2.2.2.2.1, Ow e8 A16 r_1.2.2.2.2.2.2.2.2.2.2.2.2.2.2.2.2.2.1.length c17 r_1.2.2.2.2.2.2.2.2.2.2.2.2.2.2.2.2.2.1, Ow e8 A17 r_1.2.2.2.2.2.2.2.2.2.2.2.2.2.2.2.2.2.2.1.length c18 r_1.2.2.2.2.2.2.2.2.2.2.2.2.2.2.2.2.2.2.1, Bx 77 g_x_n [I r_1.2.2.2.2.2.1, I r_1.2.2.2.2.2.2.1, sl A13 r_1.2.2.2.2.2.2.2.1.length c14, sl A14 r_1.2.2.2.2.2.2.2.2.1.length c15, .b r_1.2.2.2.2.2.2.2.2.2.1, .u64 r_1.2.2.2.2.2.2.2.2.2.2.1, .v (.iface 124 (SV.val (pt g_x_n_e 0)))], Ow e8 A13 r_1.2.2.2.2.2.2.2.1.length c14 r_1.2.2.2.2.2.2.2.1, Ow e8 A14 r_1.2.2.2.2.2.2.2.2.1.length c15 r_1.2.2.2.2.2.2.2.2.1, Bx 128 g_x_n_e [.ar e32 r_1.1, .u64 r_1.2.1, .u64 r_1.2.2.1, sl A12 r_1.2.2.2.1.length c13, I r_1.2.2.2.2.1, .v (.func (.func 65) ⟨SV.vals []⟩ ⟨SV.vals []⟩), .v (.func (.func 66) ⟨SV.vals []⟩ ⟨SV.vals []⟩)], Ow e8 A12 r_1.2.2.2.1.length c13 r_1.2.2.2.1, Sh (SH e8) [((some ⟨g0, 0, none⟩), r_1.2.2.2.2.2.2.2.2.2.2.2.2.2.2.2.2.2.2.2.1.length, c19)] [r_1.2.2.2.2.2.2.2.2.2.2.2.2.2.2.2.2.2.2.2.1], Ow e8 A18 n10 c20 out]) (r_1.2.2.2.2.2.2.2.2.2.2.2.2.2.2.2.2.2.2.2.2.1, r_1.2.2.2.2.2.2.2.2.2.2.2.2.2.2.2.2.2.2.2.2.2.1, r_1.2.2.2.2.2.2.2.2.2.2.2.2.2.2.2.2.2.2.2.2.2.2, ([] : List UInt8)) r hm ⟨r_1.2.2.2.2.2.2.2.2.2.2.2.2.2.2.2.2.2.2.2.2.1, r_1.2.2.2.2.2.2.2.2.2.2.2.2.2.2.2.2.2.2.2.2.2.1, r_1.2.2.2.2.2.2.2.2.2.2.2.2.2.2.2.2.2.2.2.2.2.2, ([] : List UInt8), none, 0, 0, rfl, rfl, k_12.len 10 rfl, k_12⟩ (by kernel_rfl) ?_
 intro s0_ L_ w_3 y0 hrel hstep hr0
 obtain ⟨x_0, x_25, x_26, out, A18, _, c20, rfl, rfl, rfl, k_11⟩ := hrel
 have hm := hstep; simp only [m_xof_Stream_Read_s3_l0] at hm
 clear hstep
 refine W_seq <| W_seq <| Wq (.n 46 (.b (decide ((out.length : Int) < n9))) .a) ?_
 refine W_pz ((out.length : Int) < n9) (fun hc3 => ?_) fun hc3 => ?_
 · rw [if_pos hc3] at hm
   refine W_skip <| At_go <| W_block <| W_seq ?_
   obtain ⟨u, h_u, hm⟩ := ob hm
   refine W_d ws_mixed (by kernel_rfl) (.n 8 (.u64 (x_0 / (UInt64.ofInt r_1.2.2.2.2.2.2.2.2.2.2.2.2.1))) (.s .a)) (fun m => qs g_x 0 <| qs g_x 0 <| qB (k_11.drew m) 0 rfl 10 (.u64 x_0) (by kernel_rfl) <| qs g_x 0 <| qs g_x 0 <| qs g_x 0 <| qB (k_11.drew m) 0 rfl 1 (I r_1.2.2.2.2.2.2.2.2.2.2.2.2.1) (by kernel_rfl) <| qp ((UInt64.ofInt r_1.2.2.2.2.2.2.2.2.2.2.2.2.1) ≠ 0) (need_some h_u) <| qe) (by kernel_rfl) (fun m_1 => ?_)
   have k_13 := k_11.drew m_1
   refine At_go <| W_cut (fun L wr => ∃ (x_27 : Vec UInt8 64) (x_28 : Int), m_xof_Stream_Read_s3_j1 r_1 n9 x_0 out x_27 x_28 = some y0 ∧ L = [(0, pt g_x 0), (1, I n9), (7, sl A18 out.length c20)] ∧ Cx F O w wr [Bx 52 g_x [I r_1.2.2.2.2.2.2.2.2.2.2.2.1, I r_1.2.2.2.2.2.2.2.2.2.2.2.2.1, .u32 r_1.2.2.2.2.2.2.2.2.2.2.2.2.2.1, .u64 r_1.2.2.2.2.2.2.2.2.2.2.2.2.2.2.1, .b r_1.2.2.2.2.2.2.2.2.2.2.2.2.2.2.2.1, sl A15 r_1.2.2.2.2.2.2.2.2.2.2.2.2.2.2.2.2.1.length c16, sl A16 r_1.2.2.2.2.2.2.2.2.2.2.2.2.2.2.2.2.2.1.length c17, sl A17 r_1.2.2.2.2.2.2.2.2.2.2.2.2.2.2.2.2.2.2.1.length c18, pt g_x_n 0, sl (some ⟨g0, 0, none⟩) r_1.2.2.2.2.2.2.2.2.2.2.2.2.2.2.2.2.2.2.2.1.length c19, .u64 x_0, .ar e8 x_27, I x_28, .v (.func (.func 30) ⟨SV.vals [pt g_x 0]⟩ ⟨SV.vals []⟩)], Ow e8 A15 r_1.2.2.2.2.2.2.2.2.2.2.2.2.2.2.2.2.1.length c16 r_1.2.2.2.2.2.2.2.2.2.2.2.2.2.2.2.2.1, Ow e8 A16 r_1.2.2.2.2.2.2.2.2.2.2.2.2.2.2.2.2.2.1.length c17 r_1.2.2.2.2.2.2.2.2.2.2.2.2.2.2.2.2.2.1, Ow e8 A17 r_1.2.2.2.2.2.2.2.2.2.2.2.2.2.2.2.2.2.2.1.length c18 r_1.2.2.2.2.2.2.2.2.2.2.2.2.2.2.2.2.2.2.1, Bx 77 g_x_n [I r_1.2.2.2.2.2.1, I r_1.2.2.2.2.2.2.1, sl A13 r_1.2.2.2.2.2.2.2.1.length c14, sl A14 r_1.2.2.2.2.2.2.2.2.1.length c15, .b r_1.2.2.2.2.2.2.2.2.2.1, .u64 r_1.2.2.2.2.2.2.2.2.2.2.1, .v (.iface 124 (SV.val (pt g_x_n_e 0)))], Ow e8 A13 r_1.2.2.2.2.2.2.2.1.length c14 r_1.2.2.2.2.2.2.2.1, Ow e8 A14 r_1.2.2.2.2.2.2.2.2.1.length c15 r_1.2.2.2.2.2.2.2.2.1, Bx 128 g_x_n_e [.ar e32 r_1.1, .u64 r_1.2.1, .u64 r_1.2.2.1, sl A12 r_1.2.2.2.1.length c13, I r_1.2.2.2.2.1, .v (.func (.func 65) ⟨SV.vals []⟩ ⟨SV.vals []⟩), .v (.func (.func 66) ⟨SV.vals []⟩ ⟨SV.vals []⟩)], Ow e8 A12 r_1.2.2.2.1.length c13 r_1.2.2.2.1, Sh (SH e8) [((some ⟨g0, 0, none⟩), r_1.2.2.2.2.2.2.2.2.2.2.2.2.2.2.2.2.2.2.2.1.length, c19)] [r_1.2.2.2.2.2.2.2.2.2.2.2.2.2.2.2.2.2.2.2.1], Ow e8 A18 out.length c20 out]) ?_ ?_
   ·
    refine W_seq <| Wa (.n 64 (.b (decide (x_26 ≠ (w64 (x_0 / (UInt64.ofInt r_1.2.2.2.2.2.2.2.2.2.2.2.2.1)).toNat)))) .a) (qs g_x 0 <| qs g_x 0 <| qB k_13 0 rfl 75 (I x_26) (by kernel_rfl) <| qe) ?_
    refine W_pz (x_26 ≠ (w64 (x_0 / (UInt64.ofInt r_1.2.2.2.2.2.2.2.2.2.2.2.2.1)).toNat)) (fun hc4 => ?_) fun hc4 => ?_
    · rw [if_pos hc4] at hm
      refine W_seq ?_
      have k_14 := k_13.drew 1
      refine W_m ws_mixed (.q 20 0 (.q 0 2 (.q 1 2 (.q 2 1 (.q 3 1 (.q 4 2 (.q 5 2 (.q 6 1 (.q 7 0 (.q 8 2 (.q 9 2 (.q 10 1 (.q 11 0 (.q 12 2 (.q 13 2 (.q 14 1 (.q 15 0 (.q 16 2 (.q 17 2 (.q 18 1 (.q 19 0 (.op 21 (.op 22 .nil))))))))))))))))))))))) [21, 22] k_14 (.c (.kkkk (.kkkk (.kk (.k .e)))) (.c (.s (.kkkk (.kkkk (.kk .e)))) .l)) (by kernel_rfl) (fun _ => ?_)
      refine MXz 1 0 (.n 85 (.u64 (x_0 / (UInt64.ofInt r_1.2.2.2.2.2.2.2.2.2.2.2.2.1))) (.s .a)) (fun x hx => qe) fun _ => ?_
      refine MXz 2 2 (.n 66 (pt g_x 0) .a) (fun x hx => qs g_x 0 <| qe) fun _ => ?_
      refine MXz 2 1 (.n 68 (sl (some ⟨g_x, 11, none⟩) 64 64) (.s .a)) (fun x hx => qs g_x 0 <| qo (.v (.slice (some ⟨g_x, 11, none⟩) 64 64)) <| qp (((some ⟨g_x, 11, none⟩) : Option Addr).isSome = true ∧ Value.slice (slA (some ⟨g_x, 11, none⟩) 0 64 1) (64 - 0) (64 - 0) = .slice (some ⟨g_x, 11, none⟩) 64 64) ⟨rfl, slx0 _ _ _ _ _ rfl⟩ <| qe) fun _ => ?_
      refine MXz 2 2 (.n 70 (pt g_x 0) .a) (fun x hx => qs g_x 0 <| qe) fun _ => ?_
      refine MXz 1 1 (.n 71 (pt g_x 0) (.s .a)) (fun x hx => qs g_x 0 <| qe) fun _ => ?_
      refine MXz 1 0 (.n 72 (.agg [I r_1.2.2.2.2.2.2.2.2.2.2.2.1, I r_1.2.2.2.2.2.2.2.2.2.2.2.2.1, .u32 r_1.2.2.2.2.2.2.2.2.2.2.2.2.2.1, .u64 r_1.2.2.2.2.2.2.2.2.2.2.2.2.2.2.1, .b r_1.2.2.2.2.2.2.2.2.2.2.2.2.2.2.2.1]) (.s .a)) (fun x hx => qT hx 0 rfl 0 5 [I r_1.2.2.2.2.2.2.2.2.2.2.2.1, I r_1.2.2.2.2.2.2.2.2.2.2.2.2.1, .u32 r_1.2.2.2.2.2.2.2.2.2.2.2.2.2.1, .u64 r_1.2.2.2.2.2.2.2.2.2.2.2.2.2.2.1, .b r_1.2.2.2.2.2.2.2.2.2.2.2.2.2.2.2.1] (by kernel_rfl) (by decide) <| qe) fun _ => ?_
      refine MXz 2 2 (.n 74 (pt g_x 0) .a) (fun x hx => qs g_x 0 <| qe) fun _ => ?_
      refine MXz 1 1 (.n 75 (pt g_x 6) (.s .a)) (fun x hx => qs g_x 0 <| qe) fun _ => ?_
      refine MXz 1 0 (.n 76 (sl A16 r_1.2.2.2.2.2.2.2.2.2.2.2.2.2.2.2.2.2.1.length c17) (.s .a)) (fun x hx => qB hx 0 rfl 6 (sl A16 r_1.2.2.2.2.2.2.2.2.2.2.2.2.2.2.2.2.2.1.length c17) (by kernel_rfl) <| qe) fun _ => ?_
      refine MXz 2 2 (.n 78 (pt g_x 0) .a) (fun x hx => qs g_x 0 <| qe) fun _ => ?_
      refine MXz 1 1 (.n 79 (pt g_x 7) (.s .a)) (fun x hx => qs g_x 0 <| qe) fun _ => ?_
      refine MXz 1 0 (.n 80 (sl A17 r_1.2.2.2.2.2.2.2.2.2.2.2.2.2.2.2.2.2.2.1.length c18) (.s .a)) (fun x hx => qB hx 0 rfl 7 (sl A17 r_1.2.2.2.2.2.2.2.2.2.2.2.2.2.2.2.2.2.2.1.length c18) (by kernel_rfl) <| qe) fun _ => ?_
      refine MXz 2 2 (.n 82 (pt g_x 0) .a) (fun x hx => qs g_x 0 <| qe) fun _ => ?_
      refine MXz 1 1 (.n 83 (pt g_x 9) (.s .a)) (fun x hx => qs g_x 0 <| qe) fun _ => ?_
      refine MXz 1 0 (.n 84 (sl (some ⟨g0, 0, none⟩) r_1.2.2.2.2.2.2.2.2.2.2.2.2.2.2.2.2.2.2.2.1.length c19) (.s .a)) (fun x hx => qB hx 0 rfl 9 (sl (some ⟨g0, 0, none⟩) r_1.2.2.2.2.2.2.2.2.2.2.2.2.2.2.2.2.2.2.2.1.length c19) (by kernel_rfl) <| qe) fun _ => ?_
      refine MX_op (by kernel_rfl) rfl ?_
      obtain ⟨r_2, h_r_2, hm⟩ := ob hm
      refine Op_cz 86 ws_go18 (c_xof_shape_piece (F := N0) (O := N0) _ _ _ _ _ _ _ _ _ _ _ _ _ _ _ _ _ _ (Ro.n0 (k_14.rd 2 rfl)) (k_14.len 2 rfl) (k_14.lec 2 rfl) (Ro.n0 (k_14.rd 3 rfl)) (k_14.len 3 rfl) (k_14.lec 3 rfl) (Ro.n0 (k_14.shrd 9 rfl)) (k_14.shlen 9 rfl) (k_14.shlec 9 rfl) (Cx.refl _) _ h_r_2) ?_
      rintro e_ w_4 ⟨A19, _, c21, rfl, rfl, k_15⟩
      have k_16 := k_14.call k_15
      refine ⟨sl A19 r_2.length c21, rfl, ?_⟩
      refine ⟨(k_16.sel (.kkkk (.kkkk (.kk (.k .z))))), fun _ => ?_⟩
      refine MX_op (by kernel_rfl) rfl <| Op_vcp (E := e8) (dn := 64) (dc := 64) (v := sl A19 r_2.length c21) (src := r_2) (lo := 0) (m' := 64) ws_tf23 [] 87 0 [I r_1.2.2.2.2.2.2.2.2.2.2.2.1, I r_1.2.2.2.2.2.2.2.2.2.2.2.2.1, .u32 r_1.2.2.2.2.2.2.2.2.2.2.2.2.2.1, .u64 r_1.2.2.2.2.2.2.2.2.2.2.2.2.2.2.1, .b r_1.2.2.2.2.2.2.2.2.2.2.2.2.2.2.2.1, sl A15 r_1.2.2.2.2.2.2.2.2.2.2.2.2.2.2.2.2.1.length c16, sl A16 r_1.2.2.2.2.2.2.2.2.2.2.2.2.2.2.2.2.2.1.length c17, sl A17 r_1.2.2.2.2.2.2.2.2.2.2.2.2.2.2.2.2.2.2.1.length c18, pt g_x_n 0, sl (some ⟨g0, 0, none⟩) r_1.2.2.2.2.2.2.2.2.2.2.2.2.2.2.2.2.2.2.2.1.length c19, .u64 x_0] [I x_26, .v (.func (.func 30) ⟨SV.vals [pt g_x 0]⟩ ⟨SV.vals []⟩)] x_25 (by kernel_rfl) (slA_zero _ _ _).symm k_16 rfl (Src.sl (k_16.rd 11 rfl) (k_16.len 11 rfl) (by rfl)) (k_16.len 11 rfl) (by have := x_25.h; omega) (by omega) (by omega) ?_
      intro w_5 k_17
      refine ⟨(k_17.sel (.s (.kkkk (.kkkk (.kk .z))))), fun _ => ?_⟩
      refine MX_nil <| At_go <| W_reg <| Wl 5 (.n 90 (I (w64 (x_0 / (UInt64.ofInt r_1.2.2.2.2.2.2.2.2.2.2.2.2.1)).toNat)) (.n 92 (pt g_x 75) (.ssss (.ssss (.s .a))))) (qs g_x 0 <| qs g_x 0 <| qe) ?_
      refine WL_op <| Op_bz 0 (I (w64 (x_0 / (UInt64.ofInt r_1.2.2.2.2.2.2.2.2.2.2.2.2.1)).toNat)) [I (w64 (x_0 / (UInt64.ofInt r_1.2.2.2.2.2.2.2.2.2.2.2.2.1)).toNat)] (Pt.at g_x 75) k_17 rfl (.kkkk (.kkkk (.kkkk .h))) ?_
      intro w_6 k_18
      have k_19 := k_18.sel (.kkkk (.kkkk (.kk (.k .z))))
      refine WL_nil ?_
      exact At_cz ⟨(vcp x_25 0 64 r_2), w64 (x_0 / (UInt64.ofInt r_1.2.2.2.2.2.2.2.2.2.2.2.2.1)).toNat, hm, rfl, k_19⟩
    rw [if_neg hc4] at hm
    refine W_skip ?_
    exact At_cz ⟨x_25, x_26, hm, rfl, k_13⟩
   rintro L_ w_7 ⟨x_27, x_28, hm, rfl, k_20⟩
   simp only [m_xof_Stream_Read_s3_j1] at hm
   refine W_seq ?_
   obtain ⟨u1, h_u1, hm⟩ := ob hm
   refine W_d ws_mixed (by kernel_rfl) (.n 9 (I (w64 (x_0 % (UInt64.ofInt r_1.2.2.2.2.2.2.2.2.2.2.2.2.1)).toNat)) .a) (fun m => qs g_x 0 <| qs g_x 0 <| qB (k_20.drew m) 0 rfl 10 (.u64 x_0) (by kernel_rfl) <| qs g_x 0 <| qs g_x 0 <| qs g_x 0 <| qB (k_20.drew m) 0 rfl 1 (I r_1.2.2.2.2.2.2.2.2.2.2.2.2.1) (by kernel_rfl) <| qp ((UInt64.ofInt r_1.2.2.2.2.2.2.2.2.2.2.2.2.1) ≠ 0) (need_some h_u1) <| qe) (by kernel_rfl) (fun m_2 => ?_)
   have k_21 := k_20.drew m_2
   refine At_go <| W_seq <| Wa (.n 10 (I (if w64 (r_1.2.2.2.2.2.2.2.2.2.2.2.2.1 - (w64 (x_0 % (UInt64.ofInt r_1.2.2.2.2.2.2.2.2.2.2.2.2.1)).toNat)) < w64 (n9 - (out.length : Int)) then w64 (r_1.2.2.2.2.2.2.2.2.2.2.2.2.1 - (w64 (x_0 % (UInt64.ofInt r_1.2.2.2.2.2.2.2.2.2.2.2.2.1)).toNat)) else w64 (n9 - (out.length : Int)))) .a) (qs g_x 0 <| qs g_x 0 <| qs g_x 0 <| qB k_21 0 rfl 1 (I r_1.2.2.2.2.2.2.2.2.2.2.2.2.1) (by kernel_rfl) <| qe) ?_
   refine W_seq <| W_reg ?_
   obtain ⟨b, h_b, hm⟩ := ob hm
   have hs := slc_some h_b
   have hl := slc_len h_b
   have hn : x_27.l.length = 64 := x_27.h
   have hc5 : 64 ≤ 64 := (Nat.le_refl _)
   obtain ⟨A20, c22, e_, hc6, hA, hc7⟩ := slx (some ⟨g_x, 11, none⟩) (Int.toNat (w64 (x_0 % (UInt64.ofInt r_1.2.2.2.2.2.2.2.2.2.2.2.2.1)).toNat)) 64 1 (Int.toNat (w64 ((w64 (x_0 % (UInt64.ofInt r_1.2.2.2.2.2.2.2.2.2.2.2.2.1)).toNat) + (if w64 (r_1.2.2.2.2.2.2.2.2.2.2.2.2.1 - (w64 (x_0 % (UInt64.ofInt r_1.2.2.2.2.2.2.2.2.2.2.2.2.1)).toNat)) < w64 (n9 - (out.length : Int)) then w64 (r_1.2.2.2.2.2.2.2.2.2.2.2.2.1 - (w64 (x_0 % (UInt64.ofInt r_1.2.2.2.2.2.2.2.2.2.2.2.2.1)).toNat)) else w64 (n9 - (out.length : Int))))) - Int.toNat (w64 (x_0 % (UInt64.ofInt r_1.2.2.2.2.2.2.2.2.2.2.2.2.1)).toNat)) b.length (by omega) (by omega)
   refine Wl 9 (.n 117 (sl A18 out.length c20) (.n 125 (sl A20 b.length c22) (.k (.s .a)))) (qs g_x 0 <| qs g_x 0 <| qp (0 ≤ w64 ((w64 (x_0 % (UInt64.ofInt r_1.2.2.2.2.2.2.2.2.2.2.2.2.1)).toNat) + (if w64 (r_1.2.2.2.2.2.2.2.2.2.2.2.2.1 - (w64 (x_0 % (UInt64.ofInt r_1.2.2.2.2.2.2.2.2.2.2.2.2.1)).toNat)) < w64 (n9 - (out.length : Int)) then w64 (r_1.2.2.2.2.2.2.2.2.2.2.2.2.1 - (w64 (x_0 % (UInt64.ofInt r_1.2.2.2.2.2.2.2.2.2.2.2.2.1)).toNat)) else w64 (n9 - (out.length : Int)))) ∧ w64 ((w64 (x_0 % (UInt64.ofInt r_1.2.2.2.2.2.2.2.2.2.2.2.2.1)).toNat) + (if w64 (r_1.2.2.2.2.2.2.2.2.2.2.2.2.1 - (w64 (x_0 % (UInt64.ofInt r_1.2.2.2.2.2.2.2.2.2.2.2.2.1)).toNat)) < w64 (n9 - (out.length : Int)) then w64 (r_1.2.2.2.2.2.2.2.2.2.2.2.2.1 - (w64 (x_0 % (UInt64.ofInt r_1.2.2.2.2.2.2.2.2.2.2.2.2.1)).toNat)) else w64 (n9 - (out.length : Int)))) ≤ ((64 : Nat) : Int)) (by omega) <| qp (0 ≤ w64 (x_0 % (UInt64.ofInt r_1.2.2.2.2.2.2.2.2.2.2.2.2.1)).toNat ∧ w64 (x_0 % (UInt64.ofInt r_1.2.2.2.2.2.2.2.2.2.2.2.2.1)).toNat ≤ ((Int.toNat (w64 ((w64 (x_0 % (UInt64.ofInt r_1.2.2.2.2.2.2.2.2.2.2.2.2.1)).toNat) + (if w64 (r_1.2.2.2.2.2.2.2.2.2.2.2.2.1 - (w64 (x_0 % (UInt64.ofInt r_1.2.2.2.2.2.2.2.2.2.2.2.2.1)).toNat)) < w64 (n9 - (out.length : Int)) then w64 (r_1.2.2.2.2.2.2.2.2.2.2.2.2.1 - (w64 (x_0 % (UInt64.ofInt r_1.2.2.2.2.2.2.2.2.2.2.2.2.1)).toNat)) else w64 (n9 - (out.length : Int))))) : Nat) : Int)) (by omega) <| qo (.v (.slice A20 b.length c22)) <| qp (((some ⟨g_x, 11, none⟩) : Option Addr).isSome = true ∧ Value.slice (slA (some ⟨g_x, 11, none⟩) (Int.toNat (w64 (x_0 % (UInt64.ofInt r_1.2.2.2.2.2.2.2.2.2.2.2.2.1)).toNat)) 64 1) (Int.toNat (w64 ((w64 (x_0 % (UInt64.ofInt r_1.2.2.2.2.2.2.2.2.2.2.2.2.1)).toNat) + (if w64 (r_1.2.2.2.2.2.2.2.2.2.2.2.2.1 - (w64 (x_0 % (UInt64.ofInt r_1.2.2.2.2.2.2.2.2.2.2.2.2.1)).toNat)) < w64 (n9 - (out.length : Int)) then w64 (r_1.2.2.2.2.2.2.2.2.2.2.2.2.1 - (w64 (x_0 % (UInt64.ofInt r_1.2.2.2.2.2.2.2.2.2.2.2.2.1)).toNat)) else w64 (n9 - (out.length : Int))))) - Int.toNat (w64 (x_0 % (UInt64.ofInt r_1.2.2.2.2.2.2.2.2.2.2.2.2.1)).toNat)) (64 - Int.toNat (w64 (x_0 % (UInt64.ofInt r_1.2.2.2.2.2.2.2.2.2.2.2.2.1)).toNat)) = .slice A20 b.length c22) ⟨rfl, e_⟩ <| qe) ?_
   refine WL_op ?_
   obtain ⟨out1, h_out1, hm⟩ := ob hm
   obtain ⟨hz, hl1⟩ := app_some h_out1
   refine Op_append (E := e8) (v := sl A20 b.length c22) (ys := b) ws_tf23 [] 126 10 (by kernel_rfl) k_21 rfl (Src.sl (Rd.cut (Rd.vec (k_21.brd 0 rfl) (c := Enc.all e8 x_27.l) (off := 11) (by kernel_rfl)) h_b rfl (by rfl) hA (by omega)) rfl (by rfl)) rfl (by have := k_21.len 10 rfl; have := hm; omega) ?_
   intro A21 c23 w_8 k_22
   rw [← hl1] at k_22
   refine We 1 (.n 7 (sl A21 (out.length + b.length) c23) (.sss (.kkk .z))) ?_
   refine Wn <| W_reg <| Wl 9 (.n 133 (.u64 (x_0 + (UInt64.ofInt (if w64 (r_1.2.2.2.2.2.2.2.2.2.2.2.2.1 - (w64 (x_0 % (UInt64.ofInt r_1.2.2.2.2.2.2.2.2.2.2.2.2.1)).toNat)) < w64 (n9 - (out.length : Int)) then w64 (r_1.2.2.2.2.2.2.2.2.2.2.2.2.1 - (w64 (x_0 % (UInt64.ofInt r_1.2.2.2.2.2.2.2.2.2.2.2.2.1)).toNat)) else w64 (n9 - (out.length : Int)))))) (.n 135 (pt g_x 10) (.k (.s .a)))) (qs g_x 0 <| qs g_x 0 <| qB k_22 0 rfl 10 (.u64 x_0) (by kernel_rfl) <| qs g_x 0 <| qs g_x 0 <| qe) ?_
   refine WL_op <| Op_bz 0 (.u64 (x_0 + (UInt64.ofInt (if w64 (r_1.2.2.2.2.2.2.2.2.2.2.2.2.1 - (w64 (x_0 % (UInt64.ofInt r_1.2.2.2.2.2.2.2.2.2.2.2.2.1)).toNat)) < w64 (n9 - (out.length : Int)) then w64 (r_1.2.2.2.2.2.2.2.2.2.2.2.2.1 - (w64 (x_0 % (UInt64.ofInt r_1.2.2.2.2.2.2.2.2.2.2.2.2.1)).toNat)) else w64 (n9 - (out.length : Int)))))) [.u64 (x_0 + (UInt64.ofInt (if w64 (r_1.2.2.2.2.2.2.2.2.2.2.2.2.1 - (w64 (x_0 % (UInt64.ofInt r_1.2.2.2.2.2.2.2.2.2.2.2.2.1)).toNat)) < w64 (n9 - (out.length : Int)) then w64 (r_1.2.2.2.2.2.2.2.2.2.2.2.2.1 - (w64 (x_0 % (UInt64.ofInt r_1.2.2.2.2.2.2.2.2.2.2.2.2.1)).toNat)) else w64 (n9 - (out.length : Int)))))] (Pt.at g_x 10) k_22 rfl (.kkkk (.kkkk (.kk .h))) ?_
   intro w_9 k_23
   refine WL_nil <| At_in ?_
   exact At_rd (x_0 + (UInt64.ofInt (if w64 (r_1.2.2.2.2.2.2.2.2.2.2.2.2.1 - (w64 (x_0 % (UInt64.ofInt r_1.2.2.2.2.2.2.2.2.2.2.2.2.1)).toNat)) < w64 (n9 - (out.length : Int)) then w64 (r_1.2.2.2.2.2.2.2.2.2.2.2.2.1 - (w64 (x_0 % (UInt64.ofInt r_1.2.2.2.2.2.2.2.2.2.2.2.2.1)).toNat)) else w64 (n9 - (out.length : Int)))), x_27, x_28, out1) (Option.some.inj hm).symm ⟨x_0 + (UInt64.ofInt (if w64 (r_1.2.2.2.2.2.2.2.2.2.2.2.2.1 - (w64 (x_0 % (UInt64.ofInt r_1.2.2.2.2.2.2.2.2.2.2.2.2.1)).toNat)) < w64 (n9 - (out.length : Int)) then w64 (r_1.2.2.2.2.2.2.2.2.2.2.2.2.1 - (w64 (x_0 % (UInt64.ofInt r_1.2.2.2.2.2.2.2.2.2.2.2.2.1)).toNat)) else w64 (n9 - (out.length : Int)))), x_27, x_28, out1, A21, out.length + b.length, c23, rfl, rfl, k_23.len 10 rfl, k_23⟩ (by kernel_rfl)
 rw [if_neg hc3] at hm
 refine W_exit (At_te (At_te (At_ie ?_)))
 have hm := exit_of hm hr0
 refine At_go <| W_seq <| Wq (.n 4 (sl A18 out.length c20) (.n 5 (I 0) .z)) ?_
 refine W_ret ?_
 obtain rfl := si hm
 refine At_rz [sl A18 out.length c20, I 0] qe ?_
 have k_24 := ((((((((((k_11.pk (.t (.t (.t (.t (.t (.t (.t (.t (.t .h)))))))))).pk (.t (.t (.t (.t .h))))).pk (.t (.t (.t (.t .h))))).pk (.t (.t (.t (.t .h))))).pk (.t (.t (.t (.t .h))))).pk (.t (.t (.t (.t (.t (.t (.t .h)))))))).pk (.t (.t (.t (.t (.t (.t (.t .h)))))))).pk (.t (.t (.t (.t (.t (.t (.t .h)))))))).pk (.t (.t (.t (.t (.t (.t (.t (.t (.t .h)))))))))).pk (.t (.t (.t (.t (.t (.t (.t (.t (.t .h)))))))))).pk (.t (.t (.t (.t (.t (.t (.t (.t (.t (.t .h))))))))))
 exact ⟨A18, out.length, c20, A12, r_1.2.2.2.1.length, c13, A13, r_1.2.2.2.2.2.2.2.1.length, c14, A14, r_1.2.2.2.2.2.2.2.2.1.length, c15, A15, r_1.2.2.2.2.2.2.2.2.2.2.2.2.2.2.2.2.1.length, c16, A16, r_1.2.2.2.2.2.2.2.2.2.2.2.2.2.2.2.2.2.1.length, c17, A17, r_1.2.2.2.2.2.2.2.2.2.2.2.2.2.2.2.2.2.2.1.length, c18, g0, r_1.2.2.2.2.2.2.2.2.2.2.2.2.2.2.2.2.2.2.2.1.length, c19, k_24.len 0 rfl, k_24.len 2 rfl, k_24.len 4 rfl, k_24.len 5 rfl, k_24.len 7 rfl, k_24.len 8 rfl, k_24.len 9 rfl, k_24.shlen 10 rfl, rfl, k_24⟩
theorem c_xof_Stream_At_s2 (x_s_kind : Int) (x_s_full : Int) (x_s_code : UInt32) (x_s_total : UInt64) (x_s_known : Bool) (x_key : List UInt8) (x_salt : List UInt8) (x_personal : List UInt8) (x_n_kind : Int) (x_n_digest : Int) (x_n_block : List UInt8) (x_n_key : List UInt8) (x_n_last : Bool) (x_n_written : UInt64) (x_n_e_h : Vec UInt32 8) (x_n_e_count_Lo : UInt64) (x_n_e_count_Hi : UInt64) (x_n_e_held : List UInt8) (x_n_e_block : Int) (x_root : List UInt8) (x_at : UInt64) (x_now : Vec UInt8 64) (x_have : Int) (g_x : Nat) (A_x_key : Option Addr) (n_x_key : Nat) (c_x_key : Nat) (A_x_salt : Option Addr) (n_x_salt : Nat) (c_x_salt : Nat) (A_x_personal : Option Addr) (n_x_personal : Nat) (c_x_personal : Nat) (g_x_n : Nat) (A_x_n_block : Option Addr) (n_x_n_block : Nat) (c_x_n_block : Nat) (A_x_n_key : Option Addr) (n_x_n_key : Nat) (c_x_n_key : Nat) (g_x_n_e : Nat) (A_x_n_e_held : Option Addr) (n_x_n_e_held : Nat) (c_x_n_e_held : Nat) (g_x_root : Nat) (n_x_root : Nat) (c_x_root : Nat) (h_x_root : Ro F w (some ⟨g_x_root, 0, none⟩) (e8.all x_root)) (hn_x_root : x_root.length = n_x_root) (hc_x_root : n_x_root ≤ c_x_root) (k : Cx F O w w [Bx 52 g_x [I x_s_kind, I x_s_full, .u32 x_s_code, .u64 x_s_total, .b x_s_known, sl A_x_key n_x_key c_x_key, sl A_x_salt n_x_salt c_x_salt, sl A_x_personal n_x_personal c_x_personal, pt g_x_n 0, sl (some ⟨g_x_root, 0, none⟩) n_x_root c_x_root, .u64 x_at, .ar e8 x_now, I x_have, .v (.func (.func 30) ⟨SV.vals [pt g_x 0]⟩ ⟨SV.vals []⟩)], Ow e8 A_x_key n_x_key c_x_key x_key, Ow e8 A_x_salt n_x_salt c_x_salt x_salt, Ow e8 A_x_personal n_x_personal c_x_personal x_personal, Bx 77 g_x_n [I x_n_kind, I x_n_digest, sl A_x_n_block n_x_n_block c_x_n_block, sl A_x_n_key n_x_n_key c_x_n_key, .b x_n_last, .u64 x_n_written, .v (.iface 124 (SV.val (pt g_x_n_e 0)))], Ow e8 A_x_n_block n_x_n_block c_x_n_block x_n_block, Ow e8 A_x_n_key n_x_n_key c_x_n_key x_n_key, Bx 128 g_x_n_e [.ar e32 x_n_e_h, .u64 x_n_e_count_Lo, .u64 x_n_e_count_Hi, sl A_x_n_e_held n_x_n_e_held c_x_n_e_held, I x_n_e_block, .v (.func (.func 65) ⟨SV.vals []⟩ ⟨SV.vals []⟩), .v (.func (.func 66) ⟨SV.vals []⟩ ⟨SV.vals []⟩)], Ow e8 A_x_n_e_held n_x_n_e_held c_x_n_e_held x_n_e_held]) (r : (UInt64 × Vec UInt32 8 × UInt64 × UInt64 × List UInt8 × Int × Int × Int × List UInt8 × List UInt8 × Bool × UInt64 × Int × Int × UInt32 × UInt64 × Bool × List UInt8 × List UInt8 × List UInt8 × UInt64 × Vec UInt8 64 × Int)) (hm : m_xof_Stream_At_s2 x_s_kind x_s_full x_s_code x_s_total x_s_known x_key x_salt x_personal x_n_kind x_n_digest x_n_block x_n_key x_n_last x_n_written x_n_e_h x_n_e_count_Lo x_n_e_count_Hi x_n_e_held x_n_e_block x_root x_at x_now x_have = some r) :
    Calls Try.prog 10 (vals [pt g_x 0]) w (fun e w' => ∃ A n c A1 n1 c1 A2 n2 c2 A3 n3 c3 A4 n4 c4 A5 n5 c5, r.2.2.2.2.1.length = n ∧ r.2.2.2.2.2.2.2.2.1.length = n1 ∧ r.2.2.2.2.2.2.2.2.2.1.length = n2 ∧ r.2.2.2.2.2.2.2.2.2.2.2.2.2.2.2.2.2.1.length = n3 ∧ r.2.2.2.2.2.2.2.2.2.2.2.2.2.2.2.2.2.2.1.length = n4 ∧ r.2.2.2.2.2.2.2.2.2.2.2.2.2.2.2.2.2.2.2.1.length = n5 ∧ e = .returned (SV.val (.u64 r.1)) ∧ Cx F O w w' [Bx 128 g_x_n_e [.ar e32 r.2.1, .u64 r.2.2.1, .u64 r.2.2.2.1, sl A n c, I r.2.2.2.2.2.1, .v (.func (.func 65) ⟨SV.vals []⟩ ⟨SV.vals []⟩), .v (.func (.func 66) ⟨SV.vals []⟩ ⟨SV.vals []⟩)], Ow e8 A n c r.2.2.2.2.1, Bx 77 g_x_n [I r.2.2.2.2.2.2.1, I r.2.2.2.2.2.2.2.1, sl A1 n1 c1, sl A2 n2 c2, .b r.2.2.2.2.2.2.2.2.2.2.1, .u64 r.2.2.2.2.2.2.2.2.2.2.2.1, .v (.iface 124 (SV.val (pt g_x_n_e 0)))], Ow e8 A1 n1 c1 r.2.2.2.2.2.2.2.2.1, Ow e8 A2 n2 c2 r.2.2.2.2.2.2.2.2.2.1, Bx 52 g_x [I r.2.2.2.2.2.2.2.2.2.2.2.2.1, I r.2.2.2.2.2.2.2.2.2.2.2.2.2.1, .u32 r.2.2.2.2.2.2.2.2.2.2.2.2.2.2.1, .u64 r.2.2.2.2.2.2.2.2.2.2.2.2.2.2.2.1, .b r.2.2.2.2.2.2.2.2.2.2.2.2.2.2.2.2.1, sl A3 n3 c3, sl A4 n4 c4, sl A5 n5 c5, pt g_x_n 0, sl (some ⟨g_x_root, 0, none⟩) n_x_root c_x_root, .u64 r.2.2.2.2.2.2.2.2.2.2.2.2.2.2.2.2.2.2.2.2.1, .ar e8 r.2.2.2.2.2.2.2.2.2.2.2.2.2.2.2.2.2.2.2.2.2.1, I r.2.2.2.2.2.2.2.2.2.2.2.2.2.2.2.2.2.2.2.2.2.2, .v (.func (.func 30) ⟨SV.vals [pt g_x 0]⟩ ⟨SV.vals []⟩)], Ow e8 A3 n3 c3 r.2.2.2.2.2.2.2.2.2.2.2.2.2.2.2.2.2.1, Ow e8 A4 n4 c4 r.2.2.2.2.2.2.2.2.2.2.2.2.2.2.2.2.2.2.1, Ow e8 A5 n5 c5 r.2.2.2.2.2.2.2.2.2.2.2.2.2.2.2.2.2.2.2.1]) := by
 unfold m_xof_Stream_At_s2 at hm
 obtain rfl := k.len 1 rfl
 obtain rfl := k.len 2 rfl
 obtain rfl := k.len 3 rfl
 obtain rfl := k.len 5 rfl
 obtain rfl := k.len 6 rfl
 obtain rfl := k.len 8 rfl
 subst hn_x_root
 refine calz [pt g_x 0] Try.func10 rfl ?_
 refine W_seq <| Wq .a ?_
 refine W_seq <| W_seq <| W_reg <| We 1 (.n 3 (pt g_x 0) .a) ?_
 refine WL_op ?_
 obtain ⟨r_, h_r_, hm⟩ := ob hm
 obtain ⟨F1, O1, kin, hO, hre, hF, hb⟩ := k.go (.i (.i (.i (.i (.i (.i (.i (.i (.i .e)))))))))
 refine Op_cz 4 ws_go16 (c_xof_Stream_none_s3 (F := F1) (O := O1) _ _ _ _ _ _ _ _ _ _ _ _ _ _ _ _ _ _ _ _ _ _ _ _ _ _ _ _ _ _ _ _ _ _ _ _ _ _ _ _ _ _ _ _ _ _ _ (Ro.of_old h_x_root k hF) rfl hc_x_root kin _ h_r_) ?_
 rintro e_ w_ ⟨A0, _, c0, A6, _, c6, A7, _, c7, A8, _, c8, A9, _, c9, A10, _, c10, rfl, rfl, rfl, rfl, rfl, rfl, rfl, k_⟩
 have k_1 := hb w_ _ _ k_ (.c (.c (.c (.c (.c (.c (.c (.c (.c .n)))))))))
 refine ⟨.b false, rfl, ?_⟩
 refine Wn <| W_cond false (by kernel_rfl) (fun h => by cases h) (fun _ => ?_)
 refine W_skip <| At_go <| W_seq <| Wa (.n 2 (.u64 r_.2.2.2.2.2.2.2.2.2.2.2.2.2.2.2.2.2.2.2.1) .z) (qs g_x 0 <| qs g_x 0 <| qB k_1 5 rfl 10 (.u64 r_.2.2.2.2.2.2.2.2.2.2.2.2.2.2.2.2.2.2.2.1) (by kernel_rfl) <| qe) ?_
 refine W_ret ?_
 obtain rfl := si hm
 refine At_rz [.u64 r_.2.2.2.2.2.2.2.2.2.2.2.2.2.2.2.2.2.2.2.1] qe ?_
 exact ⟨A0, r_.2.2.2.1.length, c0, A6, r_.2.2.2.2.2.2.2.1.length, c6, A7, r_.2.2.2.2.2.2.2.2.1.length, c7, A8, r_.2.2.2.2.2.2.2.2.2.2.2.2.2.2.2.2.1.length, c8, A9, r_.2.2.2.2.2.2.2.2.2.2.2.2.2.2.2.2.2.1.length, c9, A10, r_.2.2.2.2.2.2.2.2.2.2.2.2.2.2.2.2.2.2.1.length, c10, k_1.len 1 rfl, k_1.len 3 rfl, k_1.len 4 rfl, k_1.len 6 rfl, k_1.len 7 rfl, k_1.len 8 rfl, rfl, k_1⟩
theorem c_xof_Stream_Left_s2 (x_s_kind : Int) (x_s_full : Int) (x_s_code : UInt32) (x_s_total : UInt64) (x_s_known : Bool) (x_key : List UInt8) (x_salt : List UInt8) (x_personal : List UInt8) (x_n_kind : Int) (x_n_digest : Int) (x_n_block : List UInt8) (x_n_key : List UInt8) (x_n_last : Bool) (x_n_written : UInt64) (x_n_e_h : Vec UInt32 8) (x_n_e_count_Lo : UInt64) (x_n_e_count_Hi : UInt64) (x_n_e_held : List UInt8) (x_n_e_block : Int) (x_root : List UInt8) (x_at : UInt64) (x_now : Vec UInt8 64) (x_have : Int) (g_x : Nat) (A_x_key : Option Addr) (n_x_key : Nat) (c_x_key : Nat) (A_x_salt : Option Addr) (n_x_salt : Nat) (c_x_salt : Nat) (A_x_personal : Option Addr) (n_x_personal : Nat) (c_x_personal : Nat) (g_x_n : Nat) (A_x_n_block : Option Addr) (n_x_n_block : Nat) (c_x_n_block : Nat) (A_x_n_key : Option Addr) (n_x_n_key : Nat) (c_x_n_key : Nat) (g_x_n_e : Nat) (A_x_n_e_held : Option Addr) (n_x_n_e_held : Nat) (c_x_n_e_held : Nat) (g_x_root : Nat) (n_x_root : Nat) (c_x_root : Nat) (h_x_root : Ro F w (some ⟨g_x_root, 0, none⟩) (e8.all x_root)) (hn_x_root : x_root.length = n_x_root) (hc_x_root : n_x_root ≤ c_x_root) (k : Cx F O w w [Bx 52 g_x [I x_s_kind, I x_s_full, .u32 x_s_code, .u64 x_s_total, .b x_s_known, sl A_x_key n_x_key c_x_key, sl A_x_salt n_x_salt c_x_salt, sl A_x_personal n_x_personal c_x_personal, pt g_x_n 0, sl (some ⟨g_x_root, 0, none⟩) n_x_root c_x_root, .u64 x_at, .ar e8 x_now, I x_have, .v (.func (.func 30) ⟨SV.vals [pt g_x 0]⟩ ⟨SV.vals []⟩)], Ow e8 A_x_key n_x_key c_x_key x_key, Ow e8 A_x_salt n_x_salt c_x_salt x_salt, Ow e8 A_x_personal n_x_personal c_x_personal x_personal, Bx 77 g_x_n [I x_n_kind, I x_n_digest, sl A_x_n_block n_x_n_block c_x_n_block, sl A_x_n_key n_x_n_key c_x_n_key, .b x_n_last, .u64 x_n_written, .v (.iface 124 (SV.val (pt g_x_n_e 0)))], Ow e8 A_x_n_block n_x_n_block c_x_n_block x_n_block, Ow e8 A_x_n_key n_x_n_key c_x_n_key x_n_key, Bx 128 g_x_n_e [.ar e32 x_n_e_h, .u64 x_n_e_count_Lo, .u64 x_n_e_count_Hi, sl A_x_n_e_held n_x_n_e_held c_x_n_e_held, I x_n_e_block, .v (.func (.func 65) ⟨SV.vals []⟩ ⟨SV.vals []⟩), .v (.func (.func 66) ⟨SV.vals []⟩ ⟨SV.vals []⟩)], Ow e8 A_x_n_e_held n_x_n_e_held c_x_n_e_held x_n_e_held]) (r : (UInt64 × Vec UInt32 8 × UInt64 × UInt64 × List UInt8 × Int × Int × Int × List UInt8 × List UInt8 × Bool × UInt64 × Int × Int × UInt32 × UInt64 × Bool × List UInt8 × List UInt8 × List UInt8 × UInt64 × Vec UInt8 64 × Int)) (hm : m_xof_Stream_Left_s2 x_s_kind x_s_full x_s_code x_s_total x_s_known x_key x_salt x_personal x_n_kind x_n_digest x_n_block x_n_key x_n_last x_n_written x_n_e_h x_n_e_count_Lo x_n_e_count_Hi x_n_e_held x_n_e_block x_root x_at x_now x_have = some r) :
    Calls Try.prog 11 (vals [pt g_x 0]) w (fun e w' => ∃ A n c A1 n1 c1 A2 n2 c2 A3 n3 c3 A4 n4 c4 A5 n5 c5, r.2.2.2.2.1.length = n ∧ r.2.2.2.2.2.2.2.2.1.length = n1 ∧ r.2.2.2.2.2.2.2.2.2.1.length = n2 ∧ r.2.2.2.2.2.2.2.2.2.2.2.2.2.2.2.2.2.1.length = n3 ∧ r.2.2.2.2.2.2.2.2.2.2.2.2.2.2.2.2.2.2.1.length = n4 ∧ r.2.2.2.2.2.2.2.2.2.2.2.2.2.2.2.2.2.2.2.1.length = n5 ∧ e = .returned (SV.val (.u64 r.1)) ∧ Cx F O w w' [Bx 128 g_x_n_e [.ar e32 r.2.1, .u64 r.2.2.1, .u64 r.2.2.2.1, sl A n c, I r.2.2.2.2.2.1, .v (.func (.func 65) ⟨SV.vals []⟩ ⟨SV.vals []⟩), .v (.func (.func 66) ⟨SV.vals []⟩ ⟨SV.vals []⟩)], Ow e8 A n c r.2.2.2.2.1, Bx 77 g_x_n [I r.2.2.2.2.2.2.1, I r.2.2.2.2.2.2.2.1, sl A1 n1 c1, sl A2 n2 c2, .b r.2.2.2.2.2.2.2.2.2.2.1, .u64 r.2.2.2.2.2.2.2.2.2.2.2.1, .v (.iface 124 (SV.val (pt g_x_n_e 0)))], Ow e8 A1 n1 c1 r.2.2.2.2.2.2.2.2.1, Ow e8 A2 n2 c2 r.2.2.2.2.2.2.2.2.2.1, Bx 52 g_x [I r.2.2.2.2.2.2.2.2.2.2.2.2.1, I r.2.2.2.2.2.2.2.2.2.2.2.2.2.1, .u32 r.2.2.2.2.2.2.2.2.2.2.2.2.2.2.1, .u64 r.2.2.2.2.2.2.2.2.2.2.2.2.2.2.2.1, .b r.2.2.2.2.2.2.2.2.2.2.2.2.2.2.2.2.1, sl A3 n3 c3, sl A4 n4 c4, sl A5 n5 c5, pt g_x_n 0, sl (some ⟨g_x_root, 0, none⟩) n_x_root c_x_root, .u64 r.2.2.2.2.2.2.2.2.2.2.2.2.2.2.2.2.2.2.2.2.1, .ar e8 r.2.2.2.2.2.2.2.2.2.2.2.2.2.2.2.2.2.2.2.2.2.1, I r.2.2.2.2.2.2.2.2.2.2.2.2.2.2.2.2.2.2.2.2.2.2, .v (.func (.func 30) ⟨SV.vals [pt g_x 0]⟩ ⟨SV.vals []⟩)], Ow e8 A3 n3 c3 r.2.2.2.2.2.2.2.2.2.2.2.2.2.2.2.2.2.1, Ow e8 A4 n4 c4 r.2.2.2.2.2.2.2.2.2.2.2.2.2.2.2.2.2.2.1, Ow e8 A5 n5 c5 r.2.2.2.2.2.2.2.2.2.2.2.2.2.2.2.2.2.2.2.1]) := by
 unfold m_xof_Stream_Left_s2 at hm
 obtain rfl := k.len 1 rfl
 obtain rfl := k.len 2 rfl
 obtain rfl := k.len 3 rfl
 obtain rfl := k.len 5 rfl
 obtain rfl := k.len 6 rfl
 obtain rfl := k.len 8 rfl
 subst hn_x_root
 refine calz [pt g_x 0] Try.func11 rfl ?_
 refine W_seq <| Wq .a ?_
 refine W_seq <| W_seq <| W_reg <| We 1 (.n 3 (pt g_x 0) .a) ?_
 refine WL_op ?_
 obtain ⟨r_, h_r_, hm⟩ := ob hm
 obtain ⟨F1, O1, kin, hO, hre, hF, hb⟩ := k.go (.i (.i (.i (.i (.i (.i (.i (.i (.i .e)))))))))
 refine Op_cz 4 ws_go16 (c_xof_Stream_none_s3 (F := F1) (O := O1) _ _ _ _ _ _ _ _ _ _ _ _ _ _ _ _ _ _ _ _ _ _ _ _ _ _ _ _ _ _ _ _ _ _ _ _ _ _ _ _ _ _ _ _ _ _ _ (Ro.of_old h_x_root k hF) rfl hc_x_root kin _ h_r_) ?_
 rintro e_ w_ ⟨A0, _, c0, A6, _, c6, A7, _, c7, A8, _, c8, A9, _, c9, A10, _, c10, rfl, rfl, rfl, rfl, rfl, rfl, rfl, k_⟩
 have k_1 := hb w_ _ _ k_ (.c (.c (.c (.c (.c (.c (.c (.c (.c .n)))))))))
 refine ⟨.b false, rfl, ?_⟩
 refine Wn <| W_cond false (by kernel_rfl) (fun h => by cases h) (fun _ => ?_)
 refine W_skip <| At_go <| W_seq <| W_d ws_mixed (by kernel_rfl) (.n 2 (.u64 (r_.2.2.2.2.2.2.2.2.2.2.2.2.2.2.1 - r_.2.2.2.2.2.2.2.2.2.2.2.2.2.2.2.2.2.2.2.1)) .z) (fun m => qs g_x 0 <| qs g_x 0 <| qs g_x 0 <| qB (k_1.drew m) 5 rfl 3 (.u64 r_.2.2.2.2.2.2.2.2.2.2.2.2.2.2.1) (by kernel_rfl) <| qs g_x 0 <| qs g_x 0 <| qB (k_1.drew m) 5 rfl 10 (.u64 r_.2.2.2.2.2.2.2.2.2.2.2.2.2.2.2.2.2.2.2.1) (by kernel_rfl) <| qe) (by kernel_rfl) (fun m_ => ?_)
 have k_2 := k_1.drew m_
 refine At_go <| W_ret ?_
 obtain rfl := si hm
 refine At_rz [.u64 (r_.2.2.2.2.2.2.2.2.2.2.2.2.2.2.1 - r_.2.2.2.2.2.2.2.2.2.2.2.2.2.2.2.2.2.2.2.1)] qe ?_
 exact ⟨A0, r_.2.2.2.1.length, c0, A6, r_.2.2.2.2.2.2.2.1.length, c6, A7, r_.2.2.2.2.2.2.2.2.1.length, c7, A8, r_.2.2.2.2.2.2.2.2.2.2.2.2.2.2.2.2.1.length, c8, A9, r_.2.2.2.2.2.2.2.2.2.2.2.2.2.2.2.2.2.1.length, c9, A10, r_.2.2.2.2.2.2.2.2.2.2.2.2.2.2.2.2.2.2.1.length, c10, k_2.len 1 rfl, k_2.len 3 rfl, k_2.len 4 rfl, k_2.len 6 rfl, k_2.len 7 rfl, k_2.len 8 rfl, rfl, k_2⟩
theorem c_xof_Stream_At_s3 (x_s_kind : Int) (x_s_full : Int) (x_s_code : UInt32) (x_s_total : UInt64) (x_s_known : Bool) (x_key : List UInt8) (x_salt : List UInt8) (x_personal : List UInt8) (x_n_kind : Int) (x_n_digest : Int) (x_n_block : List UInt8) (x_n_key : List UInt8) (x_n_last : Bool) (x_n_written : UInt64) (x_n_e_h : Vec UInt32 8) (x_n_e_count_Lo : UInt64) (x_n_e_count_Hi : UInt64) (x_n_e_held : List UInt8) (x_n_e_block : Int) (x_at : UInt64) (x_now : Vec UInt8 64) (x_have : Int) (g_x : Nat) (A_x_key : Option Addr) (n_x_key : Nat) (c_x_key : Nat) (A_x_salt : Option Addr) (n_x_salt : Nat) (c_x_salt : Nat) (A_x_personal : Option Addr) (n_x_personal : Nat) (c_x_personal : Nat) (g_x_n : Nat) (A_x_n_block : Option Addr) (n_x_n_block : Nat) (c_x_n_block : Nat) (A_x_n_key : Option Addr) (n_x_n_key : Nat) (c_x_n_key : Nat) (g_x_n_e : Nat) (A_x_n_e_held : Option Addr) (n_x_n_e_held : Nat) (c_x_n_e_held : Nat) (k : Cx F O w w [Bx 52 g_x [I x_s_kind, I x_s_full, .u32 x_s_code, .u64 x_s_total, .b x_s_known, sl A_x_key n_x_key c_x_key, sl A_x_salt n_x_salt c_x_salt, sl A_x_personal n_x_personal c_x_personal, pt g_x_n 0, sl none 0 0, .u64 x_at, .ar e8 x_now, I x_have, .v (.func (.func 28) ⟨SV.vals [pt g_x 0]⟩ ⟨SV.vals []⟩)], Ow e8 A_x_key n_x_key c_x_key x_key, Ow e8 A_x_salt n_x_salt c_x_salt x_salt, Ow e8 A_x_personal n_x_personal c_x_personal x_personal, Bx 77 g_x_n [I x_n_kind, I x_n_digest, sl A_x_n_block n_x_n_block c_x_n_block, sl A_x_n_key n_x_n_key c_x_n_key, .b x_n_last, .u64 x_n_written, .v (.iface 124 (SV.val (pt g_x_n_e 0)))], Ow e8 A_x_n_block n_x_n_block c_x_n_block x_n_block, Ow e8 A_x_n_key n_x_n_key c_x_n_key x_n_key, Bx 128 g_x_n_e [.ar e32 x_n_e_h, .u64 x_n_e_count_Lo, .u64 x_n_e_count_Hi, sl A_x_n_e_held n_x_n_e_held c_x_n_e_held, I x_n_e_block, .v (.func (.func 65) ⟨SV.vals []⟩ ⟨SV.vals []⟩), .v (.func (.func 66) ⟨SV.vals []⟩ ⟨SV.vals []⟩)], Ow e8 A_x_n_e_held n_x_n_e_held c_x_n_e_held x_n_e_held]) (r : (UInt64 × Vec UInt32 8 × UInt64 × UInt64 × List UInt8 × Int × Int × Int × List UInt8 × List UInt8 × Bool × UInt64 × Int × Int × UInt32 × UInt64 × Bool × List UInt8 × List UInt8 × List UInt8 × UInt64 × Vec UInt8 64 × Int)) (hm : m_xof_Stream_At_s3 x_s_kind x_s_full x_s_code x_s_total x_s_known x_key x_salt x_personal x_n_kind x_n_digest x_n_block x_n_key x_n_last x_n_written x_n_e_h x_n_e_count_Lo x_n_e_count_Hi x_n_e_held x_n_e_block x_at x_now x_have = some r) :
    Calls Try.prog 10 (vals [pt g_x 0]) w (fun e w' => ∃ A n c A1 n1 c1 A2 n2 c2 A3 n3 c3 A4 n4 c4 A5 n5 c5, r.2.2.2.2.1.length = n ∧ r.2.2.2.2.2.2.2.2.1.length = n1 ∧ r.2.2.2.2.2.2.2.2.2.1.length = n2 ∧ r.2.2.2.2.2.2.2.2.2.2.2.2.2.2.2.2.2.1.length = n3 ∧ r.2.2.2.2.2.2.2.2.2.2.2.2.2.2.2.2.2.2.1.length = n4 ∧ r.2.2.2.2.2.2.2.2.2.2.2.2.2.2.2.2.2.2.2.1.length = n5 ∧ e = .returned (SV.val (.u64 r.1)) ∧ Cx F O w w' [Bx 128 g_x_n_e [.ar e32 r.2.1, .u64 r.2.2.1, .u64 r.2.2.2.1, sl A n c, I r.2.2.2.2.2.1, .v (.func (.func 65) ⟨SV.vals []⟩ ⟨SV.vals []⟩), .v (.func (.func 66) ⟨SV.vals []⟩ ⟨SV.vals []⟩)], Ow e8 A n c r.2.2.2.2.1, Bx 77 g_x_n [I r.2.2.2.2.2.2.1, I r.2.2.2.2.2.2.2.1, sl A1 n1 c1, sl A2 n2 c2, .b r.2.2.2.2.2.2.2.2.2.2.1, .u64 r.2.2.2.2.2.2.2.2.2.2.2.1, .v (.iface 124 (SV.val (pt g_x_n_e 0)))], Ow e8 A1 n1 c1 r.2.2.2.2.2.2.2.2.1, Ow e8 A2 n2 c2 r.2.2.2.2.2.2.2.2.2.1, Bx 52 g_x [I r.2.2.2.2.2.2.2.2.2.2.2.2.1, I r.2.2.2.2.2.2.2.2.2.2.2.2.2.1, .u32 r.2.2.2.2.2.2.2.2.2.2.2.2.2.2.1, .u64 r.2.2.2.2.2.2.2.2.2.2.2.2.2.2.2.1, .b r.2.2.2.2.2.2.2.2.2.2.2.2.2.2.2.2.1, sl A3 n3 c3, sl A4 n4 c4, sl A5 n5 c5, pt g_x_n 0, sl none 0 0, .u64 r.2.2.2.2.2.2.2.2.2.2.2.2.2.2.2.2.2.2.2.2.1, .ar e8 r.2.2.2.2.2.2.2.2.2.2.2.2.2.2.2.2.2.2.2.2.2.1, I r.2.2.2.2.2.2.2.2.2.2.2.2.2.2.2.2.2.2.2.2.2.2, .v (.func (.func 28) ⟨SV.vals [pt g_x 0]⟩ ⟨SV.vals []⟩)], Ow e8 A3 n3 c3 r.2.2.2.2.2.2.2.2.2.2.2.2.2.2.2.2.2.1, Ow e8 A4 n4 c4 r.2.2.2.2.2.2.2.2.2.2.2.2.2.2.2.2.2.2.1, Ow e8 A5 n5 c5 r.2.2.2.2.2.2.2.2.2.2.2.2.2.2.2.2.2.2.2.1]) := by
 unfold m_xof_Stream_At_s3 at hm
 obtain rfl := k.len 1 rfl
 obtain rfl := k.len 2 rfl
 obtain rfl := k.len 3 rfl
 obtain rfl := k.len 5 rfl
 obtain rfl := k.len 6 rfl
 obtain rfl := k.len 8 rfl
 refine calz [pt g_x 0] Try.func10 rfl ?_
 refine W_seq <| Wq .a ?_
 refine W_seq <| W_seq <| W_reg <| We 1 (.n 3 (pt g_x 0) .a) ?_
 refine WL_op ?_
 obtain ⟨r_, h_r_, hm⟩ := ob hm
 obtain ⟨F1, O1, kin, hO, hre, hF, hb⟩ := k.go (.i (.i (.i (.i (.i (.i (.i (.i (.i .e)))))))))
 refine Op_cz 4 ws_go16 (c_xof_Stream_none_s2 (F := F1) (O := O1) _ _ _ _ _ _ _ _ _ _ _ _ _ _ _ _ _ _ _ _ _ _ _ _ _ _ _ _ _ _ _ _ _ _ _ _ _ _ _ _ _ _ _ kin _ h_r_) ?_
 rintro e_ w_ ⟨A0, _, c0, A6, _, c6, A7, _, c7, A8, _, c8, A9, _, c9, A10, _, c10, rfl, rfl, rfl, rfl, rfl, rfl, rfl, k_⟩
 have k_1 := hb w_ _ _ k_ (.c (.c (.c (.c (.c (.c (.c (.c (.c .n)))))))))
 refine ⟨.b false, rfl, ?_⟩
 refine Wn <| W_cond false (by kernel_rfl) (fun h => by cases h) (fun _ => ?_)
 refine W_skip <| At_go <| W_seq <| Wa (.n 2 (.u64 r_.2.2.2.2.2.2.2.2.2.2.2.2.2.2.2.2.2.2.2.1) .z) (qs g_x 0 <| qs g_x 0 <| qB k_1 5 rfl 10 (.u64 r_.2.2.2.2.2.2.2.2.2.2.2.2.2.2.2.2.2.2.2.1) (by kernel_rfl) <| qe) ?_
 refine W_ret ?_
 obtain rfl := si hm
 refine At_rz [.u64 r_.2.2.2.2.2.2.2.2.2.2.2.2.2.2.2.2.2.2.2.1] qe ?_
 exact ⟨A0, r_.2.2.2.1.length, c0, A6, r_.2.2.2.2.2.2.2.1.length, c6, A7, r_.2.2.2.2.2.2.2.2.1.length, c7, A8, r_.2.2.2.2.2.2.2.2.2.2.2.2.2.2.2.2.1.length, c8, A9, r_.2.2.2.2.2.2.2.2.2.2.2.2.2.2.2.2.2.1.length, c9, A10, r_.2.2.2.2.2.2.2.2.2.2.2.2.2.2.2.2.2.2.1.length, c10, k_1.len 1 rfl, k_1.len 3 rfl, k_1.len 4 rfl, k_1.len 6 rfl, k_1.len 7 rfl, k_1.len 8 rfl, rfl, k_1⟩
theorem c_xof_Stream_Left_s3 (x_s_kind : Int) (x_s_full : Int) (x_s_code : UInt32) (x_s_total : UInt64) (x_s_known : Bool) (x_key : List UInt8) (x_salt : List UInt8) (x_personal : List UInt8) (x_n_kind : Int) (x_n_digest : Int) (x_n_block : List UInt8) (x_n_key : List UInt8) (x_n_last : Bool) (x_n_written : UInt64) (x_n_e_h : Vec UInt32 8) (x_n_e_count_Lo : UInt64) (x_n_e_count_Hi : UInt64) (x_n_e_held : List UInt8) (x_n_e_block : Int) (x_at : UInt64) (x_now : Vec UInt8 64) (x_have : Int) (g_x : Nat) (A_x_key : Option Addr) (n_x_key : Nat) (c_x_key : Nat) (A_x_salt : Option Addr) (n_x_salt : Nat) (c_x_salt : Nat) (A_x_personal : Option Addr) (n_x_personal : Nat) (c_x_personal : Nat) (g_x_n : Nat) (A_x_n_block : Option Addr) (n_x_n_block : Nat) (c_x_n_block : Nat) (A_x_n_key : Option Addr) (n_x_n_key : Nat) (c_x_n_key : Nat) (g_x_n_e : Nat) (A_x_n_e_held : Option Addr) (n_x_n_e_held : Nat) (c_x_n_e_held : Nat) (k : Cx F O w w [Bx 52 g_x [I x_s_kind, I x_s_full, .u32 x_s_code, .u64 x_s_total, .b x_s_known, sl A_x_key n_x_key c_x_key, sl A_x_salt n_x_salt c_x_salt, sl A_x_personal n_x_personal c_x_personal, pt g_x_n 0, sl none 0 0, .u64 x_at, .ar e8 x_now, I x_have, .v (.func (.func 28) ⟨SV.vals [pt g_x 0]⟩ ⟨SV.vals []⟩)], Ow e8 A_x_key n_x_key c_x_key x_key, Ow e8 A_x_salt n_x_salt c_x_salt x_salt, Ow e8 A_x_personal n_x_personal c_x_personal x_personal, Bx 77 g_x_n [I x_n_kind, I x_n_digest, sl A_x_n_block n_x_n_block c_x_n_block, sl A_x_n_key n_x_n_key c_x_n_key, .b x_n_last, .u64 x_n_written, .v (.iface 124 (SV.val (pt g_x_n_e 0)))], Ow e8 A_x_n_block n_x_n_block c_x_n_block x_n_block, Ow e8 A_x_n_key n_x_n_key c_x_n_key x_n_key, Bx 128 g_x_n_e [.ar e32 x_n_e_h, .u64 x_n_e_count_Lo, .u64 x_n_e_count_Hi, sl A_x_n_e_held n_x_n_e_held c_x_n_e_held, I x_n_e_block, .v (.func (.func 65) ⟨SV.vals []⟩ ⟨SV.vals []⟩), .v (.func (.func 66) ⟨SV.vals []⟩ ⟨SV.vals []⟩)], Ow e8 A_x_n_e_held n_x_n_e_held c_x_n_e_held x_n_e_held]) (r : (UInt64 × Vec UInt32 8 × UInt64 × UInt64 × List UInt8 × Int × Int × Int × List UInt8 × List UInt8 × Bool × UInt64 × Int × Int × UInt32 × UInt64 × Bool × List UInt8 × List UInt8 × List UInt8 × UInt64 × Vec UInt8 64 × Int)) (hm : m_xof_Stream_Left_s3 x_s_kind x_s_full x_s_code x_s_total x_s_known x_key x_salt x_personal x_n_kind x_n_digest x_n_block x_n_key x_n_last x_n_written x_n_e_h x_n_e_count_Lo x_n_e_count_Hi x_n_e_held x_n_e_block x_at x_now x_have = some r) :
    Calls Try.prog 11 (vals [pt g_x 0]) w (fun e w' => ∃ A n c A1 n1 c1 A2 n2 c2 A3 n3 c3 A4 n4 c4 A5 n5 c5, r.2.2.2.2.1.length = n ∧ r.2.2.2.2.2.2.2.2.1.length = n1 ∧ r.2.2.2.2.2.2.2.2.2.1.length = n2 ∧ r.2.2.2.2.2.2.2.2.2.2.2.2.2.2.2.2.2.1.length = n3 ∧ r.2.2.2.2.2.2.2.2.2.2.2.2.2.2.2.2.2.2.1.length = n4 ∧ r.2.2.2.2.2.2.2.2.2.2.2.2.2.2.2.2.2.2.2.1.length = n5 ∧ e = .returned (SV.val (.u64 r.1)) ∧ Cx F O w w' [Bx 128 g_x_n_e [.ar e32 r.2.1, .u64 r.2.2.1, .u64 r.2.2.2.1, sl A n c, I r.2.2.2.2.2.1, .v (.func (.func 65) ⟨SV.vals []⟩ ⟨SV.vals []⟩), .v (.func (.func 66) ⟨SV.vals []⟩ ⟨SV.vals []⟩)], Ow e8 A n c r.2.2.2.2.1, Bx 77 g_x_n [I r.2.2.2.2.2.2.1, I r.2.2.2.2.2.2.2.1, sl A1 n1 c1, sl A2 n2 c2, .b r.2.2.2.2.2.2.2.2.2.2.1, .u64 r.2.2.2.2.2.2.2.2.2.2.2.1, .v (.iface 124 (SV.val (pt g_x_n_e 0)))], Ow e8 A1 n1 c1 r.2.2.2.2.2.2.2.2.1, Ow e8 A2 n2 c2 r.2.2.2.2.2.2.2.2.2.1, Bx 52 g_x [I r.2.2.2.2.2.2.2.2.2.2.2.2.1, I r.2.2.2.2.2.2.2.2.2.2.2.2.2.1, .u32 r.2.2.2.2.2.2.2.2.2.2.2.2.2.2.1, .u64 r.2.2.2.2.2.2.2.2.2.2.2.2.2.2.2.1, .b r.2.2.2.2.2.2.2.2.2.2.2.2.2.2.2.2.1, sl A3 n3 c3, sl A4 n4 c4, sl A5 n5 c5, pt g_x_n 0, sl none 0 0, .u64 r.2.2.2.2.2.2.2.2.2.2.2.2.2.2.2.2.2.2.2.2.1, .ar e8 r.2.2.2.2.2.2.2.2.2.2.2.2.2.2.2.2.2.2.2.2.2.1, I r.2.2.2.2.2.2.2.2.2.2.2.2.2.2.2.2.2.2.2.2.2.2, .v (.func (.func 28) ⟨SV.vals [pt g_x 0]⟩ ⟨SV.vals []⟩)], Ow e8 A3 n3 c3 r.2.2.2.2.2.2.2.2.2.2.2.2.2.2.2.2.2.1, Ow e8 A4 n4 c4 r.2.2.2.2.2.2.2.2.2.2.2.2.2.2.2.2.2.2.1, Ow e8 A5 n5 c5 r.2.2.2.2.2.2.2.2.2.2.2.2.2.2.2.2.2.2.2.1]) := by
 unfold m_xof_Stream_Left_s3 at hm
 obtain rfl := k.len 1 rfl
 obtain rfl := k.len 2 rfl
 obtain rfl := k.len 3 rfl
 obtain rfl := k.len 5 rfl
 obtain rfl := k.len 6 rfl
 obtain rfl := k.len 8 rfl
 refine calz [pt g_x 0] Try.func11 rfl ?_
 refine W_seq <| Wq .a ?_
 refine W_seq <| W_seq <| W_reg <| We 1 (.n 3 (pt g_x 0) .a) ?_
 refine WL_op ?_
 obtain ⟨r_, h_r_, hm⟩ := ob hm
 obtain ⟨F1, O1, kin, hO, hre, hF, hb⟩ := k.go (.i (.i (.i (.i (.i (.i (.i (.i (.i .e)))))))))
 refine Op_cz 4 ws_go16 (c_xof_Stream_none_s2 (F := F1) (O := O1) _ _ _ _ _ _ _ _ _ _ _ _ _ _ _ _ _ _ _ _ _ _ _ _ _ _ _ _ _ _ _ _ _ _ _ _ _ _ _ _ _ _ _ kin _ h_r_) ?_
 rintro e_ w_ ⟨A0, _, c0, A6, _, c6, A7, _, c7, A8, _, c8, A9, _, c9, A10, _, c10, rfl, rfl, rfl, rfl, rfl, rfl, rfl, k_⟩
 have k_1 := hb w_ _ _ k_ (.c (.c (.c (.c (.c (.c (.c (.c (.c .n)))))))))
 refine ⟨.b false, rfl, ?_⟩
 refine Wn <| W_cond false (by kernel_rfl) (fun h => by cases h) (fun _ => ?_)
 refine W_skip <| At_go <| W_seq <| W_d ws_mixed (by kernel_rfl) (.n 2 (.u64 (r_.2.2.2.2.2.2.2.2.2.2.2.2.2.2.1 - r_.2.2.2.2.2.2.2.2.2.2.2.2.2.2.2.2.2.2.2.1)) .z) (fun m => qs g_x 0 <| qs g_x 0 <| qs g_x 0 <| qB (k_1.drew m) 5 rfl 3 (.u64 r_.2.2.2.2.2.2.2.2.2.2.2.2.2.2.1) (by kernel_rfl) <| qs g_x 0 <| qs g_x 0 <| qB (k_1.drew m) 5 rfl 10 (.u64 r_.2.2.2.2.2.2.2.2.2.2.2.2.2.2.2.2.2.2.2.1) (by kernel_rfl) <| qe) (by kernel_rfl) (fun m_ => ?_)
 have k_2 := k_1.drew m_
 refine At_go <| W_ret ?_
 obtain rfl := si hm
 refine At_rz [.u64 (r_.2.2.2.2.2.2.2.2.2.2.2.2.2.2.1 - r_.2.2.2.2.2.2.2.2.2.2.2.2.2.2.2.2.2.2.2.1)] qe ?_
 exact ⟨A0, r_.2.2.2.1.length, c0, A6, r_.2.2.2.2.2.2.2.1.length, c6, A7, r_.2.2.2.2.2.2.2.2.1.length, c7, A8, r_.2.2.2.2.2.2.2.2.2.2.2.2.2.2.2.2.1.length, c8, A9, r_.2.2.2.2.2.2.2.2.2.2.2.2.2.2.2.2.2.1.length, c9, A10, r_.2.2.2.2.2.2.2.2.2.2.2.2.2.2.2.2.2.2.1.length, c10, k_2.len 1 rfl, k_2.len 3 rfl, k_2.len 4 rfl, k_2.len 6 rfl, k_2.len 7 rfl, k_2.len 8 rfl, rfl, k_2⟩
end Go.Sx

