import Derived.Test.YtmknbdnofogmdaaGreatW4
namespace Go.Sx
open Go.RowKit Go.Proofs
set_option linter.unusedVariables false
set_option linter.unusedSimpArgs false
set_option maxRecDepth 20000

-- quern/mixs.mix
noncomputable def m_mixs_mix (v : Vec UInt32 16) (a_ : Int) (b : Int) (c : Int) (d : Int) (x_ : UInt32) (y_ : UInt32) : Option (Vec UInt32 16) :=
  (geti v.l a_).bind fun x_2 => (geti v.l b).bind fun x_3 => (geti v.l a_).bind fun x_4 => (some (vst v a_ (x_2 + (x_3 + x_)))).bind fun v1 => (geti v1.l d).bind fun x_5 => (geti v1.l a_).bind fun x_6 => (m_bits_RotateLeft32 (x_5 ^^^ x_6) (-16 : Int)).bind fun r_ => (geti v1.l d).bind fun x_7 => (some (vst v1 d r_)).bind fun v2 => (geti v2.l c).bind fun x_8 => (geti v2.l d).bind fun x_9 => (geti v2.l c).bind fun x_10 => (some (vst v2 c (x_8 + x_9))).bind fun v3 => (geti v3.l b).bind fun x_11 => (geti v3.l c).bind fun x_12 => (m_bits_RotateLeft32 (x_11 ^^^ x_12) (-12 : Int)).bind fun r_1 => (geti v3.l b).bind fun x_13 => (some (vst v3 b r_1)).bind fun v4 => (geti v4.l a_).bind fun x_14 => (geti v4.l b).bind fun x_15 => (geti v4.l a_).bind fun x_16 => (some (vst v4 a_ (x_14 + (x_15 + y_)))).bind fun v5 => (geti v5.l d).bind fun x_17 => (geti v5.l a_).bind fun x_18 => (m_bits_RotateLeft32 (x_17 ^^^ x_18) (-8 : Int)).bind fun r_2 => (geti v5.l d).bind fun x_19 => (some (vst v5 d r_2)).bind fun v6 => (geti v6.l c).bind fun x_20 => (geti v6.l d).bind fun x_21 => (geti v6.l c).bind fun x_22 => (some (vst v6 c (x_20 + x_21))).bind fun v7 => (geti v7.l b).bind fun x_23 => (geti v7.l c).bind fun x_24 => (m_bits_RotateLeft32 (x_23 ^^^ x_24) (-7 : Int)).bind fun r_3 => (geti v7.l b).bind fun x_25 => (some (vst v7 b r_3)).bind fun v8 => some v8
theorem c_mixs_mix {F O : Nat → Prop} {w : World} (v : Vec UInt32 16) (a_ : Int) (b : Int) (c : Int) (d : Int) (x_ : UInt32) (y_ : UInt32) (g_v : Nat) (k : Cx F O w w [Bx 155 g_v [.ar e32 v]]) (r : (Vec UInt32 16)) (hm : m_mixs_mix v a_ b c d x_ y_ = some r) :
    Calls Tryz.prog 163 (vals [pt g_v 0, I a_, I b, I c, I d, .u32 x_, .u32 y_]) w (fun e w' => e = .returned (SV.val (.tup [])) ∧ Cx F O w w' [Bx 155 g_v [.ar e32 r]]) := by
 unfold m_mixs_mix at hm
 refine calls [pt g_v 0, I a_, I b, I c, I d, .u32 x_, .u32 y_] Tryz.func163 rfl (of_decide_eq_true (by kernel_rfl)) ?_
 refine W_seq ?_
 have k_ := k.drew 1
 refine W_m yz_mixed (.q 0 0 (.q 1 0 (.q 2 0 (.q 3 0 (.q 4 0 (.q 5 0 (.q 6 0 (.q 7 0 (.q 8 0 (.q 9 0 (.q 10 0 (.q 11 0 (.q 12 0 (.q 13 1 (.q 14 0 (.op 15 .nil)))))))))))))))) [15] k_ (.c (.z) .l) (by kernel_rfl) (fun _ => ?_)
 obtain ⟨x_2, h_x_2, hm⟩ := ob hm
 obtain ⟨x_3, h_x_3, hm⟩ := ob hm
 refine MXq 13 0 [] (.n 14 (pt g_v 0) (.n 15 (I a_) (.n 26 (.u32 (x_2 + (x_3 + x_))) (.kkkk (.k (.s .a)))))) (fun x hx => qs g_v 0 <| qV (hx.vrd 0 rfl e32 v 0 (by kernel_rfl)) h_x_2 rfl (.u32 x_2) rfl <| qs g_v 0 <| qV (hx.vrd 0 rfl e32 v 0 (by kernel_rfl)) h_x_3 rfl (.u32 x_3) rfl <| qe) (by kernel_rfl) (fun _ => ?_)
 refine MXq 1 1 [] (.n 27 (pt g_v 0) (.s .a)) (fun x hx => qs g_v 0 <| qe) (by kernel_rfl) (fun _ => ?_)
 obtain ⟨x_4, h_x_4, hm⟩ := ob hm
 refine MXq 1 0 [] (.n 28 (.v (.pointer (ixA (some ⟨g_v, 0, none⟩) a_ 1))) (.ss .a)) (fun x hx => qI g_v 0 h_x_4 <| qe) (by kernel_rfl) (fun _ => ?_)
 refine MX_op (by kernel_rfl) rfl ?_
 obtain ⟨v1, h_v1, hm⟩ := nm hm
 refine Op_vs (E := e32) (kk := 0) [] 0 (.u32 (x_2 + (x_3 + x_))) [.u32 (x_2 + (x_3 + x_))] h_v1 h_x_4 (Pt.ix0 (Pt.at g_v 0) a_ 1) k_ rfl .h rfl (by kernel_rfl) (by kernel_rfl) ?_
 intro w_ k_1
 refine ⟨(k_1.sel .z), fun _ => ?_⟩
 refine MX_nil <| At_go <| W_seq ?_
 have k_2 := k_1.drew 1
 refine W_m yz_mixed (.q 0 1 (.q 1 1 (.q 2 1 (.q 3 1 (.q 4 1 (.q 5 1 (.q 6 1 (.q 7 1 (.q 8 1 (.q 9 1 (.q 10 1 (.q 11 1 (.q 12 0 (.q 14 2 (.op 13 (.q 15 1 (.op 16 .nil))))))))))))))))) [13, 16] k_2 (.c (.k .e) (.c (.z) .l)) (by kernel_rfl) (fun _ => ?_)
 obtain ⟨x_5, h_x_5, hm⟩ := ob hm
 obtain ⟨x_6, h_x_6, hm⟩ := ob hm
 refine MXq 12 1 [] (.n 29 (pt g_v 0) (.n 30 (I d) (.n 35 (.u32 x_5) (.n 40 (.u32 x_6) (.ss .a))))) (fun x hx => qs g_v 0 <| qV (hx.vrd 0 rfl e32 v1 0 (by kernel_rfl)) h_x_5 rfl (.u32 x_5) rfl <| qs g_v 0 <| qV (hx.vrd 0 rfl e32 v1 0 (by kernel_rfl)) h_x_6 rfl (.u32 x_6) rfl <| qe) (by kernel_rfl) (fun _ => ?_)
 refine MXq 1 0 [] (.n 41 (.u32 (x_5 ^^^ x_6)) (.kk (.ss .a))) (fun x hx => qe) (by kernel_rfl) (fun _ => ?_)
 refine MXq 1 2 [] (.n 43 (pt g_v 0) (.k (.s .a))) (fun x hx => qs g_v 0 <| qe) (by kernel_rfl) (fun _ => ?_)
 refine MX_op (by kernel_rfl) rfl ?_
 obtain ⟨r_, h_r_, hm⟩ := ob hm
 refine Op_call [] 42 _ yz_go165 (by kernel_rfl) (c_bits_RotateLeft32 (F := N0) (O := N0) _ _ (Cx.refl _) _ h_r_) ?_
 rintro e_ w_1 ⟨rfl, k_3⟩
 have k_4 := k_2.call k_3
 refine ⟨.u32 r_, rfl, ?_⟩
 refine ⟨k_4, fun _ => ?_⟩
 obtain ⟨x_7, h_x_7, hm⟩ := ob hm
 refine MXq 1 1 [] (.n 44 (.v (.pointer (ixA (some ⟨g_v, 0, none⟩) d 1))) (.k (.sss .a))) (fun x hx => qI g_v 0 h_x_7 <| qe) (by kernel_rfl) (fun _ => ?_)
 refine MX_op (by kernel_rfl) rfl ?_
 obtain ⟨v2, h_v2, hm⟩ := nm hm
 refine Op_vs (E := e32) (kk := 0) [] 0 (.u32 r_) [.u32 r_] h_v2 h_x_7 (Pt.ix0 (Pt.at g_v 0) d 1) k_4 rfl .h rfl (by kernel_rfl) (by kernel_rfl) ?_
 intro w_2 k_5
 refine ⟨(k_5.sel .z), fun _ => ?_⟩
 refine MX_nil <| At_go <| W_seq ?_
 have k_6 := k_5.drew 1
 refine W_m yz_mixed (.q 0 0 (.q 1 0 (.q 2 0 (.q 3 0 (.q 4 0 (.q 5 0 (.q 6 0 (.q 7 0 (.q 8 0 (.q 9 0 (.q 10 0 (.q 11 1 (.q 12 0 (.op 13 .nil)))))))))))))) [13] k_6 (.c (.z) .l) (by kernel_rfl) (fun _ => ?_)
 obtain ⟨x_8, h_x_8, hm⟩ := ob hm
 obtain ⟨x_9, h_x_9, hm⟩ := ob hm
 refine MXq 11 0 [] (.n 45 (pt g_v 0) (.n 46 (I c) (.n 55 (.u32 (x_8 + x_9)) (.ss .a)))) (fun x hx => qs g_v 0 <| qV (hx.vrd 0 rfl e32 v2 0 (by kernel_rfl)) h_x_8 rfl (.u32 x_8) rfl <| qs g_v 0 <| qV (hx.vrd 0 rfl e32 v2 0 (by kernel_rfl)) h_x_9 rfl (.u32 x_9) rfl <| qe) (by kernel_rfl) (fun _ => ?_)
 refine MXq 1 1 [] (.n 56 (pt g_v 0) (.s .a)) (fun x hx => qs g_v 0 <| qe) (by kernel_rfl) (fun _ => ?_)
 obtain ⟨x_10, h_x_10, hm⟩ := ob hm
 refine MXq 1 0 [] (.n 57 (.v (.pointer (ixA (some ⟨g_v, 0, none⟩) c 1))) (.ss .a)) (fun x hx => qI g_v 0 h_x_10 <| qe) (by kernel_rfl) (fun _ => ?_)
 refine MX_op (by kernel_rfl) rfl ?_
 obtain ⟨v3, h_v3, hm⟩ := nm hm
 refine Op_vs (E := e32) (kk := 0) [] 0 (.u32 (x_8 + x_9)) [.u32 (x_8 + x_9)] h_v3 h_x_10 (Pt.ix0 (Pt.at g_v 0) c 1) k_6 rfl .h rfl (by kernel_rfl) (by kernel_rfl) ?_
 intro w_3 k_7
 refine ⟨(k_7.sel .z), fun _ => ?_⟩
 refine MX_nil <| At_go <| W_seq ?_
 have k_8 := k_7.drew 1
 refine W_m yz_mixed (.q 0 1 (.q 1 1 (.q 2 1 (.q 3 1 (.q 4 1 (.q 5 1 (.q 6 1 (.q 7 1 (.q 8 1 (.q 9 1 (.q 10 1 (.q 11 1 (.q 12 0 (.q 14 2 (.op 13 (.q 15 1 (.op 16 .nil))))))))))))))))) [13, 16] k_8 (.c (.k .e) (.c (.z) .l)) (by kernel_rfl) (fun _ => ?_)
 obtain ⟨x_11, h_x_11, hm⟩ := ob hm
 obtain ⟨x_12, h_x_12, hm⟩ := ob hm
 refine MXq 12 1 [] (.n 58 (pt g_v 0) (.n 59 (I b) (.n 64 (.u32 x_11) (.n 69 (.u32 x_12) (.ss .a))))) (fun x hx => qs g_v 0 <| qV (hx.vrd 0 rfl e32 v3 0 (by kernel_rfl)) h_x_11 rfl (.u32 x_11) rfl <| qs g_v 0 <| qV (hx.vrd 0 rfl e32 v3 0 (by kernel_rfl)) h_x_12 rfl (.u32 x_12) rfl <| qe) (by kernel_rfl) (fun _ => ?_)
 refine MXq 1 0 [] (.n 70 (.u32 (x_11 ^^^ x_12)) (.kk (.ss .a))) (fun x hx => qe) (by kernel_rfl) (fun _ => ?_)
 refine MXq 1 2 [] (.n 72 (pt g_v 0) (.k (.s .a))) (fun x hx => qs g_v 0 <| qe) (by kernel_rfl) (fun _ => ?_)
 refine MX_op (by kernel_rfl) rfl ?_
 have k_9 := k_8.sel (.k .e)
 obtain ⟨r_1, h_r_1, hm⟩ := ob hm
 refine Op_call [] 71 _ yz_go165 (by kernel_rfl) (c_bits_RotateLeft32 (F := N0) (O := N0) _ _ (Cx.refl _) _ h_r_1) ?_
 rintro e_ w_4 ⟨rfl, k_10⟩
 have k_11 := k_9.call k_10
 refine ⟨.u32 r_1, rfl, ?_⟩
 refine ⟨k_11, fun _ => ?_⟩
 obtain ⟨x_13, h_x_13, hm⟩ := ob hm
 refine MXq 1 1 [] (.n 73 (.v (.pointer (ixA (some ⟨g_v, 0, none⟩) b 1))) (.k (.sss .a))) (fun x hx => qI g_v 0 h_x_13 <| qe) (by kernel_rfl) (fun _ => ?_)
 refine MX_op (by kernel_rfl) rfl ?_
 obtain ⟨v4, h_v4, hm⟩ := nm hm
 refine Op_vs (E := e32) (kk := 0) [] 0 (.u32 r_1) [.u32 r_1] h_v4 h_x_13 (Pt.ix0 (Pt.at g_v 0) b 1) k_11 rfl .h rfl (by kernel_rfl) (by kernel_rfl) ?_
 intro w_5 k_12
 refine ⟨(k_12.sel .z), fun _ => ?_⟩
 refine MX_nil <| At_go <| W_seq ?_
 have k_13 := k_12.drew 1
 refine W_m yz_mixed (.q 0 0 (.q 1 0 (.q 2 0 (.q 3 0 (.q 4 0 (.q 5 0 (.q 6 0 (.q 7 0 (.q 8 0 (.q 9 0 (.q 10 0 (.q 11 0 (.q 12 0 (.q 13 1 (.q 14 0 (.op 15 .nil)))))))))))))))) [15] k_13 (.c (.z) .l) (by kernel_rfl) (fun _ => ?_)
 obtain ⟨x_14, h_x_14, hm⟩ := ob hm
 obtain ⟨x_15, h_x_15, hm⟩ := ob hm
 refine MXq 13 0 [] (.n 74 (pt g_v 0) (.n 75 (I a_) (.n 86 (.u32 (x_14 + (x_15 + y_))) (.ss (.kkkk (.k .z)))))) (fun x hx => qs g_v 0 <| qV (hx.vrd 0 rfl e32 v4 0 (by kernel_rfl)) h_x_14 rfl (.u32 x_14) rfl <| qs g_v 0 <| qV (hx.vrd 0 rfl e32 v4 0 (by kernel_rfl)) h_x_15 rfl (.u32 x_15) rfl <| qe) (by kernel_rfl) (fun _ => ?_)
 refine MXq 1 1 [] (.n 87 (pt g_v 0) (.s .a)) (fun x hx => qs g_v 0 <| qe) (by kernel_rfl) (fun _ => ?_)
 obtain ⟨x_16, h_x_16, hm⟩ := ob hm
 refine MXq 1 0 [] (.n 88 (.v (.pointer (ixA (some ⟨g_v, 0, none⟩) a_ 1))) (.ss .a)) (fun x hx => qI g_v 0 h_x_16 <| qe) (by kernel_rfl) (fun _ => ?_)
 refine MX_op (by kernel_rfl) rfl ?_
 obtain ⟨v5, h_v5, hm⟩ := nm hm
 refine Op_vs (E := e32) (kk := 0) [] 0 (.u32 (x_14 + (x_15 + y_))) [.u32 (x_14 + (x_15 + y_))] h_v5 h_x_16 (Pt.ix0 (Pt.at g_v 0) a_ 1) k_13 rfl .h rfl (by kernel_rfl) (by kernel_rfl) ?_
 intro w_6 k_14
 refine ⟨(k_14.sel .z), fun _ => ?_⟩
 refine MX_nil <| At_go <| W_seq ?_
 have k_15 := k_14.drew 1
 refine W_m yz_mixed (.q 0 1 (.q 1 1 (.q 2 1 (.q 3 1 (.q 4 1 (.q 5 1 (.q 6 1 (.q 7 1 (.q 8 1 (.q 9 1 (.q 10 1 (.q 11 1 (.q 12 0 (.q 14 2 (.op 13 (.q 15 1 (.op 16 .nil))))))))))))))))) [13, 16] k_15 (.c (.k .e) (.c (.z) .l)) (by kernel_rfl) (fun _ => ?_)
 obtain ⟨x_17, h_x_17, hm⟩ := ob hm
 obtain ⟨x_18, h_x_18, hm⟩ := ob hm
 refine MXq 12 1 [] (.n 89 (pt g_v 0) (.n 90 (I d) (.n 95 (.u32 x_17) (.n 100 (.u32 x_18) (.ss (.k (.s .a))))))) (fun x hx => qs g_v 0 <| qV (hx.vrd 0 rfl e32 v5 0 (by kernel_rfl)) h_x_17 rfl (.u32 x_17) rfl <| qs g_v 0 <| qV (hx.vrd 0 rfl e32 v5 0 (by kernel_rfl)) h_x_18 rfl (.u32 x_18) rfl <| qe) (by kernel_rfl) (fun _ => ?_)
 refine MXq 1 0 [] (.n 101 (.u32 (x_17 ^^^ x_18)) (.kk (.ss .a))) (fun x hx => qe) (by kernel_rfl) (fun _ => ?_)
 refine MXq 1 2 [] (.n 103 (pt g_v 0) (.k (.s .a))) (fun x hx => qs g_v 0 <| qe) (by kernel_rfl) (fun _ => ?_)
 refine MX_op (by kernel_rfl) rfl ?_
 obtain ⟨r_2, h_r_2, hm⟩ := ob hm
 refine Op_call [] 102 _ yz_go165 (by kernel_rfl) (c_bits_RotateLeft32 (F := N0) (O := N0) _ _ (Cx.refl _) _ h_r_2) ?_
 rintro e_ w_7 ⟨rfl, k_16⟩
 have k_17 := k_15.call k_16
 refine ⟨.u32 r_2, rfl, ?_⟩
 refine ⟨k_17, fun _ => ?_⟩
 obtain ⟨x_19, h_x_19, hm⟩ := ob hm
 refine MXq 1 1 [] (.n 104 (.v (.pointer (ixA (some ⟨g_v, 0, none⟩) d 1))) (.k (.sss .a))) (fun x hx => qI g_v 0 h_x_19 <| qe) (by kernel_rfl) (fun _ => ?_)
 refine MX_op (by kernel_rfl) rfl ?_
 have k_18 := k_17.sel (.k .e)
 obtain ⟨v6, h_v6, hm⟩ := nm hm
 refine Op_vs (E := e32) (kk := 0) [] 0 (.u32 r_2) [.u32 r_2] h_v6 h_x_19 (Pt.ix0 (Pt.at g_v 0) d 1) k_18 rfl .h rfl (by kernel_rfl) (by kernel_rfl) ?_
 intro w_8 k_19
 refine ⟨(k_19.sel .z), fun _ => ?_⟩
 refine MX_nil <| At_go <| W_seq ?_
 have k_20 := k_19.drew 1
 refine W_m yz_mixed (.q 0 0 (.q 1 0 (.q 2 0 (.q 3 0 (.q 4 0 (.q 5 0 (.q 6 0 (.q 7 0 (.q 8 0 (.q 9 0 (.q 10 0 (.q 11 1 (.q 12 0 (.op 13 .nil)))))))))))))) [13] k_20 (.c (.z) .l) (by kernel_rfl) (fun _ => ?_)
 obtain ⟨x_20, h_x_20, hm⟩ := ob hm
 obtain ⟨x_21, h_x_21, hm⟩ := ob hm
 refine MXq 11 0 [] (.n 105 (pt g_v 0) (.n 106 (I c) (.n 115 (.u32 (x_20 + x_21)) (.ss (.kkk .z))))) (fun x hx => qs g_v 0 <| qV (hx.vrd 0 rfl e32 v6 0 (by kernel_rfl)) h_x_20 rfl (.u32 x_20) rfl <| qs g_v 0 <| qV (hx.vrd 0 rfl e32 v6 0 (by kernel_rfl)) h_x_21 rfl (.u32 x_21) rfl <| qe) (by kernel_rfl) (fun _ => ?_)
 refine MXq 1 1 [] (.n 116 (pt g_v 0) (.s .a)) (fun x hx => qs g_v 0 <| qe) (by kernel_rfl) (fun _ => ?_)
 obtain ⟨x_22, h_x_22, hm⟩ := ob hm
 refine MXq 1 0 [] (.n 117 (.v (.pointer (ixA (some ⟨g_v, 0, none⟩) c 1))) (.ss .a)) (fun x hx => qI g_v 0 h_x_22 <| qe) (by kernel_rfl) (fun _ => ?_)
 refine MX_op (by kernel_rfl) rfl ?_
 obtain ⟨v7, h_v7, hm⟩ := nm hm
 refine Op_vs (E := e32) (kk := 0) [] 0 (.u32 (x_20 + x_21)) [.u32 (x_20 + x_21)] h_v7 h_x_22 (Pt.ix0 (Pt.at g_v 0) c 1) k_20 rfl .h rfl (by kernel_rfl) (by kernel_rfl) ?_
 intro w_9 k_21
 refine ⟨(k_21.sel .z), fun _ => ?_⟩
 refine MX_nil <| At_go ?_
 have k_22 := k_21.drew 1
 refine W_m yz_mixed (.q 0 1 (.q 1 1 (.q 2 1 (.q 3 1 (.q 4 1 (.q 5 1 (.q 6 1 (.q 7 1 (.q 8 1 (.q 9 1 (.q 10 1 (.q 11 1 (.q 12 0 (.q 14 2 (.op 13 (.q 15 1 (.op 16 .nil))))))))))))))))) [13, 16] k_22 (.c (.k .e) (.c (.z) .l)) (by kernel_rfl) (fun _ => ?_)
 obtain ⟨x_23, h_x_23, hm⟩ := ob hm
 obtain ⟨x_24, h_x_24, hm⟩ := ob hm
 refine MXq 12 1 [] (.n 118 (pt g_v 0) (.n 119 (I b) (.n 124 (.u32 x_23) (.n 129 (.u32 x_24) .z)))) (fun x hx => qs g_v 0 <| qV (hx.vrd 0 rfl e32 v7 0 (by kernel_rfl)) h_x_23 rfl (.u32 x_23) rfl <| qs g_v 0 <| qV (hx.vrd 0 rfl e32 v7 0 (by kernel_rfl)) h_x_24 rfl (.u32 x_24) rfl <| qe) (by kernel_rfl) (fun _ => ?_)
 refine MXq 1 0 [] (.n 130 (.u32 (x_23 ^^^ x_24)) (.kk .z)) (fun x hx => qe) (by kernel_rfl) (fun _ => ?_)
 refine MXq 1 2 [] (.n 132 (pt g_v 0) (.k (.s .a))) (fun x hx => qs g_v 0 <| qe) (by kernel_rfl) (fun _ => ?_)
 refine MX_op (by kernel_rfl) rfl ?_
 obtain ⟨r_3, h_r_3, hm⟩ := ob hm
 refine Op_call [] 131 _ yz_go165 (by kernel_rfl) (c_bits_RotateLeft32 (F := N0) (O := N0) _ _ (Cx.refl _) _ h_r_3) ?_
 rintro e_ w_10 ⟨rfl, k_23⟩
 have k_24 := k_22.call k_23
 refine ⟨.u32 r_3, rfl, ?_⟩
 refine ⟨k_24, fun _ => ?_⟩
 obtain ⟨x_25, h_x_25, hm⟩ := ob hm
 refine MXq 1 1 [] (.n 133 (.v (.pointer (ixA (some ⟨g_v, 0, none⟩) b 1))) (.k .z)) (fun x hx => qI g_v 0 h_x_25 <| qe) (by kernel_rfl) (fun _ => ?_)
 refine MX_op (by kernel_rfl) rfl ?_
 obtain ⟨v8, h_v8, hm⟩ := nm hm
 refine Op_vs (E := e32) (kk := 0) [] 0 (.u32 r_3) [.u32 r_3] h_v8 h_x_25 (Pt.ix0 (Pt.at g_v 0) b 1) k_24 rfl .h rfl (by kernel_rfl) (by kernel_rfl) ?_
 intro w_11 k_25
 refine ⟨(k_25.sel .z), fun _ => ?_⟩
 refine MX_nil ?_
 obtain rfl := Option.some.inj hm
 refine At_en [] qe (by kernel_rfl) ?_
 exact ⟨rfl, k_25⟩

-- quern/mixs.round
noncomputable def m_mixs_round_l0 (m_ : Vec UInt32 16) (r_1 : (Vec Int 16)) (r_2 : (Vec (Vec Int 4) 8)) : (Vec UInt32 16 × Int) → Option ((Vec UInt32 16 × Int) ⊕ (Vec UInt32 16 × Vec UInt32 16))
  | (v1, x_0) => if x_0 < 8 then ((geti r_2.l x_0).bind fun x_2 => (geti x_2.l (0 : Int)).bind fun x_3 => (geti x_2.l (1 : Int)).bind fun x_4 => (geti x_2.l (2 : Int)).bind fun x_5 => (geti x_2.l (3 : Int)).bind fun x_6 => (geti r_1.l (w64 (2 * x_0))).bind fun x_7 => (geti m_.l x_7).bind fun x_8 => (geti r_1.l (w64 ((w64 (2 * x_0)) + 1))).bind fun x_9 => (geti m_.l x_9).bind fun x_10 => (m_mixs_mix v1 x_3 x_4 x_5 x_6 x_8 x_10).bind fun r_3 => some (.inl (r_3, w64 (x_0 + 1)))) else (Option.map Sum.inr (some (v1, m_)))
noncomputable def m_mixs_round (v : Vec UInt32 16) (m_ : Vec UInt32 16) (r_ : Int) : Option (Vec UInt32 16 × Vec UInt32 16) :=
  (m_mixb_Sigma r_).bind fun r_1 => (m_mixs_places).bind fun r_2 => whileO (m_mixs_round_l0 m_ r_1 r_2) (v, (0 : Int))
theorem c_mixs_round {F O : Nat → Prop} {w : World} (v : Vec UInt32 16) (m_ : Vec UInt32 16) (r_ : Int) (g_v : Nat) (g_m : Nat) (k : Cx F O w w [Bx 155 g_v [.ar e32 v], Bx 155 g_m [.ar e32 m_]]) (r : (Vec UInt32 16 × Vec UInt32 16)) (hm : m_mixs_round v m_ r_ = some r) :
    Calls Tryz.prog 157 (vals [pt g_v 0, pt g_m 0, I r_]) w (fun e w' => e = .returned (SV.val (.tup [])) ∧ Cx F O w w' [Bx 155 g_v [.ar e32 r.1], Bx 155 g_m [.ar e32 r.2]]) := by
 unfold m_mixs_round at hm
 refine calls [pt g_v 0, pt g_m 0, I r_] Tryz.func157 rfl (of_decide_eq_true (by kernel_rfl)) ?_
 refine W_seq <| W_reg <| WLs 1 [] (.n 9 (I r_) (.kk .z)) qe (by kernel_rfl) ?_
 refine WL_op ?_
 obtain ⟨r_1, h_r_1, hm⟩ := ob hm
 refine Op_call [] 10 _ yz_go159 (by kernel_rfl) (c_mixb_Sigma (F := N0) (O := N0) _ (Cx.refl _) _ h_r_1) ?_
 rintro e_ w_ ⟨rfl, k_⟩
 have k_1 := k.call k_
 refine ⟨.agg [.ar eI r_1], rfl, ?_⟩
 refine WL_op <| Op_alloc [] 6 [.ar eI (Vec.rep 16 (0 : Int))] (by kernel_rfl) k_1 ?_
 intro g w_1 k_2
 refine WL_op <| Op_b [] 2 (.agg [.ar eI r_1]) [.ar eI r_1] (Pt.at g 0) k_2 rfl .all (by kernel_rfl) (by kernel_rfl) ?_
 intro w_2 k_3
 refine WL_nil <| At_go <| W_seq <| W_reg <| WL_op ?_
 obtain ⟨r_2, h_r_2, hm⟩ := ob hm
 refine Op_call [] 11 _ yz_go162 (by kernel_rfl) (c_mixs_places (F := N0) (O := N0)  (Cx.refl _) _ h_r_2) ?_
 rintro e_ w_3 ⟨rfl, k_4⟩
 have k_5 := k_3.call k_4
 refine ⟨.agg [.ar (eV eI 4) r_2], rfl, ?_⟩
 refine WLs 1 [] (.n 12 (I 0) (.kk (.ss .a))) qe (by kernel_rfl) ?_
 refine WL_nil <| At_go <| W_block <| W_lp (m_mixs_round_l0 m_ r_1 r_2) (fun s L wr => ∃ (v1 : Vec UInt32 16) (x_0 : Int), (v1, x_0) = s ∧ L = [(0, pt g_v 0), (1, pt g_m 0), (6, pt g 0), (11, .agg [.ar (eV eI 4) r_2]), (12, I x_0)] ∧ Cx F O w wr [Bx 155 g_v [.ar e32 v1], Bx 155 g_m [.ar e32 m_], Bx 240 g [.ar eI r_1]]) (v, (0 : Int)) r hm ⟨v, (0 : Int), rfl, rfl, k_5⟩ (by kernel_rfl) ?_
 intro s0_ L_ w_4 y0 hrel hstep hr0
 obtain ⟨v1, x_0, rfl, rfl, k_6⟩ := hrel
 have hm := hstep; simp only [m_mixs_round_l0] at hm
 clear hstep
 refine W_seq <| W_q [] (.n 13 (.b (decide (x_0 < 8))) .a) qe (by kernel_rfl) ?_
 refine At_go <| W_seq <| W_condp (x_0 < 8) (by kernel_rfl) (fun hc => ?_) (fun hc => ?_)
 · rw [if_pos hc] at hm
   refine W_skip <| At_go <| W_seq <| W_block <| W_seq <| W_reg ?_
   obtain ⟨x_2, h_x_2, hm⟩ := ob hm
   refine WLs 2 [] (.n 14 (I x_0) (.n 15 (.agg [.ar eI x_2]) (.s .a))) (qo (.agg [.ar eI x_2]) <| qp ((0 ≤ x_0 ∧ x_0 < ((8 : Nat) : Int)) ∧ ((SV.cl [.ar (eV eI 4) r_2]).drop (Int.toNat x_0 * 4)).take 4 = SV.cl [.ar eI x_2]) (ar_ixV (E := eI) h_x_2) <| qe) (by kernel_rfl) ?_
   refine WL_op <| Op_alloc [] 8 [.ar eI (Vec.rep 4 (0 : Int))] (by kernel_rfl) k_6 ?_
   intro g1 w_5 k_7
   refine WLs 1 [] (.n 7 (I x_0) (.k (.s .a))) qe (by kernel_rfl) ?_
   refine WL_op <| Op_b [] 3 (.agg [.ar eI x_2]) [.ar eI x_2] (Pt.at g1 0) k_7 rfl .all (by kernel_rfl) (by kernel_rfl) ?_
   intro w_6 k_8
   refine WL_nil <| At_go ?_
   have k_9 := k_8.drew 1
   refine W_m yz_mixed (.q 0 0 (.q 1 1 (.q 2 0 (.q 3 1 (.q 4 0 (.q 5 1 (.q 6 0 (.q 7 1 (.q 8 0 (.q 9 1 (.q 10 1 (.q 11 1 (.q 12 1 (.q 13 1 (.q 14 1 (.q 15 1 (.q 16 0 (.q 17 1 (.q 18 1 (.q 19 1 (.q 20 1 (.q 21 1 (.q 22 1 (.q 23 1 (.q 24 1 (.q 25 0 (.op 26 .nil))))))))))))))))))))))))))) [26] k_9 (.c (.s (.kk (.k .e))) .l) (by kernel_rfl) (fun _ => ?_)
   refine MXq 1 0 [] (.n 16 (pt g_v 0) (.kk (.s .a))) (fun x hx => qe) (by kernel_rfl) (fun _ => ?_)
   obtain ⟨x_3, h_x_3, hm⟩ := ob hm
   refine MXq 1 1 [] (.n 17 (.v (.pointer (ixA (some ⟨g1, 0, none⟩) (0 : Int) 1))) .a) (fun x hx => qI g1 0 h_x_3 <| qe) (by kernel_rfl) (fun _ => ?_)
   refine MXq 1 0 [] (.n 18 (I x_3) (.s .a)) (fun x hx => qC (I x_3) (Rd.el (k := 0) (hx.vrd 3 rfl eI x_2 0 (by kernel_rfl)) h_x_3 (Pt.ix1 (some ⟨g1, 0, none⟩) (0 : Int) 1) rfl) <| qe) (by kernel_rfl) (fun _ => ?_)
   obtain ⟨x_4, h_x_4, hm⟩ := ob hm
   refine MXq 1 1 [] (.n 19 (.v (.pointer (ixA (some ⟨g1, 0, none⟩) (1 : Int) 1))) .a) (fun x hx => qI g1 0 h_x_4 <| qe) (by kernel_rfl) (fun _ => ?_)
   refine MXq 1 0 [] (.n 20 (I x_4) (.s .a)) (fun x hx => qC (I x_4) (Rd.el (k := 0) (hx.vrd 3 rfl eI x_2 0 (by kernel_rfl)) h_x_4 (Pt.ix1 (some ⟨g1, 0, none⟩) (1 : Int) 1) rfl) <| qe) (by kernel_rfl) (fun _ => ?_)
   obtain ⟨x_5, h_x_5, hm⟩ := ob hm
   refine MXq 1 1 [] (.n 21 (.v (.pointer (ixA (some ⟨g1, 0, none⟩) (2 : Int) 1))) .a) (fun x hx => qI g1 0 h_x_5 <| qe) (by kernel_rfl) (fun _ => ?_)
   refine MXq 1 0 [] (.n 22 (I x_5) (.s .a)) (fun x hx => qC (I x_5) (Rd.el (k := 0) (hx.vrd 3 rfl eI x_2 0 (by kernel_rfl)) h_x_5 (Pt.ix1 (some ⟨g1, 0, none⟩) (2 : Int) 1) rfl) <| qe) (by kernel_rfl) (fun _ => ?_)
   obtain ⟨x_6, h_x_6, hm⟩ := ob hm
   refine MXq 1 1 [] (.n 23 (.v (.pointer (ixA (some ⟨g1, 0, none⟩) (3 : Int) 1))) (.kkkk (.k (.s .a)))) (fun x hx => qI g1 0 h_x_6 <| qe) (by kernel_rfl) (fun _ => ?_)
   refine MXq 1 0 [] (.n 24 (I x_6) (.s .a)) (fun x hx => qC (I x_6) (Rd.el (k := 0) (hx.vrd 3 rfl eI x_2 0 (by kernel_rfl)) h_x_6 (Pt.ix1 (some ⟨g1, 0, none⟩) (3 : Int) 1) rfl) <| qe) (by kernel_rfl) (fun _ => ?_)
   obtain ⟨x_7, h_x_7, hm⟩ := ob hm
   obtain ⟨x_8, h_x_8, hm⟩ := ob hm
   refine MXq 7 1 [] (.n 31 (.v (.pointer (ixA (some ⟨g_m, 0, none⟩) x_7 1))) .a) (fun x hx => qV (hx.vrd 1 rfl eI r_1 0 (by kernel_rfl)) h_x_7 rfl (I x_7) rfl <| qs g_m 0 <| qI g_m 0 h_x_8 <| qe) (by kernel_rfl) (fun _ => ?_)
   refine MXq 1 0 [] (.n 32 (.u32 x_8) (.s .a)) (fun x hx => qC (.u32 x_8) (Rd.el (k := 0) (hx.vrd 1 rfl e32 m_ 0 (by kernel_rfl)) h_x_8 (Pt.ix1 (some ⟨g_m, 0, none⟩) x_7 1) rfl) <| qe) (by kernel_rfl) (fun _ => ?_)
   obtain ⟨x_9, h_x_9, hm⟩ := ob hm
   obtain ⟨x_10, h_x_10, hm⟩ := ob hm
   refine MXq 8 1 [] (.n 40 (.v (.pointer (ixA (some ⟨g_m, 0, none⟩) x_9 1))) (.kkkk (.kk (.s .a)))) (fun x hx => qV (hx.vrd 1 rfl eI r_1 0 (by kernel_rfl)) h_x_9 rfl (I x_9) rfl <| qs g_m 0 <| qI g_m 0 h_x_10 <| qe) (by kernel_rfl) (fun _ => ?_)
   refine MXq 1 0 [] (.n 41 (.u32 x_10) (.s .a)) (fun x hx => qC (.u32 x_10) (Rd.el (k := 0) (hx.vrd 1 rfl e32 m_ 0 (by kernel_rfl)) h_x_10 (Pt.ix1 (some ⟨g_m, 0, none⟩) x_9 1) rfl) <| qe) (by kernel_rfl) (fun _ => ?_)
   refine MX_op (by kernel_rfl) rfl ?_
   obtain ⟨r_3, h_r_3, hm⟩ := ob hm
   obtain ⟨F1, O1, kin, hO, hre, hF, hb⟩ := k_9.go (.i (.r (.r (.r .e))))
   refine Op_call [] 42 _ yz_go163 (by kernel_rfl) (c_mixs_mix (F := F1) (O := O1) _ _ _ _ _ _ _ _ kin _ h_r_3) ?_
   rintro e_ w_7 ⟨rfl, k_10⟩
   have k_11 := hb w_7 _ _ k_10 (.c .n)
   refine ⟨.tup [], rfl, ?_⟩
   refine ⟨(k_11.sel (.s (.kk (.k .e)))), fun _ => ?_⟩
   refine MX_nil <| At_in <| At_go <| W_q [] (.n 12 (I (w64 (x_0 + 1))) (.ssss (.ssss (.kkkk .z)))) qe (by kernel_rfl) ?_
   have k_12 := k_11.sel (.kk (.k .z))
   exact At_rd (r_3, w64 (x_0 + 1)) (Option.some.inj hm).symm ⟨r_3, w64 (x_0 + 1), rfl, rfl, k_12⟩ (by kernel_rfl)
 rw [if_neg hc] at hm
 refine W_exit (At_te (At_te (At_ie ?_)))
 have hm := exit_of hm hr0
 obtain rfl := Option.some.inj hm
 refine At_en [] qe (by kernel_rfl) ?_
 have k_13 := k_6.sel (.kk .z)
 exact ⟨rfl, k_13⟩

-- quern/mixs.End
noncomputable def m_mixs_End_l0 (v : Vec UInt32 16) : (Vec UInt32 8 × Int) → Option ((Vec UInt32 8 × Int) ⊕ (Vec UInt32 8))
  | (h1, x_0) => if x_0 < 8 then ((geti h1.l x_0).bind fun x_1 => (geti v.l x_0).bind fun x_2 => (geti v.l (w64 (x_0 + 8))).bind fun x_3 => (geti h1.l x_0).bind fun x_4 => (some (vst h1 x_0 (x_1 ^^^ (x_2 ^^^ x_3)))).bind fun v1 => some (.inl (v1, w64 (x_0 + 1)))) else (Option.map Sum.inr (some h1))
noncomputable def m_mixs_End (h : Vec UInt32 8) (v : Vec UInt32 16) : Option (Vec UInt32 8) :=
  whileO (m_mixs_End_l0 v) (h, (0 : Int))
theorem c_mixs_End {F O : Nat → Prop} {w : World} (h : Vec UInt32 8) (v : Vec UInt32 16) (k : Cx F O w w []) (r : (Vec UInt32 8)) (hm : m_mixs_End h v = some r) :
    Calls Tryz.prog 158 (vals [.agg [.ar e32 h], .agg [.ar e32 v]]) w (fun e w' => e = .returned (SV.val (.agg [.ar e32 r])) ∧ Cx F O w w' []) := by
 unfold m_mixs_End at hm
 refine calls [.agg [.ar e32 h], .agg [.ar e32 v]] Tryz.func158 rfl (of_decide_eq_true (by kernel_rfl)) ?_
 refine W_seq <| W_reg <| WL_op <| Op_box [] 2 (.agg [.ar e32 h]) [.ar e32 h] (by kernel_rfl) k ?_
 intro g w_ k_
 refine WL_op <| Op_box [] 3 (.agg [.ar e32 v]) [.ar e32 v] (by kernel_rfl) k_ ?_
 intro g1 w_1 k_1
 refine WL_op <| Op_alloc [] 4 [.ar e32 (Vec.rep 8 (0 : UInt32))] (by kernel_rfl) k_1 ?_
 intro g2 w_2 k_2
 refine WL_nil <| At_go <| W_seq <| W_seq <| W_q [] (.n 6 (I 0) (.kkk .z)) qe (by kernel_rfl) ?_
 refine At_go <| W_block <| W_lp (m_mixs_End_l0 v) (fun s L wr => ∃ (h1 : Vec UInt32 8) (x_0 : Int), (h1, x_0) = s ∧ L = [(2, pt g 0), (3, pt g1 0), (4, pt g2 0), (6, I x_0)] ∧ Cx F O w wr [Bx 154 g [.ar e32 h1], Bx 155 g1 [.ar e32 v], Bx 154 g2 [.ar e32 (Vec.rep 8 (0 : UInt32))]]) (h, (0 : Int)) r hm ⟨h, (0 : Int), rfl, rfl, k_2⟩ (by kernel_rfl) ?_
 intro s0_ L_ w_3 y0 hrel hstep hr0
 obtain ⟨h1, x_0, rfl, rfl, k_3⟩ := hrel
 have hm := hstep; simp only [m_mixs_End_l0] at hm
 clear hstep
 refine W_seq <| W_q [] (.n 7 (.b (decide (x_0 < 8))) .a) qe (by kernel_rfl) ?_
 refine At_go <| W_seq <| W_condp (x_0 < 8) (by kernel_rfl) (fun hc => ?_) (fun hc => ?_)
 · rw [if_pos hc] at hm
   refine W_skip <| At_go <| W_seq <| W_block <| W_seq <| W_q [] (.n 5 (I x_0) (.s .a)) qe (by kernel_rfl) ?_
   refine At_go ?_
   have k_4 := k_3.drew 1
   refine W_m yz_mixed (.q 0 0 (.q 1 0 (.q 2 0 (.q 3 0 (.q 4 0 (.q 5 0 (.q 6 0 (.q 7 0 (.q 8 0 (.q 9 0 (.q 10 0 (.q 11 0 (.q 12 0 (.op 13 .nil)))))))))))))) [13] k_4 (.c (.s (.kk .e)) .l) (by kernel_rfl) (fun _ => ?_)
   obtain ⟨x_1, h_x_1, hm⟩ := ob hm
   obtain ⟨x_2, h_x_2, hm⟩ := ob hm
   obtain ⟨x_3, h_x_3, hm⟩ := ob hm
   obtain ⟨x_4, h_x_4, hm⟩ := ob hm
   refine MXq 13 0 [] (.n 20 (.u32 (x_1 ^^^ (x_2 ^^^ x_3))) (.n 21 (.v (.pointer (ixA (some ⟨g, 0, none⟩) x_0 1))) (.s .a))) (fun x hx => qV (hx.vrd 0 rfl e32 h1 0 (by kernel_rfl)) h_x_1 rfl (.u32 x_1) rfl <| qV (hx.vrd 1 rfl e32 v 0 (by kernel_rfl)) h_x_2 rfl (.u32 x_2) rfl <| qV (hx.vrd 1 rfl e32 v 0 (by kernel_rfl)) h_x_3 rfl (.u32 x_3) rfl <| qI g 0 h_x_4 <| qe) (by kernel_rfl) (fun _ => ?_)
   refine MX_op (by kernel_rfl) rfl ?_
   obtain ⟨v1, h_v1, hm⟩ := nm hm
   refine Op_vs (E := e32) (kk := 0) [] 0 (.u32 (x_1 ^^^ (x_2 ^^^ x_3))) [.u32 (x_1 ^^^ (x_2 ^^^ x_3))] h_v1 h_x_4 (Pt.ix0 (Pt.at g 0) x_0 1) k_4 rfl .h rfl (by kernel_rfl) (by kernel_rfl) ?_
   intro w_4 k_5
   refine ⟨(k_5.sel (.s (.kk .e))), fun _ => ?_⟩
   refine MX_nil <| At_in <| At_go <| W_q [] (.n 6 (I (w64 (x_0 + 1))) (.ss (.kkk .z))) qe (by kernel_rfl) ?_
   exact At_rd (v1, w64 (x_0 + 1)) (Option.some.inj hm).symm ⟨v1, w64 (x_0 + 1), rfl, rfl, k_5⟩ (by kernel_rfl)
 rw [if_neg hc] at hm
 refine W_exit (At_te (At_te (At_ie ?_)))
 have hm := exit_of hm hr0
 refine At_go <| W_seq <| W_reg <| WLs 1 [] (.n 23 (.agg [.ar e32 h1]) (.sss (.k .z))) (qT k_3 0 rfl 0 8 [.ar e32 h1] (by kernel_rfl) (by decide) <| qe) (by kernel_rfl) ?_
 refine WL_op <| Op_b [] 2 (.agg [.ar e32 h1]) [.ar e32 h1] (Pt.at g2 0) k_3 rfl .all (by kernel_rfl) (by kernel_rfl) ?_
 intro w_5 k_6
 have k_7 := k_6.sel (.ss (.k .e))
 refine WL_nil <| At_go <| W_ret ?_
 obtain rfl := Option.some.inj hm
 refine At_rt [.agg [.ar e32 h1]] (qo (.agg [.ar e32 h1]) <| qc (fun w => Rd w (some ⟨g2, 0, none⟩) (SV.cl [.ar e32 h1])) (k_7.brd 0 rfl) <| qe) (by kernel_rfl) ?_
 have k_8 := k_7.sel .z
 exact ⟨rfl, k_8⟩

-- quern/mixs.F
noncomputable def m_mixs_F_l0 (h : Vec UInt32 8) : (Vec UInt32 16 × Vec UInt32 16 × Int) → Option ((Vec UInt32 16 × Vec UInt32 16 × Int) ⊕ (Vec UInt32 8))
  | (m_1, v, x_0) => if x_0 < 10 then ((m_mixs_round v m_1 x_0).bind fun r_1 => some (.inl (r_1.2, r_1.1, w64 (x_0 + 1)))) else (Option.map Sum.inr ((m_mixs_End h v).bind fun r_2 => some r_2))
noncomputable def m_mixs_F (h : Vec UInt32 8) (m_ : Vec UInt32 16) (count : UInt64) (last : Bool) (node : Bool) : Option (Vec UInt32 8) :=
  (m_mixs_Begin h count last node).bind fun r_ => whileO (m_mixs_F_l0 h) (m_, r_, (0 : Int))
theorem c_mixs_F {F O : Nat → Prop} {w : World} (h : Vec UInt32 8) (m_ : Vec UInt32 16) (count : UInt64) (last : Bool) (node : Bool) (k : Cx F O w w []) (r : (Vec UInt32 8)) (hm : m_mixs_F h m_ count last node = some r) :
    Calls Tryz.prog 151 (vals [.agg [.ar e32 h], .agg [.ar e32 m_], .u64 count, .b last, .b node]) w (fun e w' => e = .returned (SV.val (.agg [.ar e32 r])) ∧ Cx F O w w' []) := by
 unfold m_mixs_F at hm
 refine calls [.agg [.ar e32 h], .agg [.ar e32 m_], .u64 count, .b last, .b node] Tryz.func151 rfl (of_decide_eq_true (by kernel_rfl)) ?_
 refine W_seq <| W_reg <| WL_op <| Op_box [] 5 (.agg [.ar e32 h]) [.ar e32 h] (by kernel_rfl) k ?_
 intro g w_ k_
 refine WL_op <| Op_box [] 6 (.agg [.ar e32 m_]) [.ar e32 m_] (by kernel_rfl) k_ ?_
 intro g1 w_1 k_1
 refine WL_op <| Op_alloc [] 10 [.ar e32 (Vec.rep 8 (0 : UInt32))] (by kernel_rfl) k_1 ?_
 intro g2 w_2 k_2
 refine WL_nil <| At_go <| W_seq <| W_reg <| WLs 4 [] (.n 13 (.agg [.ar e32 h]) (.n 14 (.u64 count) (.n 15 (.b last) (.n 16 (.b node) (.kkk .z))))) (qT k_2 0 rfl 0 8 [.ar e32 h] (by kernel_rfl) (by decide) <| qe) (by kernel_rfl) ?_
 refine WL_op ?_
 obtain ⟨r_, h_r_, hm⟩ := ob hm
 refine Op_call [] 17 _ yz_go156 (by kernel_rfl) (c_mixs_Begin (F := N0) (O := N0) _ _ _ _ (Cx.refl _) _ h_r_) ?_
 rintro e_ w_3 ⟨rfl, k_3⟩
 have k_4 := k_2.call k_3
 refine ⟨.agg [.ar e32 r_], rfl, ?_⟩
 refine WL_op ?_
 have k_5 := k_4.sel (.kk (.k .e))
 refine Op_alloc [] 11 [.ar e32 (Vec.rep 16 (0 : UInt32))] (by kernel_rfl) k_5 ?_
 intro g3 w_4 k_6
 refine WL_op <| Op_b [] 3 (.agg [.ar e32 r_]) [.ar e32 r_] (Pt.at g3 0) k_6 rfl .all (by kernel_rfl) (by kernel_rfl) ?_
 intro w_5 k_7
 refine WL_nil <| At_go <| W_seq <| W_seq <| W_q [] (.n 18 (I 0) (.k (.ssss (.s .a)))) qe (by kernel_rfl) ?_
 refine At_go <| W_block <| W_lp (m_mixs_F_l0 h) (fun s L wr => ∃ (m_1 : Vec UInt32 16) (v : Vec UInt32 16) (x_0 : Int), (m_1, v, x_0) = s ∧ L = [(5, pt g 0), (6, pt g1 0), (10, pt g2 0), (11, pt g3 0), (18, I x_0)] ∧ Cx F O w wr [Bx 154 g [.ar e32 h], Bx 155 g1 [.ar e32 m_1], Bx 154 g2 [.ar e32 (Vec.rep 8 (0 : UInt32))], Bx 155 g3 [.ar e32 v]]) (m_, r_, (0 : Int)) r hm ⟨m_, r_, (0 : Int), rfl, rfl, k_7⟩ (by kernel_rfl) ?_
 intro s0_ L_ w_6 y0 hrel hstep hr0
 obtain ⟨m_1, v, x_0, rfl, rfl, k_8⟩ := hrel
 have hm := hstep; simp only [m_mixs_F_l0] at hm
 clear hstep
 refine W_seq <| W_q [] (.n 19 (.b (decide (x_0 < 10))) .a) qe (by kernel_rfl) ?_
 refine At_go <| W_seq <| W_condp (x_0 < 10) (by kernel_rfl) (fun hc => ?_) (fun hc => ?_)
 · rw [if_pos hc] at hm
   refine W_skip <| At_go <| W_seq <| W_block <| W_seq <| W_q [] (.n 12 (I x_0) (.s .a)) qe (by kernel_rfl) ?_
   refine At_go <| W_reg <| WLs 1 [] (.n 21 (I x_0) (.s .a)) qe (by kernel_rfl) ?_
   refine WL_op ?_
   obtain ⟨r_1, h_r_1, hm⟩ := ob hm
   have k_9 := (((k_8.pk (.t (.t .h))).pk (.t .h)).pk (.t (.t .h))).pk (.t (.t (.t .h)))
   obtain ⟨F1, O1, kin, hO, hre, hF, hb⟩ := k_9.go (.i (.i (.r (.r .e))))
   refine Op_call [] 22 _ yz_go157 (by kernel_rfl) (c_mixs_round (F := F1) (O := O1) _ _ _ _ _ kin _ h_r_1) ?_
   rintro e_ w_7 ⟨rfl, k_10⟩
   have k_11 := hb w_7 _ _ k_10 (.c (.c .n))
   refine ⟨.tup [], rfl, ?_⟩
   refine WL_nil <| At_in <| At_go <| W_q [] (.n 18 (I (w64 (x_0 + 1))) (.ss (.kkkk .z))) qe (by kernel_rfl) ?_
   have k_12 := (((k_11.pk .h).pk (.t (.t (.t .h)))).pk (.t (.t .h))).pk (.t (.t (.t .h)))
   exact At_rd (r_1.2, r_1.1, w64 (x_0 + 1)) (Option.some.inj hm).symm ⟨r_1.2, r_1.1, w64 (x_0 + 1), rfl, rfl, k_12⟩ (by kernel_rfl)
 rw [if_neg hc] at hm
 refine W_exit (At_te (At_te (At_ie ?_)))
 have hm := exit_of hm hr0
 refine At_go <| W_seq <| W_reg <| WLs 2 [] (.n 24 (.agg [.ar e32 h]) (.n 25 (.agg [.ar e32 v]) (.sss (.k .z)))) (qT k_8 0 rfl 0 8 [.ar e32 h] (by kernel_rfl) (by decide) <| qT k_8 3 rfl 0 16 [.ar e32 v] (by kernel_rfl) (by decide) <| qe) (by kernel_rfl) ?_
 refine WL_op ?_
 obtain ⟨r_2, h_r_2, hm⟩ := ob hm
 refine Op_call [] 26 _ yz_go158 (by kernel_rfl) (c_mixs_End (F := N0) (O := N0) _ _ (Cx.refl _) _ h_r_2) ?_
 rintro e_ w_8 ⟨rfl, k_13⟩
 have k_14 := k_8.call k_13
 refine ⟨.agg [.ar e32 r_2], rfl, ?_⟩
 have k_15 := k_14.sel (.ss (.k .z))
 refine WL_op <| Op_b [] 0 (.agg [.ar e32 r_2]) [.ar e32 r_2] (Pt.at g2 0) k_15 rfl .all (by kernel_rfl) (by kernel_rfl) ?_
 intro w_9 k_16
 refine WL_nil <| At_go <| W_ret ?_
 obtain rfl := Option.some.inj hm
 refine At_rt [.agg [.ar e32 r_2]] (qo (.agg [.ar e32 r_2]) <| qc (fun w => Rd w (some ⟨g2, 0, none⟩) (SV.cl [.ar e32 r_2])) (k_16.brd 0 rfl) <| qe) (by kernel_rfl) ?_
 have k_17 := k_16.sel .z
 exact ⟨rfl, k_17⟩

-- quern/node.mixSmall
noncomputable def m_node_mixSmall (h : Vec UInt32 8) (b : List UInt8) (c_Lo : UInt64) (c_Hi : UInt64) (last : Bool) (node : Bool) : Option (Vec UInt32 8) :=
  (m_mixs_Words b).bind fun r_ => (m_mixs_F h r_.1 c_Lo last node).bind fun r_1 => some r_1
theorem c_node_mixSmall {F O : Nat → Prop} {w : World} (h : Vec UInt32 8) (b : List UInt8) (c_Lo : UInt64) (c_Hi : UInt64) (last : Bool) (node : Bool) (A_b : Option Addr) (n_b : Nat) (c_b : Nat) (h_b : Ro F w A_b (e8.all b)) (hn_b : b.length = n_b) (hc_b : n_b ≤ c_b) (k : Cx F O w w []) (r : (Vec UInt32 8)) (hm : m_node_mixSmall h b c_Lo c_Hi last node = some r) :
    Calls Tryz.prog 135 (vals [.agg [.ar e32 h], sl A_b n_b c_b, .agg [.u64 c_Lo, .u64 c_Hi], .b last, .b node]) w (fun e w' => e = .returned (SV.val (.agg [.ar e32 r])) ∧ Cx F O w w' []) := by
 unfold m_node_mixSmall at hm
 subst hn_b
 refine calls [.agg [.ar e32 h], sl A_b b.length c_b, .agg [.u64 c_Lo, .u64 c_Hi], .b last, .b node] Tryz.func135 rfl (of_decide_eq_true (by kernel_rfl)) ?_
 refine W_seq <| W_reg <| WL_op <| Op_box [] 5 (.agg [.ar e32 h]) [.ar e32 h] (by kernel_rfl) k ?_
 intro g w_ k_
 refine WL_op <| Op_box [] 7 (.agg [.u64 c_Lo, .u64 c_Hi]) [.u64 c_Lo, .u64 c_Hi] (by kernel_rfl) k_ ?_
 intro g1 w_1 k_1
 refine WL_op <| Op_alloc [] 10 [.ar e32 (Vec.rep 8 (0 : UInt32))] (by kernel_rfl) k_1 ?_
 intro g2 w_2 k_2
 refine WL_nil <| At_go <| W_seq <| W_reg <| WLs 1 [] (.n 14 (sl A_b b.length c_b) (.kkk (.sss .a))) qe (by kernel_rfl) ?_
 refine WL_op ?_
 obtain ⟨r_, h_r_, hm⟩ := ob hm
 refine Op_call [] 15 _ yz_go150 (by kernel_rfl) (c_mixs_Words (F := N0) (O := N0) _ _ _ _ (Ro.n0 (h_b.cx k_2)) rfl hc_b (Cx.refl _) _ h_r_) ?_
 rintro e_ w_3 ⟨rfl, k_3⟩
 have k_4 := k_2.call k_3
 refine ⟨.tup [.agg [.ar e32 r_.1], I r_.2], rfl, ?_⟩
 refine WLs 3 [] (.n 16 (.agg [.ar e32 r_.1]) (.n 17 (I r_.2) (.ss .a))) qe (by kernel_rfl) ?_
 refine WL_op ?_
 have k_5 := k_4.sel (.kk (.k .e))
 refine Op_alloc [] 11 [.ar e32 (Vec.rep 16 (0 : UInt32))] (by kernel_rfl) k_5 ?_
 intro g3 w_4 k_6
 refine WL_op <| Op_b [] 3 (.agg [.ar e32 r_.1]) [.ar e32 r_.1] (Pt.at g3 0) k_6 rfl .all (by kernel_rfl) (by kernel_rfl) ?_
 intro w_5 k_7
 refine WLs 1 [] (.k (.ss .a)) qe (by kernel_rfl) ?_
 refine WL_nil <| At_go <| W_seq <| W_reg <| WLs 6 [] (.n 18 (.agg [.ar e32 h]) (.n 19 (.agg [.ar e32 r_.1]) (.n 21 (.u64 c_Lo) (.n 22 (.b last) (.n 23 (.b node) (.s (.k .z))))))) (qT k_7 0 rfl 0 8 [.ar e32 h] (by kernel_rfl) (by decide) <| qT k_7 3 rfl 0 16 [.ar e32 r_.1] (by kernel_rfl) (by decide) <| qs g1 0 <| qB k_7 1 rfl 0 (.u64 c_Lo) (by kernel_rfl) <| qe) (by kernel_rfl) ?_
 refine WL_op ?_
 obtain ⟨r_1, h_r_1, hm⟩ := ob hm
 refine Op_call [] 24 _ yz_go151 (by kernel_rfl) (c_mixs_F (F := N0) (O := N0) _ _ _ _ _ (Cx.refl _) _ h_r_1) ?_
 rintro e_ w_6 ⟨rfl, k_8⟩
 have k_9 := k_7.call k_8
 refine ⟨.agg [.ar e32 r_1], rfl, ?_⟩
 have k_10 := k_9.sel (.ss (.k .z))
 refine WL_op <| Op_b [] 0 (.agg [.ar e32 r_1]) [.ar e32 r_1] (Pt.at g2 0) k_10 rfl .all (by kernel_rfl) (by kernel_rfl) ?_
 intro w_7 k_11
 refine WL_nil <| At_go <| W_ret ?_
 obtain rfl := Option.some.inj hm
 refine At_rt [.agg [.ar e32 r_1]] (qo (.agg [.ar e32 r_1]) <| qc (fun w => Rd w (some ⟨g2, 0, none⟩) (SV.cl [.ar e32 r_1])) (k_11.brd 0 rfl) <| qe) (by kernel_rfl) ?_
 have k_12 := k_11.sel .z
 exact ⟨rfl, k_12⟩

-- (*quern/node.half[uint32]).write
noncomputable def m_node_half_uint32_write_j0 (x_block : Int) (b1 : List UInt8) (x_8 : Vec UInt32 8) (x_9 : UInt64) (x_10 : UInt64) (x_11 : List UInt8) : Option ((Vec UInt32 8 × UInt64 × UInt64 × List UInt8 × List UInt8) ⊕ (Vec UInt32 8 × UInt64 × UInt64 × List UInt8 × Int)) :=
  (slc b1 0 (if w64 (x_block - ((x_11.length : Nat) : Int)) < ((b1.length : Nat) : Int) then w64 (x_block - ((x_11.length : Nat) : Int)) else ((b1.length : Nat) : Int))).bind fun b3 => (app x_11 b3 1).bind fun b4 => (slc b1 (if w64 (x_block - ((x_11.length : Nat) : Int)) < ((b1.length : Nat) : Int) then w64 (x_block - ((x_11.length : Nat) : Int)) else ((b1.length : Nat) : Int)) ((b1.length : Nat) : Int)).bind fun b5 => some (.inl (x_8, x_9, x_10, b4, b5))
noncomputable def m_node_half_uint32_write_l0 (x_block : Int) : (Vec UInt32 8 × UInt64 × UInt64 × List UInt8 × List UInt8) → Option ((Vec UInt32 8 × UInt64 × UInt64 × List UInt8 × List UInt8) ⊕ (Vec UInt32 8 × UInt64 × UInt64 × List UInt8 × Int))
  | (x_0, x_5, x_6, x_7, b1) => if 0 < ((b1.length : Nat) : Int) then (if ((x_7.length : Nat) : Int) = x_block then ((m_word_Add x_5 x_6 (UInt64.ofInt x_block)).bind fun r_ => (m_node_mixSmall x_0 x_7 r_.1 r_.2.1 false false).bind fun r_1 => (slc x_7 0 (0 : Int)).bind fun b2 => m_node_half_uint32_write_j0 x_block b1 r_1 r_.1 r_.2.1 b2) else (m_node_half_uint32_write_j0 x_block b1 x_0 x_5 x_6 x_7)) else (Option.map Sum.inr (some (x_0, x_5, x_6, x_7, x_block)))
noncomputable def m_node_half_uint32_write (x_h : Vec UInt32 8) (x_count_Lo : UInt64) (x_count_Hi : UInt64) (x_held : List UInt8) (x_block : Int) (b : List UInt8) : Option (Vec UInt32 8 × UInt64 × UInt64 × List UInt8 × Int) :=
  whileO (m_node_half_uint32_write_l0 x_block) (x_h, x_count_Lo, x_count_Hi, x_held, b)
theorem c_node_half_uint32_write {F O : Nat → Prop} {w : World} (x_h : Vec UInt32 8) (x_count_Lo : UInt64) (x_count_Hi : UInt64) (x_held : List UInt8) (x_block : Int) (b : List UInt8) (g_x : Nat) (A_x_held : Option Addr) (n_x_held : Nat) (c_x_held : Nat) (A_b : Option Addr) (n_b : Nat) (c_b : Nat) (h_b : Ro F w A_b (e8.all b)) (hn_b : b.length = n_b) (hc_b : n_b ≤ c_b) (k : Cx F O w w [Bx 213 g_x [.ar e32 x_h, .u64 x_count_Lo, .u64 x_count_Hi, sl A_x_held n_x_held c_x_held, I x_block, .v (.func (.func 135) ⟨SV.vals []⟩ ⟨SV.vals []⟩), .v (.func (.func 136) ⟨SV.vals []⟩ ⟨SV.vals []⟩)], Ow e8 A_x_held n_x_held c_x_held x_held]) (r : (Vec UInt32 8 × UInt64 × UInt64 × List UInt8 × Int)) (hm : m_node_half_uint32_write x_h x_count_Lo x_count_Hi x_held x_block b = some r) :
    Calls Tryz.prog 192 (vals [pt g_x 0, sl A_b n_b c_b]) w (fun e w' => ∃ A n c, r.2.2.2.1.length = n ∧ e = .returned (SV.val (.tup [])) ∧ Cx F O w w' [Bx 213 g_x [.ar e32 r.1, .u64 r.2.1, .u64 r.2.2.1, sl A n c, I r.2.2.2.2, .v (.func (.func 135) ⟨SV.vals []⟩ ⟨SV.vals []⟩), .v (.func (.func 136) ⟨SV.vals []⟩ ⟨SV.vals []⟩)], Ow e8 A n c r.2.2.2.1]) := by
 unfold m_node_half_uint32_write at hm
 obtain rfl := k.len 1 rfl
 subst hn_b
 refine calls [pt g_x 0, sl A_b b.length c_b] Tryz.func192 rfl (of_decide_eq_true (by kernel_rfl)) ?_
 refine W_block <| W_lp (m_node_half_uint32_write_l0 x_block) (fun s L wr => ∃ (x_0 : Vec UInt32 8) (x_5 : UInt64) (x_6 : UInt64) (x_7 : List UInt8) (b1 : List UInt8) (A0 : Option Addr) (n0 : Nat) (c0 : Nat) (A1 : Option Addr) (c1 : Nat), (x_0, x_5, x_6, x_7, b1) = s ∧ L = [(0, pt g_x 0), (1, sl A1 b1.length c1)] ∧ x_7.length = n0 ∧ Ro F w A1 (e8.all b1) ∧ b1.length ≤ c1 ∧ Cx F O w wr [Bx 213 g_x [.ar e32 x_0, .u64 x_5, .u64 x_6, sl A0 n0 c0, I x_block, .v (.func (.func 135) ⟨SV.vals []⟩ ⟨SV.vals []⟩), .v (.func (.func 136) ⟨SV.vals []⟩ ⟨SV.vals []⟩)], Ow e8 A0 n0 c0 x_7]) (x_h, x_count_Lo, x_count_Hi, x_held, b) r hm ⟨x_h, x_count_Lo, x_count_Hi, x_held, b, A_x_held, x_held.length, c_x_held, A_b, c_b, rfl, rfl, k.len 1 rfl, h_b, hc_b, k⟩ (by kernel_rfl) ?_
 intro s0_ L_ w_ y0 hrel hstep hr0
 obtain ⟨x_0, x_5, x_6, x_7, b1, A0, _, c0, A1, c1, rfl, rfl, rfl, h, hc, k_⟩ := hrel
 have hm := hstep; simp only [m_node_half_uint32_write_l0] at hm
 clear hstep
 refine W_seq <| W_seq <| W_q [] (.n 7 (.b (decide (0 < ((b1.length : Nat) : Int)))) .a) qe (by kernel_rfl) ?_
 refine At_go <| W_condp (0 < ((b1.length : Nat) : Int)) (by kernel_rfl) (fun hc1 => ?_) (fun hc1 => ?_)
 · rw [if_pos hc1] at hm
   refine W_skip <| At_go <| W_block <| W_cut (fun L wr => ∃ (x_8 : Vec UInt32 8) (x_9 : UInt64) (x_10 : UInt64) (x_11 : List UInt8) (A2 : Option Addr) (n1 : Nat) (c2 : Nat), m_node_half_uint32_write_j0 x_block b1 x_8 x_9 x_10 x_11 = some y0 ∧ L = [(0, pt g_x 0), (1, sl A1 b1.length c1)] ∧ x_11.length = n1 ∧ Cx F O w wr [Bx 213 g_x [.ar e32 x_8, .u64 x_9, .u64 x_10, sl A2 n1 c2, I x_block, .v (.func (.func 135) ⟨SV.vals []⟩ ⟨SV.vals []⟩), .v (.func (.func 136) ⟨SV.vals []⟩ ⟨SV.vals []⟩)], Ow e8 A2 n1 c2 x_11]) ?_ ?_
   ·
    refine W_seq <| W_d yz_mixed (by kernel_rfl) (.n 17 (.b (decide (((x_7.length : Nat) : Int) = x_block))) (.s .a)) (fun m => qs g_x 0 <| qs g_x 0 <| qB (k_.drew m) 0 rfl 10 (sl A0 x_7.length c0) (by kernel_rfl) <| qs g_x 0 <| qs g_x 0 <| qB (k_.drew m) 0 rfl 11 (I x_block) (by kernel_rfl) <| qe) (by kernel_rfl) (fun m_ => ?_)
    have k_1 := k_.drew m_
    refine At_go <| W_condp (((x_7.length : Nat) : Int) = x_block) (by kernel_rfl) (fun hc2 => ?_) (fun hc2 => ?_)
    · rw [if_pos hc2] at hm
      refine W_seq ?_
      have k_2 := k_1.drew 1
      refine W_m yz_mixed (.q 0 1 (.q 1 1 (.q 2 1 (.q 3 1 (.q 4 0 (.q 5 1 (.q 6 1 (.q 7 1 (.q 8 1 (.q 9 0 (.op 10 (.q 11 1 (.q 12 1 (.q 13 2 (.q 14 2 (.q 15 1 (.op 16 .nil))))))))))))))))) [10, 16] k_2 (.c (.kk .e) (.c (.s (.k .e)) .l)) (by kernel_rfl) (fun _ => ?_)
      refine MXq 4 1 [] (.n 19 (pt g_x 0) (.n 22 (pt g_x 8) (.s .a))) (fun x hx => qs g_x 0 <| qs g_x 0 <| qe) (by kernel_rfl) (fun _ => ?_)
      refine MXq 1 0 [] (.n 23 (.agg [.u64 x_5, .u64 x_6]) (.k (.s .a))) (fun x hx => qT hx 0 rfl 8 2 [.u64 x_5, .u64 x_6] (by kernel_rfl) (by decide) <| qe) (by kernel_rfl) (fun _ => ?_)
      refine MXq 4 1 [] (.n 27 (I x_block) .a) (fun x hx => qs g_x 0 <| qs g_x 0 <| qB hx 0 rfl 11 (I x_block) (by kernel_rfl) <| qe) (by kernel_rfl) (fun _ => ?_)
      refine MXq 1 0 [] (.n 28 (.u64 (UInt64.ofInt x_block)) (.s .a)) (fun x hx => qe) (by kernel_rfl) (fun _ => ?_)
      refine MX_op (by kernel_rfl) rfl ?_
      obtain ⟨r_, h_r_, hm⟩ := ob hm
      refine Op_call [] 29 _ yz_go187 (by kernel_rfl) (c_word_Add (F := N0) (O := N0) _ _ _ (Cx.refl _) _ h_r_) ?_
      rintro e_ w_1 ⟨rfl, k_3⟩
      have k_4 := k_2.call k_3
      refine ⟨.tup [.agg [.u64 r_.1, .u64 r_.2.1], .b r_.2.2], rfl, ?_⟩
      refine ⟨k_4, fun _ => ?_⟩
      refine MXq 2 1 [] (.n 18 (.tup [.agg [.u64 r_.1, .u64 r_.2.1], .b r_.2.2]) (.n 30 (.agg [.u64 r_.1, .u64 r_.2.1]) (.sss .a))) (fun x hx => qe) (by kernel_rfl) (fun _ => ?_)
      refine MXq 2 2 [] (.n 32 (pt g_x 0) (.s (.k (.s .a)))) (fun x hx => qs g_x 0 <| qe) (by kernel_rfl) (fun _ => ?_)
      refine MXq 1 1 [] (.n 33 (pt g_x 8) (.s .a)) (fun x hx => qs g_x 0 <| qe) (by kernel_rfl) (fun _ => ?_)
      refine MX_op (by kernel_rfl) rfl <| Op_b [] 0 (.agg [.u64 r_.1, .u64 r_.2.1]) [.u64 r_.1, .u64 r_.2.1] (Pt.at g_x 8) k_4 rfl (.k .h2) (by kernel_rfl) (by kernel_rfl) ?_
      intro w_2 k_5
      refine ⟨(k_5.sel (.s (.k .e))), fun _ => ?_⟩
      refine MX_nil <| At_go <| W_seq ?_
      have k_6 := k_5.drew 1
      refine W_m yz_mixed (.q 0 1 (.q 1 1 (.q 2 1 (.q 3 1 (.q 4 0 (.q 5 1 (.q 6 1 (.q 7 1 (.q 8 0 (.q 9 1 (.q 10 1 (.q 11 1 (.q 12 0 (.q 13 1 (.q 14 1 (.q 15 1 (.q 16 0 (.op 17 (.q 18 2 (.q 19 1 (.op 20 .nil))))))))))))))))))))) [17, 20] k_6 (.c (.kk .e) (.c (.s (.k .e)) .l)) (by kernel_rfl) (fun _ => ?_)
      refine MXq 4 1 [] (.n 34 (pt g_x 0) (.n 37 (pt g_x 12) (.ss .a))) (fun x hx => qs g_x 0 <| qs g_x 0 <| qe) (by kernel_rfl) (fun _ => ?_)
      refine MXq 1 0 [] (.n 38 (.v (.func (.func 135) ⟨SV.vals []⟩ ⟨SV.vals []⟩)) (.k (.s .a))) (fun x hx => qB hx 0 rfl 12 (.v (.func (.func 135) ⟨SV.vals []⟩ ⟨SV.vals []⟩)) (by kernel_rfl) <| qe) (by kernel_rfl) (fun _ => ?_)
      refine MXq 3 1 [] (.n 41 (pt g_x 0) .a) (fun x hx => qs g_x 0 <| qs g_x 0 <| qe) (by kernel_rfl) (fun _ => ?_)
      refine MXq 1 0 [] (.n 42 (.agg [.ar e32 x_0]) (.s .a)) (fun x hx => qT hx 0 rfl 0 8 [.ar e32 x_0] (by kernel_rfl) (by decide) <| qe) (by kernel_rfl) (fun _ => ?_)
      refine MXq 3 1 [] (.n 45 (pt g_x 10) .a) (fun x hx => qs g_x 0 <| qs g_x 0 <| qe) (by kernel_rfl) (fun _ => ?_)
      refine MXq 1 0 [] (.n 46 (sl A0 x_7.length c0) (.s .a)) (fun x hx => qB hx 0 rfl 10 (sl A0 x_7.length c0) (by kernel_rfl) <| qe) (by kernel_rfl) (fun _ => ?_)
      refine MXq 3 1 [] (.n 49 (pt g_x 8) .a) (fun x hx => qs g_x 0 <| qs g_x 0 <| qe) (by kernel_rfl) (fun _ => ?_)
      refine MXq 1 0 [] (.n 50 (.agg [.u64 r_.1, .u64 r_.2.1]) (.s .a)) (fun x hx => qT hx 0 rfl 8 2 [.u64 r_.1, .u64 r_.2.1] (by kernel_rfl) (by decide) <| qe) (by kernel_rfl) (fun _ => ?_)
      refine MX_op (by kernel_rfl) rfl ?_
      obtain ⟨r_1, h_r_1, hm⟩ := ob hm
      refine Op_callv [] 51 [] [.agg [.ar e32 x_0], sl A0 x_7.length c0, .agg [.u64 r_.1, .u64 r_.2.1], .b false, .b false] [] yz_go135 (by kernel_rfl) (c_node_mixSmall (F := N0) (O := N0) _ _ _ _ _ _ _ _ _ (Ro.n0 (k_6.rd 1 rfl)) (k_6.len 1 rfl) (k_6.lec 1 rfl) (Cx.refl _) _ h_r_1) ?_
      rintro e_ w_3 ⟨rfl, k_7⟩
      have k_8 := k_6.call k_7
      refine ⟨.agg [.ar e32 r_1], rfl, ?_⟩
      refine ⟨k_8, fun _ => ?_⟩
      refine MXq 1 2 [] (.n 52 (pt g_x 0) (.k (.ssss (.s .a)))) (fun x hx => qs g_x 0 <| qe) (by kernel_rfl) (fun _ => ?_)
      refine MXq 1 1 [] (.n 53 (pt g_x 0) (.s .a)) (fun x hx => qs g_x 0 <| qe) (by kernel_rfl) (fun _ => ?_)
      refine MX_op (by kernel_rfl) rfl <| Op_b [] 0 (.agg [.ar e32 r_1]) [.ar e32 r_1] (Pt.at g_x 0) k_8 rfl .h (by kernel_rfl) (by kernel_rfl) ?_
      intro w_4 k_9
      refine ⟨(k_9.sel (.s (.k .e))), fun _ => ?_⟩
      refine MX_nil <| At_go <| W_reg ?_
      obtain ⟨b2, h_b2, hm⟩ := ob hm
      have hs := slc_some h_b2
      have hl := slc_len h_b2
      have hn : x_7.length = x_7.length := (k_9.len 1 rfl)
      have hc3 : x_7.length ≤ c0 := (k_9.lec 1 rfl)
      have hc4 : b2.length ≤ c0 := by omega
      refine WLs 8 [] (.n 59 (sl A0 b2.length c0) (.n 61 (pt g_x 10) (.ss .a))) (qs g_x 0 <| qs g_x 0 <| qB k_9 0 rfl 10 (sl A0 x_7.length c0) (by kernel_rfl) <| qp (0 ≤ (0 : Int) ∧ (0 : Int) ≤ ((c0 : Nat) : Int)) (by omega) <| qo (.v (.slice A0 b2.length c0)) <| qp (Value.slice (slA A0 0 c0 1) (Int.toNat (0 : Int) - 0) (c0 - 0) = .slice A0 b2.length c0) (slx0 _ _ _ _ _ (by omega)) <| qs g_x 0 <| qs g_x 0 <| qe) (by kernel_rfl) ?_
      refine WL_op ?_
      have k_10 := k_9.sel (.kk .e)
      refine Op_b [] 0 (sl A0 b2.length c0) [sl A0 b2.length c0] (Pt.at g_x 10) k_10 rfl (.kk (.k .h)) (by kernel_rfl) (by kernel_rfl) ?_
      intro w_5 k_11
      refine WL_nil ?_
      have k_12 := k_11.pre 1 rfl b2.length c0 b2 (by omega) (by omega) (by omega) (slc_pre h_b2 rfl)
      exact At_c ⟨r_1, r_.1, r_.2.1, b2, A0, b2.length, c0, hm, rfl, k_12.len 1 rfl, k_12⟩ (by kernel_rfl)
    rw [if_neg hc2] at hm
    refine W_skip ?_
    exact At_c ⟨x_0, x_5, x_6, x_7, A0, x_7.length, c0, hm, rfl, k_1.len 1 rfl, k_1⟩ (by kernel_rfl)
   rintro L_ w_6 ⟨x_8, x_9, x_10, x_11, A2, _, c2, hm, rfl, rfl, k_13⟩
   simp only [m_node_half_uint32_write_j0] at hm
   refine W_seq <| W_d yz_mixed (by kernel_rfl) (.n 4 (I (if w64 (x_block - ((x_11.length : Nat) : Int)) < ((b1.length : Nat) : Int) then w64 (x_block - ((x_11.length : Nat) : Int)) else ((b1.length : Nat) : Int))) .a) (fun m => qs g_x 0 <| qs g_x 0 <| qB (k_13.drew m) 0 rfl 11 (I x_block) (by kernel_rfl) <| qs g_x 0 <| qs g_x 0 <| qB (k_13.drew m) 0 rfl 10 (sl A2 x_11.length c2) (by kernel_rfl) <| qe) (by kernel_rfl) (fun m_1 => ?_)
   have k_14 := k_13.drew m_1
   refine At_go <| W_seq ?_
   have k_15 := k_14.drew 1
   refine W_m yz_mixed (.q 0 1 (.q 1 1 (.q 2 1 (.q 3 1 (.q 4 0 (.q 5 1 (.q 6 1 (.q 7 0 (.op 8 (.q 9 2 (.q 10 1 (.op 11 .nil)))))))))))) [8, 11] k_15 (.c (.k .z) (.c (.z) .l)) (by kernel_rfl) (fun _ => ?_)
   refine MXq 4 1 [] (.n 75 (pt g_x 0) (.n 78 (pt g_x 10) .a)) (fun x hx => qs g_x 0 <| qs g_x 0 <| qe) (by kernel_rfl) (fun _ => ?_)
   refine MXq 1 0 [] (.n 79 (sl A2 x_11.length c2) (.k (.s .a))) (fun x hx => qB hx 0 rfl 10 (sl A2 x_11.length c2) (by kernel_rfl) <| qe) (by kernel_rfl) (fun _ => ?_)
   refine MXq 2 1 [] (.n 80 (sl A1 b1.length c1) (.n 81 (I (if w64 (x_block - ((x_11.length : Nat) : Int)) < ((b1.length : Nat) : Int) then w64 (x_block - ((x_11.length : Nat) : Int)) else ((b1.length : Nat) : Int))) .a)) (fun x hx => qe) (by kernel_rfl) (fun _ => ?_)
   obtain ⟨b3, h_b3, hm⟩ := ob hm
   have hs1 := slc_some h_b3
   have hl1 := slc_len h_b3
   have hn1 : b1.length = b1.length := rfl
   have hc5 : b1.length ≤ c1 := hc
   have hc6 : b3.length ≤ c1 := by omega
   refine MXq 1 0 [] (.n 82 (sl A1 b3.length c1) (.ss .a)) (fun x hx => qp (0 ≤ (if w64 (x_block - ((x_11.length : Nat) : Int)) < ((b1.length : Nat) : Int) then w64 (x_block - ((x_11.length : Nat) : Int)) else ((b1.length : Nat) : Int)) ∧ (if w64 (x_block - ((x_11.length : Nat) : Int)) < ((b1.length : Nat) : Int) then w64 (x_block - ((x_11.length : Nat) : Int)) else ((b1.length : Nat) : Int)) ≤ ((c1 : Nat) : Int)) (by omega) <| qo (.v (.slice A1 b3.length c1)) <| qp (Value.slice (slA A1 0 c1 1) (Int.toNat (if w64 (x_block - ((x_11.length : Nat) : Int)) < ((b1.length : Nat) : Int) then w64 (x_block - ((x_11.length : Nat) : Int)) else ((b1.length : Nat) : Int)) - 0) (c1 - 0) = .slice A1 b3.length c1) (slx0 _ _ _ _ _ (by omega)) <| qe) (by kernel_rfl) (fun _ => ?_)
   refine MX_op (by kernel_rfl) rfl ?_
   obtain ⟨b4, h_b4, hm⟩ := ob hm
   obtain ⟨hz, hl2⟩ := app_some h_b4
   refine Op_append (E := e8) (v := sl A1 b3.length c1) (ys := b3) yz_tf22 [] 83 1 (by kernel_rfl) k_15 rfl (Src.sl (Rd.pre (h.cx k_15) h_b3 rfl) rfl (by rfl)) rfl (by have := k_15.len 1 rfl; have := hm; omega) ?_
   intro A3 c3 w_7 k_16
   rw [← hl2] at k_16
   refine ⟨(k_16.sel (.k .z)), fun _ => ?_⟩
   refine MXq 1 2 [] (.n 84 (pt g_x 0) (.k (.sss .a))) (fun x hx => qs g_x 0 <| qe) (by kernel_rfl) (fun _ => ?_)
   refine MXq 1 1 [] (.n 85 (pt g_x 10) (.s .a)) (fun x hx => qs g_x 0 <| qe) (by kernel_rfl) (fun _ => ?_)
   refine MX_op (by kernel_rfl) rfl <| Op_b [] 0 (sl A3 (x_11.length + b3.length) c3) [sl A3 (x_11.length + b3.length) c3] (Pt.at g_x 10) k_16 rfl (.kk (.k .h)) (by kernel_rfl) (by kernel_rfl) ?_
   intro w_8 k_17
   refine ⟨(k_17.sel .z), fun _ => ?_⟩
   refine MX_nil <| At_go ?_
   obtain ⟨b5, h_b5, hm⟩ := ob hm
   have hs2 := slc_some h_b5
   have hl3 := slc_len h_b5
   have hn2 : b1.length = b1.length := rfl
   have hc7 : b1.length ≤ c1 := hc
   obtain ⟨A4, c4, e_, hc8, hA, hc9⟩ := slx A1 (Int.toNat (if w64 (x_block - ((x_11.length : Nat) : Int)) < ((b1.length : Nat) : Int) then w64 (x_block - ((x_11.length : Nat) : Int)) else ((b1.length : Nat) : Int))) c1 1 (b1.length - Int.toNat (if w64 (x_block - ((x_11.length : Nat) : Int)) < ((b1.length : Nat) : Int) then w64 (x_block - ((x_11.length : Nat) : Int)) else ((b1.length : Nat) : Int))) b5.length (by omega) (by omega)
   refine W_q [] (.n 1 (sl A4 b5.length c4) (.sss (.k .z))) (qp (0 ≤ (if w64 (x_block - ((x_11.length : Nat) : Int)) < ((b1.length : Nat) : Int) then w64 (x_block - ((x_11.length : Nat) : Int)) else ((b1.length : Nat) : Int)) ∧ (if w64 (x_block - ((x_11.length : Nat) : Int)) < ((b1.length : Nat) : Int) then w64 (x_block - ((x_11.length : Nat) : Int)) else ((b1.length : Nat) : Int)) ≤ ((b1.length : Nat) : Int)) (by omega) <| qo (.v (.slice A4 b5.length c4)) <| qp (Value.slice (slA A1 (Int.toNat (if w64 (x_block - ((x_11.length : Nat) : Int)) < ((b1.length : Nat) : Int) then w64 (x_block - ((x_11.length : Nat) : Int)) else ((b1.length : Nat) : Int))) c1 1) (b1.length - Int.toNat (if w64 (x_block - ((x_11.length : Nat) : Int)) < ((b1.length : Nat) : Int) then w64 (x_block - ((x_11.length : Nat) : Int)) else ((b1.length : Nat) : Int))) (c1 - Int.toNat (if w64 (x_block - ((x_11.length : Nat) : Int)) < ((b1.length : Nat) : Int) then w64 (x_block - ((x_11.length : Nat) : Int)) else ((b1.length : Nat) : Int))) = .slice A4 b5.length c4) e_ <| qe) (by kernel_rfl) ?_
   refine At_in ?_
   exact At_rd (x_8, x_9, x_10, b4, b5) (Option.some.inj hm).symm ⟨x_8, x_9, x_10, b4, b5, A3, x_11.length + b3.length, c3, A4, c4, rfl, rfl, k_17.len 1 rfl, (Ro.cut h h_b5 rfl (by rfl) hA (by omega)), hc8, k_17⟩ (by kernel_rfl)
 rw [if_neg hc1] at hm
 refine W_exit (At_te (At_te (At_ie ?_)))
 have hm := exit_of hm hr0
 obtain rfl := Option.some.inj hm
 refine At_en [] qe (by kernel_rfl) ?_
 exact ⟨A0, x_7.length, c0, k_.len 1 rfl, rfl, k_⟩
end Go.Sx
