import Derived.Test.YtmknbdnofogmdaaGreatW2
namespace Go.Sx
open Go.RowKit Go.Proofs
set_option linter.unusedVariables false
set_option linter.unusedSimpArgs false
set_option maxRecDepth 20000

-- quern/quernref03.G
theorem c_r03_G {F O : Nat → Prop} {w : World} (v : Vec UInt64 16) (a_ : Int) (b : Int) (c : Int) (d : Int) (x_ : UInt64) (y_ : UInt64) (k : Cx F O w w []) (r : (Vec UInt64 16 × Int)) (hm : m_r03_G v a_ b c d x_ y_ = some r) :
    Calls Tryz.prog 127 (vals [.agg [.ar e64 v], I a_, I b, I c, I d, .u64 x_, .u64 y_]) w (fun e w' => e = .returned (SV.val (.tup [.agg [.ar e64 r.1], I r.2])) ∧ Cx F O w w' []) := by
 unfold m_r03_G at hm
 refine calls [.agg [.ar e64 v], I a_, I b, I c, I d, .u64 x_, .u64 y_] Tryz.func127 rfl (of_decide_eq_true (by kernel_rfl)) ?_
 refine W_seq <| W_reg <| WL_op <| Op_box [] 7 (.agg [.ar e64 v]) [.ar e64 v] (by kernel_rfl) k ?_
 intro g w_ k_
 refine WL_op <| Op_alloc [] 14 [.ar e64 (Vec.rep 16 (0 : UInt64))] (by kernel_rfl) k_ ?_
 intro g1 w_1 k_1
 refine WLs 1 [] (.kk (.s .a)) qe (by kernel_rfl) ?_
 refine WL_nil <| At_go <| W_seq <| W_seq <| W_reg <| WLs 1 [] (.n 16 (I a_) .a) qe (by kernel_rfl) ?_
 refine WL_op ?_
 obtain ⟨r_, h_r_, hm⟩ := ob hm
 refine Op_call [] 17 _ yz_go137 (by kernel_rfl) (c_r03_place (F := N0) (O := N0) _ (Cx.refl _) _ h_r_) ?_
 rintro e_ w_2 ⟨rfl, k_2⟩
 have k_3 := k_1.call k_2
 refine ⟨.b r_, rfl, ?_⟩
 refine WLs 2 [] (.n 19 (.b (!r_)) (.ss .a)) qe (by kernel_rfl) ?_
 refine WL_sp 19 (!r_) (.s .a) (by kernel_rfl) (fun hg => ?_) (fun hg => ?_)
 · rw [if_pos hg] at hm
   refine WLs 5 [19] (.n 24 (.b true) (.s .a)) qe (by kernel_rfl) ?_
   refine WLs 5 [24] (.n 29 (.b true) (.s .a)) qe (by kernel_rfl) ?_
   refine WLs 34 [29, 34, 39, 44, 49, 54, 59] (.n 63 (.b true) (.s .a)) qe (by kernel_rfl) ?_
   refine WL_nil <| At_go <| W_cond true (by kernel_rfl) (fun _ => ?_) (fun h => by cases h)
   refine W_seq <| W_reg <| WLs 1 [] (.n 64 (.agg [.ar e64 (Vec.rep 16 ((0 : UInt64) : UInt64))]) (.s (.k .z))) qe (by kernel_rfl) ?_
   refine WL_op <| Op_b [] 1 (.agg [.ar e64 (Vec.rep 16 ((0 : UInt64) : UInt64))]) [.ar e64 (Vec.rep 16 ((0 : UInt64) : UInt64))] (Pt.at g1 0) k_3 rfl .all (by kernel_rfl) (by kernel_rfl) ?_
   intro w_3 k_4
   have k_5 := k_4.sel (.s (.k .e))
   refine WLs 1 [] (.n 15 (I 1) (.s .a)) qe (by kernel_rfl) ?_
   refine WL_nil <| At_go <| W_ret (At_tr ?_)
   obtain rfl := Option.some.inj hm
   refine At_rt [.agg [.ar e64 (Vec.rep 16 ((0 : UInt64) : UInt64))], I 1] (qo (.agg [.ar e64 (Vec.rep 16 ((0 : UInt64) : UInt64))]) <| qc (fun w => Rd w (some ⟨g1, 0, none⟩) (SV.cl [.ar e64 (Vec.rep 16 ((0 : UInt64) : UInt64))])) (k_5.brd 0 rfl) <| qe) (by kernel_rfl) ?_
   have k_6 := k_5.sel .z
   exact ⟨rfl, k_6⟩
 · rw [if_neg (by rw [hg]; decide)] at hm
   refine WLs 1 [19] (.n 20 (I b) .a) qe (by kernel_rfl) ?_
   refine WL_op ?_
   obtain ⟨r_1, h_r_1, hm⟩ := ob hm
   refine Op_call [19] 21 _ yz_go137 (by kernel_rfl) (c_r03_place (F := N0) (O := N0) _ (Cx.refl _) _ h_r_1) ?_
   rintro e_ w_4 ⟨rfl, k_7⟩
   have k_8 := k_3.call k_7
   refine ⟨.b r_1, rfl, ?_⟩
   refine WLs 3 [19] (.n 24 (.b (!r_1)) (.sss .a)) qe (by kernel_rfl) ?_
   refine WL_sp 24 (!r_1) (.s .a) (by kernel_rfl) (fun hg1 => ?_) (fun hg1 => ?_)
   · rw [if_pos hg1] at hm
     refine WLs 5 [24] (.n 29 (.b true) (.s .a)) qe (by kernel_rfl) ?_
     refine WLs 34 [29, 34, 39, 44, 49, 54, 59] (.n 63 (.b true) (.s .a)) qe (by kernel_rfl) ?_
     refine WL_nil <| At_go <| W_cond true (by kernel_rfl) (fun _ => ?_) (fun h => by cases h)
     refine W_seq <| W_reg <| WLs 1 [] (.n 64 (.agg [.ar e64 (Vec.rep 16 ((0 : UInt64) : UInt64))]) (.s (.k .z))) qe (by kernel_rfl) ?_
     refine WL_op ?_
     have k_9 := k_8.sel (.kk .e)
     refine Op_b [] 1 (.agg [.ar e64 (Vec.rep 16 ((0 : UInt64) : UInt64))]) [.ar e64 (Vec.rep 16 ((0 : UInt64) : UInt64))] (Pt.at g1 0) k_9 rfl .all (by kernel_rfl) (by kernel_rfl) ?_
     intro w_5 k_10
     have k_11 := k_10.sel (.s (.k .e))
     refine WLs 1 [] (.n 15 (I 1) (.s .a)) qe (by kernel_rfl) ?_
     refine WL_nil <| At_go <| W_ret (At_tr ?_)
     obtain rfl := Option.some.inj hm
     refine At_rt [.agg [.ar e64 (Vec.rep 16 ((0 : UInt64) : UInt64))], I 1] (qo (.agg [.ar e64 (Vec.rep 16 ((0 : UInt64) : UInt64))]) <| qc (fun w => Rd w (some ⟨g1, 0, none⟩) (SV.cl [.ar e64 (Vec.rep 16 ((0 : UInt64) : UInt64))])) (k_11.brd 0 rfl) <| qe) (by kernel_rfl) ?_
     have k_12 := k_11.sel .z
     exact ⟨rfl, k_12⟩
   · rw [if_neg (by rw [hg1]; decide)] at hm
     refine WLs 1 [24] (.n 25 (I c) .a) qe (by kernel_rfl) ?_
     refine WL_op ?_
     have k_13 := k_8.sel (.kk .e)
     obtain ⟨r_2, h_r_2, hm⟩ := ob hm
     refine Op_call [24] 26 _ yz_go137 (by kernel_rfl) (c_r03_place (F := N0) (O := N0) _ (Cx.refl _) _ h_r_2) ?_
     rintro e_ w_6 ⟨rfl, k_14⟩
     have k_15 := k_13.call k_14
     refine ⟨.b r_2, rfl, ?_⟩
     refine WLs 3 [24] (.n 29 (.b (!r_2)) (.sss .a)) qe (by kernel_rfl) ?_
     refine WL_sp 29 (!r_2) (.s .a) (by kernel_rfl) (fun hg2 => ?_) (fun hg2 => ?_)
     · rw [if_pos hg2] at hm
       refine WLs 34 [29, 34, 39, 44, 49, 54, 59] (.n 63 (.b true) (.s .a)) qe (by kernel_rfl) ?_
       refine WL_nil <| At_go <| W_cond true (by kernel_rfl) (fun _ => ?_) (fun h => by cases h)
       refine W_seq <| W_reg <| WLs 1 [] (.n 64 (.agg [.ar e64 (Vec.rep 16 ((0 : UInt64) : UInt64))]) (.s (.k .z))) qe (by kernel_rfl) ?_
       refine WL_op <| Op_b [] 1 (.agg [.ar e64 (Vec.rep 16 ((0 : UInt64) : UInt64))]) [.ar e64 (Vec.rep 16 ((0 : UInt64) : UInt64))] (Pt.at g1 0) k_15 rfl .all (by kernel_rfl) (by kernel_rfl) ?_
       intro w_7 k_16
       have k_17 := k_16.sel (.s (.k .e))
       refine WLs 1 [] (.n 15 (I 1) (.s .a)) qe (by kernel_rfl) ?_
       refine WL_nil <| At_go <| W_ret (At_tr ?_)
       obtain rfl := Option.some.inj hm
       refine At_rt [.agg [.ar e64 (Vec.rep 16 ((0 : UInt64) : UInt64))], I 1] (qo (.agg [.ar e64 (Vec.rep 16 ((0 : UInt64) : UInt64))]) <| qc (fun w => Rd w (some ⟨g1, 0, none⟩) (SV.cl [.ar e64 (Vec.rep 16 ((0 : UInt64) : UInt64))])) (k_17.brd 0 rfl) <| qe) (by kernel_rfl) ?_
       have k_18 := k_17.sel .z
       exact ⟨rfl, k_18⟩
     · rw [if_neg (by rw [hg2]; decide)] at hm
       refine WLs 1 [29] (.n 30 (I d) .a) qe (by kernel_rfl) ?_
       refine WL_op ?_
       obtain ⟨r_3, h_r_3, hm⟩ := ob hm
       refine Op_call [29] 31 _ yz_go137 (by kernel_rfl) (c_r03_place (F := N0) (O := N0) _ (Cx.refl _) _ h_r_3) ?_
       rintro e_ w_8 ⟨rfl, k_19⟩
       have k_20 := k_15.call k_19
       refine ⟨.b r_3, rfl, ?_⟩
       refine WLs 32 [29] (.n 63 (.b (((((((!r_3) || (decide (a_ = b))) || (decide (a_ = c))) || (decide (a_ = d))) || (decide (b = c))) || (decide (b = d))) || (decide (c = d)))) (.sss .a)) qe (by kernel_rfl) ?_
       refine WL_nil <| At_go <| W_cond (((((((!r_3) || (decide (a_ = b))) || (decide (a_ = c))) || (decide (a_ = d))) || (decide (b = c))) || (decide (b = d))) || (decide (c = d))) (by kernel_rfl) (fun hc => ?_) (fun hc => ?_)
       · rw [if_pos hc] at hm
         refine W_seq <| W_reg <| WLs 1 [] (.n 64 (.agg [.ar e64 (Vec.rep 16 ((0 : UInt64) : UInt64))]) (.s (.k .z))) qe (by kernel_rfl) ?_
         refine WL_op <| Op_b [] 1 (.agg [.ar e64 (Vec.rep 16 ((0 : UInt64) : UInt64))]) [.ar e64 (Vec.rep 16 ((0 : UInt64) : UInt64))] (Pt.at g1 0) k_20 rfl .all (by kernel_rfl) (by kernel_rfl) ?_
         intro w_9 k_21
         have k_22 := k_21.sel (.s (.k .e))
         refine WLs 1 [] (.n 15 (I 1) (.s .a)) qe (by kernel_rfl) ?_
         refine WL_nil <| At_go <| W_ret (At_tr ?_)
         obtain rfl := Option.some.inj hm
         refine At_rt [.agg [.ar e64 (Vec.rep 16 ((0 : UInt64) : UInt64))], I 1] (qo (.agg [.ar e64 (Vec.rep 16 ((0 : UInt64) : UInt64))]) <| qc (fun w => Rd w (some ⟨g1, 0, none⟩) (SV.cl [.ar e64 (Vec.rep 16 ((0 : UInt64) : UInt64))])) (k_22.brd 0 rfl) <| qe) (by kernel_rfl) ?_
         have k_23 := k_22.sel .z
         exact ⟨rfl, k_23⟩
       rw [if_neg (by rw [hc]; decide)] at hm
       refine W_skip <| At_go <| W_seq ?_
       have k_24 := k_20.drew 1
       refine W_m yz_mixed (.q 0 0 (.q 1 0 (.q 2 0 (.q 3 0 (.q 4 0 (.q 5 0 (.q 6 0 (.q 7 0 (.q 8 0 (.q 9 0 (.q 10 0 (.op 11 .nil)))))))))))) [11] k_24 (.c (.s (.k .e)) .l) (by kernel_rfl) (fun _ => ?_)
       obtain ⟨x_3, h_x_3, hm⟩ := ob hm
       obtain ⟨x_4, h_x_4, hm⟩ := ob hm
       obtain ⟨x_5, h_x_5, hm⟩ := ob hm
       refine MXq 11 0 [] (.n 74 (.u64 ((x_3 + x_4) + x_)) (.n 75 (.v (.pointer (ixA (some ⟨g, 0, none⟩) a_ 1))) (.s (.kkkk (.kk (.s .a)))))) (fun x hx => qV (hx.vrd 0 rfl e64 v 0 (by kernel_rfl)) h_x_3 rfl (.u64 x_3) rfl <| qV (hx.vrd 0 rfl e64 v 0 (by kernel_rfl)) h_x_4 rfl (.u64 x_4) rfl <| qI g 0 h_x_5 <| qe) (by kernel_rfl) (fun _ => ?_)
       refine MX_op (by kernel_rfl) rfl ?_
       obtain ⟨v1, h_v1, hm⟩ := nm hm
       refine Op_vs (E := e64) (kk := 0) [] 0 (.u64 ((x_3 + x_4) + x_)) [.u64 ((x_3 + x_4) + x_)] h_v1 h_x_5 (Pt.ix0 (Pt.at g 0) a_ 1) k_24 rfl .h rfl (by kernel_rfl) (by kernel_rfl) ?_
       intro w_10 k_25
       refine ⟨(k_25.sel (.s (.k .e))), fun _ => ?_⟩
       refine MX_nil <| At_go <| W_seq ?_
       have k_26 := k_25.drew 1
       refine W_m yz_mixed (.q 0 1 (.q 1 1 (.q 2 1 (.q 3 1 (.q 4 1 (.q 5 1 (.q 6 1 (.q 7 0 (.op 8 (.q 9 1 (.op 10 .nil))))))))))) [8, 10] k_26 (.c (.kk .e) (.c (.s (.k .e)) .l)) (by kernel_rfl) (fun _ => ?_)
       obtain ⟨x_6, h_x_6, hm⟩ := ob hm
       obtain ⟨x_7, h_x_7, hm⟩ := ob hm
       refine MXq 7 1 [] (.n 76 (I d) (.n 79 (.u64 x_6) (.n 82 (.u64 x_7) (.ss .a)))) (fun x hx => qV (hx.vrd 0 rfl e64 v1 0 (by kernel_rfl)) h_x_6 rfl (.u64 x_6) rfl <| qV (hx.vrd 0 rfl e64 v1 0 (by kernel_rfl)) h_x_7 rfl (.u64 x_7) rfl <| qe) (by kernel_rfl) (fun _ => ?_)
       refine MXq 1 0 [] (.n 83 (.u64 (x_6 ^^^ x_7)) (.k (.ss .a))) (fun x hx => qe) (by kernel_rfl) (fun _ => ?_)
       refine MX_op (by kernel_rfl) rfl ?_
       obtain ⟨r_4, h_r_4, hm⟩ := ob hm
       refine Op_call [] 84 _ yz_go138 (by kernel_rfl) (c_r01_Turn64 (F := N0) (O := N0) _ _ (Cx.refl _) _ h_r_4) ?_
       rintro e_ w_11 ⟨rfl, k_27⟩
       have k_28 := k_26.call k_27
       refine ⟨.u64 r_4, rfl, ?_⟩
       refine ⟨k_28, fun _ => ?_⟩
       obtain ⟨x_8, h_x_8, hm⟩ := ob hm
       refine MXq 1 1 [] (.n 85 (.v (.pointer (ixA (some ⟨g, 0, none⟩) d 1))) (.k (.ss .a))) (fun x hx => qI g 0 h_x_8 <| qe) (by kernel_rfl) (fun _ => ?_)
       refine MX_op (by kernel_rfl) rfl ?_
       have k_29 := k_28.sel (.kk .e)
       obtain ⟨v2, h_v2, hm⟩ := nm hm
       refine Op_vs (E := e64) (kk := 0) [] 0 (.u64 r_4) [.u64 r_4] h_v2 h_x_8 (Pt.ix0 (Pt.at g 0) d 1) k_29 rfl .h rfl (by kernel_rfl) (by kernel_rfl) ?_
       intro w_12 k_30
       refine ⟨(k_30.sel (.s (.k .e))), fun _ => ?_⟩
       refine MX_nil <| At_go <| W_seq ?_
       have k_31 := k_30.drew 1
       refine W_m yz_mixed (.q 0 0 (.q 1 0 (.q 2 0 (.q 3 0 (.q 4 0 (.q 5 0 (.q 6 0 (.q 7 0 (.q 8 0 (.op 9 .nil)))))))))) [9] k_31 (.c (.s (.k .e)) .l) (by kernel_rfl) (fun _ => ?_)
       obtain ⟨x_9, h_x_9, hm⟩ := ob hm
       obtain ⟨x_10, h_x_10, hm⟩ := ob hm
       obtain ⟨x_11, h_x_11, hm⟩ := ob hm
       refine MXq 9 0 [] (.n 93 (.u64 (x_9 + x_10)) (.n 94 (.v (.pointer (ixA (some ⟨g, 0, none⟩) c 1))) (.ss .a))) (fun x hx => qV (hx.vrd 0 rfl e64 v2 0 (by kernel_rfl)) h_x_9 rfl (.u64 x_9) rfl <| qV (hx.vrd 0 rfl e64 v2 0 (by kernel_rfl)) h_x_10 rfl (.u64 x_10) rfl <| qI g 0 h_x_11 <| qe) (by kernel_rfl) (fun _ => ?_)
       refine MX_op (by kernel_rfl) rfl ?_
       obtain ⟨v3, h_v3, hm⟩ := nm hm
       refine Op_vs (E := e64) (kk := 0) [] 0 (.u64 (x_9 + x_10)) [.u64 (x_9 + x_10)] h_v3 h_x_11 (Pt.ix0 (Pt.at g 0) c 1) k_31 rfl .h rfl (by kernel_rfl) (by kernel_rfl) ?_
       intro w_13 k_32
       refine ⟨(k_32.sel (.s (.k .e))), fun _ => ?_⟩
       refine MX_nil <| At_go <| W_seq ?_
       have k_33 := k_32.drew 1
       refine W_m yz_mixed (.q 0 1 (.q 1 1 (.q 2 1 (.q 3 1 (.q 4 1 (.q 5 1 (.q 6 1 (.q 7 0 (.op 8 (.q 9 1 (.op 10 .nil))))))))))) [8, 10] k_33 (.c (.kk .e) (.c (.s (.k .e)) .l)) (by kernel_rfl) (fun _ => ?_)
       obtain ⟨x_12, h_x_12, hm⟩ := ob hm
       obtain ⟨x_13, h_x_13, hm⟩ := ob hm
       refine MXq 7 1 [] (.n 95 (I b) (.n 98 (.u64 x_12) (.n 101 (.u64 x_13) (.ss .a)))) (fun x hx => qV (hx.vrd 0 rfl e64 v3 0 (by kernel_rfl)) h_x_12 rfl (.u64 x_12) rfl <| qV (hx.vrd 0 rfl e64 v3 0 (by kernel_rfl)) h_x_13 rfl (.u64 x_13) rfl <| qe) (by kernel_rfl) (fun _ => ?_)
       refine MXq 1 0 [] (.n 102 (.u64 (x_12 ^^^ x_13)) (.k (.ss .a))) (fun x hx => qe) (by kernel_rfl) (fun _ => ?_)
       refine MX_op (by kernel_rfl) rfl ?_
       obtain ⟨r_5, h_r_5, hm⟩ := ob hm
       refine Op_call [] 103 _ yz_go138 (by kernel_rfl) (c_r01_Turn64 (F := N0) (O := N0) _ _ (Cx.refl _) _ h_r_5) ?_
       rintro e_ w_14 ⟨rfl, k_34⟩
       have k_35 := k_33.call k_34
       refine ⟨.u64 r_5, rfl, ?_⟩
       refine ⟨k_35, fun _ => ?_⟩
       obtain ⟨x_14, h_x_14, hm⟩ := ob hm
       refine MXq 1 1 [] (.n 104 (.v (.pointer (ixA (some ⟨g, 0, none⟩) b 1))) (.k (.ss .a))) (fun x hx => qI g 0 h_x_14 <| qe) (by kernel_rfl) (fun _ => ?_)
       refine MX_op (by kernel_rfl) rfl ?_
       obtain ⟨v4, h_v4, hm⟩ := nm hm
       refine Op_vs (E := e64) (kk := 0) [] 0 (.u64 r_5) [.u64 r_5] h_v4 h_x_14 (Pt.ix0 (Pt.at g 0) b 1) k_35 rfl .h rfl (by kernel_rfl) (by kernel_rfl) ?_
       intro w_15 k_36
       refine ⟨(k_36.sel (.s (.k .e))), fun _ => ?_⟩
       refine MX_nil <| At_go <| W_seq ?_
       have k_37 := k_36.drew 1
       refine W_m yz_mixed (.q 0 0 (.q 1 0 (.q 2 0 (.q 3 0 (.q 4 0 (.q 5 0 (.q 6 0 (.q 7 0 (.q 8 0 (.q 9 0 (.q 10 0 (.op 11 .nil)))))))))))) [11] k_37 (.c (.s (.k .e)) .l) (by kernel_rfl) (fun _ => ?_)
       obtain ⟨x_15, h_x_15, hm⟩ := ob hm
       obtain ⟨x_16, h_x_16, hm⟩ := ob hm
       obtain ⟨x_17, h_x_17, hm⟩ := ob hm
       refine MXq 11 0 [] (.n 114 (.u64 ((x_15 + x_16) + y_)) (.n 115 (.v (.pointer (ixA (some ⟨g, 0, none⟩) a_ 1))) (.ss (.kkkk (.kk .z))))) (fun x hx => qV (hx.vrd 0 rfl e64 v4 0 (by kernel_rfl)) h_x_15 rfl (.u64 x_15) rfl <| qV (hx.vrd 0 rfl e64 v4 0 (by kernel_rfl)) h_x_16 rfl (.u64 x_16) rfl <| qI g 0 h_x_17 <| qe) (by kernel_rfl) (fun _ => ?_)
       refine MX_op (by kernel_rfl) rfl ?_
       have k_38 := k_37.sel (.kk .e)
       obtain ⟨v5, h_v5, hm⟩ := nm hm
       refine Op_vs (E := e64) (kk := 0) [] 0 (.u64 ((x_15 + x_16) + y_)) [.u64 ((x_15 + x_16) + y_)] h_v5 h_x_17 (Pt.ix0 (Pt.at g 0) a_ 1) k_38 rfl .h rfl (by kernel_rfl) (by kernel_rfl) ?_
       intro w_16 k_39
       refine ⟨(k_39.sel (.s (.k .e))), fun _ => ?_⟩
       refine MX_nil <| At_go <| W_seq ?_
       have k_40 := k_39.drew 1
       refine W_m yz_mixed (.q 0 1 (.q 1 1 (.q 2 1 (.q 3 1 (.q 4 1 (.q 5 1 (.q 6 1 (.q 7 0 (.op 8 (.q 9 1 (.op 10 .nil))))))))))) [8, 10] k_40 (.c (.kk .e) (.c (.s (.k .e)) .l)) (by kernel_rfl) (fun _ => ?_)
       obtain ⟨x_18, h_x_18, hm⟩ := ob hm
       obtain ⟨x_19, h_x_19, hm⟩ := ob hm
       refine MXq 7 1 [] (.n 116 (I d) (.n 119 (.u64 x_18) (.n 122 (.u64 x_19) (.ss (.kk (.s .a)))))) (fun x hx => qV (hx.vrd 0 rfl e64 v5 0 (by kernel_rfl)) h_x_18 rfl (.u64 x_18) rfl <| qV (hx.vrd 0 rfl e64 v5 0 (by kernel_rfl)) h_x_19 rfl (.u64 x_19) rfl <| qe) (by kernel_rfl) (fun _ => ?_)
       refine MXq 1 0 [] (.n 123 (.u64 (x_18 ^^^ x_19)) (.k (.ss .a))) (fun x hx => qe) (by kernel_rfl) (fun _ => ?_)
       refine MX_op (by kernel_rfl) rfl ?_
       obtain ⟨r_6, h_r_6, hm⟩ := ob hm
       refine Op_call [] 124 _ yz_go138 (by kernel_rfl) (c_r01_Turn64 (F := N0) (O := N0) _ _ (Cx.refl _) _ h_r_6) ?_
       rintro e_ w_17 ⟨rfl, k_41⟩
       have k_42 := k_40.call k_41
       refine ⟨.u64 r_6, rfl, ?_⟩
       refine ⟨k_42, fun _ => ?_⟩
       obtain ⟨x_20, h_x_20, hm⟩ := ob hm
       refine MXq 1 1 [] (.n 125 (.v (.pointer (ixA (some ⟨g, 0, none⟩) d 1))) (.k (.ss .a))) (fun x hx => qI g 0 h_x_20 <| qe) (by kernel_rfl) (fun _ => ?_)
       refine MX_op (by kernel_rfl) rfl ?_
       obtain ⟨v6, h_v6, hm⟩ := nm hm
       refine Op_vs (E := e64) (kk := 0) [] 0 (.u64 r_6) [.u64 r_6] h_v6 h_x_20 (Pt.ix0 (Pt.at g 0) d 1) k_42 rfl .h rfl (by kernel_rfl) (by kernel_rfl) ?_
       intro w_18 k_43
       refine ⟨(k_43.sel (.s (.k .e))), fun _ => ?_⟩
       refine MX_nil <| At_go <| W_seq ?_
       have k_44 := k_43.drew 1
       refine W_m yz_mixed (.q 0 0 (.q 1 0 (.q 2 0 (.q 3 0 (.q 4 0 (.q 5 0 (.q 6 0 (.q 7 0 (.q 8 0 (.op 9 .nil)))))))))) [9] k_44 (.c (.s (.k .e)) .l) (by kernel_rfl) (fun _ => ?_)
       obtain ⟨x_21, h_x_21, hm⟩ := ob hm
       obtain ⟨x_22, h_x_22, hm⟩ := ob hm
       obtain ⟨x_23, h_x_23, hm⟩ := ob hm
       refine MXq 9 0 [] (.n 133 (.u64 (x_21 + x_22)) (.n 134 (.v (.pointer (ixA (some ⟨g, 0, none⟩) c 1))) (.ss (.kkkk .z)))) (fun x hx => qV (hx.vrd 0 rfl e64 v6 0 (by kernel_rfl)) h_x_21 rfl (.u64 x_21) rfl <| qV (hx.vrd 0 rfl e64 v6 0 (by kernel_rfl)) h_x_22 rfl (.u64 x_22) rfl <| qI g 0 h_x_23 <| qe) (by kernel_rfl) (fun _ => ?_)
       refine MX_op (by kernel_rfl) rfl ?_
       obtain ⟨v7, h_v7, hm⟩ := nm hm
       refine Op_vs (E := e64) (kk := 0) [] 0 (.u64 (x_21 + x_22)) [.u64 (x_21 + x_22)] h_v7 h_x_23 (Pt.ix0 (Pt.at g 0) c 1) k_44 rfl .h rfl (by kernel_rfl) (by kernel_rfl) ?_
       intro w_19 k_45
       refine ⟨(k_45.sel (.s (.k .e))), fun _ => ?_⟩
       refine MX_nil <| At_go <| W_seq ?_
       have k_46 := k_45.drew 1
       refine W_m yz_mixed (.q 0 1 (.q 1 1 (.q 2 1 (.q 3 1 (.q 4 1 (.q 5 1 (.q 6 1 (.q 7 0 (.op 8 (.q 9 1 (.op 10 .nil))))))))))) [8, 10] k_46 (.c (.kk .e) (.c (.s (.k .e)) .l)) (by kernel_rfl) (fun _ => ?_)
       obtain ⟨x_24, h_x_24, hm⟩ := ob hm
       obtain ⟨x_25, h_x_25, hm⟩ := ob hm
       refine MXq 7 1 [] (.n 135 (I b) (.n 138 (.u64 x_24) (.n 141 (.u64 x_25) (.ss (.kk .z))))) (fun x hx => qV (hx.vrd 0 rfl e64 v7 0 (by kernel_rfl)) h_x_24 rfl (.u64 x_24) rfl <| qV (hx.vrd 0 rfl e64 v7 0 (by kernel_rfl)) h_x_25 rfl (.u64 x_25) rfl <| qe) (by kernel_rfl) (fun _ => ?_)
       refine MXq 1 0 [] (.n 142 (.u64 (x_24 ^^^ x_25)) (.k (.ss .a))) (fun x hx => qe) (by kernel_rfl) (fun _ => ?_)
       refine MX_op (by kernel_rfl) rfl ?_
       have k_47 := k_46.sel (.kk .e)
       obtain ⟨r_7, h_r_7, hm⟩ := ob hm
       refine Op_call [] 143 _ yz_go138 (by kernel_rfl) (c_r01_Turn64 (F := N0) (O := N0) _ _ (Cx.refl _) _ h_r_7) ?_
       rintro e_ w_20 ⟨rfl, k_48⟩
       have k_49 := k_47.call k_48
       refine ⟨.u64 r_7, rfl, ?_⟩
       refine ⟨k_49, fun _ => ?_⟩
       obtain ⟨x_26, h_x_26, hm⟩ := ob hm
       refine MXq 1 1 [] (.n 144 (.v (.pointer (ixA (some ⟨g, 0, none⟩) b 1))) (.k (.ss .a))) (fun x hx => qI g 0 h_x_26 <| qe) (by kernel_rfl) (fun _ => ?_)
       refine MX_op (by kernel_rfl) rfl ?_
       obtain ⟨v8, h_v8, hm⟩ := nm hm
       refine Op_vs (E := e64) (kk := 0) [] 0 (.u64 r_7) [.u64 r_7] h_v8 h_x_26 (Pt.ix0 (Pt.at g 0) b 1) k_49 rfl .h rfl (by kernel_rfl) (by kernel_rfl) ?_
       intro w_21 k_50
       refine ⟨(k_50.sel (.s (.k .e))), fun _ => ?_⟩
       refine MX_nil <| At_go <| W_seq <| W_reg <| WLs 1 [] (.n 145 (.agg [.ar e64 v8]) (.ss (.k .z))) (qT k_50 0 rfl 0 16 [.ar e64 v8] (by kernel_rfl) (by decide) <| qe) (by kernel_rfl) ?_
       refine WL_op <| Op_b [] 1 (.agg [.ar e64 v8]) [.ar e64 v8] (Pt.at g1 0) k_50 rfl .all (by kernel_rfl) (by kernel_rfl) ?_
       intro w_22 k_51
       have k_52 := k_51.sel (.s (.k .e))
       refine WLs 1 [] (.n 15 (I 0) (.s .a)) qe (by kernel_rfl) ?_
       refine WL_nil <| At_go <| W_ret ?_
       obtain rfl := Option.some.inj hm
       refine At_rt [.agg [.ar e64 v8], I 0] (qo (.agg [.ar e64 v8]) <| qc (fun w => Rd w (some ⟨g1, 0, none⟩) (SV.cl [.ar e64 v8])) (k_52.brd 0 rfl) <| qe) (by kernel_rfl) ?_
       have k_53 := k_52.sel .z
       exact ⟨rfl, k_53⟩

-- quern/quernref03.Round
theorem c_r03_Round {F O : Nat → Prop} {w : World} (v : Vec UInt64 16) (m_ : Vec UInt64 16) (round : Int) (k : Cx F O w w []) (r : (Vec UInt64 16 × Int)) (hm : m_r03_Round v m_ round = some r) :
    Calls Tryz.prog 113 (vals [.agg [.ar e64 v], .agg [.ar e64 m_], I round]) w (fun e w' => e = .returned (SV.val (.tup [.agg [.ar e64 r.1], I r.2])) ∧ Cx F O w w' []) := by
 unfold m_r03_Round at hm
 refine calls [.agg [.ar e64 v], .agg [.ar e64 m_], I round] Tryz.func113 rfl (of_decide_eq_true (by kernel_rfl)) ?_
 refine W_seq <| W_reg <| WL_op <| Op_box [] 3 (.agg [.ar e64 v]) [.ar e64 v] (by kernel_rfl) k ?_
 intro g w_ k_
 refine WL_op <| Op_box [] 4 (.agg [.ar e64 m_]) [.ar e64 m_] (by kernel_rfl) k_ ?_
 intro g1 w_1 k_1
 refine WL_op <| Op_alloc [] 6 [.ar e64 (Vec.rep 16 (0 : UInt64))] (by kernel_rfl) k_1 ?_
 intro g2 w_2 k_2
 refine WLs 1 [] (.kkk (.ss .a)) qe (by kernel_rfl) ?_
 refine WL_nil <| At_go <| W_seq <| W_seq <| W_q [] (.n 15 (.b ((decide (round < 0)) || (decide (11 < round)))) .a) qe (by kernel_rfl) ?_
 refine At_go <| W_cond ((decide (round < 0)) || (decide (11 < round))) (by kernel_rfl) (fun hc => ?_) (fun hc => ?_)
 · rw [if_pos hc] at hm
   refine W_seq <| W_reg <| WLs 1 [] (.n 16 (.agg [.ar e64 (Vec.rep 16 ((0 : UInt64) : UInt64))]) (.s (.k .z))) qe (by kernel_rfl) ?_
   refine WL_op <| Op_b [] 2 (.agg [.ar e64 (Vec.rep 16 ((0 : UInt64) : UInt64))]) [.ar e64 (Vec.rep 16 ((0 : UInt64) : UInt64))] (Pt.at g2 0) k_2 rfl .all (by kernel_rfl) (by kernel_rfl) ?_
   intro w_3 k_3
   have k_4 := k_3.sel (.ss (.k .e))
   refine WLs 1 [] (.n 7 (I 1) (.s .a)) qe (by kernel_rfl) ?_
   refine WL_nil <| At_go <| W_ret (At_tr ?_)
   obtain rfl := Option.some.inj hm
   refine At_rt [.agg [.ar e64 (Vec.rep 16 ((0 : UInt64) : UInt64))], I 1] (qo (.agg [.ar e64 (Vec.rep 16 ((0 : UInt64) : UInt64))]) <| qc (fun w => Rd w (some ⟨g2, 0, none⟩) (SV.cl [.ar e64 (Vec.rep 16 ((0 : UInt64) : UInt64))])) (k_4.brd 0 rfl) <| qe) (by kernel_rfl) ?_
   have k_5 := k_4.sel .z
   exact ⟨rfl, k_5⟩
 rw [if_neg (by rw [hc]; decide)] at hm
 refine W_skip <| At_go <| W_seq <| W_seq <| W_q [] (.n 8 (I 0) (.s .a)) qe (by kernel_rfl) ?_
 refine At_go <| W_block <| W_lp (m_r03_Round_l0 m_ round) (fun s L wr => ∃ (v1 : Vec UInt64 16) (i : Int), (v1, i) = s ∧ L = [(2, I round), (3, pt g 0), (4, pt g1 0), (6, pt g2 0), (8, I i)] ∧ Cx F O w wr [Bx 108 g [.ar e64 v1], Bx 108 g1 [.ar e64 m_], Bx 108 g2 [.ar e64 (Vec.rep 16 (0 : UInt64))]]) (v, (0 : Int)) r hm ⟨v, (0 : Int), rfl, rfl, k_2⟩ (by kernel_rfl) ?_
 intro s0_ L_ w_4 y0 hrel hstep hr0
 obtain ⟨v1, i, rfl, rfl, k_6⟩ := hrel
 have hm := hstep; simp only [m_r03_Round_l0] at hm
 clear hstep
 refine W_seq <| W_seq <| W_q [] (.n 18 (.b (decide (i < 8))) .a) qe (by kernel_rfl) ?_
 refine At_go <| W_condp (i < 8) (by kernel_rfl) (fun hc1 => ?_) (fun hc1 => ?_)
 · rw [if_pos hc1] at hm
   refine W_skip <| At_go <| W_seq <| W_block <| W_seq <| W_reg <| WLs 1 [] (.n 21 (I i) (.s .a)) qe (by kernel_rfl) ?_
   refine WL_op ?_
   obtain ⟨r_, h_r_, hm⟩ := ob hm
   refine Op_call [] 22 _ yz_go126 (by kernel_rfl) (c_r03_Places (F := N0) (O := N0) _ (Cx.refl _) _ h_r_) ?_
   rintro e_ w_5 ⟨rfl, k_7⟩
   have k_8 := k_6.call k_7
   refine ⟨.agg [.ar eI r_], rfl, ?_⟩
   refine WL_op <| Op_alloc [] 9 [.ar eI (Vec.rep 4 (0 : Int))] (by kernel_rfl) k_8 ?_
   intro g3 w_6 k_9
   refine WL_op <| Op_b [] 3 (.agg [.ar eI r_]) [.ar eI r_] (Pt.at g3 0) k_9 rfl .all (by kernel_rfl) (by kernel_rfl) ?_
   intro w_7 k_10
   refine WL_nil <| At_go ?_
   have k_11 := k_10.drew 1
   refine W_m yz_mixed (.q 0 2 (.q 9 2 (.q 15 2 (.q 1 3 (.q 2 2 (.q 3 3 (.q 4 2 (.q 5 3 (.q 6 2 (.q 7 3 (.q 8 2 (.q 10 3 (.q 11 2 (.q 16 3 (.q 17 3 (.q 18 2 (.op 12 (.q 13 3 (.q 14 2 (.op 19 (.q 20 3 (.q 21 2 (.op 22 (.q 23 3 (.q 24 3 (.q 25 4 (.op 26 .nil))))))))))))))))))))))))))) [12, 19, 22, 26] k_11 (.c (.kkkk .e) (.c (.kkkk .e) (.c (.kkkk .e) (.c (.s (.kk (.k .e))) .l)))) (by kernel_rfl) (fun _ => ?_)
   refine MXq 3 2 [] (.n 24 (.agg [.ar e64 v1]) (.n 33 (I round) (.n 39 (I round) (.k (.ss .a))))) (fun x hx => qT hx 0 rfl 0 16 [.ar e64 v1] (by kernel_rfl) (by decide) <| qe) (by kernel_rfl) (fun _ => ?_)
   obtain ⟨x_0, h_x_0, hm⟩ := ob hm
   refine MXq 1 3 [] (.n 25 (.v (.pointer (ixA (some ⟨g3, 0, none⟩) (0 : Int) 1))) .a) (fun x hx => qI g3 0 h_x_0 <| qe) (by kernel_rfl) (fun _ => ?_)
   refine MXq 1 2 [] (.n 26 (I x_0) (.s .a)) (fun x hx => qC (I x_0) (Rd.el (k := 0) (hx.vrd 3 rfl eI r_ 0 (by kernel_rfl)) h_x_0 (Pt.ix1 (some ⟨g3, 0, none⟩) (0 : Int) 1) rfl) <| qe) (by kernel_rfl) (fun _ => ?_)
   obtain ⟨x_2, h_x_2, hm⟩ := ob hm
   refine MXq 1 3 [] (.n 27 (.v (.pointer (ixA (some ⟨g3, 0, none⟩) (1 : Int) 1))) .a) (fun x hx => qI g3 0 h_x_2 <| qe) (by kernel_rfl) (fun _ => ?_)
   refine MXq 1 2 [] (.n 28 (I x_2) (.s .a)) (fun x hx => qC (I x_2) (Rd.el (k := 0) (hx.vrd 3 rfl eI r_ 0 (by kernel_rfl)) h_x_2 (Pt.ix1 (some ⟨g3, 0, none⟩) (1 : Int) 1) rfl) <| qe) (by kernel_rfl) (fun _ => ?_)
   obtain ⟨x_3, h_x_3, hm⟩ := ob hm
   refine MXq 1 3 [] (.n 29 (.v (.pointer (ixA (some ⟨g3, 0, none⟩) (2 : Int) 1))) .a) (fun x hx => qI g3 0 h_x_3 <| qe) (by kernel_rfl) (fun _ => ?_)
   refine MXq 1 2 [] (.n 30 (I x_3) (.s .a)) (fun x hx => qC (I x_3) (Rd.el (k := 0) (hx.vrd 3 rfl eI r_ 0 (by kernel_rfl)) h_x_3 (Pt.ix1 (some ⟨g3, 0, none⟩) (2 : Int) 1) rfl) <| qe) (by kernel_rfl) (fun _ => ?_)
   obtain ⟨x_4, h_x_4, hm⟩ := ob hm
   refine MXq 1 3 [] (.n 31 (.v (.pointer (ixA (some ⟨g3, 0, none⟩) (3 : Int) 1))) (.kkkk (.kk (.s .a)))) (fun x hx => qI g3 0 h_x_4 <| qe) (by kernel_rfl) (fun _ => ?_)
   refine MXq 1 2 [] (.n 32 (I x_4) (.s .a)) (fun x hx => qC (I x_4) (Rd.el (k := 0) (hx.vrd 3 rfl eI r_ 0 (by kernel_rfl)) h_x_4 (Pt.ix1 (some ⟨g3, 0, none⟩) (3 : Int) 1) rfl) <| qe) (by kernel_rfl) (fun _ => ?_)
   refine MXq 1 3 [] (.n 34 (I i) .a) (fun x hx => qe) (by kernel_rfl) (fun _ => ?_)
   refine MXq 1 2 [] (.n 35 (I (w64 (2 * i))) (.s .a)) (fun x hx => qe) (by kernel_rfl) (fun _ => ?_)
   refine MXq 2 3 [] (.n 41 (I (w64 (2 * i))) .a) (fun x hx => qe) (by kernel_rfl) (fun _ => ?_)
   refine MXq 1 2 [] (.n 42 (I (w64 ((w64 (2 * i)) + 1))) (.s .a)) (fun x hx => qe) (by kernel_rfl) (fun _ => ?_)
   refine MX_op (by kernel_rfl) rfl ?_
   obtain ⟨r_1, h_r_1, hm⟩ := ob hm
   refine Op_call [] 36 _ yz_go128 (by kernel_rfl) (c_r03_Sigma (F := N0) (O := N0) _ _ (Cx.refl _) _ h_r_1) ?_
   rintro e_ w_8 ⟨rfl, k_12⟩
   have k_13 := k_11.call k_12
   refine ⟨I r_1, rfl, ?_⟩
   refine ⟨k_13, fun _ => ?_⟩
   obtain ⟨x_5, h_x_5, hm⟩ := ob hm
   refine MXq 1 3 [] (.n 37 (.v (.pointer (ixA (some ⟨g1, 0, none⟩) r_1 1))) (.s (.k (.s (.kkkk (.k (.s .a))))))) (fun x hx => qI g1 0 h_x_5 <| qe) (by kernel_rfl) (fun _ => ?_)
   refine MXq 1 2 [] (.n 38 (.u64 x_5) (.s .a)) (fun x hx => qC (.u64 x_5) (Rd.el (k := 0) (hx.vrd 1 rfl e64 m_ 0 (by kernel_rfl)) h_x_5 (Pt.ix1 (some ⟨g1, 0, none⟩) r_1 1) rfl) <| qe) (by kernel_rfl) (fun _ => ?_)
   refine MX_op (by kernel_rfl) rfl ?_
   have k_14 := k_13.sel (.kkkk .e)
   obtain ⟨r_2, h_r_2, hm⟩ := ob hm
   refine Op_call [] 43 _ yz_go128 (by kernel_rfl) (c_r03_Sigma (F := N0) (O := N0) _ _ (Cx.refl _) _ h_r_2) ?_
   rintro e_ w_9 ⟨rfl, k_15⟩
   have k_16 := k_14.call k_15
   refine ⟨I r_2, rfl, ?_⟩
   refine ⟨k_16, fun _ => ?_⟩
   obtain ⟨x_6, h_x_6, hm⟩ := ob hm
   refine MXq 1 3 [] (.n 44 (.v (.pointer (ixA (some ⟨g1, 0, none⟩) r_2 1))) (.s (.k (.s (.kkkk (.k (.s .a))))))) (fun x hx => qI g1 0 h_x_6 <| qe) (by kernel_rfl) (fun _ => ?_)
   refine MXq 1 2 [] (.n 45 (.u64 x_6) (.s .a)) (fun x hx => qC (.u64 x_6) (Rd.el (k := 0) (hx.vrd 1 rfl e64 m_ 0 (by kernel_rfl)) h_x_6 (Pt.ix1 (some ⟨g1, 0, none⟩) r_2 1) rfl) <| qe) (by kernel_rfl) (fun _ => ?_)
   refine MX_op (by kernel_rfl) rfl ?_
   obtain ⟨r_3, h_r_3, hm⟩ := ob hm
   refine Op_call [] 46 _ yz_go127 (by kernel_rfl) (c_r03_G (F := N0) (O := N0) _ _ _ _ _ _ _ (Cx.refl _) _ h_r_3) ?_
   rintro e_ w_10 ⟨rfl, k_17⟩
   have k_18 := k_16.call k_17
   refine ⟨.tup [.agg [.ar e64 r_3.1], I r_3.2], rfl, ?_⟩
   refine ⟨k_18, fun _ => ?_⟩
   refine MXq 2 3 [] (.n 23 (.tup [.agg [.ar e64 r_3.1], I r_3.2]) (.n 47 (.agg [.ar e64 r_3.1]) (.ssss (.ssss .a)))) (fun x hx => qe) (by kernel_rfl) (fun _ => ?_)
   refine MXq 1 4 [] (.s .a) (fun x hx => qe) (by kernel_rfl) (fun _ => ?_)
   refine MX_op (by kernel_rfl) rfl <| Op_b [] 0 (.agg [.ar e64 r_3.1]) [.ar e64 r_3.1] (Pt.at g 0) k_18 rfl .all (by kernel_rfl) (by kernel_rfl) ?_
   intro w_11 k_19
   refine ⟨(k_19.sel (.s (.kk (.k .e)))), fun _ => ?_⟩
   refine MX_nil <| At_in <| At_go <| W_q [] (.n 8 (I (w64 (i + 1))) (.s (.kkkk .z))) qe (by kernel_rfl) ?_
   have k_20 := k_19.sel (.kk (.k .z))
   exact At_rd (r_3.1, w64 (i + 1)) (Option.some.inj hm).symm ⟨r_3.1, w64 (i + 1), rfl, rfl, k_20⟩ (by kernel_rfl)
 rw [if_neg hc1] at hm
 refine W_exit (At_te (At_te (At_ie ?_)))
 have hm := exit_of hm hr0
 refine At_go <| W_seq <| W_reg <| WLs 1 [] (.n 49 (.agg [.ar e64 v1]) (.ssss (.k .z))) (qT k_6 0 rfl 0 16 [.ar e64 v1] (by kernel_rfl) (by decide) <| qe) (by kernel_rfl) ?_
 refine WL_op <| Op_b [] 2 (.agg [.ar e64 v1]) [.ar e64 v1] (Pt.at g2 0) k_6 rfl .all (by kernel_rfl) (by kernel_rfl) ?_
 intro w_12 k_21
 have k_22 := k_21.sel (.ss (.k .e))
 refine WLs 1 [] (.n 7 (I 0) (.s .a)) qe (by kernel_rfl) ?_
 refine WL_nil <| At_go <| W_ret ?_
 obtain rfl := Option.some.inj hm
 refine At_rt [.agg [.ar e64 v1], I 0] (qo (.agg [.ar e64 v1]) <| qc (fun w => Rd w (some ⟨g2, 0, none⟩) (SV.cl [.ar e64 v1])) (k_22.brd 0 rfl) <| qe) (by kernel_rfl) ?_
 have k_23 := k_22.sel .z
 exact ⟨rfl, k_23⟩

-- quern/quernref03.F
theorem c_r03_F {F O : Nat → Prop} {w : World} (h : Vec UInt64 8) (m_ : Vec UInt64 16) (lo : UInt64) (hi : UInt64) (last : Bool) (node : Bool) (k : Cx F O w w []) (r : (Vec UInt64 8)) (hm : m_r03_F h m_ lo hi last node = some r) :
    Calls Tryz.prog 95 (vals [.agg [.ar e64 h], .agg [.ar e64 m_], .u64 lo, .u64 hi, .b last, .b node]) w (fun e w' => e = .returned (SV.val (.agg [.ar e64 r])) ∧ Cx F O w w' []) := by
 unfold m_r03_F at hm
 refine calls [.agg [.ar e64 h], .agg [.ar e64 m_], .u64 lo, .u64 hi, .b last, .b node] Tryz.func95 rfl (of_decide_eq_true (by kernel_rfl)) ?_
 refine W_seq <| W_reg <| WL_op <| Op_box [] 6 (.agg [.ar e64 h]) [.ar e64 h] (by kernel_rfl) k ?_
 intro g w_ k_
 refine WL_op <| Op_box [] 7 (.agg [.ar e64 m_]) [.ar e64 m_] (by kernel_rfl) k_ ?_
 intro g1 w_1 k_1
 refine WL_op <| Op_alloc [] 12 [.ar e64 (Vec.rep 8 (0 : UInt64))] (by kernel_rfl) k_1 ?_
 intro g2 w_2 k_2
 refine WL_nil <| At_go <| W_seq <| W_reg <| WLs 5 [] (.n 16 (.agg [.ar e64 h]) (.n 17 (.u64 lo) (.n 18 (.u64 hi) (.n 19 (.b last) (.n 20 (.b node) (.kkk .z)))))) (qT k_2 0 rfl 0 8 [.ar e64 h] (by kernel_rfl) (by decide) <| qe) (by kernel_rfl) ?_
 refine WL_op ?_
 obtain ⟨r_, h_r_, hm⟩ := ob hm
 refine Op_call [] 21 _ yz_go112 (by kernel_rfl) (c_r03_Init (F := N0) (O := N0) _ _ _ _ _ (Cx.refl _) _ h_r_) ?_
 rintro e_ w_3 ⟨rfl, k_3⟩
 have k_4 := k_2.call k_3
 refine ⟨.agg [.ar e64 r_], rfl, ?_⟩
 refine WL_op ?_
 have k_5 := k_4.sel (.kk (.k .e))
 refine Op_alloc [] 13 [.ar e64 (Vec.rep 16 (0 : UInt64))] (by kernel_rfl) k_5 ?_
 intro g3 w_4 k_6
 refine WL_op <| Op_b [] 3 (.agg [.ar e64 r_]) [.ar e64 r_] (Pt.at g3 0) k_6 rfl .all (by kernel_rfl) (by kernel_rfl) ?_
 intro w_5 k_7
 refine WL_nil <| At_go <| W_seq <| W_seq <| W_q [] (.n 14 (I 0) (.k (.ssss (.ss .a)))) qe (by kernel_rfl) ?_
 refine At_go <| W_block <| W_lp (m_r03_F_l0 h m_) (fun s L wr => ∃ (v : Vec UInt64 16) (r_1 : Int), (v, r_1) = s ∧ L = [(6, pt g 0), (7, pt g1 0), (12, pt g2 0), (13, pt g3 0), (14, I r_1)] ∧ Cx F O w wr [Bx 150 g [.ar e64 h], Bx 108 g1 [.ar e64 m_], Bx 150 g2 [.ar e64 (Vec.rep 8 (0 : UInt64))], Bx 108 g3 [.ar e64 v]]) (r_, (0 : Int)) r hm ⟨r_, (0 : Int), rfl, rfl, k_7⟩ (by kernel_rfl) ?_
 intro s0_ L_ w_6 y0 hrel hstep hr0
 obtain ⟨v, r_1, rfl, rfl, k_8⟩ := hrel
 have hm := hstep; simp only [m_r03_F_l0] at hm
 clear hstep
 refine W_seq <| W_seq <| W_q [] (.n 23 (.b (decide (r_1 < 12))) .a) qe (by kernel_rfl) ?_
 refine At_go <| W_condp (r_1 < 12) (by kernel_rfl) (fun hc => ?_) (fun hc => ?_)
 · rw [if_pos hc] at hm
   refine W_skip <| At_go <| W_seq <| W_block <| W_reg <| WLs 3 [] (.n 27 (.agg [.ar e64 v]) (.n 28 (.agg [.ar e64 m_]) (.n 29 (I r_1) (.s .a)))) (qT k_8 3 rfl 0 16 [.ar e64 v] (by kernel_rfl) (by decide) <| qT k_8 1 rfl 0 16 [.ar e64 m_] (by kernel_rfl) (by decide) <| qe) (by kernel_rfl) ?_
   refine WL_op ?_
   obtain ⟨r_2, h_r_2, hm⟩ := ob hm
   refine Op_call [] 30 _ yz_go113 (by kernel_rfl) (c_r03_Round (F := N0) (O := N0) _ _ _ (Cx.refl _) _ h_r_2) ?_
   rintro e_ w_7 ⟨rfl, k_9⟩
   have k_10 := k_8.call k_9
   refine ⟨.tup [.agg [.ar e64 r_2.1], I r_2.2], rfl, ?_⟩
   refine WLs 3 [] (.n 31 (.agg [.ar e64 r_2.1]) (.ssss .a)) qe (by kernel_rfl) ?_
   refine WL_op <| Op_b [] 3 (.agg [.ar e64 r_2.1]) [.ar e64 r_2.1] (Pt.at g3 0) k_10 rfl .all (by kernel_rfl) (by kernel_rfl) ?_
   intro w_8 k_11
   refine WL_nil <| At_in <| At_go <| W_q [] (.n 14 (I (w64 (r_1 + 1))) (.s (.kkkk .z))) qe (by kernel_rfl) ?_
   exact At_rd (r_2.1, w64 (r_1 + 1)) (Option.some.inj hm).symm ⟨r_2.1, w64 (r_1 + 1), rfl, rfl, k_11⟩ (by kernel_rfl)
 rw [if_neg hc] at hm
 refine W_exit (At_te (At_te (At_ie ?_)))
 have hm := exit_of hm hr0
 refine At_go <| W_seq <| W_seq <| W_q [] (.n 15 (I 0) (.s (.k (.s (.kk .z))))) qe (by kernel_rfl) ?_
 refine At_go <| W_block ?_
 have k_13 := k_8.sel (.k (.s (.kk .e)))
 refine W_lp (m_r03_F_l1 v) (fun s L wr => ∃ (h1 : Vec UInt64 8) (i : Int), (h1, i) = s ∧ L = [(6, pt g 0), (12, pt g2 0), (13, pt g3 0), (15, I i)] ∧ Cx F O w wr [Bx 150 g [.ar e64 h1], Bx 150 g2 [.ar e64 (Vec.rep 8 (0 : UInt64))], Bx 108 g3 [.ar e64 v]]) (h, (0 : Int)) r hm ⟨h, (0 : Int), rfl, rfl, k_13⟩ (by kernel_rfl) ?_
 intro s0_ L_ w_9 y0 hrel hstep hr0
 obtain ⟨h1, i, rfl, rfl, k_12⟩ := hrel
 have hm := hstep; simp only [m_r03_F_l1] at hm
 clear hstep
 refine W_seq <| W_seq <| W_q [] (.n 34 (.b (decide (i < 8))) .a) qe (by kernel_rfl) ?_
 refine At_go <| W_condp (i < 8) (by kernel_rfl) (fun hc1 => ?_) (fun hc1 => ?_)
 · rw [if_pos hc1] at hm
   refine W_skip <| At_go <| W_seq <| W_block ?_
   have k_14 := k_12.drew 1
   refine W_m yz_mixed (.q 0 0 (.q 1 0 (.q 2 0 (.q 3 0 (.q 4 0 (.q 5 0 (.q 6 0 (.q 7 0 (.q 8 0 (.q 9 0 (.q 10 0 (.q 11 0 (.q 12 0 (.q 13 0 (.op 14 .nil))))))))))))))) [14] k_14 (.c (.s (.kk .e)) .l) (by kernel_rfl) (fun _ => ?_)
   obtain ⟨x_0, h_x_0, hm⟩ := ob hm
   obtain ⟨x_1, h_x_1, hm⟩ := ob hm
   obtain ⟨x_2, h_x_2, hm⟩ := ob hm
   obtain ⟨x_3, h_x_3, hm⟩ := ob hm
   refine MXq 14 0 [] (.n 49 (.u64 ((x_0 ^^^ x_1) ^^^ x_2)) (.n 50 (.v (.pointer (ixA (some ⟨g, 0, none⟩) i 1))) (.s .a))) (fun x hx => qV (hx.vrd 0 rfl e64 h1 0 (by kernel_rfl)) h_x_0 rfl (.u64 x_0) rfl <| qV (hx.vrd 2 rfl e64 v 0 (by kernel_rfl)) h_x_1 rfl (.u64 x_1) rfl <| qV (hx.vrd 2 rfl e64 v 0 (by kernel_rfl)) h_x_2 rfl (.u64 x_2) rfl <| qI g 0 h_x_3 <| qe) (by kernel_rfl) (fun _ => ?_)
   refine MX_op (by kernel_rfl) rfl ?_
   obtain ⟨v1, h_v1, hm⟩ := nm hm
   refine Op_vs (E := e64) (kk := 0) [] 0 (.u64 ((x_0 ^^^ x_1) ^^^ x_2)) [.u64 ((x_0 ^^^ x_1) ^^^ x_2)] h_v1 h_x_3 (Pt.ix0 (Pt.at g 0) i 1) k_14 rfl .h rfl (by kernel_rfl) (by kernel_rfl) ?_
   intro w_10 k_15
   refine ⟨(k_15.sel (.s (.kk .e))), fun _ => ?_⟩
   refine MX_nil <| At_in <| At_go <| W_q [] (.n 15 (I (w64 (i + 1))) (.ss (.kkk .z))) qe (by kernel_rfl) ?_
   exact At_rd (v1, w64 (i + 1)) (Option.some.inj hm).symm ⟨v1, w64 (i + 1), rfl, rfl, k_15⟩ (by kernel_rfl)
 rw [if_neg hc1] at hm
 refine W_exit (At_te (At_te (At_ie ?_)))
 have hm := exit_of hm hr0
 refine At_go <| W_seq <| W_reg <| WLs 1 [] (.n 51 (.agg [.ar e64 h1]) (.ss (.k .z))) (qT k_12 0 rfl 0 8 [.ar e64 h1] (by kernel_rfl) (by decide) <| qe) (by kernel_rfl) ?_
 refine WL_op <| Op_b [] 1 (.agg [.ar e64 h1]) [.ar e64 h1] (Pt.at g2 0) k_12 rfl .all (by kernel_rfl) (by kernel_rfl) ?_
 intro w_11 k_16
 have k_17 := k_16.sel (.s (.k .z))
 refine WL_nil <| At_go <| W_ret ?_
 obtain rfl := Option.some.inj hm
 refine At_rt [.agg [.ar e64 h1]] (qo (.agg [.ar e64 h1]) <| qc (fun w => Rd w (some ⟨g2, 0, none⟩) (SV.cl [.ar e64 h1])) (k_17.brd 0 rfl) <| qe) (by kernel_rfl) ?_
 have k_18 := k_17.sel .z
 exact ⟨rfl, k_18⟩

-- quern/quernref04.Words
theorem c_r04_Words {F O : Nat → Prop} {w : World} (b : List UInt8) (A_b : Option Addr) (n_b : Nat) (c_b : Nat) (h_b : Ro F w A_b (e8.all b)) (hn_b : b.length = n_b) (hc_b : n_b ≤ c_b) (k : Cx F O w w []) (r : (Vec UInt32 16 × Int)) (hm : m_r04_Words b = some r) :
    Calls Tryz.prog 96 (vals [sl A_b n_b c_b]) w (fun e w' => e = .returned (SV.val (.tup [.agg [.ar e32 r.1], I r.2])) ∧ Cx F O w w' []) := by
 unfold m_r04_Words at hm
 subst hn_b
 refine calls [sl A_b b.length c_b] Tryz.func96 rfl (of_decide_eq_true (by kernel_rfl)) ?_
 refine W_seq <| W_reg <| WL_op <| Op_alloc [] 2 [.ar e32 (Vec.rep 16 (0 : UInt32))] (by kernel_rfl) k ?_
 intro g w_ k_
 refine WLs 1 [] .a qe (by kernel_rfl) ?_
 refine WL_nil <| At_go <| W_seq <| W_reg <| WL_op <| Op_alloc [] 4 [.ar e32 (Vec.rep 16 (0 : UInt32))] (by kernel_rfl) k_ ?_
 intro g1 w_1 k_1
 refine WL_nil <| At_go <| W_seq <| W_block <| W_seq <| W_q [] (.n 6 (.b (decide (((b.length : Nat) : Int) < 64))) .a) qe (by kernel_rfl) ?_
 refine At_go <| W_condp (((b.length : Nat) : Int) < 64) (by kernel_rfl) (fun hc => ?_) (fun hc => ?_)
 · rw [if_pos hc] at hm
   refine W_seq <| W_reg <| WLs 1 [] (.n 10 (.agg [.ar e32 (Vec.rep 16 (0 : UInt32))]) (.ss (.k .z))) (qT k_1 1 rfl 0 16 [.ar e32 (Vec.rep 16 (0 : UInt32))] (by kernel_rfl) (by decide) <| qe) (by kernel_rfl) ?_
   refine WL_op <| Op_b [] 0 (.agg [.ar e32 (Vec.rep 16 (0 : UInt32))]) [.ar e32 (Vec.rep 16 (0 : UInt32))] (Pt.at g 0) k_1 rfl .all (by kernel_rfl) (by kernel_rfl) ?_
   intro w_2 k_2
   have k_3 := k_2.sel (.k .z)
   refine WLs 1 [] (.n 3 (I 3) (.s .a)) qe (by kernel_rfl) ?_
   refine WL_nil <| At_go <| W_ret (At_ir (At_tr ?_))
   obtain rfl := Option.some.inj hm
   refine At_rt [.agg [.ar e32 (Vec.rep 16 (0 : UInt32))], I 3] (qo (.agg [.ar e32 (Vec.rep 16 (0 : UInt32))]) <| qc (fun w => Rd w (some ⟨g, 0, none⟩) (SV.cl [.ar e32 (Vec.rep 16 (0 : UInt32))])) (k_3.brd 0 rfl) <| qe) (by kernel_rfl) ?_
   have k_4 := k_3.sel .z
   exact ⟨rfl, k_4⟩
 rw [if_neg hc] at hm
 refine W_seq <| W_q [] (.n 11 (.b (decide (64 < ((b.length : Nat) : Int)))) (.s .a)) qe (by kernel_rfl) ?_
 refine At_go <| W_condp (64 < ((b.length : Nat) : Int)) (by kernel_rfl) (fun hc1 => ?_) (fun hc1 => ?_)
 · rw [if_pos hc1] at hm
   refine W_seq <| W_reg <| WLs 1 [] (.n 15 (.agg [.ar e32 (Vec.rep 16 (0 : UInt32))]) (.ss (.k .z))) (qT k_1 1 rfl 0 16 [.ar e32 (Vec.rep 16 (0 : UInt32))] (by kernel_rfl) (by decide) <| qe) (by kernel_rfl) ?_
   refine WL_op <| Op_b [] 0 (.agg [.ar e32 (Vec.rep 16 (0 : UInt32))]) [.ar e32 (Vec.rep 16 (0 : UInt32))] (Pt.at g 0) k_1 rfl .all (by kernel_rfl) (by kernel_rfl) ?_
   intro w_3 k_5
   have k_6 := k_5.sel (.k .z)
   refine WLs 1 [] (.n 3 (I 2) (.s .a)) qe (by kernel_rfl) ?_
   refine WL_nil <| At_go <| W_ret (At_ir (At_tr ?_))
   obtain rfl := Option.some.inj hm
   refine At_rt [.agg [.ar e32 (Vec.rep 16 (0 : UInt32))], I 2] (qo (.agg [.ar e32 (Vec.rep 16 (0 : UInt32))]) <| qc (fun w => Rd w (some ⟨g, 0, none⟩) (SV.cl [.ar e32 (Vec.rep 16 (0 : UInt32))])) (k_6.brd 0 rfl) <| qe) (by kernel_rfl) ?_
   have k_7 := k_6.sel .z
   exact ⟨rfl, k_7⟩
 rw [if_neg hc1] at hm
 refine W_skip <| At_in <| At_go <| W_seq <| W_seq <| W_q [] (.n 5 (I 0) (.s .a)) qe (by kernel_rfl) ?_
 refine At_go <| W_block <| W_lp (m_r04_Words_l0 b) (fun s L wr => ∃ (m_ : Vec UInt32 16) (i : Int), (m_, i) = s ∧ L = [(0, sl A_b b.length c_b), (2, pt g 0), (4, pt g1 0), (5, I i)] ∧ Cx F O w wr [Bx 155 g [.ar e32 (Vec.rep 16 (0 : UInt32))], Bx 155 g1 [.ar e32 m_]]) ((Vec.rep 16 (0 : UInt32)), (0 : Int)) r hm ⟨(Vec.rep 16 (0 : UInt32)), (0 : Int), rfl, rfl, k_1⟩ (by kernel_rfl) ?_
 intro s0_ L_ w_4 y0 hrel hstep hr0
 obtain ⟨m_, i, rfl, rfl, k_8⟩ := hrel
 have hm := hstep; simp only [m_r04_Words_l0] at hm
 clear hstep
 refine W_seq <| W_seq <| W_q [] (.n 17 (.b (decide (i < 16))) .a) qe (by kernel_rfl) ?_
 refine At_go <| W_condp (i < 16) (by kernel_rfl) (fun hc2 => ?_) (fun hc2 => ?_)
 · rw [if_pos hc2] at hm
   refine W_skip <| At_go <| W_seq <| W_block <| W_reg <| WLs 4 [] (.n 20 (I i) (.n 21 (sl A_b b.length c_b) (.n 23 (I (w64 (4 * i))) (.s .a)))) qe (by kernel_rfl) ?_
   refine WL_op ?_
   obtain ⟨r_, h_r_, hm⟩ := ob hm
   refine Op_call [] 24 _ yz_go114 (by kernel_rfl) (c_r04_load (F := N0) (O := N0) _ _ _ _ _ (Ro.n0 (h_b.cx k_8)) rfl hc_b (Cx.refl _) _ h_r_) ?_
   rintro e_ w_5 ⟨rfl, k_9⟩
   have k_10 := k_8.call k_9
   refine ⟨.u32 r_, rfl, ?_⟩
   obtain ⟨x_0, h_x_0, hm⟩ := ob hm
   refine WLs 1 [] (.n 25 (.v (.pointer (ixA (some ⟨g1, 0, none⟩) i 1))) (.k (.sss .a))) (qI g1 0 h_x_0 <| qe) (by kernel_rfl) ?_
   refine WL_op ?_
   obtain ⟨v, h_v, hm⟩ := nm hm
   refine Op_vs (E := e32) (kk := 0) [] 1 (.u32 r_) [.u32 r_] h_v h_x_0 (Pt.ix0 (Pt.at g1 0) i 1) k_10 rfl .h rfl (by kernel_rfl) (by kernel_rfl) ?_
   intro w_6 k_11
   refine WL_nil <| At_in <| At_go <| W_q [] (.n 5 (I (w64 (i + 1))) (.ss (.kkk .z))) qe (by kernel_rfl) ?_
   exact At_rd (v, w64 (i + 1)) (Option.some.inj hm).symm ⟨v, w64 (i + 1), rfl, rfl, k_11⟩ (by kernel_rfl)
 rw [if_neg hc2] at hm
 refine W_exit (At_te (At_te (At_ie ?_)))
 have hm := exit_of hm hr0
 refine At_go <| W_seq <| W_reg <| WLs 1 [] (.n 26 (.agg [.ar e32 m_]) (.ss (.k .z))) (qT k_8 1 rfl 0 16 [.ar e32 m_] (by kernel_rfl) (by decide) <| qe) (by kernel_rfl) ?_
 refine WL_op <| Op_b [] 0 (.agg [.ar e32 m_]) [.ar e32 m_] (Pt.at g 0) k_8 rfl .all (by kernel_rfl) (by kernel_rfl) ?_
 intro w_7 k_12
 have k_13 := k_12.sel (.k .z)
 refine WLs 1 [] (.n 3 (I 0) (.s .a)) qe (by kernel_rfl) ?_
 refine WL_nil <| At_go <| W_ret ?_
 obtain rfl := Option.some.inj hm
 refine At_rt [.agg [.ar e32 m_], I 0] (qo (.agg [.ar e32 m_]) <| qc (fun w => Rd w (some ⟨g, 0, none⟩) (SV.cl [.ar e32 m_])) (k_13.brd 0 rfl) <| qe) (by kernel_rfl) ?_
 have k_14 := k_13.sel .z
 exact ⟨rfl, k_14⟩

-- quern/quernref04.Begin
theorem c_r04_Begin {F O : Nat → Prop} {w : World} (h : Vec UInt32 8) (count : UInt64) (last : Bool) (node : Bool) (k : Cx F O w w []) (r : (Vec UInt32 16)) (hm : m_r04_Begin h count last node = some r) :
    Calls Tryz.prog 115 (vals [.agg [.ar e32 h], .u64 count, .b last, .b node]) w (fun e w' => e = .returned (SV.val (.agg [.ar e32 r])) ∧ Cx F O w w' []) := by
 unfold m_r04_Begin at hm
 refine calls [.agg [.ar e32 h], .u64 count, .b last, .b node] Tryz.func115 rfl (of_decide_eq_true (by kernel_rfl)) ?_
 refine W_seq <| W_reg <| WL_op <| Op_box [] 4 (.agg [.ar e32 h]) [.ar e32 h] (by kernel_rfl) k ?_
 intro g w_ k_
 refine WL_op <| Op_alloc [] 8 [.ar e32 (Vec.rep 16 (0 : UInt32))] (by kernel_rfl) k_ ?_
 intro g1 w_1 k_1
 refine WL_nil <| At_go <| W_seq <| W_reg <| WL_op <| Op_alloc [] 9 [.ar e32 (Vec.rep 16 (0 : UInt32))] (by kernel_rfl) k_1 ?_
 intro g2 w_2 k_2
 refine WL_nil <| At_go <| W_seq <| W_reg <| WL_op ?_
 obtain ⟨r_, h_r_, hm⟩ := ob hm
 refine Op_call [] 12 _ yz_go125 (by kernel_rfl) (c_r04_IV (F := N0) (O := N0)  (Cx.refl _) _ h_r_) ?_
 rintro e_ w_3 ⟨rfl, k_3⟩
 have k_4 := k_2.call k_3
 refine ⟨.agg [.ar e32 r_], rfl, ?_⟩
 refine WL_op ?_
 have k_5 := k_4.sel (.kk (.k .e))
 refine Op_alloc [] 10 [.ar e32 (Vec.rep 8 (0 : UInt32))] (by kernel_rfl) k_5 ?_
 intro g3 w_4 k_6
 refine WL_op <| Op_b [] 3 (.agg [.ar e32 r_]) [.ar e32 r_] (Pt.at g3 0) k_6 rfl .all (by kernel_rfl) (by kernel_rfl) ?_
 intro w_5 k_7
 refine WL_nil <| At_go <| W_seq <| W_seq <| W_q [] (.n 11 (I 0) (.k (.s (.kkk (.s .a))))) qe (by kernel_rfl) ?_
 refine At_go <| W_block <| W_lp (m_r04_Begin_l0 h count last node r_) (fun s L wr => ∃ (v : Vec UInt32 16) (i : Int), (v, i) = s ∧ L = [(1, .u64 count), (2, .b last), (3, .b node), (4, pt g 0), (8, pt g1 0), (9, pt g2 0), (10, pt g3 0), (11, I i)] ∧ Cx F O w wr [Bx 154 g [.ar e32 h], Bx 155 g1 [.ar e32 (Vec.rep 16 (0 : UInt32))], Bx 155 g2 [.ar e32 v], Bx 154 g3 [.ar e32 r_]]) ((Vec.rep 16 (0 : UInt32)), (0 : Int)) r hm ⟨(Vec.rep 16 (0 : UInt32)), (0 : Int), rfl, rfl, k_7⟩ (by kernel_rfl) ?_
 intro s0_ L_ w_6 y0 hrel hstep hr0
 obtain ⟨v, i, rfl, rfl, k_8⟩ := hrel
 have hm := hstep; simp only [m_r04_Begin_l0] at hm
 clear hstep
 refine W_seq <| W_seq <| W_q [] (.n 14 (.b (decide (i < 8))) .a) qe (by kernel_rfl) ?_
 refine At_go <| W_condp (i < 8) (by kernel_rfl) (fun hc => ?_) (fun hc => ?_)
 · rw [if_pos hc] at hm
   refine W_skip <| At_go <| W_seq <| W_block <| W_seq <| W_reg ?_
   obtain ⟨x_0, h_x_0, hm⟩ := ob hm
   obtain ⟨x_1, h_x_1, hm⟩ := ob hm
   refine WLs 5 [] (.n 20 (.u32 x_0) (.n 21 (.v (.pointer (ixA (some ⟨g2, 0, none⟩) i 1))) (.s .a))) (qV (k_8.vrd 0 rfl e32 h 0 (by kernel_rfl)) h_x_0 rfl (.u32 x_0) rfl <| qI g2 0 h_x_1 <| qe) (by kernel_rfl) ?_
   refine WL_op ?_
   obtain ⟨v1, h_v1, hm⟩ := nm hm
   refine Op_vs (E := e32) (kk := 0) [] 2 (.u32 x_0) [.u32 x_0] h_v1 h_x_1 (Pt.ix0 (Pt.at g2 0) i 1) k_8 rfl .h rfl (by kernel_rfl) (by kernel_rfl) ?_
   intro w_7 k_9
   refine WL_nil <| At_go <| W_reg ?_
   obtain ⟨x_2, h_x_2, hm⟩ := ob hm
   obtain ⟨x_3, h_x_3, hm⟩ := ob hm
   refine WLs 6 [] (.n 26 (.u32 x_2) (.n 27 (.v (.pointer (ixA (some ⟨g2, 0, none⟩) (w64 (i + 8)) 1))) (.ss .a))) (qV (k_9.vrd 3 rfl e32 r_ 0 (by kernel_rfl)) h_x_2 rfl (.u32 x_2) rfl <| qI g2 0 h_x_3 <| qe) (by kernel_rfl) ?_
   refine WL_op ?_
   obtain ⟨v2, h_v2, hm⟩ := nm hm
   refine Op_vs (E := e32) (kk := 0) [] 2 (.u32 x_2) [.u32 x_2] h_v2 h_x_3 (Pt.ix0 (Pt.at g2 0) (w64 (i + 8)) 1) k_9 rfl .h rfl (by kernel_rfl) (by kernel_rfl) ?_
   intro w_8 k_10
   refine WL_nil <| At_in <| At_go <| W_q [] (.n 11 (I (w64 (i + 1))) (.ss (.kkkk (.kkk .z)))) qe (by kernel_rfl) ?_
   exact At_rd (v2, w64 (i + 1)) (Option.some.inj hm).symm ⟨v2, w64 (i + 1), rfl, rfl, k_10⟩ (by kernel_rfl)
 rw [if_neg hc] at hm
 refine W_exit (At_te (At_te (At_ie ?_)))
 have hm := exit_of hm hr0
 refine At_go <| W_seq <| W_reg ?_
 obtain ⟨x_4, h_x_4, hm⟩ := ob hm
 obtain ⟨x_5, h_x_5, hm⟩ := ob hm
 refine WLs 6 [] (.n 32 (.u32 (x_4 ^^^ (UInt32.ofNat count.toNat))) (.n 33 (.v (.pointer (ixA (some ⟨g2, 0, none⟩) (12 : Int) 1))) (.s (.kkk (.s (.kk .z)))))) (qV (k_8.vrd 2 rfl e32 v 0 (by kernel_rfl)) h_x_4 rfl (.u32 x_4) rfl <| qI g2 0 h_x_5 <| qe) (by kernel_rfl) ?_
 refine WL_op ?_
 obtain ⟨v3, h_v3, hm⟩ := nm hm
 refine Op_vs (E := e32) (kk := 0) [] 2 (.u32 (x_4 ^^^ (UInt32.ofNat count.toNat))) [.u32 (x_4 ^^^ (UInt32.ofNat count.toNat))] h_v3 h_x_5 (Pt.ix0 (Pt.at g2 0) (12 : Int) 1) k_8 rfl .h rfl (by kernel_rfl) (by kernel_rfl) ?_
 intro w_9 k_11
 refine WL_nil <| At_go <| W_seq <| W_reg ?_
 obtain ⟨x_6, h_x_6, hm⟩ := ob hm
 obtain ⟨x_7, h_x_7, hm⟩ := ob hm
 refine WLs 7 [] (.n 39 (.u32 (x_6 ^^^ (UInt32.ofNat (shr64 count ((32 : UInt64).toNat)).toNat))) (.n 40 (.v (.pointer (ixA (some ⟨g2, 0, none⟩) (13 : Int) 1))) (.sss .a))) (qV (k_11.vrd 2 rfl e32 v3 0 (by kernel_rfl)) h_x_6 rfl (.u32 x_6) rfl <| qI g2 0 h_x_7 <| qe) (by kernel_rfl) ?_
 refine WL_op ?_
 obtain ⟨v4, h_v4, hm⟩ := nm hm
 refine Op_vs (E := e32) (kk := 0) [] 2 (.u32 (x_6 ^^^ (UInt32.ofNat (shr64 count ((32 : UInt64).toNat)).toNat))) [.u32 (x_6 ^^^ (UInt32.ofNat (shr64 count ((32 : UInt64).toNat)).toNat))] h_v4 h_x_7 (Pt.ix0 (Pt.at g2 0) (13 : Int) 1) k_11 rfl .h rfl (by kernel_rfl) (by kernel_rfl) ?_
 intro w_10 k_12
 refine WL_nil <| At_go <| W_cut (fun L wr => ∃ (v5 : Vec UInt32 16), m_r04_Begin_j0 node v5 = some r ∧ L = [(3, .b node), (8, pt g1 0), (9, pt g2 0)] ∧ Cx F O w wr [Bx 155 g1 [.ar e32 (Vec.rep 16 (0 : UInt32))], Bx 155 g2 [.ar e32 v5]]) ?_ ?_
 ·
  refine W_seq <| W_q [] (.n 41 (.b last) (.sss .a)) qe (by kernel_rfl) ?_
  refine At_go <| W_cond last (by kernel_rfl) (fun hc1 => ?_) (fun hc1 => ?_)
  · rw [if_pos hc1] at hm
    refine W_reg ?_
    obtain ⟨x_8, h_x_8, hm⟩ := ob hm
    obtain ⟨x_9, h_x_9, hm⟩ := ob hm
    refine WLs 4 [] (.n 44 (.u32 (x_8 ^^^ 4294967295)) (.n 45 (.v (.pointer (ixA (some ⟨g2, 0, none⟩) (14 : Int) 1))) (.s .a))) (qV (k_12.vrd 2 rfl e32 v4 0 (by kernel_rfl)) h_x_8 rfl (.u32 x_8) rfl <| qI g2 0 h_x_9 <| qe) (by kernel_rfl) ?_
    refine WL_op ?_
    obtain ⟨v6, h_v6, hm⟩ := nm hm
    refine Op_vs (E := e32) (kk := 0) [] 2 (.u32 (x_8 ^^^ 4294967295)) [.u32 (x_8 ^^^ 4294967295)] h_v6 h_x_9 (Pt.ix0 (Pt.at g2 0) (14 : Int) 1) k_12 rfl .h rfl (by kernel_rfl) (by kernel_rfl) ?_
    intro w_11 k_13
    refine WL_nil ?_
    have k_14 := k_13.sel (.s (.kk .z))
    exact At_c ⟨v6, hm, rfl, k_14⟩ (by kernel_rfl)
  rw [if_neg (by rw [hc1]; decide)] at hm
  refine W_skip ?_
  have k_15 := k_12.sel (.s (.kk .z))
  exact At_c ⟨v4, hm, rfl, k_15⟩ (by kernel_rfl)
 rintro L_ w_12 ⟨v5, hm, rfl, k_16⟩
 simp only [m_r04_Begin_j0] at hm
 refine W_cut (fun L wr => ∃ (v7 : Vec UInt32 16), m_r04_Begin_j1 v7 = some r ∧ L = [(8, pt g1 0), (9, pt g2 0)] ∧ Cx F O w wr [Bx 155 g1 [.ar e32 (Vec.rep 16 (0 : UInt32))], Bx 155 g2 [.ar e32 v7]]) ?_ ?_
 ·
  refine W_seq <| W_q [] (.n 46 (.b node) (.s .a)) qe (by kernel_rfl) ?_
  refine At_go <| W_cond node (by kernel_rfl) (fun hc2 => ?_) (fun hc2 => ?_)
  · rw [if_pos hc2] at hm
    refine W_reg ?_
    obtain ⟨x_10, h_x_10, hm⟩ := ob hm
    obtain ⟨x_11, h_x_11, hm⟩ := ob hm
    refine WLs 4 [] (.n 49 (.u32 (x_10 ^^^ 4294967295)) (.n 50 (.v (.pointer (ixA (some ⟨g2, 0, none⟩) (15 : Int) 1))) (.s .a))) (qV (k_16.vrd 1 rfl e32 v5 0 (by kernel_rfl)) h_x_10 rfl (.u32 x_10) rfl <| qI g2 0 h_x_11 <| qe) (by kernel_rfl) ?_
    refine WL_op ?_
    obtain ⟨v8, h_v8, hm⟩ := nm hm
    refine Op_vs (E := e32) (kk := 0) [] 1 (.u32 (x_10 ^^^ 4294967295)) [.u32 (x_10 ^^^ 4294967295)] h_v8 h_x_11 (Pt.ix0 (Pt.at g2 0) (15 : Int) 1) k_16 rfl .h rfl (by kernel_rfl) (by kernel_rfl) ?_
    intro w_13 k_17
    refine WL_nil ?_
    exact At_c ⟨v8, hm, rfl, k_17⟩ (by kernel_rfl)
  rw [if_neg (by rw [hc2]; decide)] at hm
  refine W_skip ?_
  exact At_c ⟨v5, hm, rfl, k_16⟩ (by kernel_rfl)
 rintro L_ w_14 ⟨v7, hm, rfl, k_18⟩
 simp only [m_r04_Begin_j1] at hm
 refine W_seq <| W_reg <| WLs 1 [] (.n 51 (.agg [.ar e32 v7]) (.k .z)) (qT k_18 1 rfl 0 16 [.ar e32 v7] (by kernel_rfl) (by decide) <| qe) (by kernel_rfl) ?_
 refine WL_op <| Op_b [] 0 (.agg [.ar e32 v7]) [.ar e32 v7] (Pt.at g1 0) k_18 rfl .all (by kernel_rfl) (by kernel_rfl) ?_
 intro w_15 k_19
 have k_20 := k_19.sel (.k .z)
 refine WL_nil <| At_go <| W_ret ?_
 obtain rfl := Option.some.inj hm
 refine At_rt [.agg [.ar e32 v7]] (qo (.agg [.ar e32 v7]) <| qc (fun w => Rd w (some ⟨g1, 0, none⟩) (SV.cl [.ar e32 v7])) (k_20.brd 0 rfl) <| qe) (by kernel_rfl) ?_
 have k_21 := k_20.sel .z
 exact ⟨rfl, k_21⟩

-- quern/quernref04.four
theorem c_r04_four {F O : Nat → Prop} {w : World} (i : Int) (k : Cx F O w w []) (r : (Int × Int × Int × Int)) (hm : m_r04_four i = some r) :
    Calls Tryz.prog 129 (vals [I i]) w (fun e w' => e = .returned (SV.val (.tup [I r.1, I r.2.1, I r.2.2.1, I r.2.2.2])) ∧ Cx F O w w' []) := by
 unfold m_r04_four at hm
 refine calls [I i] Tryz.func129 rfl (of_decide_eq_true (by kernel_rfl)) ?_
 refine W_seq <| W_q [] .a qe (by kernel_rfl) ?_
 refine At_go <| W_seq <| W_seq <| W_q [] (.n 8 (.b (decide (i < 4))) .a) qe (by kernel_rfl) ?_
 refine At_go <| W_condp (i < 4) (by kernel_rfl) (fun hc => ?_) (fun hc => ?_)
 · rw [if_pos hc] at hm
   refine W_seq <| W_q [] (.n 2 (I i) (.n 3 (I (w64 (i + 4))) (.n 4 (I (w64 (i + 8))) (.n 5 (I (w64 (i + 12))) .z)))) qe (by kernel_rfl) ?_
   refine At_go <| W_ret (At_tr ?_)
   obtain rfl := Option.some.inj hm
   refine At_rt [I i, I (w64 (i + 4)), I (w64 (i + 8)), I (w64 (i + 12))] qe (by kernel_rfl) ?_
   exact ⟨rfl, k⟩
 rw [if_neg hc] at hm
 refine W_skip <| At_go <| W_seq <| W_q [] (.n 6 (I (w64 (i - 4))) .z) qe (by kernel_rfl) ?_
 refine At_go <| W_seq <| W_q [] (.n 2 (I (w64 (i - 4))) (.n 3 (I (w64 (4 + (Int.tmod (w64 ((w64 (i - 4)) + 1)) 4)))) (.n 4 (I (w64 (8 + (Int.tmod (w64 ((w64 (i - 4)) + 2)) 4)))) (.n 5 (I (w64 (12 + (Int.tmod (w64 ((w64 (i - 4)) + 3)) 4)))) .z)))) (qp ((4 : Int) ≠ (0 : Int)) (by omega) <| qp ((4 : Int) ≠ (0 : Int)) (by omega) <| qp ((4 : Int) ≠ (0 : Int)) (by omega) <| qe) (by kernel_rfl) ?_
 refine At_go <| W_ret ?_
 obtain rfl := Option.some.inj hm
 refine At_rt [I (w64 (i - 4)), I (w64 (4 + (Int.tmod (w64 ((w64 (i - 4)) + 1)) 4))), I (w64 (8 + (Int.tmod (w64 ((w64 (i - 4)) + 2)) 4))), I (w64 (12 + (Int.tmod (w64 ((w64 (i - 4)) + 3)) 4)))] qe (by kernel_rfl) ?_
 exact ⟨rfl, k⟩

-- quern/quernref04.places
theorem c_r04_places {F O : Nat → Prop} {w : World} (a_ : Int) (b : Int) (c : Int) (d : Int) (k : Cx F O w w []) (r : Bool) (hm : m_r04_places a_ b c d = some r) :
    Calls Tryz.prog 141 (vals [I a_, I b, I c, I d]) w (fun e w' => e = .returned (SV.val (.b r)) ∧ Cx F O w w' []) := by
 unfold m_r04_places at hm
 refine calls [I a_, I b, I c, I d] Tryz.func141 rfl (of_decide_eq_true (by kernel_rfl)) ?_
 refine W_seq <| W_q [] .a qe (by kernel_rfl) ?_
 refine At_go <| W_seq <| W_reg <| WLs 4 [] (.n 12 (I a_) (.n 13 (I b) (.n 14 (I c) (.n 15 (I d) .z)))) qe (by kernel_rfl) ?_
 refine WL_op <| Op_mk yz_tf231 eI [] 16 ([a_, b, c, d] : List Int) [(0, I a_), (1, I b), (2, I c), (3, I d)] [I a_, I b, I c, I d] (by kernel_rfl) (by kernel_rfl) (by kernel_rfl) k ?_
 intro A w_ k_
 refine WLs 1 [] (.n 9 (sl A 4 4) .z) qe (by kernel_rfl) ?_
 refine WL_nil <| At_go <| W_seq <| W_seq <| W_q [] (.n 10 (I 0) .a) qe (by kernel_rfl) ?_
 refine At_go <| W_block <| W_lp (m_r04_places_l0 a_ b c d) (fun s L wr => ∃ (i : Int), i = s ∧ L = [(9, sl A 4 4), (10, I i)] ∧ Cx F O w wr [Ow eI A 4 4 ([a_, b, c, d] : List Int)]) (0 : Int) r hm ⟨(0 : Int), rfl, rfl, k_⟩ (by kernel_rfl) ?_
 intro s0_ L_ w_1 y0 hrel hstep hr0
 obtain ⟨i, rfl, rfl, k_1⟩ := hrel
 have hm := hstep; simp only [m_r04_places_l0] at hm
 clear hstep
 refine W_seq <| W_seq <| W_q [] (.n 18 (.b (decide (i < 4))) .a) qe (by kernel_rfl) ?_
 refine At_go <| W_condp (i < 4) (by kernel_rfl) (fun hc => ?_) (fun hc => ?_)
 · rw [if_pos hc] at hm
   refine W_skip <| At_go <| W_seq <| W_block <| W_seq <| W_seq ?_
   obtain ⟨x_0, h_x_0, hm⟩ := ob hm
   obtain ⟨x_1, h_x_1, hm⟩ := ob hm
   refine W_q [] (.n 32 (.b ((decide (x_0 < 0)) || (decide (15 < x_1)))) (.s .a)) (qW (k_1.rd 0 rfl) h_x_0 (k_1.len 0 rfl) (I x_0) rfl <| qp ((decide (x_0 < 0)) = false → 0 ≤ i ∧ i < ((4 : Nat) : Int) ∧ A.isSome = true) (fun hg0 => Rd.ix (E := eI) (k_1.rd 0 rfl) (gif_not h_x_1 hg0) (k_1.len 0 rfl) (by decide)) <| qo (I x_1) <| qc (fun w => (decide (x_0 < 0)) = false → ∃ a, ixA A i 1 = some a ∧ w.cell? a = some (SV.val (I x_1))) (fun hg0 => Rd.el (k := 0) (k_1.rd 0 rfl) (gif_not h_x_1 hg0) (Pt.ix1 A i 1) rfl) <| qe) (by kernel_rfl) ?_
   refine At_go <| W_cond ((decide (x_0 < 0)) || (decide (15 < x_1))) (by kernel_rfl) (fun hc1 => ?_) (fun hc1 => ?_)
   · rw [if_pos hc1] at hm
     refine W_seq <| W_q [] (.n 8 (.b false) .z) qe (by kernel_rfl) ?_
     refine At_go <| W_ret (At_tr (At_ir (At_tr (At_tr (At_ir (At_tr ?_))))))
     have hm := exit_of hm hr0
     obtain rfl := Option.some.inj hm
     refine At_rt [.b false] qe (by kernel_rfl) ?_
     have k_2 := k_1.sel .z
     exact ⟨rfl, k_2⟩
   rw [if_neg (by rw [hc1]; decide)] at hm
   refine W_skip <| At_go <| W_seq <| W_q [] (.n 11 (I 0) (.s .a)) qe (by kernel_rfl) ?_
   refine At_go <| W_block <| W_lp (m_r04_places_l1 a_ b c d i) (fun s L wr => ∃ (j : Int), j = s ∧ L = [(9, sl A 4 4), (10, I i), (11, I j)] ∧ Cx F O w wr [Ow eI A 4 4 ([a_, b, c, d] : List Int)]) (0 : Int) y0 hm ⟨(0 : Int), rfl, rfl, k_1⟩ (by kernel_rfl) ?_
   intro s1_ L_ w_2 y1 hrel hstep hr1
   obtain ⟨j, rfl, rfl, k_3⟩ := hrel
   have hm := hstep; simp only [m_r04_places_l1] at hm
   clear hstep
   refine W_seq <| W_seq <| W_q [] (.n 35 (.b (decide (j < i))) .a) qe (by kernel_rfl) ?_
   refine At_go <| W_condp (j < i) (by kernel_rfl) (fun hc2 => ?_) (fun hc2 => ?_)
   · rw [if_pos hc2] at hm
     refine W_skip <| At_go <| W_seq <| W_block <| W_seq ?_
     obtain ⟨x_2, h_x_2, hm⟩ := ob hm
     obtain ⟨x_3, h_x_3, hm⟩ := ob hm
     refine W_d yz_mixed (by kernel_rfl) (.n 46 (.b (decide (x_2 = x_3))) (.s .a)) (fun m => qW ((k_3.drew m).rd 0 rfl) h_x_2 (k_3.len 0 rfl) (I x_2) rfl <| qW ((k_3.drew m).rd 0 rfl) h_x_3 (k_3.len 0 rfl) (I x_3) rfl <| qe) (by kernel_rfl) (fun m_ => ?_)
     have k_4 := k_3.drew m_
     refine At_go <| W_condp (x_2 = x_3) (by kernel_rfl) (fun hc3 => ?_) (fun hc3 => ?_)
     · rw [if_pos hc3] at hm
       refine W_seq <| W_q [] (.n 8 (.b false) .z) qe (by kernel_rfl) ?_
       refine At_go <| W_ret (At_ir (At_tr (At_tr (At_ir (At_ir (At_tr (At_tr (At_ir (At_tr ?_)))))))))
       have hm := exit_of hm hr1
       have hm := exit_of hm hr0
       obtain rfl := Option.some.inj hm
       refine At_rt [.b false] qe (by kernel_rfl) ?_
       have k_5 := k_4.sel .z
       exact ⟨rfl, k_5⟩
     rw [if_neg hc3] at hm
     refine W_skip <| At_in <| At_go <| W_q [] (.n 11 (I (w64 (j + 1))) (.s (.kk .z))) qe (by kernel_rfl) ?_
     exact At_rd (w64 (j + 1)) (Option.some.inj hm).symm ⟨w64 (j + 1), rfl, rfl, k_4⟩ (by kernel_rfl)
   rw [if_neg hc2] at hm
   refine W_exit (At_te (At_te (At_ie ?_)))
   have hm := exit_of hm hr1
   refine At_in <| At_go <| W_q [] (.n 10 (I (w64 (i + 1))) (.s (.k .z))) qe (by kernel_rfl) ?_
   exact At_rd (w64 (i + 1)) (Option.some.inj hm).symm ⟨w64 (i + 1), rfl, rfl, k_3⟩ (by kernel_rfl)
 rw [if_neg hc] at hm
 refine W_exit (At_te (At_te (At_ie ?_)))
 have hm := exit_of hm hr0
 refine At_go <| W_seq <| W_q [] (.n 8 (.b true) .z) qe (by kernel_rfl) ?_
 refine At_go <| W_ret ?_
 obtain rfl := Option.some.inj hm
 refine At_rt [.b true] qe (by kernel_rfl) ?_
 have k_6 := k_1.sel .z
 exact ⟨rfl, k_6⟩

-- quern/quernref04.turn
theorem c_r04_turn {F O : Nat → Prop} {w : World} (x_ : UInt32) (r_ : Int) (k : Cx F O w w []) (r : UInt32) (hm : m_r04_turn x_ r_ = some r) :
    Calls Tryz.prog 142 (vals [.u32 x_, I r_]) w (fun e w' => e = .returned (SV.val (.u32 r)) ∧ Cx F O w w' []) := by
 unfold m_r04_turn at hm
 refine calls [.u32 x_, I r_] Tryz.func142 rfl (of_decide_eq_true (by kernel_rfl)) ?_
 refine W_seq <| W_q [] .a qe (by kernel_rfl) ?_
 refine At_go <| W_seq <| W_q [] (.n 4 (.u32 ((shr32 x_ ((UInt64.ofInt r_).toNat)) ||| (shl32 x_ ((UInt64.ofInt (w64 (32 - r_))).toNat)))) .z) qe (by kernel_rfl) ?_
 refine At_go <| W_ret ?_
 obtain rfl := Option.some.inj hm
 refine At_rt [.u32 ((shr32 x_ ((UInt64.ofInt r_).toNat)) ||| (shl32 x_ ((UInt64.ofInt (w64 (32 - r_))).toNat)))] qe (by kernel_rfl) ?_
 exact ⟨rfl, k⟩

-- quern/quernref04.G
theorem c_r04_G {F O : Nat → Prop} {w : World} (v : Vec UInt32 16) (a_ : Int) (b : Int) (c : Int) (d : Int) (x_ : UInt32) (y_ : UInt32) (k : Cx F O w w []) (r : (Vec UInt32 16 × Int)) (hm : m_r04_G v a_ b c d x_ y_ = some r) :
    Calls Tryz.prog 130 (vals [.agg [.ar e32 v], I a_, I b, I c, I d, .u32 x_, .u32 y_]) w (fun e w' => e = .returned (SV.val (.tup [.agg [.ar e32 r.1], I r.2])) ∧ Cx F O w w' []) := by
 unfold m_r04_G at hm
 refine calls [.agg [.ar e32 v], I a_, I b, I c, I d, .u32 x_, .u32 y_] Tryz.func130 rfl (of_decide_eq_true (by kernel_rfl)) ?_
 refine W_seq <| W_reg <| WL_op <| Op_box [] 7 (.agg [.ar e32 v]) [.ar e32 v] (by kernel_rfl) k ?_
 intro g w_ k_
 refine WL_op <| Op_alloc [] 14 [.ar e32 (Vec.rep 16 (0 : UInt32))] (by kernel_rfl) k_ ?_
 intro g1 w_1 k_1
 refine WLs 1 [] (.kk (.s .a)) qe (by kernel_rfl) ?_
 refine WL_nil <| At_go <| W_seq <| W_seq <| W_reg <| WLs 4 [] (.n 16 (I a_) (.n 17 (I b) (.n 18 (I c) (.n 19 (I d) .a)))) qe (by kernel_rfl) ?_
 refine WL_op ?_
 obtain ⟨r_, h_r_, hm⟩ := ob hm
 refine Op_call [] 20 _ yz_go141 (by kernel_rfl) (c_r04_places (F := N0) (O := N0) _ _ _ _ (Cx.refl _) _ h_r_) ?_
 rintro e_ w_2 ⟨rfl, k_2⟩
 have k_3 := k_1.call k_2
 refine ⟨.b r_, rfl, ?_⟩
 refine WLs 1 [] (.n 21 (.b (!r_)) (.ssss (.s .a))) qe (by kernel_rfl) ?_
 refine WL_nil <| At_go <| W_cond (!r_) (by kernel_rfl) (fun hc => ?_) (fun hc => ?_)
 · rw [if_pos hc] at hm
   refine W_seq <| W_reg <| WLs 1 [] (.n 22 (.agg [.ar e32 (Vec.rep 16 ((0 : UInt32) : UInt32))]) (.s (.k .z))) qe (by kernel_rfl) ?_
   refine WL_op <| Op_b [] 1 (.agg [.ar e32 (Vec.rep 16 ((0 : UInt32) : UInt32))]) [.ar e32 (Vec.rep 16 ((0 : UInt32) : UInt32))] (Pt.at g1 0) k_3 rfl .all (by kernel_rfl) (by kernel_rfl) ?_
   intro w_3 k_4
   have k_5 := k_4.sel (.s (.k .e))
   refine WLs 1 [] (.n 15 (I 1) (.s .a)) qe (by kernel_rfl) ?_
   refine WL_nil <| At_go <| W_ret (At_tr ?_)
   obtain rfl := Option.some.inj hm
   refine At_rt [.agg [.ar e32 (Vec.rep 16 ((0 : UInt32) : UInt32))], I 1] (qo (.agg [.ar e32 (Vec.rep 16 ((0 : UInt32) : UInt32))]) <| qc (fun w => Rd w (some ⟨g1, 0, none⟩) (SV.cl [.ar e32 (Vec.rep 16 ((0 : UInt32) : UInt32))])) (k_5.brd 0 rfl) <| qe) (by kernel_rfl) ?_
   have k_6 := k_5.sel .z
   exact ⟨rfl, k_6⟩
 rw [if_neg (by rw [hc]; decide)] at hm
 refine W_skip <| At_go <| W_seq ?_
 have k_7 := k_3.drew 1
 refine W_m yz_mixed (.q 0 0 (.q 1 0 (.q 2 0 (.q 3 0 (.q 4 0 (.q 5 0 (.q 6 0 (.q 7 0 (.q 8 0 (.q 9 0 (.q 10 0 (.op 11 .nil)))))))))))) [11] k_7 (.c (.s (.k .e)) .l) (by kernel_rfl) (fun _ => ?_)
 obtain ⟨x_3, h_x_3, hm⟩ := ob hm
 obtain ⟨x_4, h_x_4, hm⟩ := ob hm
 obtain ⟨x_5, h_x_5, hm⟩ := ob hm
 refine MXq 11 0 [] (.n 32 (.u32 ((x_3 + x_4) + x_)) (.n 33 (.v (.pointer (ixA (some ⟨g, 0, none⟩) a_ 1))) (.s (.kkkk (.kk (.s .a)))))) (fun x hx => qV (hx.vrd 0 rfl e32 v 0 (by kernel_rfl)) h_x_3 rfl (.u32 x_3) rfl <| qV (hx.vrd 0 rfl e32 v 0 (by kernel_rfl)) h_x_4 rfl (.u32 x_4) rfl <| qI g 0 h_x_5 <| qe) (by kernel_rfl) (fun _ => ?_)
 refine MX_op (by kernel_rfl) rfl ?_
 obtain ⟨v1, h_v1, hm⟩ := nm hm
 refine Op_vs (E := e32) (kk := 0) [] 0 (.u32 ((x_3 + x_4) + x_)) [.u32 ((x_3 + x_4) + x_)] h_v1 h_x_5 (Pt.ix0 (Pt.at g 0) a_ 1) k_7 rfl .h rfl (by kernel_rfl) (by kernel_rfl) ?_
 intro w_4 k_8
 refine ⟨(k_8.sel (.s (.k .e))), fun _ => ?_⟩
 refine MX_nil <| At_go <| W_seq ?_
 have k_9 := k_8.drew 1
 refine W_m yz_mixed (.q 0 1 (.q 1 1 (.q 2 1 (.q 3 1 (.q 4 1 (.q 5 1 (.q 6 1 (.q 7 0 (.op 8 (.q 9 1 (.op 10 .nil))))))))))) [8, 10] k_9 (.c (.kk .e) (.c (.s (.k .e)) .l)) (by kernel_rfl) (fun _ => ?_)
 obtain ⟨x_6, h_x_6, hm⟩ := ob hm
 obtain ⟨x_7, h_x_7, hm⟩ := ob hm
 refine MXq 7 1 [] (.n 34 (I d) (.n 37 (.u32 x_6) (.n 40 (.u32 x_7) (.ss .a)))) (fun x hx => qV (hx.vrd 0 rfl e32 v1 0 (by kernel_rfl)) h_x_6 rfl (.u32 x_6) rfl <| qV (hx.vrd 0 rfl e32 v1 0 (by kernel_rfl)) h_x_7 rfl (.u32 x_7) rfl <| qe) (by kernel_rfl) (fun _ => ?_)
 refine MXq 1 0 [] (.n 41 (.u32 (x_6 ^^^ x_7)) (.k (.ss .a))) (fun x hx => qe) (by kernel_rfl) (fun _ => ?_)
 refine MX_op (by kernel_rfl) rfl ?_
 have k_10 := k_9.sel (.kk .e)
 obtain ⟨r_1, h_r_1, hm⟩ := ob hm
 refine Op_call [] 42 _ yz_go142 (by kernel_rfl) (c_r04_turn (F := N0) (O := N0) _ _ (Cx.refl _) _ h_r_1) ?_
 rintro e_ w_5 ⟨rfl, k_11⟩
 have k_12 := k_10.call k_11
 refine ⟨.u32 r_1, rfl, ?_⟩
 refine ⟨k_12, fun _ => ?_⟩
 obtain ⟨x_8, h_x_8, hm⟩ := ob hm
 refine MXq 1 1 [] (.n 43 (.v (.pointer (ixA (some ⟨g, 0, none⟩) d 1))) (.k (.ss .a))) (fun x hx => qI g 0 h_x_8 <| qe) (by kernel_rfl) (fun _ => ?_)
 refine MX_op (by kernel_rfl) rfl ?_
 obtain ⟨v2, h_v2, hm⟩ := nm hm
 refine Op_vs (E := e32) (kk := 0) [] 0 (.u32 r_1) [.u32 r_1] h_v2 h_x_8 (Pt.ix0 (Pt.at g 0) d 1) k_12 rfl .h rfl (by kernel_rfl) (by kernel_rfl) ?_
 intro w_6 k_13
 refine ⟨(k_13.sel (.s (.k .e))), fun _ => ?_⟩
 refine MX_nil <| At_go <| W_seq ?_
 have k_14 := k_13.drew 1
 refine W_m yz_mixed (.q 0 0 (.q 1 0 (.q 2 0 (.q 3 0 (.q 4 0 (.q 5 0 (.q 6 0 (.q 7 0 (.q 8 0 (.op 9 .nil)))))))))) [9] k_14 (.c (.s (.k .e)) .l) (by kernel_rfl) (fun _ => ?_)
 obtain ⟨x_9, h_x_9, hm⟩ := ob hm
 obtain ⟨x_10, h_x_10, hm⟩ := ob hm
 obtain ⟨x_11, h_x_11, hm⟩ := ob hm
 refine MXq 9 0 [] (.n 51 (.u32 (x_9 + x_10)) (.n 52 (.v (.pointer (ixA (some ⟨g, 0, none⟩) c 1))) (.ss .a))) (fun x hx => qV (hx.vrd 0 rfl e32 v2 0 (by kernel_rfl)) h_x_9 rfl (.u32 x_9) rfl <| qV (hx.vrd 0 rfl e32 v2 0 (by kernel_rfl)) h_x_10 rfl (.u32 x_10) rfl <| qI g 0 h_x_11 <| qe) (by kernel_rfl) (fun _ => ?_)
 refine MX_op (by kernel_rfl) rfl ?_
 obtain ⟨v3, h_v3, hm⟩ := nm hm
 refine Op_vs (E := e32) (kk := 0) [] 0 (.u32 (x_9 + x_10)) [.u32 (x_9 + x_10)] h_v3 h_x_11 (Pt.ix0 (Pt.at g 0) c 1) k_14 rfl .h rfl (by kernel_rfl) (by kernel_rfl) ?_
 intro w_7 k_15
 refine ⟨(k_15.sel (.s (.k .e))), fun _ => ?_⟩
 refine MX_nil <| At_go <| W_seq ?_
 have k_16 := k_15.drew 1
 refine W_m yz_mixed (.q 0 1 (.q 1 1 (.q 2 1 (.q 3 1 (.q 4 1 (.q 5 1 (.q 6 1 (.q 7 0 (.op 8 (.q 9 1 (.op 10 .nil))))))))))) [8, 10] k_16 (.c (.kk .e) (.c (.s (.k .e)) .l)) (by kernel_rfl) (fun _ => ?_)
 obtain ⟨x_12, h_x_12, hm⟩ := ob hm
 obtain ⟨x_13, h_x_13, hm⟩ := ob hm
 refine MXq 7 1 [] (.n 53 (I b) (.n 56 (.u32 x_12) (.n 59 (.u32 x_13) (.ss .a)))) (fun x hx => qV (hx.vrd 0 rfl e32 v3 0 (by kernel_rfl)) h_x_12 rfl (.u32 x_12) rfl <| qV (hx.vrd 0 rfl e32 v3 0 (by kernel_rfl)) h_x_13 rfl (.u32 x_13) rfl <| qe) (by kernel_rfl) (fun _ => ?_)
 refine MXq 1 0 [] (.n 60 (.u32 (x_12 ^^^ x_13)) (.k (.ss .a))) (fun x hx => qe) (by kernel_rfl) (fun _ => ?_)
 refine MX_op (by kernel_rfl) rfl ?_
 obtain ⟨r_2, h_r_2, hm⟩ := ob hm
 refine Op_call [] 61 _ yz_go142 (by kernel_rfl) (c_r04_turn (F := N0) (O := N0) _ _ (Cx.refl _) _ h_r_2) ?_
 rintro e_ w_8 ⟨rfl, k_17⟩
 have k_18 := k_16.call k_17
 refine ⟨.u32 r_2, rfl, ?_⟩
 refine ⟨k_18, fun _ => ?_⟩
 obtain ⟨x_14, h_x_14, hm⟩ := ob hm
 refine MXq 1 1 [] (.n 62 (.v (.pointer (ixA (some ⟨g, 0, none⟩) b 1))) (.k (.ss .a))) (fun x hx => qI g 0 h_x_14 <| qe) (by kernel_rfl) (fun _ => ?_)
 refine MX_op (by kernel_rfl) rfl ?_
 have k_19 := k_18.sel (.kk .e)
 obtain ⟨v4, h_v4, hm⟩ := nm hm
 refine Op_vs (E := e32) (kk := 0) [] 0 (.u32 r_2) [.u32 r_2] h_v4 h_x_14 (Pt.ix0 (Pt.at g 0) b 1) k_19 rfl .h rfl (by kernel_rfl) (by kernel_rfl) ?_
 intro w_9 k_20
 refine ⟨(k_20.sel (.s (.k .e))), fun _ => ?_⟩
 refine MX_nil <| At_go <| W_seq ?_
 have k_21 := k_20.drew 1
 refine W_m yz_mixed (.q 0 0 (.q 1 0 (.q 2 0 (.q 3 0 (.q 4 0 (.q 5 0 (.q 6 0 (.q 7 0 (.q 8 0 (.q 9 0 (.q 10 0 (.op 11 .nil)))))))))))) [11] k_21 (.c (.s (.k .e)) .l) (by kernel_rfl) (fun _ => ?_)
 obtain ⟨x_15, h_x_15, hm⟩ := ob hm
 obtain ⟨x_16, h_x_16, hm⟩ := ob hm
 obtain ⟨x_17, h_x_17, hm⟩ := ob hm
 refine MXq 11 0 [] (.n 72 (.u32 ((x_15 + x_16) + y_)) (.n 73 (.v (.pointer (ixA (some ⟨g, 0, none⟩) a_ 1))) (.ss (.kkkk (.kk .z))))) (fun x hx => qV (hx.vrd 0 rfl e32 v4 0 (by kernel_rfl)) h_x_15 rfl (.u32 x_15) rfl <| qV (hx.vrd 0 rfl e32 v4 0 (by kernel_rfl)) h_x_16 rfl (.u32 x_16) rfl <| qI g 0 h_x_17 <| qe) (by kernel_rfl) (fun _ => ?_)
 refine MX_op (by kernel_rfl) rfl ?_
 obtain ⟨v5, h_v5, hm⟩ := nm hm
 refine Op_vs (E := e32) (kk := 0) [] 0 (.u32 ((x_15 + x_16) + y_)) [.u32 ((x_15 + x_16) + y_)] h_v5 h_x_17 (Pt.ix0 (Pt.at g 0) a_ 1) k_21 rfl .h rfl (by kernel_rfl) (by kernel_rfl) ?_
 intro w_10 k_22
 refine ⟨(k_22.sel (.s (.k .e))), fun _ => ?_⟩
 refine MX_nil <| At_go <| W_seq ?_
 have k_23 := k_22.drew 1
 refine W_m yz_mixed (.q 0 1 (.q 1 1 (.q 2 1 (.q 3 1 (.q 4 1 (.q 5 1 (.q 6 1 (.q 7 0 (.op 8 (.q 9 1 (.op 10 .nil))))))))))) [8, 10] k_23 (.c (.kk .e) (.c (.s (.k .e)) .l)) (by kernel_rfl) (fun _ => ?_)
 obtain ⟨x_18, h_x_18, hm⟩ := ob hm
 obtain ⟨x_19, h_x_19, hm⟩ := ob hm
 refine MXq 7 1 [] (.n 74 (I d) (.n 77 (.u32 x_18) (.n 80 (.u32 x_19) (.ss (.kk (.s .a)))))) (fun x hx => qV (hx.vrd 0 rfl e32 v5 0 (by kernel_rfl)) h_x_18 rfl (.u32 x_18) rfl <| qV (hx.vrd 0 rfl e32 v5 0 (by kernel_rfl)) h_x_19 rfl (.u32 x_19) rfl <| qe) (by kernel_rfl) (fun _ => ?_)
 refine MXq 1 0 [] (.n 81 (.u32 (x_18 ^^^ x_19)) (.k (.ss .a))) (fun x hx => qe) (by kernel_rfl) (fun _ => ?_)
 refine MX_op (by kernel_rfl) rfl ?_
 obtain ⟨r_3, h_r_3, hm⟩ := ob hm
 refine Op_call [] 82 _ yz_go142 (by kernel_rfl) (c_r04_turn (F := N0) (O := N0) _ _ (Cx.refl _) _ h_r_3) ?_
 rintro e_ w_11 ⟨rfl, k_24⟩
 have k_25 := k_23.call k_24
 refine ⟨.u32 r_3, rfl, ?_⟩
 refine ⟨k_25, fun _ => ?_⟩
 obtain ⟨x_20, h_x_20, hm⟩ := ob hm
 refine MXq 1 1 [] (.n 83 (.v (.pointer (ixA (some ⟨g, 0, none⟩) d 1))) (.k (.ss .a))) (fun x hx => qI g 0 h_x_20 <| qe) (by kernel_rfl) (fun _ => ?_)
 refine MX_op (by kernel_rfl) rfl ?_
 obtain ⟨v6, h_v6, hm⟩ := nm hm
 refine Op_vs (E := e32) (kk := 0) [] 0 (.u32 r_3) [.u32 r_3] h_v6 h_x_20 (Pt.ix0 (Pt.at g 0) d 1) k_25 rfl .h rfl (by kernel_rfl) (by kernel_rfl) ?_
 intro w_12 k_26
 refine ⟨(k_26.sel (.s (.k .e))), fun _ => ?_⟩
 refine MX_nil <| At_go <| W_seq ?_
 have k_27 := k_26.drew 1
 refine W_m yz_mixed (.q 0 0 (.q 1 0 (.q 2 0 (.q 3 0 (.q 4 0 (.q 5 0 (.q 6 0 (.q 7 0 (.q 8 0 (.op 9 .nil)))))))))) [9] k_27 (.c (.s (.k .e)) .l) (by kernel_rfl) (fun _ => ?_)
 obtain ⟨x_21, h_x_21, hm⟩ := ob hm
 obtain ⟨x_22, h_x_22, hm⟩ := ob hm
 obtain ⟨x_23, h_x_23, hm⟩ := ob hm
 refine MXq 9 0 [] (.n 91 (.u32 (x_21 + x_22)) (.n 92 (.v (.pointer (ixA (some ⟨g, 0, none⟩) c 1))) (.ss (.kkkk .z)))) (fun x hx => qV (hx.vrd 0 rfl e32 v6 0 (by kernel_rfl)) h_x_21 rfl (.u32 x_21) rfl <| qV (hx.vrd 0 rfl e32 v6 0 (by kernel_rfl)) h_x_22 rfl (.u32 x_22) rfl <| qI g 0 h_x_23 <| qe) (by kernel_rfl) (fun _ => ?_)
 refine MX_op (by kernel_rfl) rfl ?_
 have k_28 := k_27.sel (.kk .e)
 obtain ⟨v7, h_v7, hm⟩ := nm hm
 refine Op_vs (E := e32) (kk := 0) [] 0 (.u32 (x_21 + x_22)) [.u32 (x_21 + x_22)] h_v7 h_x_23 (Pt.ix0 (Pt.at g 0) c 1) k_28 rfl .h rfl (by kernel_rfl) (by kernel_rfl) ?_
 intro w_13 k_29
 refine ⟨(k_29.sel (.s (.k .e))), fun _ => ?_⟩
 refine MX_nil <| At_go <| W_seq ?_
 have k_30 := k_29.drew 1
 refine W_m yz_mixed (.q 0 1 (.q 1 1 (.q 2 1 (.q 3 1 (.q 4 1 (.q 5 1 (.q 6 1 (.q 7 0 (.op 8 (.q 9 1 (.op 10 .nil))))))))))) [8, 10] k_30 (.c (.kk .e) (.c (.s (.k .e)) .l)) (by kernel_rfl) (fun _ => ?_)
 obtain ⟨x_24, h_x_24, hm⟩ := ob hm
 obtain ⟨x_25, h_x_25, hm⟩ := ob hm
 refine MXq 7 1 [] (.n 93 (I b) (.n 96 (.u32 x_24) (.n 99 (.u32 x_25) (.ss (.kk .z))))) (fun x hx => qV (hx.vrd 0 rfl e32 v7 0 (by kernel_rfl)) h_x_24 rfl (.u32 x_24) rfl <| qV (hx.vrd 0 rfl e32 v7 0 (by kernel_rfl)) h_x_25 rfl (.u32 x_25) rfl <| qe) (by kernel_rfl) (fun _ => ?_)
 refine MXq 1 0 [] (.n 100 (.u32 (x_24 ^^^ x_25)) (.k (.ss .a))) (fun x hx => qe) (by kernel_rfl) (fun _ => ?_)
 refine MX_op (by kernel_rfl) rfl ?_
 obtain ⟨r_4, h_r_4, hm⟩ := ob hm
 refine Op_call [] 101 _ yz_go142 (by kernel_rfl) (c_r04_turn (F := N0) (O := N0) _ _ (Cx.refl _) _ h_r_4) ?_
 rintro e_ w_14 ⟨rfl, k_31⟩
 have k_32 := k_30.call k_31
 refine ⟨.u32 r_4, rfl, ?_⟩
 refine ⟨k_32, fun _ => ?_⟩
 obtain ⟨x_26, h_x_26, hm⟩ := ob hm
 refine MXq 1 1 [] (.n 102 (.v (.pointer (ixA (some ⟨g, 0, none⟩) b 1))) (.k (.ss .a))) (fun x hx => qI g 0 h_x_26 <| qe) (by kernel_rfl) (fun _ => ?_)
 refine MX_op (by kernel_rfl) rfl ?_
 obtain ⟨v8, h_v8, hm⟩ := nm hm
 refine Op_vs (E := e32) (kk := 0) [] 0 (.u32 r_4) [.u32 r_4] h_v8 h_x_26 (Pt.ix0 (Pt.at g 0) b 1) k_32 rfl .h rfl (by kernel_rfl) (by kernel_rfl) ?_
 intro w_15 k_33
 refine ⟨(k_33.sel (.s (.k .e))), fun _ => ?_⟩
 refine MX_nil <| At_go <| W_seq <| W_reg <| WLs 1 [] (.n 103 (.agg [.ar e32 v8]) (.ss (.k .z))) (qT k_33 0 rfl 0 16 [.ar e32 v8] (by kernel_rfl) (by decide) <| qe) (by kernel_rfl) ?_
 refine WL_op <| Op_b [] 1 (.agg [.ar e32 v8]) [.ar e32 v8] (Pt.at g1 0) k_33 rfl .all (by kernel_rfl) (by kernel_rfl) ?_
 intro w_16 k_34
 have k_35 := k_34.sel (.s (.k .e))
 refine WLs 1 [] (.n 15 (I 0) (.s .a)) qe (by kernel_rfl) ?_
 refine WL_nil <| At_go <| W_ret ?_
 obtain rfl := Option.some.inj hm
 refine At_rt [.agg [.ar e32 v8], I 0] (qo (.agg [.ar e32 v8]) <| qc (fun w => Rd w (some ⟨g1, 0, none⟩) (SV.cl [.ar e32 v8])) (k_35.brd 0 rfl) <| qe) (by kernel_rfl) ?_
 have k_36 := k_35.sel .z
 exact ⟨rfl, k_36⟩

-- quern/quernref04.Round
theorem c_r04_Round {F O : Nat → Prop} {w : World} (v : Vec UInt32 16) (m_ : Vec UInt32 16) (r_ : Int) (k : Cx F O w w []) (r : (Vec UInt32 16 × Int)) (hm : m_r04_Round v m_ r_ = some r) :
    Calls Tryz.prog 116 (vals [.agg [.ar e32 v], .agg [.ar e32 m_], I r_]) w (fun e w' => e = .returned (SV.val (.tup [.agg [.ar e32 r.1], I r.2])) ∧ Cx F O w w' []) := by
 unfold m_r04_Round at hm
 refine calls [.agg [.ar e32 v], .agg [.ar e32 m_], I r_] Tryz.func116 rfl (of_decide_eq_true (by kernel_rfl)) ?_
 refine W_seq <| W_reg <| WL_op <| Op_box [] 3 (.agg [.ar e32 v]) [.ar e32 v] (by kernel_rfl) k ?_
 intro g w_ k_
 refine WL_op <| Op_box [] 4 (.agg [.ar e32 m_]) [.ar e32 m_] (by kernel_rfl) k_ ?_
 intro g1 w_1 k_1
 refine WL_op <| Op_alloc [] 6 [.ar e32 (Vec.rep 16 (0 : UInt32))] (by kernel_rfl) k_1 ?_
 intro g2 w_2 k_2
 refine WLs 1 [] (.kkk (.ss .a)) qe (by kernel_rfl) ?_
 refine WL_nil <| At_go <| W_seq <| W_seq <| W_q [] (.n 18 (.b ((decide (r_ < 0)) || (decide (9 < r_)))) .a) qe (by kernel_rfl) ?_
 refine At_go <| W_cond ((decide (r_ < 0)) || (decide (9 < r_))) (by kernel_rfl) (fun hc => ?_) (fun hc => ?_)
 · rw [if_pos hc] at hm
   refine W_seq <| W_reg <| WLs 1 [] (.n 19 (.agg [.ar e32 (Vec.rep 16 ((0 : UInt32) : UInt32))]) (.s (.k .z))) qe (by kernel_rfl) ?_
   refine WL_op <| Op_b [] 2 (.agg [.ar e32 (Vec.rep 16 ((0 : UInt32) : UInt32))]) [.ar e32 (Vec.rep 16 ((0 : UInt32) : UInt32))] (Pt.at g2 0) k_2 rfl .all (by kernel_rfl) (by kernel_rfl) ?_
   intro w_3 k_3
   have k_4 := k_3.sel (.ss (.k .e))
   refine WLs 1 [] (.n 7 (I 1) (.s .a)) qe (by kernel_rfl) ?_
   refine WL_nil <| At_go <| W_ret (At_tr ?_)
   obtain rfl := Option.some.inj hm
   refine At_rt [.agg [.ar e32 (Vec.rep 16 ((0 : UInt32) : UInt32))], I 1] (qo (.agg [.ar e32 (Vec.rep 16 ((0 : UInt32) : UInt32))]) <| qc (fun w => Rd w (some ⟨g2, 0, none⟩) (SV.cl [.ar e32 (Vec.rep 16 ((0 : UInt32) : UInt32))])) (k_4.brd 0 rfl) <| qe) (by kernel_rfl) ?_
   have k_5 := k_4.sel .z
   exact ⟨rfl, k_5⟩
 rw [if_neg (by rw [hc]; decide)] at hm
 refine W_skip <| At_go <| W_seq <| W_seq <| W_q [] (.n 8 (I 0) (.s .a)) qe (by kernel_rfl) ?_
 refine At_go <| W_block <| W_lp (m_r04_Round_l0 m_ r_) (fun s L wr => ∃ (v1 : Vec UInt32 16) (i : Int), (v1, i) = s ∧ L = [(2, I r_), (3, pt g 0), (4, pt g1 0), (6, pt g2 0), (8, I i)] ∧ Cx F O w wr [Bx 155 g [.ar e32 v1], Bx 155 g1 [.ar e32 m_], Bx 155 g2 [.ar e32 (Vec.rep 16 (0 : UInt32))]]) (v, (0 : Int)) r hm ⟨v, (0 : Int), rfl, rfl, k_2⟩ (by kernel_rfl) ?_
 intro s0_ L_ w_4 y0 hrel hstep hr0
 obtain ⟨v1, i, rfl, rfl, k_6⟩ := hrel
 have hm := hstep; simp only [m_r04_Round_l0] at hm
 clear hstep
 refine W_seq <| W_seq <| W_q [] (.n 21 (.b (decide (i < 8))) .a) qe (by kernel_rfl) ?_
 refine At_go <| W_condp (i < 8) (by kernel_rfl) (fun hc1 => ?_) (fun hc1 => ?_)
 · rw [if_pos hc1] at hm
   refine W_skip <| At_go <| W_seq <| W_block <| W_seq <| W_reg <| WLs 1 [] (.n 25 (I i) (.s .a)) qe (by kernel_rfl) ?_
   refine WL_op ?_
   obtain ⟨r_1, h_r_1, hm⟩ := ob hm
   refine Op_call [] 26 _ yz_go129 (by kernel_rfl) (c_r04_four (F := N0) (O := N0) _ (Cx.refl _) _ h_r_1) ?_
   rintro e_ w_5 ⟨rfl, k_7⟩
   have k_8 := k_6.call k_7
   refine ⟨.tup [I r_1.1, I r_1.2.1, I r_1.2.2.1, I r_1.2.2.2], rfl, ?_⟩
   refine WLs 9 [] (.n 9 (I r_1.1) (.n 10 (I r_1.2.1) (.n 11 (I r_1.2.2.1) (.n 12 (I r_1.2.2.2) (.ss .a))))) qe (by kernel_rfl) ?_
   refine WL_nil <| At_go ?_
   have k_9 := k_8.drew 1
   refine W_m yz_mixed (.q 0 2 (.q 1 2 (.q 2 2 (.q 3 2 (.q 4 2 (.q 5 2 (.q 11 2 (.q 6 3 (.q 7 2 (.q 12 3 (.q 13 3 (.q 14 2 (.op 8 (.q 9 3 (.q 10 2 (.op 15 (.q 16 3 (.q 17 2 (.op 18 (.q 19 3 (.q 20 3 (.q 21 4 (.op 22 .nil))))))))))))))))))))))) [8, 15, 18, 22] k_9 (.c (.kk (.k .e)) (.c (.kk (.k .e)) (.c (.kk (.k .e)) (.c (.s (.kk .e)) .l)))) (by kernel_rfl) (fun _ => ?_)
   refine MXq 7 2 [] (.n 32 (.agg [.ar e32 v1]) (.n 33 (I r_1.1) (.n 34 (I r_1.2.1) (.n 35 (I r_1.2.2.1) (.n 36 (I r_1.2.2.2) (.n 37 (I r_) (.n 43 (I r_) (.ssss .a)))))))) (fun x hx => qT hx 0 rfl 0 16 [.ar e32 v1] (by kernel_rfl) (by decide) <| qe) (by kernel_rfl) (fun _ => ?_)
   refine MXq 1 3 [] (.n 38 (I i) .a) (fun x hx => qe) (by kernel_rfl) (fun _ => ?_)
   refine MXq 1 2 [] (.n 39 (I (w64 (2 * i))) (.s .a)) (fun x hx => qe) (by kernel_rfl) (fun _ => ?_)
   refine MXq 2 3 [] (.n 45 (I (w64 (2 * i))) .a) (fun x hx => qe) (by kernel_rfl) (fun _ => ?_)
   refine MXq 1 2 [] (.n 46 (I (w64 ((w64 (2 * i)) + 1))) (.s .a)) (fun x hx => qe) (by kernel_rfl) (fun _ => ?_)
   refine MX_op (by kernel_rfl) rfl ?_
   obtain ⟨r_2, h_r_2, hm⟩ := ob hm
   refine Op_call [] 40 _ yz_go128 (by kernel_rfl) (c_r03_Sigma (F := N0) (O := N0) _ _ (Cx.refl _) _ h_r_2) ?_
   rintro e_ w_6 ⟨rfl, k_10⟩
   have k_11 := k_9.call k_10
   refine ⟨I r_2, rfl, ?_⟩
   refine ⟨k_11, fun _ => ?_⟩
   obtain ⟨x_0, h_x_0, hm⟩ := ob hm
   refine MXq 1 3 [] (.n 41 (.v (.pointer (ixA (some ⟨g1, 0, none⟩) r_2 1))) (.s (.k (.s (.kkkk (.k (.s .a))))))) (fun x hx => qI g1 0 h_x_0 <| qe) (by kernel_rfl) (fun _ => ?_)
   refine MXq 1 2 [] (.n 42 (.u32 x_0) (.s .a)) (fun x hx => qC (.u32 x_0) (Rd.el (k := 0) (hx.vrd 1 rfl e32 m_ 0 (by kernel_rfl)) h_x_0 (Pt.ix1 (some ⟨g1, 0, none⟩) r_2 1) rfl) <| qe) (by kernel_rfl) (fun _ => ?_)
   refine MX_op (by kernel_rfl) rfl ?_
   obtain ⟨r_3, h_r_3, hm⟩ := ob hm
   refine Op_call [] 47 _ yz_go128 (by kernel_rfl) (c_r03_Sigma (F := N0) (O := N0) _ _ (Cx.refl _) _ h_r_3) ?_
   rintro e_ w_7 ⟨rfl, k_12⟩
   have k_13 := k_11.call k_12
   refine ⟨I r_3, rfl, ?_⟩
   refine ⟨k_13, fun _ => ?_⟩
   obtain ⟨x_2, h_x_2, hm⟩ := ob hm
   refine MXq 1 3 [] (.n 48 (.v (.pointer (ixA (some ⟨g1, 0, none⟩) r_3 1))) (.s (.k (.s (.kkkk (.k (.s .a))))))) (fun x hx => qI g1 0 h_x_2 <| qe) (by kernel_rfl) (fun _ => ?_)
   refine MXq 1 2 [] (.n 49 (.u32 x_2) (.s .a)) (fun x hx => qC (.u32 x_2) (Rd.el (k := 0) (hx.vrd 1 rfl e32 m_ 0 (by kernel_rfl)) h_x_2 (Pt.ix1 (some ⟨g1, 0, none⟩) r_3 1) rfl) <| qe) (by kernel_rfl) (fun _ => ?_)
   refine MX_op (by kernel_rfl) rfl ?_
   obtain ⟨r_4, h_r_4, hm⟩ := ob hm
   refine Op_call [] 50 _ yz_go130 (by kernel_rfl) (c_r04_G (F := N0) (O := N0) _ _ _ _ _ _ _ (Cx.refl _) _ h_r_4) ?_
   rintro e_ w_8 ⟨rfl, k_14⟩
   have k_15 := k_13.call k_14
   refine ⟨.tup [.agg [.ar e32 r_4.1], I r_4.2], rfl, ?_⟩
   refine ⟨k_15, fun _ => ?_⟩
   refine MXq 2 3 [] (.n 31 (.tup [.agg [.ar e32 r_4.1], I r_4.2]) (.n 51 (.agg [.ar e32 r_4.1]) (.ssss (.ssss .a)))) (fun x hx => qe) (by kernel_rfl) (fun _ => ?_)
   refine MXq 1 4 [] (.s .a) (fun x hx => qe) (by kernel_rfl) (fun _ => ?_)
   refine MX_op (by kernel_rfl) rfl ?_
   have k_16 := k_15.sel (.kk (.k .e))
   refine Op_b [] 0 (.agg [.ar e32 r_4.1]) [.ar e32 r_4.1] (Pt.at g 0) k_16 rfl .all (by kernel_rfl) (by kernel_rfl) ?_
   intro w_9 k_17
   refine ⟨(k_17.sel (.s (.kk .e))), fun _ => ?_⟩
   refine MX_nil <| At_in <| At_go <| W_q [] (.n 8 (I (w64 (i + 1))) (.s (.kkkk .z))) qe (by kernel_rfl) ?_
   exact At_rd (r_4.1, w64 (i + 1)) (Option.some.inj hm).symm ⟨r_4.1, w64 (i + 1), rfl, rfl, k_17⟩ (by kernel_rfl)
 rw [if_neg hc1] at hm
 refine W_exit (At_te (At_te (At_ie ?_)))
 have hm := exit_of hm hr0
 refine At_go <| W_seq <| W_reg <| WLs 1 [] (.n 53 (.agg [.ar e32 v1]) (.ssss (.k .z))) (qT k_6 0 rfl 0 16 [.ar e32 v1] (by kernel_rfl) (by decide) <| qe) (by kernel_rfl) ?_
 refine WL_op <| Op_b [] 2 (.agg [.ar e32 v1]) [.ar e32 v1] (Pt.at g2 0) k_6 rfl .all (by kernel_rfl) (by kernel_rfl) ?_
 intro w_10 k_18
 have k_19 := k_18.sel (.ss (.k .e))
 refine WLs 1 [] (.n 7 (I 0) (.s .a)) qe (by kernel_rfl) ?_
 refine WL_nil <| At_go <| W_ret ?_
 obtain rfl := Option.some.inj hm
 refine At_rt [.agg [.ar e32 v1], I 0] (qo (.agg [.ar e32 v1]) <| qc (fun w => Rd w (some ⟨g2, 0, none⟩) (SV.cl [.ar e32 v1])) (k_19.brd 0 rfl) <| qe) (by kernel_rfl) ?_
 have k_20 := k_19.sel .z
 exact ⟨rfl, k_20⟩

-- quern/quernref04.End
theorem c_r04_End {F O : Nat → Prop} {w : World} (h : Vec UInt32 8) (v : Vec UInt32 16) (k : Cx F O w w []) (r : (Vec UInt32 8)) (hm : m_r04_End h v = some r) :
    Calls Tryz.prog 117 (vals [.agg [.ar e32 h], .agg [.ar e32 v]]) w (fun e w' => e = .returned (SV.val (.agg [.ar e32 r])) ∧ Cx F O w w' []) := by
 unfold m_r04_End at hm
 refine calls [.agg [.ar e32 h], .agg [.ar e32 v]] Tryz.func117 rfl (of_decide_eq_true (by kernel_rfl)) ?_
 refine W_seq <| W_reg <| WL_op <| Op_box [] 2 (.agg [.ar e32 h]) [.ar e32 h] (by kernel_rfl) k ?_
 intro g w_ k_
 refine WL_op <| Op_box [] 3 (.agg [.ar e32 v]) [.ar e32 v] (by kernel_rfl) k_ ?_
 intro g1 w_1 k_1
 refine WL_op <| Op_alloc [] 4 [.ar e32 (Vec.rep 8 (0 : UInt32))] (by kernel_rfl) k_1 ?_
 intro g2 w_2 k_2
 refine WL_nil <| At_go <| W_seq <| W_seq <| W_q [] (.n 5 (I 0) (.kkk .z)) qe (by kernel_rfl) ?_
 refine At_go <| W_block <| W_lp (m_r04_End_l0 v) (fun s L wr => ∃ (h1 : Vec UInt32 8) (i : Int), (h1, i) = s ∧ L = [(2, pt g 0), (3, pt g1 0), (4, pt g2 0), (5, I i)] ∧ Cx F O w wr [Bx 154 g [.ar e32 h1], Bx 155 g1 [.ar e32 v], Bx 154 g2 [.ar e32 (Vec.rep 8 (0 : UInt32))]]) (h, (0 : Int)) r hm ⟨h, (0 : Int), rfl, rfl, k_2⟩ (by kernel_rfl) ?_
 intro s0_ L_ w_3 y0 hrel hstep hr0
 obtain ⟨h1, i, rfl, rfl, k_3⟩ := hrel
 have hm := hstep; simp only [m_r04_End_l0] at hm
 clear hstep
 refine W_seq <| W_seq <| W_q [] (.n 7 (.b (decide (i < 8))) .a) qe (by kernel_rfl) ?_
 refine At_go <| W_condp (i < 8) (by kernel_rfl) (fun hc => ?_) (fun hc => ?_)
 · rw [if_pos hc] at hm
   refine W_skip <| At_go <| W_seq <| W_block ?_
   have k_4 := k_3.drew 1
   refine W_m yz_mixed (.q 0 0 (.q 1 0 (.q 2 0 (.q 3 0 (.q 4 0 (.q 5 0 (.q 6 0 (.q 7 0 (.q 8 0 (.q 9 0 (.q 10 0 (.q 11 0 (.q 12 0 (.q 13 0 (.op 14 .nil))))))))))))))) [14] k_4 (.c (.s (.kk .e)) .l) (by kernel_rfl) (fun _ => ?_)
   obtain ⟨x_0, h_x_0, hm⟩ := ob hm
   obtain ⟨x_1, h_x_1, hm⟩ := ob hm
   obtain ⟨x_2, h_x_2, hm⟩ := ob hm
   obtain ⟨x_3, h_x_3, hm⟩ := ob hm
   refine MXq 14 0 [] (.n 22 (.u32 ((x_0 ^^^ x_1) ^^^ x_2)) (.n 23 (.v (.pointer (ixA (some ⟨g, 0, none⟩) i 1))) (.s .a))) (fun x hx => qV (hx.vrd 0 rfl e32 h1 0 (by kernel_rfl)) h_x_0 rfl (.u32 x_0) rfl <| qV (hx.vrd 1 rfl e32 v 0 (by kernel_rfl)) h_x_1 rfl (.u32 x_1) rfl <| qV (hx.vrd 1 rfl e32 v 0 (by kernel_rfl)) h_x_2 rfl (.u32 x_2) rfl <| qI g 0 h_x_3 <| qe) (by kernel_rfl) (fun _ => ?_)
   refine MX_op (by kernel_rfl) rfl ?_
   obtain ⟨v1, h_v1, hm⟩ := nm hm
   refine Op_vs (E := e32) (kk := 0) [] 0 (.u32 ((x_0 ^^^ x_1) ^^^ x_2)) [.u32 ((x_0 ^^^ x_1) ^^^ x_2)] h_v1 h_x_3 (Pt.ix0 (Pt.at g 0) i 1) k_4 rfl .h rfl (by kernel_rfl) (by kernel_rfl) ?_
   intro w_4 k_5
   refine ⟨(k_5.sel (.s (.kk .e))), fun _ => ?_⟩
   refine MX_nil <| At_in <| At_go <| W_q [] (.n 5 (I (w64 (i + 1))) (.ss (.kkk .z))) qe (by kernel_rfl) ?_
   exact At_rd (v1, w64 (i + 1)) (Option.some.inj hm).symm ⟨v1, w64 (i + 1), rfl, rfl, k_5⟩ (by kernel_rfl)
 rw [if_neg hc] at hm
 refine W_exit (At_te (At_te (At_ie ?_)))
 have hm := exit_of hm hr0
 refine At_go <| W_seq <| W_reg <| WLs 1 [] (.n 24 (.agg [.ar e32 h1]) (.sss (.k .z))) (qT k_3 0 rfl 0 8 [.ar e32 h1] (by kernel_rfl) (by decide) <| qe) (by kernel_rfl) ?_
 refine WL_op <| Op_b [] 2 (.agg [.ar e32 h1]) [.ar e32 h1] (Pt.at g2 0) k_3 rfl .all (by kernel_rfl) (by kernel_rfl) ?_
 intro w_5 k_6
 have k_7 := k_6.sel (.ss (.k .e))
 refine WL_nil <| At_go <| W_ret ?_
 obtain rfl := Option.some.inj hm
 refine At_rt [.agg [.ar e32 h1]] (qo (.agg [.ar e32 h1]) <| qc (fun w => Rd w (some ⟨g2, 0, none⟩) (SV.cl [.ar e32 h1])) (k_7.brd 0 rfl) <| qe) (by kernel_rfl) ?_
 have k_8 := k_7.sel .z
 exact ⟨rfl, k_8⟩

-- quern/quernref04.F
theorem c_r04_F {F O : Nat → Prop} {w : World} (h : Vec UInt32 8) (m_ : Vec UInt32 16) (count : UInt64) (last : Bool) (node : Bool) (k : Cx F O w w []) (r : (Vec UInt32 8)) (hm : m_r04_F h m_ count last node = some r) :
    Calls Tryz.prog 97 (vals [.agg [.ar e32 h], .agg [.ar e32 m_], .u64 count, .b last, .b node]) w (fun e w' => e = .returned (SV.val (.agg [.ar e32 r])) ∧ Cx F O w w' []) := by
 unfold m_r04_F at hm
 refine calls [.agg [.ar e32 h], .agg [.ar e32 m_], .u64 count, .b last, .b node] Tryz.func97 rfl (of_decide_eq_true (by kernel_rfl)) ?_
 refine W_seq <| W_reg <| WL_op <| Op_box [] 5 (.agg [.ar e32 h]) [.ar e32 h] (by kernel_rfl) k ?_
 intro g w_ k_
 refine WL_op <| Op_box [] 6 (.agg [.ar e32 m_]) [.ar e32 m_] (by kernel_rfl) k_ ?_
 intro g1 w_1 k_1
 refine WL_op <| Op_alloc [] 10 [.ar e32 (Vec.rep 8 (0 : UInt32))] (by kernel_rfl) k_1 ?_
 intro g2 w_2 k_2
 refine WL_nil <| At_go <| W_seq <| W_reg <| WLs 4 [] (.n 13 (.agg [.ar e32 h]) (.n 14 (.u64 count) (.n 15 (.b last) (.n 16 (.b node) (.kkk .z))))) (qT k_2 0 rfl 0 8 [.ar e32 h] (by kernel_rfl) (by decide) <| qe) (by kernel_rfl) ?_
 refine WL_op ?_
 obtain ⟨r_, h_r_, hm⟩ := ob hm
 refine Op_call [] 17 _ yz_go115 (by kernel_rfl) (c_r04_Begin (F := N0) (O := N0) _ _ _ _ (Cx.refl _) _ h_r_) ?_
 rintro e_ w_3 ⟨rfl, k_3⟩
 have k_4 := k_2.call k_3
 refine ⟨.agg [.ar e32 r_], rfl, ?_⟩
 refine WL_op ?_
 have k_5 := k_4.sel (.kk (.k .e))
 refine Op_alloc [] 11 [.ar e32 (Vec.rep 16 (0 : UInt32))] (by kernel_rfl) k_5 ?_
 intro g3 w_4 k_6
 refine WL_op <| Op_b [] 3 (.agg [.ar e32 r_]) [.ar e32 r_] (Pt.at g3 0) k_6 rfl .all (by kernel_rfl) (by kernel_rfl) ?_
 intro w_5 k_7
 refine WL_nil <| At_go <| W_seq <| W_seq <| W_q [] (.n 12 (I 0) (.k (.ssss (.s .a)))) qe (by kernel_rfl) ?_
 refine At_go <| W_block <| W_lp (m_r04_F_l0 h m_) (fun s L wr => ∃ (v : Vec UInt32 16) (r_1 : Int), (v, r_1) = s ∧ L = [(5, pt g 0), (6, pt g1 0), (10, pt g2 0), (11, pt g3 0), (12, I r_1)] ∧ Cx F O w wr [Bx 154 g [.ar e32 h], Bx 155 g1 [.ar e32 m_], Bx 154 g2 [.ar e32 (Vec.rep 8 (0 : UInt32))], Bx 155 g3 [.ar e32 v]]) (r_, (0 : Int)) r hm ⟨r_, (0 : Int), rfl, rfl, k_7⟩ (by kernel_rfl) ?_
 intro s0_ L_ w_6 y0 hrel hstep hr0
 obtain ⟨v, r_1, rfl, rfl, k_8⟩ := hrel
 have hm := hstep; simp only [m_r04_F_l0] at hm
 clear hstep
 refine W_seq <| W_seq <| W_q [] (.n 19 (.b (decide (r_1 < 10))) .a) qe (by kernel_rfl) ?_
 refine At_go <| W_condp (r_1 < 10) (by kernel_rfl) (fun hc => ?_) (fun hc => ?_)
 · rw [if_pos hc] at hm
   refine W_skip <| At_go <| W_seq <| W_block <| W_reg <| WLs 3 [] (.n 23 (.agg [.ar e32 v]) (.n 24 (.agg [.ar e32 m_]) (.n 25 (I r_1) (.s .a)))) (qT k_8 3 rfl 0 16 [.ar e32 v] (by kernel_rfl) (by decide) <| qT k_8 1 rfl 0 16 [.ar e32 m_] (by kernel_rfl) (by decide) <| qe) (by kernel_rfl) ?_
   refine WL_op ?_
   obtain ⟨r_2, h_r_2, hm⟩ := ob hm
   refine Op_call [] 26 _ yz_go116 (by kernel_rfl) (c_r04_Round (F := N0) (O := N0) _ _ _ (Cx.refl _) _ h_r_2) ?_
   rintro e_ w_7 ⟨rfl, k_9⟩
   have k_10 := k_8.call k_9
   refine ⟨.tup [.agg [.ar e32 r_2.1], I r_2.2], rfl, ?_⟩
   refine WLs 3 [] (.n 27 (.agg [.ar e32 r_2.1]) (.ssss .a)) qe (by kernel_rfl) ?_
   refine WL_op <| Op_b [] 3 (.agg [.ar e32 r_2.1]) [.ar e32 r_2.1] (Pt.at g3 0) k_10 rfl .all (by kernel_rfl) (by kernel_rfl) ?_
   intro w_8 k_11
   refine WL_nil <| At_in <| At_go <| W_q [] (.n 12 (I (w64 (r_1 + 1))) (.s (.kkkk .z))) qe (by kernel_rfl) ?_
   exact At_rd (r_2.1, w64 (r_1 + 1)) (Option.some.inj hm).symm ⟨r_2.1, w64 (r_1 + 1), rfl, rfl, k_11⟩ (by kernel_rfl)
 rw [if_neg hc] at hm
 refine W_exit (At_te (At_te (At_ie ?_)))
 have hm := exit_of hm hr0
 refine At_go <| W_seq <| W_reg <| WLs 2 [] (.n 29 (.agg [.ar e32 h]) (.n 30 (.agg [.ar e32 v]) (.sss (.k .z)))) (qT k_8 0 rfl 0 8 [.ar e32 h] (by kernel_rfl) (by decide) <| qT k_8 3 rfl 0 16 [.ar e32 v] (by kernel_rfl) (by decide) <| qe) (by kernel_rfl) ?_
 refine WL_op ?_
 obtain ⟨r_3, h_r_3, hm⟩ := ob hm
 refine Op_call [] 31 _ yz_go117 (by kernel_rfl) (c_r04_End (F := N0) (O := N0) _ _ (Cx.refl _) _ h_r_3) ?_
 rintro e_ w_9 ⟨rfl, k_12⟩
 have k_13 := k_8.call k_12
 refine ⟨.agg [.ar e32 r_3], rfl, ?_⟩
 have k_14 := k_13.sel (.ss (.k .z))
 refine WL_op <| Op_b [] 0 (.agg [.ar e32 r_3]) [.ar e32 r_3] (Pt.at g2 0) k_14 rfl .all (by kernel_rfl) (by kernel_rfl) ?_
 intro w_10 k_15
 refine WL_nil <| At_go <| W_ret ?_
 obtain rfl := Option.some.inj hm
 refine At_rt [.agg [.ar e32 r_3]] (qo (.agg [.ar e32 r_3]) <| qc (fun w => Rd w (some ⟨g2, 0, none⟩) (SV.cl [.ar e32 r_3])) (k_15.brd 0 rfl) <| qe) (by kernel_rfl) ?_
 have k_16 := k_15.sel .z
 exact ⟨rfl, k_16⟩

-- quern/quernref05.in
theorem c_r05_in {F O : Nat → Prop} {w : World} (kind : Int) (h : Vec UInt64 16) (b : List UInt8) (lo : UInt64) (hi : UInt64) (last : Bool) (node : Bool) (A_b : Option Addr) (n_b : Nat) (c_b : Nat) (h_b : Ro F w A_b (e8.all b)) (hn_b : b.length = n_b) (hc_b : n_b ≤ c_b) (k : Cx F O w w []) (r : (Vec UInt64 16)) (hm : m_r05_in kind h b lo hi last node = some r) :
    Calls Tryz.prog 75 (vals [I kind, .agg [.ar e64 h], sl A_b n_b c_b, .u64 lo, .u64 hi, .b last, .b node]) w (fun e w' => e = .returned (SV.val (.agg [.ar e64 r])) ∧ Cx F O w w' []) := by
 unfold m_r05_in at hm
 subst hn_b
 refine calls [I kind, .agg [.ar e64 h], sl A_b b.length c_b, .u64 lo, .u64 hi, .b last, .b node] Tryz.func75 rfl (of_decide_eq_true (by kernel_rfl)) ?_
 refine W_seq <| W_reg <| WL_op <| Op_box [] 8 (.agg [.ar e64 h]) [.ar e64 h] (by kernel_rfl) k ?_
 intro g w_ k_
 refine WL_op <| Op_alloc [] 14 [.ar e64 (Vec.rep 16 (0 : UInt64))] (by kernel_rfl) k_ ?_
 intro g1 w_1 k_1
 refine WL_nil <| At_go <| W_seq <| W_seq <| W_q [] (.n 26 (.b (decide (kind = 1))) (.kk (.ss .a))) qe (by kernel_rfl) ?_
 refine At_go <| W_condp (kind = 1) (by kernel_rfl) (fun hc => ?_) (fun hc => ?_)
 · rw [if_pos hc] at hm
   refine W_seq <| W_reg <| WL_op <| Op_alloc [] 15 [.ar e64 (Vec.rep 8 (0 : UInt64))] (by kernel_rfl) k_1 ?_
   intro g2 w_2 k_2
   refine WL_nil <| At_go <| W_seq <| W_seq <| W_q [] (.n 16 (I 0) (.k (.s .a))) qe (by kernel_rfl) ?_
   refine At_go <| W_block <| W_lp (m_r05_in_l0 h b lo hi last node) (fun s L wr => ∃ (s_ : Vec UInt64 8) (i : Int), (s_, i) = s ∧ L = [(2, sl A_b b.length c_b), (3, .u64 lo), (4, .u64 hi), (5, .b last), (6, .b node), (8, pt g 0), (14, pt g1 0), (15, pt g2 0), (16, I i)] ∧ Cx F O w wr [Bx 108 g [.ar e64 h], Bx 108 g1 [.ar e64 (Vec.rep 16 (0 : UInt64))], Bx 150 g2 [.ar e64 s_]]) ((Vec.rep 8 (0 : UInt64)), (0 : Int)) r hm ⟨(Vec.rep 8 (0 : UInt64)), (0 : Int), rfl, rfl, k_2⟩ (by kernel_rfl) ?_
   intro s0_ L_ w_3 y0 hrel hstep hr0
   obtain ⟨s_, i, rfl, rfl, k_3⟩ := hrel
   have hm := hstep; simp only [m_r05_in_l0] at hm
   clear hstep
   refine W_seq <| W_seq <| W_q [] (.n 28 (.b (decide (i < 8))) .a) qe (by kernel_rfl) ?_
   refine At_go <| W_condp (i < 8) (by kernel_rfl) (fun hc1 => ?_) (fun hc1 => ?_)
   · rw [if_pos hc1] at hm
     refine W_skip <| At_go <| W_seq <| W_block <| W_reg ?_
     obtain ⟨x_0, h_x_0, hm⟩ := ob hm
     obtain ⟨x_1, h_x_1, hm⟩ := ob hm
     refine WLs 5 [] (.n 34 (.u64 x_0) (.n 35 (.v (.pointer (ixA (some ⟨g2, 0, none⟩) i 1))) (.s .a))) (qV (k_3.vrd 0 rfl e64 h 0 (by kernel_rfl)) h_x_0 rfl (.u64 x_0) rfl <| qI g2 0 h_x_1 <| qe) (by kernel_rfl) ?_
     refine WL_op ?_
     obtain ⟨v, h_v, hm⟩ := nm hm
     refine Op_vs (E := e64) (kk := 0) [] 2 (.u64 x_0) [.u64 x_0] h_v h_x_1 (Pt.ix0 (Pt.at g2 0) i 1) k_3 rfl .h rfl (by kernel_rfl) (by kernel_rfl) ?_
     intro w_4 k_4
     refine WL_nil <| At_in <| At_go <| W_q [] (.n 16 (I (w64 (i + 1))) (.ss (.kkkk (.kkkk .z)))) qe (by kernel_rfl) ?_
     exact At_rd (v, w64 (i + 1)) (Option.some.inj hm).symm ⟨v, w64 (i + 1), rfl, rfl, k_4⟩ (by kernel_rfl)
   rw [if_neg hc1] at hm
   refine W_exit (At_te (At_te (At_ie ?_)))
   have hm := exit_of hm hr0
   refine At_go <| W_seq <| W_reg <| WLs 1 [] (.n 37 (sl A_b b.length c_b) (.ss (.kkkk (.kkk .z)))) qe (by kernel_rfl) ?_
   refine WL_op ?_
   obtain ⟨r_, h_r_, hm⟩ := ob hm
   refine Op_call [] 38 _ yz_go94 (by kernel_rfl) (c_r03_Words (F := N0) (O := N0) _ _ _ _ (Ro.n0 (h_b.cx k_3)) rfl hc_b (Cx.refl _) _ h_r_) ?_
   rintro e_ w_5 ⟨rfl, k_5⟩
   have k_6 := k_3.call k_5
   refine ⟨.tup [.agg [.ar e64 r_.1], I r_.2], rfl, ?_⟩
   refine WLs 3 [] (.n 39 (.agg [.ar e64 r_.1]) (.n 40 (I r_.2) (.ss .a))) qe (by kernel_rfl) ?_
   refine WL_op <| Op_alloc [] 17 [.ar e64 (Vec.rep 16 (0 : UInt64))] (by kernel_rfl) k_6 ?_
   intro g3 w_6 k_7
   refine WL_op <| Op_b [] 3 (.agg [.ar e64 r_.1]) [.ar e64 r_.1] (Pt.at g3 0) k_7 rfl .all (by kernel_rfl) (by kernel_rfl) ?_
   intro w_7 k_8
   refine WLs 1 [] (.k (.ss .a)) qe (by kernel_rfl) ?_
   refine WL_nil <| At_go <| W_seq <| W_reg <| WLs 6 [] (.n 41 (.agg [.ar e64 s_]) (.n 42 (.agg [.ar e64 r_.1]) (.n 43 (.u64 lo) (.n 44 (.u64 hi) (.n 45 (.b last) (.n 46 (.b node) (.ssss (.s .a)))))))) (qT k_8 2 rfl 0 8 [.ar e64 s_] (by kernel_rfl) (by decide) <| qT k_8 3 rfl 0 16 [.ar e64 r_.1] (by kernel_rfl) (by decide) <| qe) (by kernel_rfl) ?_
   refine WL_op ?_
   obtain ⟨r_1, h_r_1, hm⟩ := ob hm
   refine Op_call [] 47 _ yz_go95 (by kernel_rfl) (c_r03_F (F := N0) (O := N0) _ _ _ _ _ _ (Cx.refl _) _ h_r_1) ?_
   rintro e_ w_8 ⟨rfl, k_9⟩
   have k_10 := k_8.call k_9
   refine ⟨.agg [.ar e64 r_1], rfl, ?_⟩
   have k_11 := k_10.sel (.kk (.k .z))
   refine WL_op ?_
   have k_12 := k_11.sel (.kk (.k .e))
   refine Op_b [] 2 (.agg [.ar e64 r_1]) [.ar e64 r_1] (Pt.at g2 0) k_12 rfl .all (by kernel_rfl) (by kernel_rfl) ?_
   intro w_9 k_13
   refine WL_nil <| At_go <| W_seq <| W_seq <| W_q [] (.n 19 (I 0) (.ssss (.sss .a))) qe (by kernel_rfl) ?_
   refine At_go <| W_block <| W_lp (m_r05_in_l1 r_1) (fun s L wr => ∃ (h1 : Vec UInt64 16) (i1 : Int), (h1, i1) = s ∧ L = [(8, pt g 0), (14, pt g1 0), (15, pt g2 0), (19, I i1)] ∧ Cx F O w wr [Bx 108 g [.ar e64 h1], Bx 108 g1 [.ar e64 (Vec.rep 16 (0 : UInt64))], Bx 150 g2 [.ar e64 r_1]]) (h, (0 : Int)) r hm ⟨h, (0 : Int), rfl, rfl, k_13⟩ (by kernel_rfl) ?_
   intro s0_ L_ w_10 y0 hrel hstep hr0
   obtain ⟨h1, i1, rfl, rfl, k_14⟩ := hrel
   have hm := hstep; simp only [m_r05_in_l1] at hm
   clear hstep
   refine W_seq <| W_seq <| W_q [] (.n 49 (.b (decide (i1 < 8))) .a) qe (by kernel_rfl) ?_
   refine At_go <| W_condp (i1 < 8) (by kernel_rfl) (fun hc2 => ?_) (fun hc2 => ?_)
   · rw [if_pos hc2] at hm
     refine W_skip <| At_go <| W_seq <| W_block <| W_reg ?_
     obtain ⟨x_2, h_x_2, hm⟩ := ob hm
     obtain ⟨x_3, h_x_3, hm⟩ := ob hm
     refine WLs 5 [] (.n 55 (.u64 x_2) (.n 56 (.v (.pointer (ixA (some ⟨g, 0, none⟩) i1 1))) (.s .a))) (qV (k_14.vrd 2 rfl e64 r_1 0 (by kernel_rfl)) h_x_2 rfl (.u64 x_2) rfl <| qI g 0 h_x_3 <| qe) (by kernel_rfl) ?_
     refine WL_op ?_
     obtain ⟨v1, h_v1, hm⟩ := nm hm
     refine Op_vs (E := e64) (kk := 0) [] 0 (.u64 x_2) [.u64 x_2] h_v1 h_x_3 (Pt.ix0 (Pt.at g 0) i1 1) k_14 rfl .h rfl (by kernel_rfl) (by kernel_rfl) ?_
     intro w_11 k_15
     refine WL_nil <| At_in <| At_go <| W_q [] (.n 19 (I (w64 (i1 + 1))) (.ss (.kkk .z))) qe (by kernel_rfl) ?_
     exact At_rd (v1, w64 (i1 + 1)) (Option.some.inj hm).symm ⟨v1, w64 (i1 + 1), rfl, rfl, k_15⟩ (by kernel_rfl)
   rw [if_neg hc2] at hm
   refine W_exit (At_te (At_te (At_ie ?_)))
   have hm := exit_of hm hr0
   refine At_go <| W_seq <| W_reg <| WLs 1 [] (.n 57 (.agg [.ar e64 h1]) (.ss (.k .z))) (qT k_14 0 rfl 0 16 [.ar e64 h1] (by kernel_rfl) (by decide) <| qe) (by kernel_rfl) ?_
   refine WL_op <| Op_b [] 1 (.agg [.ar e64 h1]) [.ar e64 h1] (Pt.at g1 0) k_14 rfl .all (by kernel_rfl) (by kernel_rfl) ?_
   intro w_12 k_16
   have k_17 := k_16.sel (.s (.k .z))
   refine WL_nil <| At_go <| W_ret (At_tr ?_)
   obtain rfl := Option.some.inj hm
   refine At_rt [.agg [.ar e64 h1]] (qo (.agg [.ar e64 h1]) <| qc (fun w => Rd w (some ⟨g1, 0, none⟩) (SV.cl [.ar e64 h1])) (k_17.brd 0 rfl) <| qe) (by kernel_rfl) ?_
   have k_18 := k_17.sel .z
   exact ⟨rfl, k_18⟩
 rw [if_neg hc] at hm
 refine W_skip <| At_go <| W_seq <| W_reg <| WL_op <| Op_alloc [] 20 [.ar e32 (Vec.rep 8 (0 : UInt32))] (by kernel_rfl) k_1 ?_
 intro g4 w_13 k_19
 refine WL_nil <| At_go <| W_seq <| W_seq <| W_q [] (.n 21 (I 0) (.k (.s (.kkkk (.s .a))))) qe (by kernel_rfl) ?_
 refine At_go <| W_block <| W_lp (m_r05_in_l2 h b lo last node) (fun s L wr => ∃ (s_1 : Vec UInt32 8) (i2 : Int), (s_1, i2) = s ∧ L = [(2, sl A_b b.length c_b), (3, .u64 lo), (5, .b last), (6, .b node), (8, pt g 0), (14, pt g1 0), (20, pt g4 0), (21, I i2)] ∧ Cx F O w wr [Bx 108 g [.ar e64 h], Bx 108 g1 [.ar e64 (Vec.rep 16 (0 : UInt64))], Bx 154 g4 [.ar e32 s_1]]) ((Vec.rep 8 (0 : UInt32)), (0 : Int)) r hm ⟨(Vec.rep 8 (0 : UInt32)), (0 : Int), rfl, rfl, k_19⟩ (by kernel_rfl) ?_
 intro s0_ L_ w_14 y0 hrel hstep hr0
 obtain ⟨s_1, i2, rfl, rfl, k_20⟩ := hrel
 have hm := hstep; simp only [m_r05_in_l2] at hm
 clear hstep
 refine W_seq <| W_seq <| W_q [] (.n 59 (.b (decide (i2 < 8))) .a) qe (by kernel_rfl) ?_
 refine At_go <| W_condp (i2 < 8) (by kernel_rfl) (fun hc3 => ?_) (fun hc3 => ?_)
 · rw [if_pos hc3] at hm
   refine W_skip <| At_go <| W_seq <| W_block <| W_reg ?_
   obtain ⟨x_4, h_x_4, hm⟩ := ob hm
   obtain ⟨x_5, h_x_5, hm⟩ := ob hm
   refine WLs 6 [] (.n 66 (.u32 (UInt32.ofNat x_4.toNat)) (.n 67 (.v (.pointer (ixA (some ⟨g4, 0, none⟩) i2 1))) (.s .a))) (qV (k_20.vrd 0 rfl e64 h 0 (by kernel_rfl)) h_x_4 rfl (.u64 x_4) rfl <| qI g4 0 h_x_5 <| qe) (by kernel_rfl) ?_
   refine WL_op ?_
   obtain ⟨v2, h_v2, hm⟩ := nm hm
   refine Op_vs (E := e32) (kk := 0) [] 2 (.u32 (UInt32.ofNat x_4.toNat)) [.u32 (UInt32.ofNat x_4.toNat)] h_v2 h_x_5 (Pt.ix0 (Pt.at g4 0) i2 1) k_20 rfl .h rfl (by kernel_rfl) (by kernel_rfl) ?_
   intro w_15 k_21
   refine WL_nil <| At_in <| At_go <| W_q [] (.n 21 (I (w64 (i2 + 1))) (.ss (.kkkk (.kkk .z)))) qe (by kernel_rfl) ?_
   exact At_rd (v2, w64 (i2 + 1)) (Option.some.inj hm).symm ⟨v2, w64 (i2 + 1), rfl, rfl, k_21⟩ (by kernel_rfl)
 rw [if_neg hc3] at hm
 refine W_exit (At_te (At_te (At_ie ?_)))
 have hm := exit_of hm hr0
 refine At_go <| W_seq <| W_reg <| WLs 1 [] (.n 69 (sl A_b b.length c_b) (.ss (.kkkk (.kk .z)))) qe (by kernel_rfl) ?_
 refine WL_op ?_
 obtain ⟨r_2, h_r_2, hm⟩ := ob hm
 refine Op_call [] 70 _ yz_go96 (by kernel_rfl) (c_r04_Words (F := N0) (O := N0) _ _ _ _ (Ro.n0 (h_b.cx k_20)) rfl hc_b (Cx.refl _) _ h_r_2) ?_
 rintro e_ w_16 ⟨rfl, k_22⟩
 have k_23 := k_20.call k_22
 refine ⟨.tup [.agg [.ar e32 r_2.1], I r_2.2], rfl, ?_⟩
 refine WLs 3 [] (.n 71 (.agg [.ar e32 r_2.1]) (.n 72 (I r_2.2) (.ss .a))) qe (by kernel_rfl) ?_
 refine WL_op <| Op_alloc [] 22 [.ar e32 (Vec.rep 16 (0 : UInt32))] (by kernel_rfl) k_23 ?_
 intro g5 w_17 k_24
 refine WL_op <| Op_b [] 3 (.agg [.ar e32 r_2.1]) [.ar e32 r_2.1] (Pt.at g5 0) k_24 rfl .all (by kernel_rfl) (by kernel_rfl) ?_
 intro w_18 k_25
 refine WLs 1 [] (.k (.ss .a)) qe (by kernel_rfl) ?_
 refine WL_nil <| At_go <| W_seq <| W_reg <| WLs 5 [] (.n 73 (.agg [.ar e32 s_1]) (.n 74 (.agg [.ar e32 r_2.1]) (.n 75 (.u64 lo) (.n 76 (.b last) (.n 77 (.b node) (.ssss .a)))))) (qT k_25 2 rfl 0 8 [.ar e32 s_1] (by kernel_rfl) (by decide) <| qT k_25 3 rfl 0 16 [.ar e32 r_2.1] (by kernel_rfl) (by decide) <| qe) (by kernel_rfl) ?_
 refine WL_op ?_
 obtain ⟨r_3, h_r_3, hm⟩ := ob hm
 refine Op_call [] 78 _ yz_go97 (by kernel_rfl) (c_r04_F (F := N0) (O := N0) _ _ _ _ _ (Cx.refl _) _ h_r_3) ?_
 rintro e_ w_19 ⟨rfl, k_26⟩
 have k_27 := k_25.call k_26
 refine ⟨.agg [.ar e32 r_3], rfl, ?_⟩
 have k_28 := k_27.sel (.kk (.k .z))
 refine WL_op ?_
 have k_29 := k_28.sel (.kk (.k .e))
 refine Op_b [] 2 (.agg [.ar e32 r_3]) [.ar e32 r_3] (Pt.at g4 0) k_29 rfl .all (by kernel_rfl) (by kernel_rfl) ?_
 intro w_20 k_30
 refine WL_nil <| At_go <| W_seq <| W_seq <| W_q [] (.n 24 (I 0) (.ssss (.ss .a))) qe (by kernel_rfl) ?_
 refine At_go <| W_block <| W_lp (m_r05_in_l3 r_3) (fun s L wr => ∃ (h2 : Vec UInt64 16) (i3 : Int), (h2, i3) = s ∧ L = [(8, pt g 0), (14, pt g1 0), (20, pt g4 0), (24, I i3)] ∧ Cx F O w wr [Bx 108 g [.ar e64 h2], Bx 108 g1 [.ar e64 (Vec.rep 16 (0 : UInt64))], Bx 154 g4 [.ar e32 r_3]]) (h, (0 : Int)) r hm ⟨h, (0 : Int), rfl, rfl, k_30⟩ (by kernel_rfl) ?_
 intro s0_ L_ w_21 y0 hrel hstep hr0
 obtain ⟨h2, i3, rfl, rfl, k_31⟩ := hrel
 have hm := hstep; simp only [m_r05_in_l3] at hm
 clear hstep
 refine W_seq <| W_seq <| W_q [] (.n 80 (.b (decide (i3 < 8))) .a) qe (by kernel_rfl) ?_
 refine At_go <| W_condp (i3 < 8) (by kernel_rfl) (fun hc4 => ?_) (fun hc4 => ?_)
 · rw [if_pos hc4] at hm
   refine W_skip <| At_go <| W_seq <| W_block <| W_reg ?_
   obtain ⟨x_6, h_x_6, hm⟩ := ob hm
   obtain ⟨x_7, h_x_7, hm⟩ := ob hm
   refine WLs 6 [] (.n 87 (.u64 (UInt64.ofNat x_6.toNat)) (.n 88 (.v (.pointer (ixA (some ⟨g, 0, none⟩) i3 1))) (.s .a))) (qV (k_31.vrd 2 rfl e32 r_3 0 (by kernel_rfl)) h_x_6 rfl (.u32 x_6) rfl <| qI g 0 h_x_7 <| qe) (by kernel_rfl) ?_
   refine WL_op ?_
   obtain ⟨v3, h_v3, hm⟩ := nm hm
   refine Op_vs (E := e64) (kk := 0) [] 0 (.u64 (UInt64.ofNat x_6.toNat)) [.u64 (UInt64.ofNat x_6.toNat)] h_v3 h_x_7 (Pt.ix0 (Pt.at g 0) i3 1) k_31 rfl .h rfl (by kernel_rfl) (by kernel_rfl) ?_
   intro w_22 k_32
   refine WL_nil <| At_in <| At_go <| W_q [] (.n 24 (I (w64 (i3 + 1))) (.ss (.kkk .z))) qe (by kernel_rfl) ?_
   exact At_rd (v3, w64 (i3 + 1)) (Option.some.inj hm).symm ⟨v3, w64 (i3 + 1), rfl, rfl, k_32⟩ (by kernel_rfl)
 rw [if_neg hc4] at hm
 refine W_exit (At_te (At_te (At_ie ?_)))
 have hm := exit_of hm hr0
 refine At_go <| W_seq <| W_reg <| WLs 1 [] (.n 89 (.agg [.ar e64 h2]) (.ss (.k .z))) (qT k_31 0 rfl 0 16 [.ar e64 h2] (by kernel_rfl) (by decide) <| qe) (by kernel_rfl) ?_
 refine WL_op <| Op_b [] 1 (.agg [.ar e64 h2]) [.ar e64 h2] (Pt.at g1 0) k_31 rfl .all (by kernel_rfl) (by kernel_rfl) ?_
 intro w_23 k_33
 have k_34 := k_33.sel (.s (.k .z))
 refine WL_nil <| At_go <| W_ret ?_
 obtain rfl := Option.some.inj hm
 refine At_rt [.agg [.ar e64 h2]] (qo (.agg [.ar e64 h2]) <| qc (fun w => Rd w (some ⟨g1, 0, none⟩) (SV.cl [.ar e64 h2])) (k_34.brd 0 rfl) <| qe) (by kernel_rfl) ?_
 have k_35 := k_34.sel .z
 exact ⟨rfl, k_35⟩

-- (*quern/quernref05.Node).passed
theorem c_r05_Node_passed {F O : Nat → Prop} {w : World} (n_Kind : Int) (n_P_Digest : Int) (n_P_Key : Int) (n_P_Fanout : Int) (n_P_Depth : Int) (n_P_Leaf : UInt32) (n_P_Offset : UInt64) (n_P_Xof : UInt32) (n_P_NodeDepth : Int) (n_P_Inner : Int) (n_P_Salt : List UInt8) (n_P_Personal : List UInt8) (n_Key : List UInt8) (n_Last : Bool) (n_From : Vec UInt64 16) (n_Old : Bool) (n_Lo : UInt64) (n_Hi : UInt64) (n_Msg : List UInt8) (n_Count : UInt64) (g_n : Nat) (A_n_P_Salt : Option Addr) (n_n_P_Salt : Nat) (c_n_P_Salt : Nat) (A_n_P_Personal : Option Addr) (n_n_P_Personal : Nat) (c_n_P_Personal : Nat) (A_n_Key : Option Addr) (n_n_Key : Nat) (c_n_Key : Nat) (A_n_Msg : Option Addr) (n_n_Msg : Nat) (c_n_Msg : Nat) (h_n_P_Salt : Ro F w A_n_P_Salt (e8.all n_P_Salt)) (hn_n_P_Salt : n_P_Salt.length = n_n_P_Salt) (hc_n_P_Salt : n_n_P_Salt ≤ c_n_P_Salt) (h_n_P_Personal : Ro F w A_n_P_Personal (e8.all n_P_Personal)) (hn_n_P_Personal : n_P_Personal.length = n_n_P_Personal) (hc_n_P_Personal : n_n_P_Personal ≤ c_n_P_Personal) (h_n_Key : Ro F w A_n_Key (e8.all n_Key)) (hn_n_Key : n_Key.length = n_n_Key) (hc_n_Key : n_n_Key ≤ c_n_Key) (k : Cx F O w w [Bx 110 g_n [I n_Kind, I n_P_Digest, I n_P_Key, I n_P_Fanout, I n_P_Depth, .u32 n_P_Leaf, .u64 n_P_Offset, .u32 n_P_Xof, I n_P_NodeDepth, I n_P_Inner, sl A_n_P_Salt n_n_P_Salt c_n_P_Salt, sl A_n_P_Personal n_n_P_Personal c_n_P_Personal, sl A_n_Key n_n_Key c_n_Key, .b n_Last, .ar e64 n_From, .b n_Old, .u64 n_Lo, .u64 n_Hi, sl A_n_Msg n_n_Msg c_n_Msg, .u64 n_Count], Ow e8 A_n_Msg n_n_Msg c_n_Msg n_Msg]) (r : (Vec UInt64 16 × UInt64 × UInt64 × Int × Int × Int × Int × Int × Int × UInt32 × UInt64 × UInt32 × Int × Int × Bool × Vec UInt64 16 × Bool × UInt64 × UInt64 × List UInt8 × UInt64)) (hm : m_r05_Node_passed n_Kind n_P_Digest n_P_Key n_P_Fanout n_P_Depth n_P_Leaf n_P_Offset n_P_Xof n_P_NodeDepth n_P_Inner n_P_Salt n_P_Personal n_Key n_Last n_From n_Old n_Lo n_Hi n_Msg n_Count = some r) :
    Calls Tryz.prog 72 (vals [pt g_n 0]) w (fun e w' => ∃ A n c, r.2.2.2.2.2.2.2.2.2.2.2.2.2.2.2.2.2.2.2.1.length = n ∧ e = .returned (SV.val (.tup [.agg [.ar e64 r.1], .u64 r.2.1, .u64 r.2.2.1, I r.2.2.2.1])) ∧ Cx F O w w' [Bx 110 g_n [I r.2.2.2.2.1, I r.2.2.2.2.2.1, I r.2.2.2.2.2.2.1, I r.2.2.2.2.2.2.2.1, I r.2.2.2.2.2.2.2.2.1, .u32 r.2.2.2.2.2.2.2.2.2.1, .u64 r.2.2.2.2.2.2.2.2.2.2.1, .u32 r.2.2.2.2.2.2.2.2.2.2.2.1, I r.2.2.2.2.2.2.2.2.2.2.2.2.1, I r.2.2.2.2.2.2.2.2.2.2.2.2.2.1, sl A_n_P_Salt n_n_P_Salt c_n_P_Salt, sl A_n_P_Personal n_n_P_Personal c_n_P_Personal, sl A_n_Key n_n_Key c_n_Key, .b r.2.2.2.2.2.2.2.2.2.2.2.2.2.2.1, .ar e64 r.2.2.2.2.2.2.2.2.2.2.2.2.2.2.2.1, .b r.2.2.2.2.2.2.2.2.2.2.2.2.2.2.2.2.1, .u64 r.2.2.2.2.2.2.2.2.2.2.2.2.2.2.2.2.2.1, .u64 r.2.2.2.2.2.2.2.2.2.2.2.2.2.2.2.2.2.2.1, sl A n c, .u64 r.2.2.2.2.2.2.2.2.2.2.2.2.2.2.2.2.2.2.2.2], Ow e8 A n c r.2.2.2.2.2.2.2.2.2.2.2.2.2.2.2.2.2.2.2.1]) := by
 unfold m_r05_Node_passed at hm
 subst hn_n_P_Salt
 subst hn_n_P_Personal
 subst hn_n_Key
 obtain rfl := k.len 1 rfl
 refine calls [pt g_n 0] Tryz.func72 rfl (of_decide_eq_true (by kernel_rfl)) ?_
 refine W_seq <| W_reg <| WL_op <| Op_alloc [] 2 [.ar e64 (Vec.rep 16 (0 : UInt64))] (by kernel_rfl) k ?_
 intro g w_ k_
 refine WLs 3 [] .a qe (by kernel_rfl) ?_
 refine WL_nil <| At_go <| W_seq <| W_reg <| WLs 1 [] (.n 11 (pt g_n 0) .a) qe (by kernel_rfl) ?_
 refine WL_op ?_
 obtain ⟨r_, h_r_, hm⟩ := ob hm
 obtain ⟨F1, O1, kin, hO, hre, hF, hb⟩ := k_.go (.i (.i (.r .e)))
 refine Op_call [] 12 _ yz_go93 (by kernel_rfl) (c_r05_Node_first (F := F1) (O := O1) _ _ _ _ _ _ _ _ _ _ _ _ _ _ _ _ _ _ _ _ _ _ _ _ _ _ _ _ _ _ _ _ _ (Ro.of_old h_n_P_Salt k_ hF) rfl hc_n_P_Salt (Ro.of_old h_n_P_Personal k_ hF) rfl hc_n_P_Personal (Ro.of_old h_n_Key k_ hF) rfl hc_n_Key kin _ h_r_) ?_
 rintro e_ w_1 ⟨A0, _, c0, rfl, rfl, k_1⟩
 have k_2 := hb w_1 _ _ k_1 (.c (.c .n))
 refine ⟨.agg [.ar e64 r_.1], rfl, ?_⟩
 refine WL_op <| Op_alloc [] 6 [.ar e64 (Vec.rep 16 (0 : UInt64))] (by kernel_rfl) k_2 ?_
 intro g1 w_2 k_3
 refine WL_op <| Op_b [] 3 (.agg [.ar e64 r_.1]) [.ar e64 r_.1] (Pt.at g1 0) k_3 rfl .all (by kernel_rfl) (by kernel_rfl) ?_
 intro w_3 k_4
 refine WL_nil <| At_go <| W_seq <| W_q [] (.n 7 (.u64 r_.2.2.2.2.2.2.2.2.2.2.2.2.2.2.1) (.k (.ss .a))) (qs g_n 0 <| qs g_n 0 <| qB k_4 0 rfl 31 (.u64 r_.2.2.2.2.2.2.2.2.2.2.2.2.2.2.1) (by kernel_rfl) <| qe) (by kernel_rfl) ?_
 refine At_go <| W_seq <| W_q [] (.n 8 (.u64 r_.2.2.2.2.2.2.2.2.2.2.2.2.2.2.2.1) .a) (qs g_n 0 <| qs g_n 0 <| qB k_4 0 rfl 32 (.u64 r_.2.2.2.2.2.2.2.2.2.2.2.2.2.2.2.1) (by kernel_rfl) <| qe) (by kernel_rfl) ?_
 refine At_go <| W_seq <| W_reg <| WLs 4 [] (.n 24 (I r_.2.1) .a) (qs g_n 0 <| qs g_n 0 <| qB k_4 0 rfl 0 (I r_.2.1) (by kernel_rfl) <| qe) (by kernel_rfl) ?_
 refine WL_op ?_
 have k_5 := k_4.sel (.kkkk .e)
 obtain ⟨r_1, h_r_1, hm⟩ := ob hm
 refine Op_call [] 25 _ yz_go77 (by kernel_rfl) (c_r05_Block (F := N0) (O := N0) _ (Cx.refl _) _ h_r_1) ?_
 rintro e_ w_4 ⟨rfl, k_6⟩
 have k_7 := k_5.call k_6
 refine ⟨I r_1, rfl, ?_⟩
 refine WLs 1 [] (.n 9 (I r_1) (.ss .a)) qe (by kernel_rfl) ?_
 refine WL_nil <| At_go <| W_seq <| W_q [] (.n 10 (I 0) .a) qe (by kernel_rfl) ?_
 refine At_go <| W_seq <| W_block <| W_lp (m_r05_Node_passed_l0 r_ r_1) (fun s L wr => ∃ (h : Vec UInt64 16) (lo : UInt64) (hi : UInt64) (at_ : Int), (h, lo, hi, at_) = s ∧ L = [(0, pt g_n 0), (2, pt g 0), (6, pt g1 0), (7, .u64 lo), (8, .u64 hi), (9, I r_1), (10, I at_)] ∧ Cx F O w wr [Bx 110 g_n [I r_.2.1, I r_.2.2.1, I r_.2.2.2.1, I r_.2.2.2.2.1, I r_.2.2.2.2.2.1, .u32 r_.2.2.2.2.2.2.1, .u64 r_.2.2.2.2.2.2.2.1, .u32 r_.2.2.2.2.2.2.2.2.1, I r_.2.2.2.2.2.2.2.2.2.1, I r_.2.2.2.2.2.2.2.2.2.2.1, sl A_n_P_Salt n_P_Salt.length c_n_P_Salt, sl A_n_P_Personal n_P_Personal.length c_n_P_Personal, sl A_n_Key n_Key.length c_n_Key, .b r_.2.2.2.2.2.2.2.2.2.2.2.1, .ar e64 r_.2.2.2.2.2.2.2.2.2.2.2.2.1, .b r_.2.2.2.2.2.2.2.2.2.2.2.2.2.1, .u64 r_.2.2.2.2.2.2.2.2.2.2.2.2.2.2.1, .u64 r_.2.2.2.2.2.2.2.2.2.2.2.2.2.2.2.1, sl A0 r_.2.2.2.2.2.2.2.2.2.2.2.2.2.2.2.2.1.length c0, .u64 r_.2.2.2.2.2.2.2.2.2.2.2.2.2.2.2.2.2], Ow e8 A0 r_.2.2.2.2.2.2.2.2.2.2.2.2.2.2.2.2.1.length c0 r_.2.2.2.2.2.2.2.2.2.2.2.2.2.2.2.2.1, Bx 108 g [.ar e64 (Vec.rep 16 (0 : UInt64))], Bx 108 g1 [.ar e64 h]]) (r_.1, r_.2.2.2.2.2.2.2.2.2.2.2.2.2.2.1, r_.2.2.2.2.2.2.2.2.2.2.2.2.2.2.2.1, (0 : Int)) r hm ⟨r_.1, r_.2.2.2.2.2.2.2.2.2.2.2.2.2.2.1, r_.2.2.2.2.2.2.2.2.2.2.2.2.2.2.2.1, (0 : Int), rfl, rfl, k_7⟩ (by kernel_rfl) ?_
 intro s0_ L_ w_5 y0 hrel hstep hr0
 obtain ⟨h, lo, hi, at_, rfl, rfl, k_8⟩ := hrel
 have hm := hstep; simp only [m_r05_Node_passed_l0] at hm
 clear hstep
 refine W_seq <| W_seq <| W_q [] (.n 34 (.b (decide ((w64 (at_ + r_1)) < ((r_.2.2.2.2.2.2.2.2.2.2.2.2.2.2.2.2.1.length : Nat) : Int)))) .a) (qs g_n 0 <| qs g_n 0 <| qB k_8 0 rfl 33 (sl A0 r_.2.2.2.2.2.2.2.2.2.2.2.2.2.2.2.2.1.length c0) (by kernel_rfl) <| qe) (by kernel_rfl) ?_
 refine At_go <| W_condp ((w64 (at_ + r_1)) < ((r_.2.2.2.2.2.2.2.2.2.2.2.2.2.2.2.2.1.length : Nat) : Int)) (by kernel_rfl) (fun hc => ?_) (fun hc => ?_)
 · rw [if_pos hc] at hm
   refine W_skip <| At_go <| W_block <| W_seq <| W_reg <| WLs 4 [] (.n 36 (.u64 lo) (.n 37 (.u64 hi) (.n 39 (.u64 (UInt64.ofInt r_1)) (.s .a)))) qe (by kernel_rfl) ?_
   refine WL_op ?_
   obtain ⟨r_2, h_r_2, hm⟩ := ob hm
   refine Op_call [] 40 _ yz_go73 (by kernel_rfl) (c_r01_Add (F := N0) (O := N0) _ _ _ (Cx.refl _) _ h_r_2) ?_
   rintro e_ w_6 ⟨rfl, k_9⟩
   have k_10 := k_8.call k_9
   refine ⟨.tup [.u64 r_2.1, .u64 r_2.2.1, .b r_2.2.2], rfl, ?_⟩
   refine WLs 6 [] (.n 7 (.u64 r_2.1) (.n 8 (.u64 r_2.2.1) (.ssss (.kkk (.ss .a))))) qe (by kernel_rfl) ?_
   refine WL_nil <| At_go <| W_seq ?_
   have k_11 := k_10.drew 1
   refine W_m yz_mixed (.q 4 1 (.q 9 1 (.q 10 1 (.q 12 1 (.q 13 1 (.q 0 2 (.q 1 2 (.q 2 2 (.q 3 1 (.q 5 2 (.q 6 2 (.q 7 2 (.q 8 1 (.op 11 (.op 14 (.op 15 .nil)))))))))))))))) [11, 14, 15] k_11 (.c (.kkkk .e) (.c (.kkkk .e) (.c (.kk (.k .z)) .l))) (by kernel_rfl) (fun _ => ?_)
   refine MXq 5 1 [] (.n 48 (.agg [.ar e64 h]) (.n 53 (I at_) (.n 54 (I r_1) (.n 56 (.u64 r_2.1) (.n 57 (.u64 r_2.2.1) .a))))) (fun x hx => qT hx 3 rfl 0 16 [.ar e64 h] (by kernel_rfl) (by decide) <| qe) (by kernel_rfl) (fun _ => ?_)
   refine MXq 3 2 [] (.n 46 (pt g_n 0) .a) (fun x hx => qs g_n 0 <| qs g_n 0 <| qe) (by kernel_rfl) (fun _ => ?_)
   refine MXq 1 1 [] (.n 47 (I r_.2.1) (.s .a)) (fun x hx => qB hx 0 rfl 0 (I r_.2.1) (by kernel_rfl) <| qe) (by kernel_rfl) (fun _ => ?_)
   refine MXq 3 2 [] (.n 51 (pt g_n 33) .a) (fun x hx => qs g_n 0 <| qs g_n 0 <| qe) (by kernel_rfl) (fun _ => ?_)
   refine MXq 1 1 [] (.n 52 (sl A0 r_.2.2.2.2.2.2.2.2.2.2.2.2.2.2.2.2.1.length c0) (.s .a)) (fun x hx => qB hx 0 rfl 33 (sl A0 r_.2.2.2.2.2.2.2.2.2.2.2.2.2.2.2.2.1.length c0) (by kernel_rfl) <| qe) (by kernel_rfl) (fun _ => ?_)
   refine MX_op (by kernel_rfl) rfl ?_
   obtain ⟨r_3, h_r_3, hm⟩ := ob hm
   refine Op_call [] 55 _ yz_go76 (by kernel_rfl) (c_r05_cut (F := N0) (O := N0) _ _ _ _ _ _ (Ro.n0 (k_11.rd 1 rfl)) (k_11.len 1 rfl) (k_11.lec 1 rfl) (Cx.refl _) _ h_r_3) ?_
   rintro e_ w_7 ⟨A1, _, c1, rfl, rfl, k_12⟩
   have k_13 := k_11.call k_12
   refine ⟨sl A1 r_3.length c1, rfl, ?_⟩
   refine ⟨(k_13.sel (.kkkk .z)), fun _ => ?_⟩
   refine MX_op (by kernel_rfl) rfl ?_
   obtain ⟨r_4, h_r_4, hm⟩ := ob hm
   refine Op_call [] 58 _ yz_go75 (by kernel_rfl) (c_r05_in (F := N0) (O := N0) _ _ _ _ _ _ _ _ _ _ (Ro.n0 (k_13.rd 4 rfl)) (k_13.len 4 rfl) (k_13.lec 4 rfl) (Cx.refl _) _ h_r_4) ?_
   rintro e_ w_8 ⟨rfl, k_14⟩
   have k_15 := k_13.call k_14
   refine ⟨.agg [.ar e64 r_4], rfl, ?_⟩
   have k_16 := k_15.sel (.kkkk .z)
   refine ⟨k_16, fun _ => ?_⟩
   refine MX_op (by kernel_rfl) rfl <| Op_b [] 3 (.agg [.ar e64 r_4]) [.ar e64 r_4] (Pt.at g1 0) k_16 rfl .all (by kernel_rfl) (by kernel_rfl) ?_
   intro w_9 k_17
   refine ⟨(k_17.sel (.kk (.k .z))), fun _ => ?_⟩
   refine MX_nil <| At_go <| W_q [] (.n 10 (I (w64 (at_ + r_1))) (.ssss (.ssss (.s (.kkkk (.kk .z)))))) qe (by kernel_rfl) ?_
   refine At_in ?_
   exact At_rd (r_4, r_2.1, r_2.2.1, w64 (at_ + r_1)) (Option.some.inj hm).symm ⟨r_4, r_2.1, r_2.2.1, w64 (at_ + r_1), rfl, rfl, k_17⟩ (by kernel_rfl)
 rw [if_neg hc] at hm
 refine W_exit (At_te (At_te (At_ie ?_)))
 have hm := exit_of hm hr0
 refine At_go <| W_seq <| W_reg <| WLs 4 [] (.n 62 (.agg [.ar e64 h]) (.n 63 (.u64 lo) (.n 64 (.u64 hi) (.n 65 (I at_) (.ss (.k .z)))))) (qT k_8 3 rfl 0 16 [.ar e64 h] (by kernel_rfl) (by decide) <| qe) (by kernel_rfl) ?_
 refine WL_op <| Op_b [] 2 (.agg [.ar e64 h]) [.ar e64 h] (Pt.at g 0) k_8 rfl .all (by kernel_rfl) (by kernel_rfl) ?_
 intro w_10 k_18
 have k_19 := k_18.sel (.kk (.k .z))
 refine WLs 3 [] (.n 3 (.u64 lo) (.n 4 (.u64 hi) (.n 5 (I at_) (.ssss .a)))) qe (by kernel_rfl) ?_
 refine WL_nil <| At_go <| W_ret ?_
 obtain rfl := Option.some.inj hm
 refine At_rt [.agg [.ar e64 h], .u64 lo, .u64 hi, I at_] (qo (.agg [.ar e64 h]) <| qc (fun w => Rd w (some ⟨g, 0, none⟩) (SV.cl [.ar e64 h])) (k_19.brd 2 rfl) <| qe) (by kernel_rfl) ?_
 have k_20 := k_19.sel (.kk .z)
 exact ⟨A0, r_.2.2.2.2.2.2.2.2.2.2.2.2.2.2.2.2.1.length, c0, k_20.len 1 rfl, rfl, k_20⟩

-- quern/quernref01.Store
theorem c_r01_Store {F O : Nat → Prop} {w : World} (w_ : UInt64) (n : Int) (k : Cx F O w w []) (r : (List UInt8)) (hm : m_r01_Store w_ n = some r) :
    Calls Tryz.prog 48 (vals [.u64 w_, I n]) w (fun e w' => ∃ A n1 c, r.length = n1 ∧ e = .returned (SV.val (sl A n1 c)) ∧ Cx F O w w' [Ow e8 A n1 c r]) := by
 unfold m_r01_Store at hm
 refine calls [.u64 w_, I n] Tryz.func48 rfl (of_decide_eq_true (by kernel_rfl)) ?_
 refine W_seq <| W_q [] .a qe (by kernel_rfl) ?_
 refine At_go <| W_seq <| W_q [] (.n 5 (sl none 0 0) .a) qe (by kernel_rfl) ?_
 refine At_go <| W_seq <| W_seq <| W_q [] (.n 6 (I 0) .a) qe (by kernel_rfl) ?_
 refine At_go <| W_block ?_
 have k_1 := k.nil e8
 refine W_lp (m_r01_Store_l0 n) (fun s L wr => ∃ (w_1 : UInt64) (b : List UInt8) (i : Int) (A0 : Option Addr) (n2 : Nat) (c0 : Nat), (w_1, b, i) = s ∧ L = [(0, .u64 w_1), (1, I n), (5, sl A0 n2 c0), (6, I i)] ∧ b.length = n2 ∧ Cx F O w wr [Ow e8 A0 n2 c0 b]) (w_, ([] : List UInt8), (0 : Int)) r hm ⟨w_, ([] : List UInt8), (0 : Int), none, 0, 0, rfl, rfl, k_1.len 0 rfl, k_1⟩ (by kernel_rfl) ?_
 intro s0_ L_ w_2 y0 hrel hstep hr0
 obtain ⟨w_1, b, i, A0, _, c0, rfl, rfl, rfl, k_⟩ := hrel
 have hm := hstep; simp only [m_r01_Store_l0] at hm
 clear hstep
 refine W_seq <| W_seq <| W_q [] (.n 9 (.b (decide (i < n))) .a) qe (by kernel_rfl) ?_
 refine At_go <| W_condp (i < n) (by kernel_rfl) (fun hc => ?_) (fun hc => ?_)
 · rw [if_pos hc] at hm
   refine W_skip <| At_go <| W_seq <| W_block <| W_seq <| W_reg <| WLs 4 [] (.n 12 (sl A0 b.length c0) (.n 15 (.u8 (UInt8.ofNat (w_1 % 256).toNat)) (.s .a))) (qp ((256 : UInt64) ≠ 0) (by show (256 : UInt64) ≠ 0; decide) <| qe) (by kernel_rfl) ?_
   refine WL_op <| Op_mk yz_tf22 e8 [] 16 ([UInt8.ofNat (w_1 % 256).toNat] : List UInt8) [(0, .u8 (UInt8.ofNat (w_1 % 256).toNat))] [.u8 (UInt8.ofNat (w_1 % 256).toNat)] (by kernel_rfl) (by kernel_rfl) (by kernel_rfl) k_ ?_
   intro A1 w_3 k_2
   refine WL_op ?_
   obtain ⟨b1, h_b1, hm⟩ := ob hm
   obtain ⟨hz, hl⟩ := app_some h_b1
   refine Op_append (E := e8) (v := sl A1 1 1) (ys := ([UInt8.ofNat (w_1 % 256).toNat] : List UInt8)) yz_tf22 [] 17 0 (by kernel_rfl) k_2 rfl (Src.sl (k_2.rd 1 rfl) (k_2.len 1 rfl) (by rfl)) (k_2.len 1 rfl) (by have := k_2.len 0 rfl; have := (k_2.len 1 rfl); omega) ?_
   intro A2 c1 w_4 k_3
   rw [← hl] at k_3
   have k_4 := k_3.sel (.k .z)
   refine WLs 1 [] (.n 5 (sl A2 (b.length + 1) c1) (.ssss (.kk (.s .a)))) qe (by kernel_rfl) ?_
   refine WL_nil <| At_go <| W_q [] (.n 0 (.u64 (w_1 / 256)) (.k (.s .a))) (qp ((256 : UInt64) ≠ 0) (by show (256 : UInt64) ≠ 0; decide) <| qe) (by kernel_rfl) ?_
   refine At_in <| At_go <| W_q [] (.n 6 (I (w64 (i + 1))) (.kkk .z)) qe (by kernel_rfl) ?_
   exact At_rd (w_1 / 256, b1, w64 (i + 1)) (Option.some.inj hm).symm ⟨w_1 / 256, b1, w64 (i + 1), A2, b.length + 1, c1, rfl, rfl, k_4.len 0 rfl, k_4⟩ (by kernel_rfl)
 rw [if_neg hc] at hm
 refine W_exit (At_te (At_te (At_ie ?_)))
 have hm := exit_of hm hr0
 refine At_go <| W_seq <| W_q [] (.n 4 (sl A0 b.length c0) .z) qe (by kernel_rfl) ?_
 refine At_go <| W_ret ?_
 obtain rfl := Option.some.inj hm
 refine At_rt [sl A0 b.length c0] qe (by kernel_rfl) ?_
 exact ⟨A0, b.length, c0, k_.len 0 rfl, rfl, k_⟩

-- quern/quernref05.bytes
theorem c_r05_bytes {F O : Nat → Prop} {w : World} (kind : Int) (h : Vec UInt64 16) (k : Cx F O w w []) (r : (List UInt8)) (hm : m_r05_bytes kind h = some r) :
    Calls Tryz.prog 74 (vals [I kind, .agg [.ar e64 h]]) w (fun e w' => ∃ A n c, r.length = n ∧ e = .returned (SV.val (sl A n c)) ∧ Cx F O w w' [Ow e8 A n c r]) := by
 unfold m_r05_bytes at hm
 refine calls [I kind, .agg [.ar e64 h]] Tryz.func74 rfl (of_decide_eq_true (by kernel_rfl)) ?_
 refine W_seq <| W_reg <| WL_op <| Op_box [] 3 (.agg [.ar e64 h]) [.ar e64 h] (by kernel_rfl) k ?_
 intro g w_ k_
 refine WLs 1 [] (.kk .z) qe (by kernel_rfl) ?_
 refine WL_nil <| At_go <| W_seq <| W_q [] (.n 5 (sl none 0 0) .a) qe (by kernel_rfl) ?_
 refine At_go <| W_seq <| W_seq <| W_q [] (.n 6 (I 0) .a) qe (by kernel_rfl) ?_
 refine At_go <| W_block ?_
 have k_2 := k_.nil e8
 refine W_lp (m_r05_bytes_l0 kind h) (fun s L wr => ∃ (b : List UInt8) (i : Int) (A0 : Option Addr) (n0 : Nat) (c0 : Nat), (b, i) = s ∧ L = [(0, I kind), (3, pt g 0), (5, sl A0 n0 c0), (6, I i)] ∧ b.length = n0 ∧ Cx F O w wr [Bx 108 g [.ar e64 h], Ow e8 A0 n0 c0 b]) (([] : List UInt8), (0 : Int)) r hm ⟨([] : List UInt8), (0 : Int), none, 0, 0, rfl, rfl, k_2.len 1 rfl, k_2⟩ (by kernel_rfl) ?_
 intro s0_ L_ w_1 y0 hrel hstep hr0
 obtain ⟨b, i, A0, _, c0, rfl, rfl, rfl, k_1⟩ := hrel
 have hm := hstep; simp only [m_r05_bytes_l0] at hm
 clear hstep
 refine W_seq <| W_seq <| W_q [] (.n 8 (.b (decide (i < 8))) .a) qe (by kernel_rfl) ?_
 refine At_go <| W_condp (i < 8) (by kernel_rfl) (fun hc => ?_) (fun hc => ?_)
 · rw [if_pos hc] at hm
   refine W_skip <| At_go <| W_seq <| W_block ?_
   have k_3 := k_1.drew 1
   refine W_m yz_mixed (.q 0 2 (.q 4 2 (.q 1 3 (.q 2 3 (.q 3 2 (.op 5 (.q 6 2 (.op 7 (.op 8 (.q 9 3 .nil)))))))))) [5, 7, 8] k_3 (.c (.kk .e) (.c (.kk .e) (.c (.k .z) .l))) (by kernel_rfl) (fun _ => ?_)
   refine MXq 2 2 [] (.n 11 (sl A0 b.length c0) (.n 15 (I kind) (.s .a))) (fun x hx => qe) (by kernel_rfl) (fun _ => ?_)
   obtain ⟨x_0, h_x_0, hm⟩ := ob hm
   refine MXq 2 3 [] (.n 13 (.v (.pointer (ixA (some ⟨g, 0, none⟩) i 1))) .a) (fun x hx => qI g 0 h_x_0 <| qe) (by kernel_rfl) (fun _ => ?_)
   refine MXq 1 2 [] (.n 14 (.u64 x_0) (.s .a)) (fun x hx => qC (.u64 x_0) (Rd.el (k := 0) (hx.vrd 0 rfl e64 h 0 (by kernel_rfl)) h_x_0 (Pt.ix1 (some ⟨g, 0, none⟩) i 1) rfl) <| qe) (by kernel_rfl) (fun _ => ?_)
   refine MX_op (by kernel_rfl) rfl ?_
   obtain ⟨r_, h_r_, hm⟩ := ob hm
   refine Op_call [] 16 _ yz_go60 (by kernel_rfl) (c_r05_Full (F := N0) (O := N0) _ (Cx.refl _) _ h_r_) ?_
   rintro e_ w_2 ⟨rfl, k_4⟩
   have k_5 := k_3.call k_4
   refine ⟨I r_, rfl, ?_⟩
   refine ⟨k_5, fun _ => ?_⟩
   refine MXq 1 2 [] (.n 17 (I (w64 (Int.tdiv r_ 8))) (.s (.kk (.s .a)))) (fun x hx => qp ((8 : Int) ≠ (0 : Int)) (by omega) <| qe) (by kernel_rfl) (fun _ => ?_)
   refine MX_op (by kernel_rfl) rfl ?_
   obtain ⟨r_1, h_r_1, hm⟩ := ob hm
   refine Op_call [] 18 _ yz_go48 (by kernel_rfl) (c_r01_Store (F := N0) (O := N0) _ _ (Cx.refl _) _ h_r_1) ?_
   rintro e_ w_3 ⟨A1, _, c1, rfl, rfl, k_6⟩
   have k_7 := k_5.call k_6
   refine ⟨sl A1 r_1.length c1, rfl, ?_⟩
   refine ⟨(k_7.sel (.kk .z)), fun _ => ?_⟩
   refine MX_op (by kernel_rfl) rfl ?_
   obtain ⟨b1, h_b1, hm⟩ := ob hm
   obtain ⟨hz, hl⟩ := app_some h_b1
   refine Op_append (E := e8) (v := sl A1 r_1.length c1) (ys := r_1) yz_tf22 [] 19 1 (by kernel_rfl) k_7 rfl (Src.sl (k_7.rd 2 rfl) (k_7.len 2 rfl) (by rfl)) (k_7.len 2 rfl) (by have := k_7.len 1 rfl; have := (k_7.len 2 rfl); omega) ?_
   intro A2 c2 w_4 k_8
   rw [← hl] at k_8
   have k_9 := k_8.sel (.kk .z)
   refine ⟨(k_9.sel (.k .z)), fun _ => ?_⟩
   refine MXq 1 3 [] (.n 5 (sl A2 (b.length + r_1.length) c2) (.ssss (.s (.kk (.s .a))))) (fun x hx => qe) (by kernel_rfl) (fun _ => ?_)
   refine MX_nil <| At_in <| At_go <| W_q [] (.n 6 (I (w64 (i + 1))) (.kkk .z)) qe (by kernel_rfl) ?_
   exact At_rd (b1, w64 (i + 1)) (Option.some.inj hm).symm ⟨b1, w64 (i + 1), A2, b.length + r_1.length, c2, rfl, rfl, k_9.len 1 rfl, k_9⟩ (by kernel_rfl)
 rw [if_neg hc] at hm
 refine W_exit (At_te (At_te (At_ie ?_)))
 have hm := exit_of hm hr0
 refine At_go <| W_seq <| W_q [] (.n 4 (sl A0 b.length c0) .z) qe (by kernel_rfl) ?_
 refine At_go <| W_ret ?_
 obtain rfl := Option.some.inj hm
 refine At_rt [sl A0 b.length c0] qe (by kernel_rfl) ?_
 have k_10 := k_1.sel (.s (.k .e))
 exact ⟨A0, b.length, c0, k_10.len 0 rfl, rfl, k_10⟩

-- (*quern/quernref05.Node).Out
theorem c_r05_Node_Out {F O : Nat → Prop} {w : World} (n_Kind : Int) (n_P_Digest : Int) (n_P_Key : Int) (n_P_Fanout : Int) (n_P_Depth : Int) (n_P_Leaf : UInt32) (n_P_Offset : UInt64) (n_P_Xof : UInt32) (n_P_NodeDepth : Int) (n_P_Inner : Int) (n_P_Salt : List UInt8) (n_P_Personal : List UInt8) (n_Key : List UInt8) (n_Last : Bool) (n_From : Vec UInt64 16) (n_Old : Bool) (n_Lo : UInt64) (n_Hi : UInt64) (n_Msg : List UInt8) (n_Count : UInt64) (g_n : Nat) (A_n_P_Salt : Option Addr) (n_n_P_Salt : Nat) (c_n_P_Salt : Nat) (A_n_P_Personal : Option Addr) (n_n_P_Personal : Nat) (c_n_P_Personal : Nat) (A_n_Key : Option Addr) (n_n_Key : Nat) (c_n_Key : Nat) (A_n_Msg : Option Addr) (n_n_Msg : Nat) (c_n_Msg : Nat) (h_n_P_Salt : Ro F w A_n_P_Salt (e8.all n_P_Salt)) (hn_n_P_Salt : n_P_Salt.length = n_n_P_Salt) (hc_n_P_Salt : n_n_P_Salt ≤ c_n_P_Salt) (h_n_P_Personal : Ro F w A_n_P_Personal (e8.all n_P_Personal)) (hn_n_P_Personal : n_P_Personal.length = n_n_P_Personal) (hc_n_P_Personal : n_n_P_Personal ≤ c_n_P_Personal) (h_n_Key : Ro F w A_n_Key (e8.all n_Key)) (hn_n_Key : n_Key.length = n_n_Key) (hc_n_Key : n_n_Key ≤ c_n_Key) (k : Cx F O w w [Bx 110 g_n [I n_Kind, I n_P_Digest, I n_P_Key, I n_P_Fanout, I n_P_Depth, .u32 n_P_Leaf, .u64 n_P_Offset, .u32 n_P_Xof, I n_P_NodeDepth, I n_P_Inner, sl A_n_P_Salt n_n_P_Salt c_n_P_Salt, sl A_n_P_Personal n_n_P_Personal c_n_P_Personal, sl A_n_Key n_n_Key c_n_Key, .b n_Last, .ar e64 n_From, .b n_Old, .u64 n_Lo, .u64 n_Hi, sl A_n_Msg n_n_Msg c_n_Msg, .u64 n_Count], Ow e8 A_n_Msg n_n_Msg c_n_Msg n_Msg]) (r : (List UInt8 × Int × Int × Int × Int × Int × UInt32 × UInt64 × UInt32 × Int × Int × Bool × Vec UInt64 16 × Bool × UInt64 × UInt64 × List UInt8 × UInt64)) (hm : m_r05_Node_Out n_Kind n_P_Digest n_P_Key n_P_Fanout n_P_Depth n_P_Leaf n_P_Offset n_P_Xof n_P_NodeDepth n_P_Inner n_P_Salt n_P_Personal n_Key n_Last n_From n_Old n_Lo n_Hi n_Msg n_Count = some r) :
    Calls Tryz.prog 62 (vals [pt g_n 0]) w (fun e w' => ∃ A n c A1 n1 c1, r.1.length = n ∧ r.2.2.2.2.2.2.2.2.2.2.2.2.2.2.2.2.1.length = n1 ∧ e = .returned (SV.val (sl A n c)) ∧ Cx F O w w' [Ow e8 A n c r.1, Bx 110 g_n [I r.2.1, I r.2.2.1, I r.2.2.2.1, I r.2.2.2.2.1, I r.2.2.2.2.2.1, .u32 r.2.2.2.2.2.2.1, .u64 r.2.2.2.2.2.2.2.1, .u32 r.2.2.2.2.2.2.2.2.1, I r.2.2.2.2.2.2.2.2.2.1, I r.2.2.2.2.2.2.2.2.2.2.1, sl A_n_P_Salt n_n_P_Salt c_n_P_Salt, sl A_n_P_Personal n_n_P_Personal c_n_P_Personal, sl A_n_Key n_n_Key c_n_Key, .b r.2.2.2.2.2.2.2.2.2.2.2.1, .ar e64 r.2.2.2.2.2.2.2.2.2.2.2.2.1, .b r.2.2.2.2.2.2.2.2.2.2.2.2.2.1, .u64 r.2.2.2.2.2.2.2.2.2.2.2.2.2.2.1, .u64 r.2.2.2.2.2.2.2.2.2.2.2.2.2.2.2.1, sl A1 n1 c1, .u64 r.2.2.2.2.2.2.2.2.2.2.2.2.2.2.2.2.2], Ow e8 A1 n1 c1 r.2.2.2.2.2.2.2.2.2.2.2.2.2.2.2.2.1]) := by
 unfold m_r05_Node_Out at hm
 subst hn_n_P_Salt
 subst hn_n_P_Personal
 subst hn_n_Key
 obtain rfl := k.len 1 rfl
 refine calls [pt g_n 0] Tryz.func62 rfl (of_decide_eq_true (by kernel_rfl)) ?_
 refine W_seq <| W_q [] .a qe (by kernel_rfl) ?_
 refine At_go <| W_seq <| W_reg <| WLs 1 [] (.n 8 (pt g_n 0) .a) qe (by kernel_rfl) ?_
 refine WL_op ?_
 obtain ⟨r_, h_r_, hm⟩ := ob hm
 obtain ⟨F1, O1, kin, hO, hre, hF, hb⟩ := k.go (.i (.i .e))
 refine Op_call [] 9 _ yz_go72 (by kernel_rfl) (c_r05_Node_passed (F := F1) (O := O1) _ _ _ _ _ _ _ _ _ _ _ _ _ _ _ _ _ _ _ _ _ _ _ _ _ _ _ _ _ _ _ _ _ (Ro.of_old h_n_P_Salt k hF) rfl hc_n_P_Salt (Ro.of_old h_n_P_Personal k hF) rfl hc_n_P_Personal (Ro.of_old h_n_Key k hF) rfl hc_n_Key kin _ h_r_) ?_
 rintro e_ w_ ⟨A0, _, c0, rfl, rfl, k_⟩
 have k_1 := hb w_ _ _ k_ (.c (.c .n))
 refine ⟨.tup [.agg [.ar e64 r_.1], .u64 r_.2.1, .u64 r_.2.2.1, I r_.2.2.2.1], rfl, ?_⟩
 refine WLs 5 [] (.n 10 (.agg [.ar e64 r_.1]) (.n 11 (.u64 r_.2.1) (.n 12 (.u64 r_.2.2.1) (.n 13 (I r_.2.2.2.1) (.ss .a))))) qe (by kernel_rfl) ?_
 refine WL_op <| Op_alloc [] 3 [.ar e64 (Vec.rep 16 (0 : UInt64))] (by kernel_rfl) k_1 ?_
 intro g w_1 k_2
 refine WL_op <| Op_b [] 2 (.agg [.ar e64 r_.1]) [.ar e64 r_.1] (Pt.at g 0) k_2 rfl .all (by kernel_rfl) (by kernel_rfl) ?_
 intro w_2 k_3
 refine WLs 3 [] (.n 4 (.u64 r_.2.1) (.n 5 (.u64 r_.2.2.1) (.n 6 (I r_.2.2.2.1) (.k (.ssss .a))))) qe (by kernel_rfl) ?_
 refine WL_nil <| At_go <| W_seq <| W_reg <| WLs 10 [] (.n 15 (.u64 r_.2.1) (.n 16 (.u64 r_.2.2.1) (.n 24 (.u64 (UInt64.ofInt (w64 (((r_.2.2.2.2.2.2.2.2.2.2.2.2.2.2.2.2.2.2.2.1.length : Nat) : Int) - r_.2.2.2.1)))) .a))) (qs g_n 0 <| qs g_n 0 <| qB k_3 0 rfl 33 (sl A0 r_.2.2.2.2.2.2.2.2.2.2.2.2.2.2.2.2.2.2.2.1.length c0) (by kernel_rfl) <| qe) (by kernel_rfl) ?_
 refine WL_op ?_
 obtain ⟨r_1, h_r_1, hm⟩ := ob hm
 refine Op_call [] 25 _ yz_go73 (by kernel_rfl) (c_r01_Add (F := N0) (O := N0) _ _ _ (Cx.refl _) _ h_r_1) ?_
 rintro e_ w_3 ⟨rfl, k_4⟩
 have k_5 := k_3.call k_4
 refine ⟨.tup [.u64 r_1.1, .u64 r_1.2.1, .b r_1.2.2], rfl, ?_⟩
 refine WLs 6 [] (.n 4 (.u64 r_1.1) (.n 5 (.u64 r_1.2.1) (.ssss (.ss .a)))) qe (by kernel_rfl) ?_
 refine WL_nil <| At_go <| W_seq ?_
 have k_6 := k_5.drew 1
 refine W_m yz_mixed (.q 8 3 (.q 13 3 (.q 20 3 (.q 21 3 (.q 0 4 (.q 1 4 (.q 2 4 (.q 3 3 (.q 4 4 (.q 5 4 (.q 6 4 (.q 7 3 (.q 9 4 (.q 10 4 (.q 11 4 (.q 12 3 (.q 14 4 (.q 15 4 (.q 16 4 (.q 17 3 (.q 22 4 (.q 23 4 (.q 24 4 (.q 25 3 (.op 18 (.op 19 (.op 26 (.op 27 (.q 28 4 .nil))))))))))))))))))))))))))))) [18, 19, 26, 27] k_6 (.c (.kk (.k .e)) (.c (.kk (.k .e)) (.c (.kk (.k .e)) (.c (.kk (.k .e)) .l)))) (by kernel_rfl) (fun _ => ?_)
 refine MXq 4 3 [] (.n 37 (.agg [.ar e64 r_.1]) (.n 42 (I r_.2.2.2.1) (.n 49 (.u64 r_1.1) (.n 50 (.u64 r_1.2.1) (.ssss .a))))) (fun x hx => qT hx 2 rfl 0 16 [.ar e64 r_.1] (by kernel_rfl) (by decide) <| qe) (by kernel_rfl) (fun _ => ?_)
 refine MXq 3 4 [] (.n 31 (pt g_n 0) .a) (fun x hx => qs g_n 0 <| qs g_n 0 <| qe) (by kernel_rfl) (fun _ => ?_)
 refine MXq 1 3 [] (.n 32 (I r_.2.2.2.2.1) (.s .a)) (fun x hx => qB hx 0 rfl 0 (I r_.2.2.2.2.1) (by kernel_rfl) <| qe) (by kernel_rfl) (fun _ => ?_)
 refine MXq 3 4 [] (.n 35 (pt g_n 0) .a) (fun x hx => qs g_n 0 <| qs g_n 0 <| qe) (by kernel_rfl) (fun _ => ?_)
 refine MXq 1 3 [] (.n 36 (I r_.2.2.2.2.1) (.s .a)) (fun x hx => qB hx 0 rfl 0 (I r_.2.2.2.2.1) (by kernel_rfl) <| qe) (by kernel_rfl) (fun _ => ?_)
 refine MXq 3 4 [] (.n 40 (pt g_n 33) .a) (fun x hx => qs g_n 0 <| qs g_n 0 <| qe) (by kernel_rfl) (fun _ => ?_)
 refine MXq 1 3 [] (.n 41 (sl A0 r_.2.2.2.2.2.2.2.2.2.2.2.2.2.2.2.2.2.2.2.1.length c0) (.s .a)) (fun x hx => qB hx 0 rfl 33 (sl A0 r_.2.2.2.2.2.2.2.2.2.2.2.2.2.2.2.2.2.2.2.1.length c0) (by kernel_rfl) <| qe) (by kernel_rfl) (fun _ => ?_)
 refine MXq 3 4 [] (.n 45 (pt g_n 0) .a) (fun x hx => qs g_n 0 <| qs g_n 0 <| qe) (by kernel_rfl) (fun _ => ?_)
 refine MXq 1 3 [] (.n 46 (I r_.2.2.2.2.1) (.s .a)) (fun x hx => qB hx 0 rfl 0 (I r_.2.2.2.2.1) (by kernel_rfl) <| qe) (by kernel_rfl) (fun _ => ?_)
 refine MXq 3 4 [] (.n 53 (pt g_n 13) (.kkkk (.kkkk .z))) (fun x hx => qs g_n 0 <| qs g_n 0 <| qe) (by kernel_rfl) (fun _ => ?_)
 refine MXq 1 3 [] (.n 54 (.b r_.2.2.2.2.2.2.2.2.2.2.2.2.2.2.1) (.s .a)) (fun x hx => qB hx 0 rfl 13 (.b r_.2.2.2.2.2.2.2.2.2.2.2.2.2.2.1) (by kernel_rfl) <| qe) (by kernel_rfl) (fun _ => ?_)
 refine MX_op (by kernel_rfl) rfl ?_
 have k_7 := k_6.sel (.kk (.k .e))
 obtain ⟨r_2, h_r_2, hm⟩ := ob hm
 refine Op_call [] 47 _ yz_go77 (by kernel_rfl) (c_r05_Block (F := N0) (O := N0) _ (Cx.refl _) _ h_r_2) ?_
 rintro e_ w_4 ⟨rfl, k_8⟩
 have k_9 := k_7.call k_8
 refine ⟨I r_2, rfl, ?_⟩
 refine ⟨k_9, fun _ => ?_⟩
 refine MX_op (by kernel_rfl) rfl ?_
 obtain ⟨r_3, h_r_3, hm⟩ := ob hm
 refine Op_call [] 48 _ yz_go76 (by kernel_rfl) (c_r05_cut (F := N0) (O := N0) _ _ _ _ _ _ (Ro.n0 (k_9.rd 1 rfl)) (k_9.len 1 rfl) (k_9.lec 1 rfl) (Cx.refl _) _ h_r_3) ?_
 rintro e_ w_5 ⟨A2, _, c2, rfl, rfl, k_10⟩
 have k_11 := k_9.call k_10
 refine ⟨sl A2 r_3.length c2, rfl, ?_⟩
 refine ⟨(k_11.sel (.kk (.k .z))), fun _ => ?_⟩
 refine MX_op (by kernel_rfl) rfl ?_
 obtain ⟨r_4, h_r_4, hm⟩ := ob hm
 refine Op_call [] 55 _ yz_go75 (by kernel_rfl) (c_r05_in (F := N0) (O := N0) _ _ _ _ _ _ _ _ _ _ (Ro.n0 (k_11.rd 3 rfl)) (k_11.len 3 rfl) (k_11.lec 3 rfl) (Cx.refl _) _ h_r_4) ?_
 rintro e_ w_6 ⟨rfl, k_12⟩
 have k_13 := k_11.call k_12
 refine ⟨.agg [.ar e64 r_4], rfl, ?_⟩
 have k_14 := k_13.sel (.kk (.k .z))
 refine ⟨k_14, fun _ => ?_⟩
 refine MX_op (by kernel_rfl) rfl ?_
 obtain ⟨r_5, h_r_5, hm⟩ := ob hm
 refine Op_call [] 56 _ yz_go74 (by kernel_rfl) (c_r05_bytes (F := N0) (O := N0) _ _ (Cx.refl _) _ h_r_5) ?_
 rintro e_ w_7 ⟨A3, _, c3, rfl, rfl, k_15⟩
 have k_16 := k_14.call k_15
 refine ⟨sl A3 r_5.length c3, rfl, ?_⟩
 refine ⟨(k_16.sel (.kk (.k .z))), fun _ => ?_⟩
 refine MXq 1 4 [] (.n 2 (sl A3 r_5.length c3) .z) (fun x hx => qe) (by kernel_rfl) (fun _ => ?_)
 refine MX_nil <| At_go <| W_ret ?_
 obtain rfl := Option.some.inj hm
 refine At_rt [sl A3 r_5.length c3] qe (by kernel_rfl) ?_
 have k_17 := (((k_16.pk (.t .h)).pk (.t .h)).pk (.t (.t (.t .h)))).sel (.kk (.k .z))
 exact ⟨A3, r_5.length, c3, A0, r_.2.2.2.2.2.2.2.2.2.2.2.2.2.2.2.2.2.2.2.1.length, c0, k_17.len 0 rfl, k_17.len 2 rfl, rfl, k_17⟩

-- quern/quernref05.Hash
theorem c_r05_Hash {F O : Nat → Prop} {w : World} (kind : Int) (p_Digest : Int) (p_Key : Int) (p_Fanout : Int) (p_Depth : Int) (p_Leaf : UInt32) (p_Offset : UInt64) (p_Xof : UInt32) (p_NodeDepth : Int) (p_Inner : Int) (p_Salt : List UInt8) (p_Personal : List UInt8) (key : List UInt8) (last : Bool) (out : Int) (data : List UInt8) (A_p_Salt : Option Addr) (n_p_Salt : Nat) (c_p_Salt : Nat) (A_p_Personal : Option Addr) (n_p_Personal : Nat) (c_p_Personal : Nat) (A_key : Option Addr) (n_key : Nat) (c_key : Nat) (A_data : Option Addr) (n_data : Nat) (c_data : Nat) (h_p_Salt : Ro F w A_p_Salt (e8.all p_Salt)) (hn_p_Salt : p_Salt.length = n_p_Salt) (hc_p_Salt : n_p_Salt ≤ c_p_Salt) (h_p_Personal : Ro F w A_p_Personal (e8.all p_Personal)) (hn_p_Personal : p_Personal.length = n_p_Personal) (hc_p_Personal : n_p_Personal ≤ c_p_Personal) (h_key : Ro F w A_key (e8.all key)) (hn_key : key.length = n_key) (hc_key : n_key ≤ c_key) (h_data : Ro F w A_data (e8.all data)) (hn_data : data.length = n_data) (hc_data : n_data ≤ c_data) (k : Cx F O w w []) (r : (List UInt8 × Int)) (hm : m_r05_Hash kind p_Digest p_Key p_Fanout p_Depth p_Leaf p_Offset p_Xof p_NodeDepth p_Inner p_Salt p_Personal key last out data = some r) :
    Calls Tryz.prog 43 (vals [I kind, .agg [I p_Digest, I p_Key, I p_Fanout, I p_Depth, .u32 p_Leaf, .u64 p_Offset, .u32 p_Xof, I p_NodeDepth, I p_Inner, sl A_p_Salt n_p_Salt c_p_Salt, sl A_p_Personal n_p_Personal c_p_Personal], sl A_key n_key c_key, .b last, I out, sl A_data n_data c_data]) w (fun e w' => ∃ A n c, r.1.length = n ∧ e = .returned (SV.val (.tup [sl A n c, I r.2])) ∧ Cx F O w w' [Ow e8 A n c r.1]) := by
 unfold m_r05_Hash at hm
 subst hn_p_Salt
 subst hn_p_Personal
 subst hn_key
 subst hn_data
 refine calls [I kind, .agg [I p_Digest, I p_Key, I p_Fanout, I p_Depth, .u32 p_Leaf, .u64 p_Offset, .u32 p_Xof, I p_NodeDepth, I p_Inner, sl A_p_Salt p_Salt.length c_p_Salt, sl A_p_Personal p_Personal.length c_p_Personal], sl A_key key.length c_key, .b last, I out, sl A_data data.length c_data] Tryz.func43 rfl (of_decide_eq_true (by kernel_rfl)) ?_
 refine W_seq <| W_reg <| WL_op <| Op_box [] 7 (.agg [I p_Digest, I p_Key, I p_Fanout, I p_Depth, .u32 p_Leaf, .u64 p_Offset, .u32 p_Xof, I p_NodeDepth, I p_Inner, sl A_p_Salt p_Salt.length c_p_Salt, sl A_p_Personal p_Personal.length c_p_Personal]) [I p_Digest, I p_Key, I p_Fanout, I p_Depth, .u32 p_Leaf, .u64 p_Offset, .u32 p_Xof, I p_NodeDepth, I p_Inner, sl A_p_Salt p_Salt.length c_p_Salt, sl A_p_Personal p_Personal.length c_p_Personal] (by kernel_rfl) k ?_
 intro g w_ k_
 refine WLs 2 [] (.kk (.s .a)) qe (by kernel_rfl) ?_
 refine WL_nil <| At_go <| W_seq <| W_reg <| WLs 3 [] (.n 17 (I kind) (.n 18 (.agg [I p_Digest, I p_Key, I p_Fanout, I p_Depth, .u32 p_Leaf, .u64 p_Offset, .u32 p_Xof, I p_NodeDepth, I p_Inner, sl A_p_Salt p_Salt.length c_p_Salt, sl A_p_Personal p_Personal.length c_p_Personal]) (.n 19 (sl A_key key.length c_key) (.s (.k (.s .a)))))) (qT k_ 0 rfl 0 11 [I p_Digest, I p_Key, I p_Fanout, I p_Depth, .u32 p_Leaf, .u64 p_Offset, .u32 p_Xof, I p_NodeDepth, I p_Inner, sl A_p_Salt p_Salt.length c_p_Salt, sl A_p_Personal p_Personal.length c_p_Personal] (by kernel_rfl) (by decide) <| qe) (by kernel_rfl) ?_
 refine WL_op ?_
 obtain ⟨r_, h_r_, hm⟩ := ob hm
 refine Op_call [] 20 _ yz_go59 (by kernel_rfl) (c_r05_New (F := N0) (O := N0) _ _ _ _ _ _ _ _ _ _ _ _ _ _ _ _ _ _ _ _ _ _ (Ro.n0 (h_p_Salt.cx k_)) rfl hc_p_Salt (Ro.n0 (h_p_Personal.cx k_)) rfl hc_p_Personal (Ro.n0 (h_key.cx k_)) rfl hc_key (Cx.refl _) _ h_r_) ?_
 rcases r_ with r_1 | r_2
 · simp only [Sum.elim_inl, Sum.elim_inr] at hm
   rintro e_ w_1 ⟨rfl, k_1⟩
   have k_2 := k_.call k_1
   refine ⟨.tup [.v (.pointer none), I r_1], rfl, ?_⟩
   have k_3 := k_2.sel .z
   refine WLs 5 [] (.n 14 (.v (.pointer none)) (.n 15 (I r_1) (.ssss .a))) qe (by kernel_rfl) ?_
   refine WL_nil <| At_go <| W_seq <| W_seq <| W_q [] (.n 24 (.b (decide (r_1 ≠ 0))) .a) qe (by kernel_rfl) ?_
   refine At_go <| W_condp (r_1 ≠ 0) (by kernel_rfl) (fun hc => ?_) (fun hc => ?_)
   · rw [if_pos hc] at hm
     refine W_seq <| W_q [] (.n 12 (sl none 0 0) (.n 13 (I r_1) .z)) qe (by kernel_rfl) ?_
     refine At_go <| W_ret (At_tr ?_)
     have k_4 := k_3.nil e8
     obtain rfl := Option.some.inj hm
     refine At_rt [sl none 0 0, I r_1] qe (by kernel_rfl) ?_
     exact ⟨none, 0, 0, k_4.len 0 rfl, rfl, k_4⟩
   rw [if_neg hc] at hm
   refine W_skip <| At_go <| W_seq <| W_seq <| W_reg <| WLs 3 [] (.n 28 (.b (decide (out < 1))) (.s (.k (.s .a)))) qe (by kernel_rfl) ?_
   refine WL_sp 28 (decide (out < 1)) (.s .a) (by kernel_rfl) (fun hg => ?_) (fun hg => ?_)
   · rw [if_pos (of_decide_eq_true hg)] at hm
     refine WLs 5 [28] (.n 33 (.b true) (.s (.k (.s .a)))) qe (by kernel_rfl) ?_
     refine WL_nil <| At_go <| W_cond true (by kernel_rfl) (fun _ => ?_) (fun h => by cases h)
     refine W_seq <| W_q [] (.n 12 (sl none 0 0) (.n 13 (I 1) .z)) qe (by kernel_rfl) ?_
     refine At_go <| W_ret (At_tr ?_)
     have k_5 := k_3.nil e8
     obtain rfl := Option.some.inj hm
     refine At_rt [sl none 0 0, I 1] qe (by kernel_rfl) ?_
     exact ⟨none, 0, 0, k_5.len 0 rfl, rfl, k_5⟩
   · rw [if_neg (of_decide_eq_false hg)] at hm
     refine WLs 2 [28] (.n 29 (I out) (.n 30 (I kind) (.kk (.s .a)))) qe (by kernel_rfl) ?_
     refine WL_op ?_
     obtain ⟨r_3, h_r_3, hm⟩ := ob hm
     refine Op_call [28] 31 _ yz_go60 (by kernel_rfl) (c_r05_Full (F := N0) (O := N0) _ (Cx.refl _) _ h_r_3) ?_
     rintro e_ w_2 ⟨rfl, k_6⟩
     have k_7 := k_3.call k_6
     refine ⟨I r_3, rfl, ?_⟩
     refine WLs 2 [28] (.n 33 (.b (decide (r_3 < out))) (.ssss .a)) qe (by kernel_rfl) ?_
     refine WL_nil <| At_go <| W_condp (r_3 < out) (by kernel_rfl) (fun hc1 => ?_) (fun hc1 => ?_)
     · rw [if_pos hc1] at hm
       refine W_seq <| W_q [] (.n 12 (sl none 0 0) (.n 13 (I 1) .z)) qe (by kernel_rfl) ?_
       refine At_go <| W_ret (At_tr ?_)
       have k_8 := k_7.nil e8
       obtain rfl := Option.some.inj hm
       refine At_rt [sl none 0 0, I 1] qe (by kernel_rfl) ?_
       exact ⟨none, 0, 0, k_8.len 0 rfl, rfl, k_8⟩
     rw [if_neg hc1] at hm
     cases hm
 · simp only [Sum.elim_inl, Sum.elim_inr] at hm
   rintro e_ w_3 ⟨g1, A0, _, c0, rfl, rfl, k_9⟩
   have k_10 := k_.call k_9
   refine ⟨.tup [pt g1 0, I 0], rfl, ?_⟩
   have k_11 := k_10.sel (.s (.kk .e))
   refine WLs 5 [] (.n 14 (pt g1 0) (.n 15 (I 0) (.ssss .a))) qe (by kernel_rfl) ?_
   refine WL_nil <| At_go <| W_seq <| W_seq <| W_q [] (.n 24 (.b (decide (0 ≠ 0))) .a) qe (by kernel_rfl) ?_
   refine At_go <| W_condp (0 ≠ 0) (by kernel_rfl) (fun hc0 => ?_) (fun hc0 => ?_)
   · rw [if_pos hc0] at hm
     refine W_seq <| W_q [] (.n 12 (sl none 0 0) (.n 13 (I 0) .z)) qe (by kernel_rfl) ?_
     refine At_go <| W_ret (At_tr ?_)
     have k_12 := k_11.nil e8
     obtain rfl := Option.some.inj hm
     refine At_rt [sl none 0 0, I 0] qe (by kernel_rfl) ?_
     have k_13 := k_12.sel (.ss (.k .e))
     exact ⟨none, 0, 0, k_13.len 0 rfl, rfl, k_13⟩
   rw [if_neg hc0] at hm
   refine W_skip <| At_go <| W_seq <| W_seq <| W_reg <| WLs 3 [] (.n 28 (.b (decide (out < 1))) (.s (.k (.s .a)))) qe (by kernel_rfl) ?_
   refine WL_sp 28 (decide (out < 1)) (.s .a) (by kernel_rfl) (fun hg0 => ?_) (fun hg0 => ?_)
   · rw [if_pos (of_decide_eq_true hg0)] at hm
     refine WLs 5 [28] (.n 33 (.b true) (.s (.k (.s .a)))) qe (by kernel_rfl) ?_
     refine WL_nil <| At_go <| W_cond true (by kernel_rfl) (fun _ => ?_) (fun h => by cases h)
     refine W_seq <| W_q [] (.n 12 (sl none 0 0) (.n 13 (I 1) .z)) qe (by kernel_rfl) ?_
     refine At_go <| W_ret (At_tr ?_)
     have k_14 := k_11.nil e8
     obtain rfl := Option.some.inj hm
     refine At_rt [sl none 0 0, I 1] qe (by kernel_rfl) ?_
     have k_15 := k_14.sel (.ss (.k .e))
     exact ⟨none, 0, 0, k_15.len 0 rfl, rfl, k_15⟩
   · rw [if_neg (of_decide_eq_false hg0)] at hm
     refine WLs 2 [28] (.n 29 (I out) (.n 30 (I kind) (.kk (.s .a)))) qe (by kernel_rfl) ?_
     refine WL_op ?_
     obtain ⟨r_4, h_r_4, hm⟩ := ob hm
     refine Op_call [28] 31 _ yz_go60 (by kernel_rfl) (c_r05_Full (F := N0) (O := N0) _ (Cx.refl _) _ h_r_4) ?_
     rintro e_ w_4 ⟨rfl, k_16⟩
     have k_17 := k_11.call k_16
     refine ⟨I r_4, rfl, ?_⟩
     refine WLs 2 [28] (.n 33 (.b (decide (r_4 < out))) (.ssss .a)) qe (by kernel_rfl) ?_
     refine WL_nil <| At_go <| W_condp (r_4 < out) (by kernel_rfl) (fun hc2 => ?_) (fun hc2 => ?_)
     · rw [if_pos hc2] at hm
       refine W_seq <| W_q [] (.n 12 (sl none 0 0) (.n 13 (I 1) .z)) qe (by kernel_rfl) ?_
       refine At_go <| W_ret (At_tr ?_)
       have k_18 := k_17.nil e8
       obtain rfl := Option.some.inj hm
       refine At_rt [sl none 0 0, I 1] qe (by kernel_rfl) ?_
       have k_19 := k_18.sel (.ss (.k .e))
       exact ⟨none, 0, 0, k_19.len 0 rfl, rfl, k_19⟩
     rw [if_neg hc2] at hm
     refine W_skip <| At_go <| W_seq <| W_reg <| WLs 4 [] (.n 35 (.b last) (.n 37 (pt g1 13) (.s (.k (.s .a))))) (qs g1 0 <| qs g1 0 <| qe) (by kernel_rfl) ?_
     refine WL_op <| Op_b [] 0 (.b last) [.b last] (Pt.at g1 13) k_17 rfl (.kkkk (.kkkk (.kkkk (.k .h)))) (by kernel_rfl) (by kernel_rfl) ?_
     intro w_5 k_20
     refine WL_nil <| At_go <| W_seq <| W_reg <| WLs 2 [] (.n 38 (pt g1 0) (.n 39 (sl A_data data.length c_data) (.ss (.kk .z)))) qe (by kernel_rfl) ?_
     refine WL_op ?_
     have k_21 := k_20.sel (.kk .e)
     obtain ⟨r_5, h_r_5, hm⟩ := ob hm
     obtain ⟨F1, O1, kin, hO, hre, hF, hb⟩ := k_21.go (.i (.i .e))
     refine Op_call [] 40 _ yz_go61 (by kernel_rfl) (c_r05_Node_Write (F := F1) (O := O1) _ _ _ _ _ _ _ _ _ _ _ _ _ _ _ _ _ _ _ _ _ _ _ _ _ _ _ _ _ _ _ _ _ _ _ _ _ (Ro.of_old h_p_Salt k_21 hF) rfl hc_p_Salt (Ro.of_old h_p_Personal k_21 hF) rfl hc_p_Personal (Ro.of_old h_key k_21 hF) rfl hc_key (Ro.of_old h_data k_21 hF) rfl hc_data kin _ h_r_5) ?_
     rintro e_ w_6 ⟨A1, _, c1, rfl, rfl, k_22⟩
     have k_23 := hb w_6 _ _ k_22 (.c (.c .n))
     refine ⟨.tup [], rfl, ?_⟩
     refine WL_nil <| At_go <| W_seq <| W_reg <| WLs 1 [] (.n 41 (pt g1 0) (.ssss .a)) qe (by kernel_rfl) ?_
     refine WL_op ?_
     obtain ⟨r_6, h_r_6, hm⟩ := ob hm
     obtain ⟨F11, O11, kin1, hO1, hre1, hF1, hb1⟩ := k_23.go (.i (.i .e))
     refine Op_call [] 42 _ yz_go62 (by kernel_rfl) (c_r05_Node_Out (F := F11) (O := O11) _ _ _ _ _ _ _ _ _ _ _ _ _ _ _ _ _ _ _ _ _ _ _ _ _ _ _ _ _ _ _ _ _ (Ro.of_old h_p_Salt k_23 hF1) rfl hc_p_Salt (Ro.of_old h_p_Personal k_23 hF1) rfl hc_p_Personal (Ro.of_old h_key k_23 hF1) rfl hc_key kin1 _ h_r_6) ?_
     rintro e_ w_7 ⟨A2, _, c2, A3, _, c3, rfl, rfl, rfl, k_24⟩
     have k_25 := hb1 w_7 _ _ k_24 (.c (.c (.c .n)))
     refine ⟨sl A2 r_6.1.length c2, rfl, ?_⟩
     have k_26 := k_25.sel (.k .z)
     obtain ⟨b, h_b, hm⟩ := ob hm
     have hs := slc_some h_b
     have hl := slc_len h_b
     have hn : r_6.1.length = r_6.1.length := (k_26.len 0 rfl)
     have hc3 : r_6.1.length ≤ c2 := (k_26.lec 0 rfl)
     have hc4 : b.length ≤ c2 := by omega
     refine WLs 4 [] (.n 12 (sl A2 b.length c2) (.n 13 (I 0) .z)) (qp (0 ≤ out ∧ out ≤ ((c2 : Nat) : Int)) (by omega) <| qo (.v (.slice A2 b.length c2)) <| qp (Value.slice (slA A2 0 c2 1) (Int.toNat out - 0) (c2 - 0) = .slice A2 b.length c2) (slx0 _ _ _ _ _ (by omega)) <| qe) (by kernel_rfl) ?_
     refine WL_nil <| At_go <| W_ret ?_
     have k_27 := k_26.pre 0 rfl b.length c2 b (by omega) (by omega) (by omega) (slc_pre h_b rfl)
     obtain rfl := Option.some.inj hm
     refine At_rt [sl A2 b.length c2, I 0] qe (by kernel_rfl) ?_
     exact ⟨A2, b.length, c2, k_27.len 0 rfl, rfl, k_27⟩

-- quern/quernref06.Make
theorem c_r06_Make {F O : Nat → Prop} {w : World} (kind : Int) (n : Int) (key : List UInt8) (salt : List UInt8) (personal : List UInt8) (data : List UInt8) (A_key : Option Addr) (n_key : Nat) (c_key : Nat) (A_salt : Option Addr) (n_salt : Nat) (c_salt : Nat) (A_personal : Option Addr) (n_personal : Nat) (c_personal : Nat) (A_data : Option Addr) (n_data : Nat) (c_data : Nat) (h_key : Ro F w A_key (e8.all key)) (hn_key : key.length = n_key) (hc_key : n_key ≤ c_key) (h_salt : Ro F w A_salt (e8.all salt)) (hn_salt : salt.length = n_salt) (hc_salt : n_salt ≤ c_salt) (h_personal : Ro F w A_personal (e8.all personal)) (hn_personal : personal.length = n_personal) (hc_personal : n_personal ≤ c_personal) (h_data : Ro F w A_data (e8.all data)) (hn_data : data.length = n_data) (hc_data : n_data ≤ c_data) (k : Cx F O w w []) (r : (List UInt8 × Int)) (hm : m_r06_Make kind n key salt personal data = some r) :
    Calls Tryz.prog 12 (vals [I kind, I n, sl A_key n_key c_key, sl A_salt n_salt c_salt, sl A_personal n_personal c_personal, sl A_data n_data c_data]) w (fun e w' => ∃ A n1 c, r.1.length = n1 ∧ e = .returned (SV.val (.tup [sl A n1 c, I r.2])) ∧ Cx F O w w' [Ow e8 A n1 c r.1]) := by
 unfold m_r06_Make at hm
 subst hn_key
 subst hn_salt
 subst hn_personal
 subst hn_data
 refine calls [I kind, I n, sl A_key key.length c_key, sl A_salt salt.length c_salt, sl A_personal personal.length c_personal, sl A_data data.length c_data] Tryz.func12 rfl (of_decide_eq_true (by kernel_rfl)) ?_
 refine W_seq <| W_q [] .a qe (by kernel_rfl) ?_
 refine At_go <| W_seq <| W_reg <| WLs 6 [] (.n 21 (.agg [I n, I ((key.length : Nat) : Int), I 1, I 1, .u32 0, .u64 0, .u32 0, I 0, I 0, sl A_salt salt.length c_salt, sl A_personal personal.length c_personal]) (.kkk (.ss .a))) qe (by kernel_rfl) ?_
 refine WL_op <| Op_alloc [] 14 [I 0, I 0, I 0, I 0, .u32 0, .u64 0, .u32 0, I 0, I 0, sl none 0 0, sl none 0 0] (by kernel_rfl) k ?_
 intro g w_ k_
 refine WL_op <| Op_b [] 0 (.agg [I n, I ((key.length : Nat) : Int), I 1, I 1, .u32 0, .u64 0, .u32 0, I 0, I 0, sl A_salt salt.length c_salt, sl A_personal personal.length c_personal]) [I n, I ((key.length : Nat) : Int), I 1, I 1, .u32 0, .u64 0, .u32 0, I 0, I 0, sl A_salt salt.length c_salt, sl A_personal personal.length c_personal] (Pt.at g 0) k_ rfl .all (by kernel_rfl) (by kernel_rfl) ?_
 intro w_1 k_1
 refine WL_nil <| At_go <| W_seq <| W_reg <| WLs 2 [] (.n 22 (I kind) (.n 23 (.agg [I n, I ((key.length : Nat) : Int), I 1, I 1, .u32 0, .u64 0, .u32 0, I 0, I 0, sl A_salt salt.length c_salt, sl A_personal personal.length c_personal]) (.k (.s .a)))) (qT k_1 0 rfl 0 11 [I n, I ((key.length : Nat) : Int), I 1, I 1, .u32 0, .u64 0, .u32 0, I 0, I 0, sl A_salt salt.length c_salt, sl A_personal personal.length c_personal] (by kernel_rfl) (by decide) <| qe) (by kernel_rfl) ?_
 refine WL_op ?_
 obtain ⟨r_, h_r_, hm⟩ := ob hm
 refine Op_call [] 24 _ yz_go42 (by kernel_rfl) (c_r02_Check (F := N0) (O := N0) _ _ _ _ _ _ _ _ _ _ _ _ _ _ _ _ _ _ (Ro.n0 (h_salt.cx k_1)) rfl hc_salt (Ro.n0 (h_personal.cx k_1)) rfl hc_personal (Cx.refl _) _ h_r_) ?_
 rintro e_ w_2 ⟨rfl, k_2⟩
 have k_3 := k_1.call k_2
 refine ⟨I r_, rfl, ?_⟩
 refine WLs 1 [] (.n 15 (I r_) (.sss .a)) qe (by kernel_rfl) ?_
 refine WL_nil <| At_go <| W_seq <| W_seq <| W_q [] (.n 26 (.b (decide (r_ ≠ 0))) .a) qe (by kernel_rfl) ?_
 refine At_go <| W_condp (r_ ≠ 0) (by kernel_rfl) (fun hc => ?_) (fun hc => ?_)
 · rw [if_pos hc] at hm
   refine W_seq <| W_q [] (.n 12 (sl none 0 0) (.n 13 (I r_) .z)) qe (by kernel_rfl) ?_
   refine At_go <| W_ret (At_tr ?_)
   have k_4 := k_3.nil e8
   obtain rfl := Option.some.inj hm
   refine At_rt [sl none 0 0, I r_] qe (by kernel_rfl) ?_
   have k_5 := k_4.sel (.s (.k .e))
   exact ⟨none, 0, 0, k_5.len 0 rfl, rfl, k_5⟩
 rw [if_neg hc] at hm
 refine W_skip <| At_go <| W_seq <| W_reg <| WLs 5 [] (.n 28 (I kind) (.n 29 (.agg [I n, I ((key.length : Nat) : Int), I 1, I 1, .u32 0, .u64 0, .u32 0, I 0, I 0, sl A_salt salt.length c_salt, sl A_personal personal.length c_personal]) (.n 30 (sl A_key key.length c_key) (.n 31 (I n) (.n 32 (sl A_data data.length c_data) .z))))) (qT k_3 0 rfl 0 11 [I n, I ((key.length : Nat) : Int), I 1, I 1, .u32 0, .u64 0, .u32 0, I 0, I 0, sl A_salt salt.length c_salt, sl A_personal personal.length c_personal] (by kernel_rfl) (by decide) <| qe) (by kernel_rfl) ?_
 refine WL_op ?_
 obtain ⟨r_1, h_r_1, hm⟩ := ob hm
 refine Op_call [] 33 _ yz_go43 (by kernel_rfl) (c_r05_Hash (F := N0) (O := N0) _ _ _ _ _ _ _ _ _ _ _ _ _ _ _ _ _ _ _ _ _ _ _ _ _ _ _ _ (Ro.n0 (h_salt.cx k_3)) rfl hc_salt (Ro.n0 (h_personal.cx k_3)) rfl hc_personal (Ro.n0 (h_key.cx k_3)) rfl hc_key (Ro.n0 (h_data.cx k_3)) rfl hc_data (Cx.refl _) _ h_r_1) ?_
 rintro e_ w_3 ⟨A0, _, c0, rfl, rfl, k_6⟩
 have k_7 := k_3.call k_6
 refine ⟨.tup [sl A0 r_1.1.length c0, I r_1.2], rfl, ?_⟩
 have k_8 := k_7.sel (.s (.k .e))
 refine WLs 4 [] (.n 12 (sl A0 r_1.1.length c0) (.n 13 (I r_1.2) .z)) qe (by kernel_rfl) ?_
 refine WL_nil <| At_go <| W_ret ?_
 obtain rfl := Option.some.inj hm
 refine At_rt [sl A0 r_1.1.length c0, I r_1.2] qe (by kernel_rfl) ?_
 exact ⟨A0, r_1.1.length, c0, k_8.len 0 rfl, rfl, k_8⟩

-- quern/quernref06.Parts
theorem c_r06_Parts {F O : Nat → Prop} {w : World} (kind : Int) (n : Int) (key : List UInt8) (parts : List (List UInt8)) (A_key : Option Addr) (n_key : Nat) (c_key : Nat) (A_parts : Option Addr) (n_parts : Nat) (c_parts : Nat) (hd_parts : List Hd) (h_key : Ro F w A_key (e8.all key)) (hn_key : key.length = n_key) (hc_key : n_key ≤ c_key) (h_parts : Ro2 F w e8 A_parts hd_parts parts) (hn_parts : parts.length = n_parts) (hc_parts : n_parts ≤ c_parts) (k : Cx F O w w []) (r : (List UInt8 × Int)) (hm : m_r06_Parts kind n key parts = some r) :
    Calls Tryz.prog 21 (vals [I kind, I n, sl A_key n_key c_key, sl A_parts n_parts c_parts]) w (fun e w' => ∃ A n1 c, r.1.length = n1 ∧ e = .returned (SV.val (.tup [sl A n1 c, I r.2])) ∧ Cx F O w w' [Ow e8 A n1 c r.1]) := by
 unfold m_r06_Parts at hm
 subst hn_key
 subst hn_parts
 refine calls [I kind, I n, sl A_key key.length c_key, sl A_parts parts.length c_parts] Tryz.func21 rfl (of_decide_eq_true (by kernel_rfl)) ?_
 refine W_seq <| W_q [] .a qe (by kernel_rfl) ?_
 refine At_go <| W_seq <| W_q [] (.n 10 (sl none 0 0) .a) qe (by kernel_rfl) ?_
 refine At_go <| W_seq <| W_seq <| W_q [] (.n 11 (I 0) .a) qe (by kernel_rfl) ?_
 refine At_go <| W_block ?_
 have k_1 := k.nil e8
 refine W_lp (m_r06_Parts_l0 kind n key parts) (fun s L wr => ∃ (all : List UInt8) (i : Int) (A0 : Option Addr) (n2 : Nat) (c0 : Nat), (all, i) = s ∧ L = [(0, I kind), (1, I n), (2, sl A_key key.length c_key), (3, sl A_parts parts.length c_parts), (10, sl A0 n2 c0), (11, I i)] ∧ all.length = n2 ∧ Cx F O w wr [Ow e8 A0 n2 c0 all]) (([] : List UInt8), (0 : Int)) r hm ⟨([] : List UInt8), (0 : Int), none, 0, 0, rfl, rfl, k_1.len 0 rfl, k_1⟩ (by kernel_rfl) ?_
 intro s0_ L_ w_ y0 hrel hstep hr0
 obtain ⟨all, i, A0, _, c0, rfl, rfl, rfl, k_⟩ := hrel
 have hm := hstep; simp only [m_r06_Parts_l0] at hm
 clear hstep
 refine W_seq <| W_seq <| W_q [] (.n 15 (.b (decide (i < ((parts.length : Nat) : Int)))) .a) qe (by kernel_rfl) ?_
 refine At_go <| W_condp (i < ((parts.length : Nat) : Int)) (by kernel_rfl) (fun hc => ?_) (fun hc => ?_)
 · rw [if_pos hc] at hm
   refine W_skip <| At_go <| W_seq <| W_block <| W_reg ?_
   obtain ⟨b, h_b, hm⟩ := ob hm
   obtain ⟨A_b, c_b, hh, hle, hro⟩ := h_parts.at h_b
   refine WLs 5 [] (.n 18 (sl A0 all.length c0) (.n 22 (sl A_b b.length c_b) (.s .a))) (qJ (h_parts.ro.cx k_) hh h_parts.len <| qC (sl A_b b.length c_b) (Rd.el (k := 0) (h_parts.ro.cx k_) hh (Pt.ix1 A_parts i 1) rfl) <| qe) (by kernel_rfl) ?_
   refine WL_op ?_
   obtain ⟨all1, h_all1, hm⟩ := ob hm
   obtain ⟨hz, hl⟩ := app_some h_all1
   refine Op_append (E := e8) (v := sl A_b b.length c_b) (ys := b) yz_tf22 [] 23 0 (by kernel_rfl) k_ rfl (Src.sl (hro.cx k_) rfl (by rfl)) rfl (by have := k_.len 0 rfl; have := hm; omega) ?_
   intro A1 c1 w_1 k_2
   rw [← hl] at k_2
   refine WLs 1 [] (.n 10 (sl A1 (all.length + b.length) c1) (.sss (.kkkk (.s .a)))) qe (by kernel_rfl) ?_
   refine WL_nil <| At_in <| At_go <| W_q [] (.n 11 (I (w64 (i + 1))) (.kkkk (.k .z))) qe (by kernel_rfl) ?_
   exact At_rd (all1, w64 (i + 1)) (Option.some.inj hm).symm ⟨all1, w64 (i + 1), A1, all.length + b.length, c1, rfl, rfl, k_2.len 0 rfl, k_2⟩ (by kernel_rfl)
 rw [if_neg hc] at hm
 refine W_exit (At_te (At_te (At_ie ?_)))
 have hm := exit_of hm hr0
 refine At_go <| W_seq <| W_reg <| WLs 4 [] (.n 24 (I kind) (.n 25 (I n) (.n 26 (sl A_key key.length c_key) (.n 27 (sl A0 all.length c0) .z)))) qe (by kernel_rfl) ?_
 refine WL_op ?_
 obtain ⟨r_, h_r_, hm⟩ := ob hm
 refine Op_call [] 28 _ yz_go12 (by kernel_rfl) (c_r06_Make (F := N0) (O := N0) _ _ _ _ _ _ _ _ _ _ _ _ _ _ _ _ _ _ (Ro.n0 (h_key.cx k_)) rfl hc_key (Ro.nilE e8) rfl (Nat.le_refl 0) (Ro.nilE e8) rfl (Nat.le_refl 0) (Ro.n0 (k_.rd 0 rfl)) (k_.len 0 rfl) (k_.lec 0 rfl) (Cx.refl _) _ h_r_) ?_
 rintro e_ w_2 ⟨A2, _, c2, rfl, rfl, k_3⟩
 have k_4 := k_.call k_3
 refine ⟨.tup [sl A2 r_.1.length c2, I r_.2], rfl, ?_⟩
 have k_5 := k_4.sel (.s (.k .e))
 refine WLs 4 [] (.n 8 (sl A2 r_.1.length c2) (.n 9 (I r_.2) .z)) qe (by kernel_rfl) ?_
 refine WL_nil <| At_go <| W_ret ?_
 obtain rfl := Option.some.inj hm
 refine At_rt [sl A2 r_.1.length c2, I r_.2] qe (by kernel_rfl) ?_
 exact ⟨A2, r_.1.length, c2, k_5.len 0 rfl, rfl, k_5⟩

-- quern/quernlaw06.same
theorem c_l06_same {F O : Nat → Prop} {w : World} (a_ : List UInt8) (b : List UInt8) (A_a_ : Option Addr) (n_a_ : Nat) (c_a_ : Nat) (A_b : Option Addr) (n_b : Nat) (c_b : Nat) (h_a_ : Ro F w A_a_ (e8.all a_)) (hn_a_ : a_.length = n_a_) (hc_a_ : n_a_ ≤ c_a_) (h_b : Ro F w A_b (e8.all b)) (hn_b : b.length = n_b) (hc_b : n_b ≤ c_b) (k : Cx F O w w []) (r : Bool) (hm : m_l06_same a_ b = some r) :
    Calls Tryz.prog 10 (vals [sl A_a_ n_a_ c_a_, sl A_b n_b c_b]) w (fun e w' => e = .returned (SV.val (.b r)) ∧ Cx F O w w' []) := by
 unfold m_l06_same at hm
 subst hn_a_
 subst hn_b
 refine calls [sl A_a_ a_.length c_a_, sl A_b b.length c_b] Tryz.func10 rfl (of_decide_eq_true (by kernel_rfl)) ?_
 refine W_seq <| W_q [] .a qe (by kernel_rfl) ?_
 refine At_go <| W_seq <| W_seq <| W_q [] (.n 10 (.b (decide (((a_.length : Nat) : Int) ≠ ((b.length : Nat) : Int)))) .a) qe (by kernel_rfl) ?_
 refine At_go <| W_condp (((a_.length : Nat) : Int) ≠ ((b.length : Nat) : Int)) (by kernel_rfl) (fun hc => ?_) (fun hc => ?_)
 · rw [if_pos hc] at hm
   refine W_seq <| W_q [] (.n 4 (.b false) .z) qe (by kernel_rfl) ?_
   refine At_go <| W_ret (At_tr ?_)
   obtain rfl := Option.some.inj hm
   refine At_rt [.b false] qe (by kernel_rfl) ?_
   exact ⟨rfl, k⟩
 rw [if_neg hc] at hm
 refine W_skip <| At_go <| W_seq <| W_seq <| W_q [] (.n 5 (I 0) (.s .a)) qe (by kernel_rfl) ?_
 refine At_go <| W_block <| W_lp (m_l06_same_l0 a_ b) (fun s L wr => ∃ (i : Int), i = s ∧ L = [(0, sl A_a_ a_.length c_a_), (1, sl A_b b.length c_b), (5, I i)] ∧ Cx F O w wr []) (0 : Int) r hm ⟨(0 : Int), rfl, rfl, k⟩ (by kernel_rfl) ?_
 intro s0_ L_ w_ y0 hrel hstep hr0
 obtain ⟨i, rfl, rfl, k_⟩ := hrel
 have hm := hstep; simp only [m_l06_same_l0] at hm
 clear hstep
 refine W_seq <| W_seq <| W_q [] (.n 14 (.b (decide (i < ((a_.length : Nat) : Int)))) .a) qe (by kernel_rfl) ?_
 refine At_go <| W_condp (i < ((a_.length : Nat) : Int)) (by kernel_rfl) (fun hc1 => ?_) (fun hc1 => ?_)
 · rw [if_pos hc1] at hm
   refine W_skip <| At_go <| W_seq <| W_block <| W_seq ?_
   obtain ⟨x_0, h_x_0, hm⟩ := ob hm
   obtain ⟨x_1, h_x_1, hm⟩ := ob hm
   refine W_d yz_mixed (by kernel_rfl) (.n 25 (.b (decide (x_0 ≠ x_1))) (.s .a)) (fun m => qW (h_a_.cx (k_.drew m)) h_x_0 rfl (.u8 x_0) rfl <| qW (h_b.cx (k_.drew m)) h_x_1 rfl (.u8 x_1) rfl <| qe) (by kernel_rfl) (fun m_ => ?_)
   have k_1 := k_.drew m_
   refine At_go <| W_condp (x_0 ≠ x_1) (by kernel_rfl) (fun hc2 => ?_) (fun hc2 => ?_)
   · rw [if_pos hc2] at hm
     refine W_seq <| W_q [] (.n 4 (.b false) .z) qe (by kernel_rfl) ?_
     refine At_go <| W_ret (At_ir (At_tr (At_tr (At_ir (At_tr ?_)))))
     have hm := exit_of hm hr0
     obtain rfl := Option.some.inj hm
     refine At_rt [.b false] qe (by kernel_rfl) ?_
     exact ⟨rfl, k_1⟩
   rw [if_neg hc2] at hm
   refine W_skip <| At_in <| At_go <| W_q [] (.n 5 (I (w64 (i + 1))) (.s (.kk .z))) qe (by kernel_rfl) ?_
   exact At_rd (w64 (i + 1)) (Option.some.inj hm).symm ⟨w64 (i + 1), rfl, rfl, k_1⟩ (by kernel_rfl)
 rw [if_neg hc1] at hm
 refine W_exit (At_te (At_te (At_ie ?_)))
 have hm := exit_of hm hr0
 refine At_go <| W_seq <| W_q [] (.n 4 (.b true) .z) qe (by kernel_rfl) ?_
 refine At_go <| W_ret ?_
 obtain rfl := Option.some.inj hm
 refine At_rt [.b true] qe (by kernel_rfl) ?_
 exact ⟨rfl, k_⟩

-- quern/mac.Row
theorem c_mac_Row {F O : Nat → Prop} {w : World} (parts : List (List UInt8)) (A_parts : Option Addr) (n_parts : Nat) (c_parts : Nat) (hd_parts : List Hd) (h_parts : Ro2 F w e8 A_parts hd_parts parts) (hn_parts : parts.length = n_parts) (hc_parts : n_parts ≤ c_parts) (k : Cx F O w w []) (r : (List UInt8 × Int)) (hm : m_mac_Row parts = some r) :
    Calls Tryz.prog 24 (vals [sl A_parts n_parts c_parts]) w (fun e w' => ∃ A n c, r.1.length = n ∧ e = .returned (SV.val (.tup [sl A n c, I r.2])) ∧ Cx F O w w' [Ow e8 A n c r.1]) := by
 unfold m_mac_Row at hm
 subst hn_parts
 refine calls [sl A_parts parts.length c_parts] Tryz.func24 rfl (of_decide_eq_true (by kernel_rfl)) ?_
 refine W_seq <| W_q [] .a qe (by kernel_rfl) ?_
 refine At_go <| W_seq <| W_q [] (.n 4 (I 0) .a) qe (by kernel_rfl) ?_
 refine At_go <| W_seq <| W_seq <| W_q [] (.n 10 (sl A_parts parts.length c_parts) (.n 11 (I ((parts.length : Nat) : Int)) (.n 12 (I 0) .a))) qe (by kernel_rfl) ?_
 refine At_go <| W_block <| W_lp (m_mac_Row_l0 parts) (fun s L wr => ∃ (n0 : Int) (x_0 : Int), (n0, x_0) = s ∧ L = [(0, sl A_parts parts.length c_parts), (4, I n0), (10, sl A_parts parts.length c_parts), (11, I ((parts.length : Nat) : Int)), (12, I x_0)] ∧ Cx F O w wr []) ((0 : Int), (0 : Int)) r hm ⟨(0 : Int), (0 : Int), rfl, rfl, k⟩ (by kernel_rfl) ?_
 intro s0_ L_ w_ y0 hrel hstep hr0
 obtain ⟨n0, x_0, rfl, rfl, k_⟩ := hrel
 have hm := hstep; simp only [m_mac_Row_l0] at hm
 clear hstep
 refine W_seq <| W_q [] (.n 13 (.b (decide (x_0 < ((parts.length : Nat) : Int)))) .a) qe (by kernel_rfl) ?_
 refine At_go <| W_seq <| W_condp (x_0 < ((parts.length : Nat) : Int)) (by kernel_rfl) (fun hc => ?_) (fun hc => ?_)
 · rw [if_pos hc] at hm
   refine W_skip <| At_go <| W_seq <| W_block <| W_seq ?_
   obtain ⟨b, h_b, hm⟩ := ob hm
   obtain ⟨A_b, c_b, hh, hle, hro⟩ := h_parts.at h_b
   refine W_q [] (.n 6 (sl A_b b.length c_b) (.s .a)) (qJ (h_parts.ro.cx k_) hh h_parts.len <| qC (sl A_b b.length c_b) (Rd.el (k := 0) (h_parts.ro.cx k_) hh (Pt.ix1 A_parts x_0 1) rfl) <| qe) (by kernel_rfl) ?_
   refine At_go <| W_seq <| W_q [] (.n 4 (I (w64 (n0 + (w64 (8 + ((b.length : Nat) : Int)))))) (.s (.k (.s .a)))) qe (by kernel_rfl) ?_
   refine At_go <| W_seq <| W_q [] (.n 22 (.b (decide (16777216 < (w64 (n0 + (w64 (8 + ((b.length : Nat) : Int)))))))) .a) qe (by kernel_rfl) ?_
   refine At_go <| W_condp (16777216 < (w64 (n0 + (w64 (8 + ((b.length : Nat) : Int)))))) (by kernel_rfl) (fun hc1 => ?_) (fun hc1 => ?_)
   · rw [if_pos hc1] at hm
     refine W_seq <| W_q [] (.n 2 (sl none 0 0) (.n 3 (I 2) .z)) qe (by kernel_rfl) ?_
     refine At_go <| W_ret (At_ir (At_tr (At_tr (At_ir (At_tr ?_)))))
     have hm := exit_of hm hr0
     have k_1 := k_.nil e8
     obtain rfl := Option.some.inj hm
     refine At_rt [sl none 0 0, I 2] qe (by kernel_rfl) ?_
     exact ⟨none, 0, 0, k_1.len 0 rfl, rfl, k_1⟩
   rw [if_neg hc1] at hm
   refine W_skip <| At_in <| At_go <| W_q [] (.n 12 (I (w64 (x_0 + 1))) (.s (.kkkk .z))) qe (by kernel_rfl) ?_
   exact At_rd (w64 (n0 + (w64 (8 + ((b.length : Nat) : Int)))), w64 (x_0 + 1)) (Option.some.inj hm).symm ⟨w64 (n0 + (w64 (8 + ((b.length : Nat) : Int)))), w64 (x_0 + 1), rfl, rfl, k_⟩ (by kernel_rfl)
 rw [if_neg hc] at hm
 refine W_exit (At_te (At_te (At_ie ?_)))
 have hm := exit_of hm hr0
 refine At_go <| W_seq <| W_reg <| WLs 1 [] (.n 24 (I n0) (.s (.k .z))) qe (by kernel_rfl) ?_
 refine WL_op ?_
 obtain ⟨u, h_u, hm⟩ := ob hm
 refine Op_make yz_tf22 e8 (0 : UInt8) rfl [] 25 (I 0) (I n0) (0 : Int) n0 (by kernel_rfl) (need_some h_u).1 (need_some h_u).2.1 (need_some h_u).2.2 k_ ?_
 intro A0 w_1 k_2
 refine WLs 1 [] (.n 7 (sl A0 (Int.toNat (0 : Int)) (Int.toNat n0)) (.ss .a)) qe (by kernel_rfl) ?_
 refine WL_nil <| At_go <| W_seq <| W_seq <| W_q [] (.n 26 (sl A_parts parts.length c_parts) (.n 27 (I ((parts.length : Nat) : Int)) (.n 28 (I 0) (.k .z)))) qe (by kernel_rfl) ?_
 refine At_go <| W_block <| W_lp (m_mac_Row_l1 parts) (fun s L wr => ∃ (b1 : List UInt8) (x_2 : Int) (A1 : Option Addr) (n1 : Nat) (c0 : Nat), (b1, x_2) = s ∧ L = [(7, sl A1 n1 c0), (26, sl A_parts parts.length c_parts), (27, I ((parts.length : Nat) : Int)), (28, I x_2)] ∧ b1.length = n1 ∧ Cx F O w wr [Ow e8 A1 n1 c0 b1]) (List.replicate (Int.toNat (0 : Int)) (0 : UInt8), (0 : Int)) r hm ⟨List.replicate (Int.toNat (0 : Int)) (0 : UInt8), (0 : Int), A0, Int.toNat (0 : Int), Int.toNat n0, rfl, rfl, k_2.len 0 rfl, k_2⟩ (by kernel_rfl) ?_
 intro s0_ L_ w_2 y0 hrel hstep hr0
 obtain ⟨b1, x_2, A1, _, c0, rfl, rfl, rfl, k_3⟩ := hrel
 have hm := hstep; simp only [m_mac_Row_l1] at hm
 clear hstep
 refine W_seq <| W_q [] (.n 29 (.b (decide (x_2 < ((parts.length : Nat) : Int)))) .a) qe (by kernel_rfl) ?_
 refine At_go <| W_seq <| W_condp (x_2 < ((parts.length : Nat) : Int)) (by kernel_rfl) (fun hc2 => ?_) (fun hc2 => ?_)
 · rw [if_pos hc2] at hm
   refine W_skip <| At_go <| W_seq <| W_block <| W_seq ?_
   obtain ⟨b2, h_b2, hm⟩ := ob hm
   obtain ⟨A_b2, c_b2, hh1, hle1, hro1⟩ := h_parts.at h_b2
   refine W_q [] (.n 9 (sl A_b2 b2.length c_b2) (.s .a)) (qJ (h_parts.ro.cx k_3) hh1 h_parts.len <| qC (sl A_b2 b2.length c_b2) (Rd.el (k := 0) (h_parts.ro.cx k_3) hh1 (Pt.ix1 A_parts x_2 1) rfl) <| qe) (by kernel_rfl) ?_
   refine At_go <| W_seq <| W_reg <| WLs 4 [] (.n 32 (sl A1 b1.length c0) (.n 35 (.u64 (UInt64.ofInt ((b2.length : Nat) : Int))) .a)) qe (by kernel_rfl) ?_
   refine WL_op ?_
   obtain ⟨r_, h_r_, hm⟩ := ob hm
   refine Op_call [] 36 _ yz_go47 (by kernel_rfl) (c_word_Store64 (F := N0) (O := N0) _ (Cx.refl _) _ h_r_) ?_
   rintro e_ w_3 ⟨A2, _, c1, rfl, rfl, k_4⟩
   have k_5 := k_3.call k_4
   refine ⟨sl A2 r_.length c1, rfl, ?_⟩
   refine WL_op ?_
   obtain ⟨b3, h_b3, hm⟩ := ob hm
   obtain ⟨hz, hl⟩ := app_some h_b3
   refine Op_append (E := e8) (v := sl A2 r_.length c1) (ys := r_) yz_tf22 [] 37 0 (by kernel_rfl) k_5 rfl (Src.sl (k_5.rd 1 rfl) (k_5.len 1 rfl) (by rfl)) (k_5.len 1 rfl) (by have := k_5.len 0 rfl; have := (k_5.len 1 rfl); omega) ?_
   intro A3 c2 w_4 k_6
   rw [← hl] at k_6
   have k_7 := k_6.sel (.k .z)
   refine WLs 1 [] (.n 7 (sl A3 (b1.length + r_.length) c2) (.ssss (.k (.s .a)))) qe (by kernel_rfl) ?_
   refine WL_nil <| At_go <| W_reg <| WLs 2 [] (.n 38 (sl A3 (b1.length + r_.length) c2) (.n 39 (sl A_b2 b2.length c_b2) (.k (.s .a)))) qe (by kernel_rfl) ?_
   refine WL_op ?_
   obtain ⟨b4, h_b4, hm⟩ := ob hm
   obtain ⟨hz1, hl1⟩ := app_some h_b4
   refine Op_append (E := e8) (v := sl A_b2 b2.length c_b2) (ys := b2) yz_tf22 [] 40 0 (by kernel_rfl) k_7 rfl (Src.sl (hro1.cx k_7) rfl (by rfl)) rfl (by have := k_7.len 0 rfl; have := hm; omega) ?_
   intro A4 c3 w_5 k_8
   rw [← hl1] at k_8
   refine WLs 1 [] (.n 7 (sl A4 (b1.length + r_.length + b2.length) c3) (.ssss .a)) qe (by kernel_rfl) ?_
   refine WL_nil <| At_in <| At_go <| W_q [] (.n 28 (I (w64 (x_2 + 1))) (.kkk .z)) qe (by kernel_rfl) ?_
   exact At_rd (b4, w64 (x_2 + 1)) (Option.some.inj hm).symm ⟨b4, w64 (x_2 + 1), A4, b1.length + r_.length + b2.length, c3, rfl, rfl, k_8.len 0 rfl, k_8⟩ (by kernel_rfl)
 rw [if_neg hc2] at hm
 refine W_exit (At_te (At_te (At_ie ?_)))
 have hm := exit_of hm hr0
 refine At_go <| W_seq <| W_q [] (.n 2 (sl A1 b1.length c0) (.n 3 (I 0) .z)) qe (by kernel_rfl) ?_
 refine At_go <| W_ret ?_
 obtain rfl := Option.some.inj hm
 refine At_rt [sl A1 b1.length c0, I 0] qe (by kernel_rfl) ?_
 exact ⟨A1, b1.length, c0, k_3.len 0 rfl, rfl, k_3⟩

-- quern/mac.Tuple
theorem c_mac_Tuple {F O : Nat → Prop} {w : World} (k_ : Int) (n : Int) (key : List UInt8) (parts : List (List UInt8)) (A_key : Option Addr) (n_key : Nat) (c_key : Nat) (A_parts : Option Addr) (n_parts : Nat) (c_parts : Nat) (hd_parts : List Hd) (h_key : Ro F w A_key (e8.all key)) (hn_key : key.length = n_key) (hc_key : n_key ≤ c_key) (h_parts : Ro2 F w e8 A_parts hd_parts parts) (hn_parts : parts.length = n_parts) (hc_parts : n_parts ≤ c_parts) (k : Cx F O w w []) (r : (List UInt8 × Int)) (hm : m_mac_Tuple k_ n key parts = some r) :
    Calls Tryz.prog 22 (vals [I k_, I n, sl A_key n_key c_key, sl A_parts n_parts c_parts]) w (fun e w' => ∃ A n1 c, r.1.length = n1 ∧ e = .returned (SV.val (.tup [sl A n1 c, I r.2])) ∧ Cx F O w w' [Ow e8 A n1 c r.1]) := by
 unfold m_mac_Tuple at hm
 subst hn_key
 subst hn_parts
 refine calls [I k_, I n, sl A_key key.length c_key, sl A_parts parts.length c_parts] Tryz.func22 rfl (of_decide_eq_true (by kernel_rfl)) ?_
 refine W_seq <| W_q [] .a qe (by kernel_rfl) ?_
 refine At_go <| W_seq <| W_seq <| W_reg <| WLs 3 [] (.n 15 (I k_) (.n 16 (I n) (.n 17 (sl A_key key.length c_key) .a))) qe (by kernel_rfl) ?_
 refine WL_op ?_
 obtain ⟨r_, h_r_, hm⟩ := ob hm
 refine Op_call [] 18 _ yz_go41 (by kernel_rfl) (c_mac_digest (F := N0) (O := N0) _ _ _ _ _ _ _ _ _ _ _ _ _ _ _ _ _ _ (Ro.n0 (h_key.cx k)) rfl hc_key (Ro.nilE e8) rfl (Nat.le_refl 0) (Ro.nilE e8) rfl (Nat.le_refl 0) (Ro.nilE e8) rfl (Nat.le_refl 0) (Cx.refl _) _ h_r_) ?_
 rintro e_ w_ ⟨A0, _, c0, rfl, rfl, k_1⟩
 have k_2 := k.call k_1
 refine ⟨.tup [sl A0 r_.1.length c0, I r_.2], rfl, ?_⟩
 refine WLs 5 [] (.n 11 (I r_.2) (.ssss .a)) qe (by kernel_rfl) ?_
 refine WL_nil <| At_go <| W_seq <| W_q [] (.n 22 (.b (decide (r_.2 ≠ 0))) .a) qe (by kernel_rfl) ?_
 refine At_go <| W_condp (r_.2 ≠ 0) (by kernel_rfl) (fun hc => ?_) (fun hc => ?_)
 · rw [if_pos hc] at hm
   refine W_seq <| W_q [] (.n 8 (sl none 0 0) (.n 9 (I r_.2) .z)) qe (by kernel_rfl) ?_
   refine At_go <| W_ret (At_tr ?_)
   have k_3 := k_2.nil e8
   obtain rfl := Option.some.inj hm
   refine At_rt [sl none 0 0, I r_.2] qe (by kernel_rfl) ?_
   have k_4 := k_3.sel (.s (.k .e))
   exact ⟨none, 0, 0, k_4.len 0 rfl, rfl, k_4⟩
 rw [if_neg hc] at hm
 refine W_skip <| At_go <| W_seq <| W_reg <| WLs 1 [] (.n 25 (sl A_parts parts.length c_parts) (.ss (.kkk .z))) qe (by kernel_rfl) ?_
 refine WL_op ?_
 obtain ⟨r_1, h_r_1, hm⟩ := ob hm
 refine Op_call [] 26 _ yz_go24 (by kernel_rfl) (c_mac_Row (F := N0) (O := N0) _ _ _ _ _ (Ro2.n0 h_parts k_2) rfl hc_parts (Cx.refl _) _ h_r_1) ?_
 rintro e_ w_1 ⟨A1, _, c1, rfl, rfl, k_5⟩
 have k_6 := k_2.call k_5
 refine ⟨.tup [sl A1 r_1.1.length c1, I r_1.2], rfl, ?_⟩
 have k_7 := k_6.sel (.s (.k .e))
 refine WLs 5 [] (.n 12 (sl A1 r_1.1.length c1) (.n 13 (I r_1.2) (.ss .a))) qe (by kernel_rfl) ?_
 refine WL_nil <| At_go <| W_seq <| W_seq <| W_q [] (.n 30 (.b (decide (r_1.2 ≠ 0))) .a) qe (by kernel_rfl) ?_
 refine At_go <| W_condp (r_1.2 ≠ 0) (by kernel_rfl) (fun hc1 => ?_) (fun hc1 => ?_)
 · rw [if_pos hc1] at hm
   refine W_seq <| W_q [] (.n 8 (sl none 0 0) (.n 9 (I r_1.2) .z)) qe (by kernel_rfl) ?_
   refine At_go <| W_ret (At_tr ?_)
   have k_8 := k_7.nil e8
   obtain rfl := Option.some.inj hm
   refine At_rt [sl none 0 0, I r_1.2] qe (by kernel_rfl) ?_
   have k_9 := k_8.sel (.s (.k .e))
   exact ⟨none, 0, 0, k_9.len 0 rfl, rfl, k_9⟩
 rw [if_neg hc1] at hm
 refine W_skip <| At_go <| W_seq <| W_reg <| WLs 4 [] (.n 32 (I k_) (.n 33 (I n) (.n 34 (sl A_key key.length c_key) (.n 35 (sl A1 r_1.1.length c1) .z)))) qe (by kernel_rfl) ?_
 refine WL_op ?_
 obtain ⟨r_2, h_r_2, hm⟩ := ob hm
 refine Op_call [] 36 _ yz_go41 (by kernel_rfl) (c_mac_digest (F := N0) (O := N0) _ _ _ _ _ _ _ _ _ _ _ _ _ _ _ _ _ _ (Ro.n0 (h_key.cx k_7)) rfl hc_key (Ro.nilE e8) rfl (Nat.le_refl 0) (Ro.nilE e8) rfl (Nat.le_refl 0) (Ro.n0 (k_7.rd 0 rfl)) (k_7.len 0 rfl) (k_7.lec 0 rfl) (Cx.refl _) _ h_r_2) ?_
 rintro e_ w_2 ⟨A2, _, c2, rfl, rfl, k_10⟩
 have k_11 := k_7.call k_10
 refine ⟨.tup [sl A2 r_2.1.length c2, I r_2.2], rfl, ?_⟩
 have k_12 := k_11.sel (.s (.k .e))
 refine WLs 4 [] (.n 8 (sl A2 r_2.1.length c2) (.n 9 (I r_2.2) .z)) qe (by kernel_rfl) ?_
 refine WL_nil <| At_go <| W_ret ?_
 obtain rfl := Option.some.inj hm
 refine At_rt [sl A2 r_2.1.length c2, I r_2.2] qe (by kernel_rfl) ?_
 exact ⟨A2, r_2.1.length, c2, k_12.len 0 rfl, rfl, k_12⟩

-- quern/quernref06.Row
theorem c_r06_Row {F O : Nat → Prop} {w : World} (parts : List (List UInt8)) (A_parts : Option Addr) (n_parts : Nat) (c_parts : Nat) (hd_parts : List Hd) (h_parts : Ro2 F w e8 A_parts hd_parts parts) (hn_parts : parts.length = n_parts) (hc_parts : n_parts ≤ c_parts) (k : Cx F O w w []) (r : (List UInt8 × Int)) (hm : m_r06_Row parts = some r) :
    Calls Tryz.prog 25 (vals [sl A_parts n_parts c_parts]) w (fun e w' => ∃ A n c, r.1.length = n ∧ e = .returned (SV.val (.tup [sl A n c, I r.2])) ∧ Cx F O w w' [Ow e8 A n c r.1]) := by
 unfold m_r06_Row at hm
 subst hn_parts
 refine calls [sl A_parts parts.length c_parts] Tryz.func25 rfl (of_decide_eq_true (by kernel_rfl)) ?_
 refine W_seq <| W_q [] .a qe (by kernel_rfl) ?_
 refine At_go <| W_seq <| W_q [] (.n 4 (sl none 0 0) .a) qe (by kernel_rfl) ?_
 refine At_go <| W_seq <| W_seq <| W_q [] (.n 5 (I 0) .a) qe (by kernel_rfl) ?_
 refine At_go <| W_block ?_
 have k_1 := k.nil e8
 refine W_lp (m_r06_Row_l0 parts) (fun s L wr => ∃ (all : List UInt8) (i : Int) (A0 : Option Addr) (n0 : Nat) (c0 : Nat), (all, i) = s ∧ L = [(0, sl A_parts parts.length c_parts), (4, sl A0 n0 c0), (5, I i)] ∧ all.length = n0 ∧ Cx F O w wr [Ow e8 A0 n0 c0 all]) (([] : List UInt8), (0 : Int)) r hm ⟨([] : List UInt8), (0 : Int), none, 0, 0, rfl, rfl, k_1.len 0 rfl, k_1⟩ (by kernel_rfl) ?_
 intro s0_ L_ w_ y0 hrel hstep hr0
 obtain ⟨all, i, A0, _, c0, rfl, rfl, rfl, k_⟩ := hrel
 have hm := hstep; simp only [m_r06_Row_l0] at hm
 clear hstep
 refine W_seq <| W_seq <| W_q [] (.n 9 (.b (decide (i < ((parts.length : Nat) : Int)))) .a) qe (by kernel_rfl) ?_
 refine At_go <| W_condp (i < ((parts.length : Nat) : Int)) (by kernel_rfl) (fun hc => ?_) (fun hc => ?_)
 · rw [if_pos hc] at hm
   refine W_skip <| At_go <| W_seq <| W_block <| W_seq <| W_seq ?_
   obtain ⟨b, h_b, hm⟩ := ob hm
   obtain ⟨A_b, c_b, hh, hle, hro⟩ := h_parts.at h_b
   obtain ⟨b1, h_b1, hm⟩ := ob hm
   obtain ⟨A_b1, c_b1, hh1, hle1⟩ := h_parts.atg h_b1
   refine W_q [] (.n 29 (.b ((decide (16777216 < ((b.length : Nat) : Int))) || (decide (16777216 < (w64 ((w64 (((all.length : Nat) : Int) + 8)) + ((b1.length : Nat) : Int))))))) (.s .a)) (qJ (h_parts.ro.cx k_) hh h_parts.len <| qC (sl A_b b.length c_b) (Rd.el (k := 0) (h_parts.ro.cx k_) hh (Pt.ix1 A_parts i 1) rfl) <| qp ((decide (16777216 < ((b.length : Nat) : Int))) = false → 0 ≤ i ∧ i < ((parts.length : Nat) : Int) ∧ A_parts.isSome = true) (fun hg0 => Rd.ix (E := eH) (h_parts.ro.cx k_) (hh1 (by rw [hg0]; rfl)) h_parts.len (by decide)) <| qo (sl A_b1 b1.length c_b1) <| qc (fun w => (decide (16777216 < ((b.length : Nat) : Int))) = false → ∃ a, ixA A_parts i 1 = some a ∧ w.cell? a = some (SV.val (sl A_b1 b1.length c_b1))) (fun hg0 => Rd.el (k := 0) (h_parts.ro.cx k_) (hh1 (by rw [hg0]; rfl)) (Pt.ix1 A_parts i 1) rfl) <| qe) (by kernel_rfl) ?_
   refine At_go <| W_cond ((decide (16777216 < ((b.length : Nat) : Int))) || (decide (16777216 < (w64 ((w64 (((all.length : Nat) : Int) + 8)) + ((b1.length : Nat) : Int)))))) (by kernel_rfl) (fun hc1 => ?_) (fun hc1 => ?_)
   · rw [if_pos hc1] at hm
     refine W_seq <| W_q [] (.n 2 (sl none 0 0) (.n 3 (I 2) .z)) qe (by kernel_rfl) ?_
     refine At_go <| W_ret (At_tr (At_ir (At_tr (At_tr (At_ir (At_tr ?_))))))
     have hm := exit_of hm hr0
     have k_2 := k_.nil e8
     obtain rfl := Option.some.inj hm
     refine At_rt [sl none 0 0, I 2] qe (by kernel_rfl) ?_
     have k_3 := k_2.sel (.s (.k .e))
     exact ⟨none, 0, 0, k_3.len 0 rfl, rfl, k_3⟩
   rw [if_neg (by rw [hc1]; decide)] at hm
   refine W_skip <| At_go <| W_seq <| W_reg ?_
   obtain ⟨b2, h_b2, hm⟩ := ob hm
   obtain ⟨A_b2, c_b2, hh2, hle2, hro1⟩ := h_parts.at h_b2
   refine WLs 7 [] (.n 30 (sl A0 all.length c0) (.n 36 (.u64 (UInt64.ofInt ((b2.length : Nat) : Int))) (.s .a))) (qJ (h_parts.ro.cx k_) hh2 h_parts.len <| qC (sl A_b2 b2.length c_b2) (Rd.el (k := 0) (h_parts.ro.cx k_) hh2 (Pt.ix1 A_parts i 1) rfl) <| qe) (by kernel_rfl) ?_
   refine WL_op ?_
   obtain ⟨r_, h_r_, hm⟩ := ob hm
   refine Op_call [] 37 _ yz_go48 (by kernel_rfl) (c_r01_Store (F := N0) (O := N0) _ _ (Cx.refl _) _ h_r_) ?_
   rintro e_ w_1 ⟨A1, _, c1, rfl, rfl, k_4⟩
   have k_5 := k_.call k_4
   refine ⟨sl A1 r_.length c1, rfl, ?_⟩
   refine WL_op ?_
   obtain ⟨all1, h_all1, hm⟩ := ob hm
   obtain ⟨hz, hl⟩ := app_some h_all1
   refine Op_append (E := e8) (v := sl A1 r_.length c1) (ys := r_) yz_tf22 [] 38 0 (by kernel_rfl) k_5 rfl (Src.sl (k_5.rd 1 rfl) (k_5.len 1 rfl) (by rfl)) (k_5.len 1 rfl) (by have := k_5.len 0 rfl; have := (k_5.len 1 rfl); omega) ?_
   intro A2 c2 w_2 k_6
   rw [← hl] at k_6
   have k_7 := k_6.sel (.k .z)
   refine WLs 1 [] (.n 4 (sl A2 (all.length + r_.length) c2) (.ssss (.k (.s .a)))) qe (by kernel_rfl) ?_
   refine WL_nil <| At_go <| W_reg ?_
   obtain ⟨b3, h_b3, hm⟩ := ob hm
   obtain ⟨A_b3, c_b3, hh3, hle3, hro2⟩ := h_parts.at h_b3
   refine WLs 5 [] (.n 39 (sl A2 (all.length + r_.length) c2) (.n 43 (sl A_b3 b3.length c_b3) .a)) (qJ (h_parts.ro.cx k_7) hh3 h_parts.len <| qC (sl A_b3 b3.length c_b3) (Rd.el (k := 0) (h_parts.ro.cx k_7) hh3 (Pt.ix1 A_parts i 1) rfl) <| qe) (by kernel_rfl) ?_
   refine WL_op ?_
   obtain ⟨all2, h_all2, hm⟩ := ob hm
   obtain ⟨hz1, hl1⟩ := app_some h_all2
   refine Op_append (E := e8) (v := sl A_b3 b3.length c_b3) (ys := b3) yz_tf22 [] 44 0 (by kernel_rfl) k_7 rfl (Src.sl (hro2.cx k_7) rfl (by rfl)) rfl (by have := k_7.len 0 rfl; have := hm; omega) ?_
   intro A3 c3 w_3 k_8
   rw [← hl1] at k_8
   refine WLs 1 [] (.n 4 (sl A3 (all.length + r_.length + b3.length) c3) (.ssss .a)) qe (by kernel_rfl) ?_
   refine WL_nil <| At_in <| At_go <| W_q [] (.n 5 (I (w64 (i + 1))) (.kk .z)) qe (by kernel_rfl) ?_
   exact At_rd (all2, w64 (i + 1)) (Option.some.inj hm).symm ⟨all2, w64 (i + 1), A3, all.length + r_.length + b3.length, c3, rfl, rfl, k_8.len 0 rfl, k_8⟩ (by kernel_rfl)
 rw [if_neg hc] at hm
 refine W_exit (At_te (At_te (At_ie ?_)))
 have hm := exit_of hm hr0
 refine At_go <| W_seq <| W_q [] (.n 2 (sl A0 all.length c0) (.n 3 (I 0) .z)) qe (by kernel_rfl) ?_
 refine At_go <| W_ret ?_
 obtain rfl := Option.some.inj hm
 refine At_rt [sl A0 all.length c0, I 0] qe (by kernel_rfl) ?_
 exact ⟨A0, all.length, c0, k_.len 0 rfl, rfl, k_⟩

-- quern/quernref06.Tuple
theorem c_r06_Tuple {F O : Nat → Prop} {w : World} (kind : Int) (n : Int) (key : List UInt8) (parts : List (List UInt8)) (A_key : Option Addr) (n_key : Nat) (c_key : Nat) (A_parts : Option Addr) (n_parts : Nat) (c_parts : Nat) (hd_parts : List Hd) (h_key : Ro F w A_key (e8.all key)) (hn_key : key.length = n_key) (hc_key : n_key ≤ c_key) (h_parts : Ro2 F w e8 A_parts hd_parts parts) (hn_parts : parts.length = n_parts) (hc_parts : n_parts ≤ c_parts) (k : Cx F O w w []) (r : (List UInt8 × Int)) (hm : m_r06_Tuple kind n key parts = some r) :
    Calls Tryz.prog 23 (vals [I kind, I n, sl A_key n_key c_key, sl A_parts n_parts c_parts]) w (fun e w' => ∃ A n1 c, r.1.length = n1 ∧ e = .returned (SV.val (.tup [sl A n1 c, I r.2])) ∧ Cx F O w w' [Ow e8 A n1 c r.1]) := by
 unfold m_r06_Tuple at hm
 subst hn_key
 subst hn_parts
 refine calls [I kind, I n, sl A_key key.length c_key, sl A_parts parts.length c_parts] Tryz.func23 rfl (of_decide_eq_true (by kernel_rfl)) ?_
 refine W_seq <| W_q [] .a qe (by kernel_rfl) ?_
 refine At_go <| W_seq <| W_reg <| WLs 3 [] (.n 14 (I kind) (.n 15 (I n) (.n 16 (sl A_key key.length c_key) .a))) qe (by kernel_rfl) ?_
 refine WL_op ?_
 obtain ⟨r_, h_r_, hm⟩ := ob hm
 refine Op_call [] 17 _ yz_go12 (by kernel_rfl) (c_r06_Make (F := N0) (O := N0) _ _ _ _ _ _ _ _ _ _ _ _ _ _ _ _ _ _ (Ro.n0 (h_key.cx k)) rfl hc_key (Ro.nilE e8) rfl (Nat.le_refl 0) (Ro.nilE e8) rfl (Nat.le_refl 0) (Ro.nilE e8) rfl (Nat.le_refl 0) (Cx.refl _) _ h_r_) ?_
 rintro e_ w_ ⟨A0, _, c0, rfl, rfl, k_⟩
 have k_1 := k.call k_
 refine ⟨.tup [sl A0 r_.1.length c0, I r_.2], rfl, ?_⟩
 refine WLs 5 [] (.n 11 (I r_.2) (.ssss .a)) qe (by kernel_rfl) ?_
 refine WL_nil <| At_go <| W_seq <| W_seq <| W_q [] (.n 21 (.b (decide (r_.2 ≠ 0))) .a) qe (by kernel_rfl) ?_
 refine At_go <| W_condp (r_.2 ≠ 0) (by kernel_rfl) (fun hc => ?_) (fun hc => ?_)
 · rw [if_pos hc] at hm
   refine W_seq <| W_q [] (.n 8 (sl none 0 0) (.n 9 (I r_.2) .z)) qe (by kernel_rfl) ?_
   refine At_go <| W_ret (At_tr ?_)
   have k_2 := k_1.nil e8
   obtain rfl := Option.some.inj hm
   refine At_rt [sl none 0 0, I r_.2] qe (by kernel_rfl) ?_
   have k_3 := k_2.sel (.s (.k .e))
   exact ⟨none, 0, 0, k_3.len 0 rfl, rfl, k_3⟩
 rw [if_neg hc] at hm
 refine W_skip <| At_go <| W_seq <| W_reg <| WLs 1 [] (.n 24 (sl A_parts parts.length c_parts) (.s (.kkkk .z))) qe (by kernel_rfl) ?_
 refine WL_op ?_
 obtain ⟨r_1, h_r_1, hm⟩ := ob hm
 refine Op_call [] 25 _ yz_go25 (by kernel_rfl) (c_r06_Row (F := N0) (O := N0) _ _ _ _ _ (Ro2.n0 h_parts k_1) rfl hc_parts (Cx.refl _) _ h_r_1) ?_
 rintro e_ w_1 ⟨A1, _, c1, rfl, rfl, k_4⟩
 have k_5 := k_1.call k_4
 refine ⟨.tup [sl A1 r_1.1.length c1, I r_1.2], rfl, ?_⟩
 have k_6 := k_5.sel (.s (.k .e))
 refine WLs 5 [] (.n 11 (I r_1.2) (.n 12 (sl A1 r_1.1.length c1) (.sss .a))) qe (by kernel_rfl) ?_
 refine WL_nil <| At_go <| W_seq <| W_seq <| W_q [] (.n 29 (.b (decide (r_1.2 ≠ 0))) .a) qe (by kernel_rfl) ?_
 refine At_go <| W_condp (r_1.2 ≠ 0) (by kernel_rfl) (fun hc1 => ?_) (fun hc1 => ?_)
 · rw [if_pos hc1] at hm
   refine W_seq <| W_q [] (.n 8 (sl none 0 0) (.n 9 (I r_1.2) .z)) qe (by kernel_rfl) ?_
   refine At_go <| W_ret (At_tr ?_)
   have k_7 := k_6.nil e8
   obtain rfl := Option.some.inj hm
   refine At_rt [sl none 0 0, I r_1.2] qe (by kernel_rfl) ?_
   have k_8 := k_7.sel (.s (.k .e))
   exact ⟨none, 0, 0, k_8.len 0 rfl, rfl, k_8⟩
 rw [if_neg hc1] at hm
 refine W_skip <| At_go <| W_seq <| W_reg <| WLs 4 [] (.n 31 (I kind) (.n 32 (I n) (.n 33 (sl A_key key.length c_key) (.n 34 (sl A1 r_1.1.length c1) .z)))) qe (by kernel_rfl) ?_
 refine WL_op ?_
 obtain ⟨r_2, h_r_2, hm⟩ := ob hm
 refine Op_call [] 35 _ yz_go12 (by kernel_rfl) (c_r06_Make (F := N0) (O := N0) _ _ _ _ _ _ _ _ _ _ _ _ _ _ _ _ _ _ (Ro.n0 (h_key.cx k_6)) rfl hc_key (Ro.nilE e8) rfl (Nat.le_refl 0) (Ro.nilE e8) rfl (Nat.le_refl 0) (Ro.n0 (k_6.rd 0 rfl)) (k_6.len 0 rfl) (k_6.lec 0 rfl) (Cx.refl _) _ h_r_2) ?_
 rintro e_ w_2 ⟨A2, _, c2, rfl, rfl, k_9⟩
 have k_10 := k_6.call k_9
 refine ⟨.tup [sl A2 r_2.1.length c2, I r_2.2], rfl, ?_⟩
 have k_11 := k_10.sel (.s (.k .e))
 refine WLs 4 [] (.n 8 (sl A2 r_2.1.length c2) (.n 9 (I r_2.2) .z)) qe (by kernel_rfl) ?_
 refine WL_nil <| At_go <| W_ret ?_
 obtain rfl := Option.some.inj hm
 refine At_rt [sl A2 r_2.1.length c2, I r_2.2] qe (by kernel_rfl) ?_
 exact ⟨A2, r_2.1.length, c2, k_11.len 0 rfl, rfl, k_11⟩

-- quern/quernlaw06.MacParts
theorem c_l06_MacParts {F O : Nat → Prop} {w : World} (k_ : Int) (n : Int) (l : List (List UInt8)) (A_l : Option Addr) (n_l : Nat) (c_l : Nat) (hd_l : List Hd) (h_l : Ro2 F w e8 A_l hd_l l) (hn_l : l.length = n_l) (hc_l : n_l ≤ c_l) (k : Cx F O w w []) (r : Bool) (hm : m_l06_MacParts k_ n l = some r) :
    Calls Tryz.prog 6 (vals [I k_, I n, sl A_l n_l c_l]) w (fun e w' => e = .returned (SV.val (.b r)) ∧ Cx F O w w' []) := by
 unfold m_l06_MacParts at hm
 subst hn_l
 refine calls [I k_, I n, sl A_l l.length c_l] Tryz.func6 rfl (of_decide_eq_true (by kernel_rfl)) ?_
 refine W_seq <| W_q [] .a qe (by kernel_rfl) ?_
 refine At_go <| W_seq <| W_q [] (.n 7 (sl none 0 0) .a) qe (by kernel_rfl) ?_
 refine At_go <| W_cut (fun L wr => ∃ (key : List UInt8) (A : Option Addr) (n1 : Nat) (c : Nat), m_l06_MacParts_j0 k_ n l key = some r ∧ L = [(0, I k_), (1, I n), (2, sl A_l l.length c_l), (7, sl A n1 c)] ∧ key.length = n1 ∧ Cx F O w wr [Ow e8 A n1 c key]) ?_ ?_
 ·
  refine W_seq <| W_q [] (.n 14 (.b (decide (0 < ((l.length : Nat) : Int)))) .a) qe (by kernel_rfl) ?_
  refine At_go <| W_condp (0 < ((l.length : Nat) : Int)) (by kernel_rfl) (fun hc => ?_) (fun hc => ?_)
  · rw [if_pos hc] at hm
    refine W_reg ?_
    obtain ⟨b, h_b, hm⟩ := ob hm
    obtain ⟨A_b, c_b, hh, hle, hro⟩ := h_l.at h_b
    refine WLs 4 [] (.n 15 (sl none 0 0) (.n 18 (sl A_b b.length c_b) (.s .a))) (qJ (h_l.ro.cx k) hh h_l.len <| qC (sl A_b b.length c_b) (Rd.el (k := 0) (h_l.ro.cx k) hh (Pt.ix1 A_l (0 : Int) 1) rfl) <| qe) (by kernel_rfl) ?_
    refine WL_op ?_
    have k_1 := k.nil e8
    obtain ⟨key1, h_key1, hm⟩ := ob hm
    obtain ⟨hz, hl⟩ := app_some h_key1
    refine Op_append (E := e8) (v := sl A_b b.length c_b) (ys := b) yz_tf22 [] 19 0 (by kernel_rfl) k_1 rfl (Src.sl (hro.cx k_1) rfl (by rfl)) rfl (by have := k_1.len 0 rfl; have := hm; omega) ?_
    intro A1 c1 w_ k_2
    rw [← hl] at k_2
    refine WLs 1 [] (.n 7 (sl A1 (0 + b.length) c1) (.ssss .a)) qe (by kernel_rfl) ?_
    refine WL_nil ?_
    exact At_c ⟨key1, A1, 0 + b.length, c1, hm, rfl, k_2.len 0 rfl, k_2⟩ (by kernel_rfl)
  rw [if_neg hc] at hm
  refine W_skip ?_
  have k_3 := k.nil e8
  exact At_c ⟨([] : List UInt8), none, 0, 0, hm, rfl, k_3.len 0 rfl, k_3⟩ (by kernel_rfl)
 rintro L_ w_1 ⟨key, A, _, c, hm, rfl, rfl, k_4⟩
 simp only [m_l06_MacParts_j0] at hm
 refine W_seq <| W_reg <| WLs 4 [] (.n 21 (I k_) (.n 22 (I n) (.n 23 (sl A key.length c) (.n 24 (sl A_l l.length c_l) .a)))) qe (by kernel_rfl) ?_
 refine WL_op ?_
 obtain ⟨r_, h_r_, hm⟩ := ob hm
 refine Op_call [] 25 _ yz_go20 (by kernel_rfl) (c_mac_Parts (F := N0) (O := N0) _ _ _ _ _ _ _ _ _ _ _ (Ro.n0 (k_4.rd 0 rfl)) (k_4.len 0 rfl) (k_4.lec 0 rfl) (Ro2.n0 h_l k_4) rfl hc_l (Cx.refl _) _ h_r_) ?_
 rintro e_ w_2 ⟨A2, _, c2, rfl, rfl, k_5⟩
 have k_6 := k_4.call k_5
 refine ⟨.tup [sl A2 r_.1.length c2, I r_.2], rfl, ?_⟩
 refine WLs 5 [] (.n 8 (sl A2 r_.1.length c2) (.n 9 (I r_.2) (.ssss (.s .a)))) qe (by kernel_rfl) ?_
 refine WL_nil <| At_go <| W_seq <| W_reg <| WLs 4 [] (.n 29 (I k_) (.n 30 (I n) (.n 31 (sl A key.length c) (.n 32 (sl A_l l.length c_l) .a)))) qe (by kernel_rfl) ?_
 refine WL_op ?_
 obtain ⟨r_1, h_r_1, hm⟩ := ob hm
 refine Op_call [] 33 _ yz_go21 (by kernel_rfl) (c_r06_Parts (F := N0) (O := N0) _ _ _ _ _ _ _ _ _ _ _ (Ro.n0 (k_6.rd 0 rfl)) (k_6.len 0 rfl) (k_6.lec 0 rfl) (Ro2.n0 h_l k_6) rfl hc_l (Cx.refl _) _ h_r_1) ?_
 rintro e_ w_3 ⟨A3, _, c3, rfl, rfl, k_7⟩
 have k_8 := k_6.call k_7
 refine ⟨.tup [sl A3 r_1.1.length c3, I r_1.2], rfl, ?_⟩
 refine WLs 5 [] (.n 10 (sl A3 r_1.1.length c3) (.n 11 (I r_1.2) (.ssss (.s .a)))) qe (by kernel_rfl) ?_
 refine WL_nil <| At_go <| W_seq <| W_seq <| W_reg <| WLs 4 [] (.n 39 (.b (decide (r_.2 ≠ r_1.2))) (.k (.s (.k (.s .a))))) qe (by kernel_rfl) ?_
 refine WL_sp 39 (decide (r_.2 ≠ r_1.2)) (.s .a) (by kernel_rfl) (fun hg => ?_) (fun hg => ?_)
 · rw [if_pos (of_decide_eq_true hg)] at hm
   refine WLs 5 [39] (.n 44 (.b true) (.sss .a)) qe (by kernel_rfl) ?_
   refine WL_nil <| At_go <| W_cond true (by kernel_rfl) (fun _ => ?_) (fun h => by cases h)
   refine W_seq <| W_q [] (.n 6 (.b false) .z) qe (by kernel_rfl) ?_
   refine At_go <| W_ret (At_tr ?_)
   obtain rfl := Option.some.inj hm
   refine At_rt [.b false] qe (by kernel_rfl) ?_
   have k_9 := k_8.sel .z
   exact ⟨rfl, k_9⟩
 · rw [if_neg (of_decide_eq_false hg)] at hm
   refine WLs 2 [39] (.n 40 (sl A2 r_.1.length c2) (.n 41 (sl A3 r_1.1.length c3) (.k (.ss .a)))) qe (by kernel_rfl) ?_
   refine WL_op ?_
   obtain ⟨r_2, h_r_2, hm⟩ := ob hm
   refine Op_call [39] 42 _ yz_go10 (by kernel_rfl) (c_l06_same (F := N0) (O := N0) _ _ _ _ _ _ _ _ (Ro.n0 (k_8.rd 1 rfl)) (k_8.len 1 rfl) (k_8.lec 1 rfl) (Ro.n0 (k_8.rd 2 rfl)) (k_8.len 2 rfl) (k_8.lec 2 rfl) (Cx.refl _) _ h_r_2) ?_
   rintro e_ w_4 ⟨rfl, k_10⟩
   have k_11 := k_8.call k_10
   refine ⟨.b r_2, rfl, ?_⟩
   have k_12 := k_11.sel (.k .z)
   refine WLs 2 [39] (.n 44 (.b (!r_2)) (.ssss .a)) qe (by kernel_rfl) ?_
   refine WL_nil <| At_go <| W_cond (!r_2) (by kernel_rfl) (fun hc1 => ?_) (fun hc1 => ?_)
   · rw [if_pos hc1] at hm
     refine W_seq <| W_q [] (.n 6 (.b false) .z) qe (by kernel_rfl) ?_
     refine At_go <| W_ret (At_tr ?_)
     obtain rfl := Option.some.inj hm
     refine At_rt [.b false] qe (by kernel_rfl) ?_
     have k_13 := k_12.sel .z
     exact ⟨rfl, k_13⟩
   rw [if_neg (by rw [hc1]; decide)] at hm
   refine W_skip <| At_go <| W_seq <| W_reg <| WLs 4 [] (.n 46 (I k_) (.n 47 (I n) (.n 48 (sl A key.length c) (.n 49 (sl A_l l.length c_l) (.s .a))))) qe (by kernel_rfl) ?_
   refine WL_op ?_
   obtain ⟨r_3, h_r_3, hm⟩ := ob hm
   refine Op_call [] 50 _ yz_go22 (by kernel_rfl) (c_mac_Tuple (F := N0) (O := N0) _ _ _ _ _ _ _ _ _ _ _ (Ro.n0 (k_12.rd 0 rfl)) (k_12.len 0 rfl) (k_12.lec 0 rfl) (Ro2.n0 h_l k_12) rfl hc_l (Cx.refl _) _ h_r_3) ?_
   rintro e_ w_5 ⟨A4, _, c4, rfl, rfl, k_14⟩
   have k_15 := k_12.call k_14
   refine ⟨.tup [sl A4 r_3.1.length c4, I r_3.2], rfl, ?_⟩
   refine WLs 5 [] (.n 8 (sl A4 r_3.1.length c4) (.n 9 (I r_3.2) (.ssss (.s .a)))) qe (by kernel_rfl) ?_
   refine WL_nil <| At_go <| W_seq <| W_reg <| WLs 4 [] (.n 54 (I k_) (.n 55 (I n) (.n 56 (sl A key.length c) (.n 57 (sl A_l l.length c_l) (.kk (.ss (.k .z))))))) qe (by kernel_rfl) ?_
   refine WL_op ?_
   have k_16 := k_15.sel (.kk .e)
   obtain ⟨r_4, h_r_4, hm⟩ := ob hm
   refine Op_call [] 58 _ yz_go23 (by kernel_rfl) (c_r06_Tuple (F := N0) (O := N0) _ _ _ _ _ _ _ _ _ _ _ (Ro.n0 (k_16.rd 0 rfl)) (k_16.len 0 rfl) (k_16.lec 0 rfl) (Ro2.n0 h_l k_16) rfl hc_l (Cx.refl _) _ h_r_4) ?_
   rintro e_ w_6 ⟨A5, _, c5, rfl, rfl, k_17⟩
   have k_18 := k_16.call k_17
   refine ⟨.tup [sl A5 r_4.1.length c5, I r_4.2], rfl, ?_⟩
   have k_19 := k_18.sel (.s (.kk .e))
   refine WLs 5 [] (.n 10 (sl A5 r_4.1.length c5) (.n 11 (I r_4.2) (.ssss (.s .a)))) qe (by kernel_rfl) ?_
   refine WL_nil <| At_go <| W_seq <| W_seq <| W_reg <| WLs 4 [] (.n 64 (.b (decide (r_3.2 ≠ r_4.2))) (.k (.s (.k (.s .a))))) qe (by kernel_rfl) ?_
   refine WL_sp 64 (decide (r_3.2 ≠ r_4.2)) (.s .a) (by kernel_rfl) (fun hg1 => ?_) (fun hg1 => ?_)
   · rw [if_pos (of_decide_eq_true hg1)] at hm
     refine WLs 5 [64] (.n 69 (.b true) (.sss .a)) qe (by kernel_rfl) ?_
     refine WL_nil <| At_go <| W_cond true (by kernel_rfl) (fun _ => ?_) (fun h => by cases h)
     refine W_seq <| W_q [] (.n 6 (.b false) .z) qe (by kernel_rfl) ?_
     refine At_go <| W_ret (At_tr ?_)
     obtain rfl := Option.some.inj hm
     refine At_rt [.b false] qe (by kernel_rfl) ?_
     have k_20 := k_19.sel .z
     exact ⟨rfl, k_20⟩
   · rw [if_neg (of_decide_eq_false hg1)] at hm
     refine WLs 2 [64] (.n 65 (sl A4 r_3.1.length c4) (.n 66 (sl A5 r_4.1.length c5) (.k (.ss .a)))) qe (by kernel_rfl) ?_
     refine WL_op ?_
     obtain ⟨r_5, h_r_5, hm⟩ := ob hm
     refine Op_call [64] 67 _ yz_go10 (by kernel_rfl) (c_l06_same (F := N0) (O := N0) _ _ _ _ _ _ _ _ (Ro.n0 (k_19.rd 0 rfl)) (k_19.len 0 rfl) (k_19.lec 0 rfl) (Ro.n0 (k_19.rd 1 rfl)) (k_19.len 1 rfl) (k_19.lec 1 rfl) (Cx.refl _) _ h_r_5) ?_
     rintro e_ w_7 ⟨rfl, k_21⟩
     have k_22 := k_19.call k_21
     refine ⟨.b r_5, rfl, ?_⟩
     have k_23 := k_22.sel .z
     refine WLs 2 [64] (.n 69 (.b (!r_5)) (.ssss .a)) qe (by kernel_rfl) ?_
     refine WL_nil <| At_go <| W_cond (!r_5) (by kernel_rfl) (fun hc2 => ?_) (fun hc2 => ?_)
     · rw [if_pos hc2] at hm
       refine W_seq <| W_q [] (.n 6 (.b false) .z) qe (by kernel_rfl) ?_
       refine At_go <| W_ret (At_tr ?_)
       obtain rfl := Option.some.inj hm
       refine At_rt [.b false] qe (by kernel_rfl) ?_
       exact ⟨rfl, k_23⟩
     rw [if_neg (by rw [hc2]; decide)] at hm
     refine W_skip <| At_go <| W_seq <| W_reg <| WLs 1 [] (.n 71 (sl A_l l.length c_l) (.s .a)) qe (by kernel_rfl) ?_
     refine WL_op ?_
     obtain ⟨r_6, h_r_6, hm⟩ := ob hm
     refine Op_call [] 72 _ yz_go24 (by kernel_rfl) (c_mac_Row (F := N0) (O := N0) _ _ _ _ _ (Ro2.n0 h_l k_23) rfl hc_l (Cx.refl _) _ h_r_6) ?_
     rintro e_ w_8 ⟨A6, _, c6, rfl, rfl, k_24⟩
     have k_25 := k_23.call k_24
     refine ⟨.tup [sl A6 r_6.1.length c6, I r_6.2], rfl, ?_⟩
     refine WLs 5 [] (.n 8 (sl A6 r_6.1.length c6) (.n 9 (I r_6.2) (.ss .a))) qe (by kernel_rfl) ?_
     refine WL_nil <| At_go <| W_seq <| W_reg <| WLs 1 [] (.n 76 (sl A_l l.length c_l) (.kk .z)) qe (by kernel_rfl) ?_
     refine WL_op ?_
     obtain ⟨r_7, h_r_7, hm⟩ := ob hm
     refine Op_call [] 77 _ yz_go25 (by kernel_rfl) (c_r06_Row (F := N0) (O := N0) _ _ _ _ _ (Ro2.n0 h_l k_25) rfl hc_l (Cx.refl _) _ h_r_7) ?_
     rintro e_ w_9 ⟨A7, _, c7, rfl, rfl, k_26⟩
     have k_27 := k_25.call k_26
     refine ⟨.tup [sl A7 r_7.1.length c7, I r_7.2], rfl, ?_⟩
     refine WLs 5 [] (.n 10 (sl A7 r_7.1.length c7) (.n 11 (I r_7.2) (.ss .a))) qe (by kernel_rfl) ?_
     refine WL_nil <| At_go <| W_seq <| W_reg <| WLs 4 [] (.n 83 (.b (decide (r_6.2 = r_7.2))) (.k (.s (.k .z)))) qe (by kernel_rfl) ?_
     refine WL_sp 83 (decide (r_6.2 = r_7.2)) (.s .a) (by kernel_rfl) (fun hg2 => ?_) (fun hg2 => ?_)
     · rw [if_pos (of_decide_eq_true hg2)] at hm
       refine WLs 2 [83] (.n 84 (sl A6 r_6.1.length c6) (.n 85 (sl A7 r_7.1.length c7) (.k .z))) qe (by kernel_rfl) ?_
       refine WL_op ?_
       have k_28 := k_27.sel (.kk .e)
       obtain ⟨r_8, h_r_8, hm⟩ := ob hm
       refine Op_call [83] 86 _ yz_go10 (by kernel_rfl) (c_l06_same (F := N0) (O := N0) _ _ _ _ _ _ _ _ (Ro.n0 (k_28.rd 0 rfl)) (k_28.len 0 rfl) (k_28.lec 0 rfl) (Ro.n0 (k_28.rd 1 rfl)) (k_28.len 1 rfl) (k_28.lec 1 rfl) (Cx.refl _) _ h_r_8) ?_
       rintro e_ w_10 ⟨rfl, k_29⟩
       have k_30 := k_28.call k_29
       refine ⟨.b r_8, rfl, ?_⟩
       have k_31 := k_30.sel .z
       refine WLs 2 [83] (.n 6 (.b r_8) .z) qe (by kernel_rfl) ?_
       refine WL_nil <| At_go <| W_ret ?_
       obtain rfl := Option.some.inj hm
       refine At_rt [.b r_8] qe (by kernel_rfl) ?_
       exact ⟨rfl, k_31⟩
     · rw [if_neg (of_decide_eq_false hg2)] at hm
       refine WLs 5 [83] (.n 6 (.b false) .z) qe (by kernel_rfl) ?_
       refine WL_nil <| At_go <| W_ret ?_
       obtain rfl := Option.some.inj hm
       refine At_rt [.b false] qe (by kernel_rfl) ?_
       have k_32 := k_27.sel .z
       exact ⟨rfl, k_32⟩
end Go.Sx
