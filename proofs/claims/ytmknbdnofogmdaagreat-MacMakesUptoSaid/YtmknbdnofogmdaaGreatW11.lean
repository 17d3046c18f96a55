import Derived.Test.YtmknbdnofogmdaaGreatW10
namespace Go.Sx
open Go.RowKit Go.Proofs
set_option linter.unusedVariables false
set_option linter.unusedSimpArgs false
set_option maxRecDepth 20000

-- quern/quernref03.G
noncomputable def m_r03_G (v : Vec UInt64 16) (a_ : Int) (b : Int) (c : Int) (d : Int) (x_ : UInt64) (y_ : UInt64) : Option (Vec UInt64 16 × Int) :=
  (m_r03_place a_).bind fun r_ => if (!r_) = true then (some ((Vec.rep 16 ((0 : UInt64) : UInt64)), (1 : Int))) else ((m_r03_place b).bind fun r_1 => if (!r_1) = true then (some ((Vec.rep 16 ((0 : UInt64) : UInt64)), (1 : Int))) else ((m_r03_place c).bind fun r_2 => if (!r_2) = true then (some ((Vec.rep 16 ((0 : UInt64) : UInt64)), (1 : Int))) else ((m_r03_place d).bind fun r_3 => if (((((((!r_3) || (decide (a_ = b))) || (decide (a_ = c))) || (decide (a_ = d))) || (decide (b = c))) || (decide (b = d))) || (decide (c = d))) = true then (some ((Vec.rep 16 ((0 : UInt64) : UInt64)), (1 : Int))) else ((geti v.l a_).bind fun x_3 => (geti v.l b).bind fun x_4 => (geti v.l a_).bind fun x_5 => (some (vst v a_ ((x_3 + x_4) + x_))).bind fun v1 => (geti v1.l d).bind fun x_6 => (geti v1.l a_).bind fun x_7 => (m_r01_Turn64 (x_6 ^^^ x_7) (32 : Int)).bind fun r_4 => (geti v1.l d).bind fun x_8 => (some (vst v1 d r_4)).bind fun v2 => (geti v2.l c).bind fun x_9 => (geti v2.l d).bind fun x_10 => (geti v2.l c).bind fun x_11 => (some (vst v2 c (x_9 + x_10))).bind fun v3 => (geti v3.l b).bind fun x_12 => (geti v3.l c).bind fun x_13 => (m_r01_Turn64 (x_12 ^^^ x_13) (24 : Int)).bind fun r_5 => (geti v3.l b).bind fun x_14 => (some (vst v3 b r_5)).bind fun v4 => (geti v4.l a_).bind fun x_15 => (geti v4.l b).bind fun x_16 => (geti v4.l a_).bind fun x_17 => (some (vst v4 a_ ((x_15 + x_16) + y_))).bind fun v5 => (geti v5.l d).bind fun x_18 => (geti v5.l a_).bind fun x_19 => (m_r01_Turn64 (x_18 ^^^ x_19) (16 : Int)).bind fun r_6 => (geti v5.l d).bind fun x_20 => (some (vst v5 d r_6)).bind fun v6 => (geti v6.l c).bind fun x_21 => (geti v6.l d).bind fun x_22 => (geti v6.l c).bind fun x_23 => (some (vst v6 c (x_21 + x_22))).bind fun v7 => (geti v7.l b).bind fun x_24 => (geti v7.l c).bind fun x_25 => (m_r01_Turn64 (x_24 ^^^ x_25) (63 : Int)).bind fun r_7 => (geti v7.l b).bind fun x_26 => (some (vst v7 b r_7)).bind fun v8 => some (v8, (0 : Int))))))
theorem c_r03_G {F O : Nat → Prop} {w : World} (v : Vec UInt64 16) (a_ : Int) (b : Int) (c : Int) (d : Int) (x_ : UInt64) (y_ : UInt64) (k : Cx F O w w []) (r : (Vec UInt64 16 × Int)) (hm : m_r03_G v a_ b c d x_ y_ = some r) :
    Calls Tryz.prog 127 (vals [.agg [.ar e64 v], I a_, I b, I c, I d, .u64 x_, .u64 y_]) w (fun e w' => e = .returned (SV.val (.tup [.agg [.ar e64 r.1], I r.2])) ∧ Cx F O w w' []) := by
 unfold m_r03_G at hm
 refine calls [.agg [.ar e64 v], I a_, I b, I c, I d, .u64 x_, .u64 y_] Tryz.func127 rfl (of_decide_eq_true (by kernel_rfl)) ?_
 refine W_seq <| W_reg <| WL_op <| Op_box [] 7 (.agg [.ar e64 v]) [.ar e64 v] (by kernel_rfl) k ?_
 intro g w_ k_
 refine WL_op <| Op_alloc [] 14 [.ar e64 (Vec.rep 16 (0 : UInt64))] (by kernel_rfl) k_ ?_
 intro g1 w_1 k_1
 refine WLs 1 [] (.kk (.s .a)) qe (by kernel_rfl) ?_
 refine WL_nil <| At_go <| W_seq <| W_seq <| W_reg <| WLs 1 [] (.n 16 (I a_) .a) qe (by kernel_rfl) ?_
 refine WL_op ?_
 obtain ⟨r_, h_r_, hm⟩ := ob hm
 refine Op_call [] 17 _ yz_go137 (by kernel_rfl) (c_r03_place (F := N0) (O := N0) _ (Cx.refl _) _ h_r_) ?_
 rintro e_ w_2 ⟨rfl, k_2⟩
 have k_3 := k_1.call k_2
 refine ⟨.b r_, rfl, ?_⟩
 refine WLs 2 [] (.n 19 (.b (!r_)) (.ss .a)) qe (by kernel_rfl) ?_
 refine WL_sp 19 (!r_) (.s .a) (by kernel_rfl) (fun hg => ?_) (fun hg => ?_)
 · rw [if_pos hg] at hm
   refine WLs 5 [19] (.n 24 (.b true) (.s .a)) qe (by kernel_rfl) ?_
   refine WLs 5 [24] (.n 29 (.b true) (.s .a)) qe (by kernel_rfl) ?_
   refine WLs 34 [29, 34, 39, 44, 49, 54, 59] (.n 63 (.b true) (.s .a)) qe (by kernel_rfl) ?_
   refine WL_nil <| At_go <| W_cond true (by kernel_rfl) (fun _ => ?_) (fun h => by cases h)
   refine W_seq <| W_reg <| WLs 1 [] (.n 64 (.agg [.ar e64 (Vec.rep 16 ((0 : UInt64) : UInt64))]) (.s (.k .z))) qe (by kernel_rfl) ?_
   refine WL_op <| Op_b [] 1 (.agg [.ar e64 (Vec.rep 16 ((0 : UInt64) : UInt64))]) [.ar e64 (Vec.rep 16 ((0 : UInt64) : UInt64))] (Pt.at g1 0) k_3 rfl .all (by kernel_rfl) (by kernel_rfl) ?_
   intro w_3 k_4
   have k_5 := k_4.sel (.s (.k .e))
   refine WLs 1 [] (.n 15 (I 1) (.s .a)) qe (by kernel_rfl) ?_
   refine WL_nil <| At_go <| W_ret (At_tr ?_)
   obtain rfl := Option.some.inj hm
   refine At_rt [.agg [.ar e64 (Vec.rep 16 ((0 : UInt64) : UInt64))], I 1] (qo (.agg [.ar e64 (Vec.rep 16 ((0 : UInt64) : UInt64))]) <| qc (fun w => Rd w (some ⟨g1, 0, none⟩) (SV.cl [.ar e64 (Vec.rep 16 ((0 : UInt64) : UInt64))])) (k_5.brd 0 rfl) <| qe) (by kernel_rfl) ?_
   have k_6 := k_5.sel .z
   exact ⟨rfl, k_6⟩
 · rw [if_neg (by rw [hg]; decide)] at hm
   refine WLs 1 [19] (.n 20 (I b) .a) qe (by kernel_rfl) ?_
   refine WL_op ?_
   obtain ⟨r_1, h_r_1, hm⟩ := ob hm
   refine Op_call [19] 21 _ yz_go137 (by kernel_rfl) (c_r03_place (F := N0) (O := N0) _ (Cx.refl _) _ h_r_1) ?_
   rintro e_ w_4 ⟨rfl, k_7⟩
   have k_8 := k_3.call k_7
   refine ⟨.b r_1, rfl, ?_⟩
   refine WLs 3 [19] (.n 24 (.b (!r_1)) (.sss .a)) qe (by kernel_rfl) ?_
   refine WL_sp 24 (!r_1) (.s .a) (by kernel_rfl) (fun hg1 => ?_) (fun hg1 => ?_)
   · rw [if_pos hg1] at hm
     refine WLs 5 [24] (.n 29 (.b true) (.s .a)) qe (by kernel_rfl) ?_
     refine WLs 34 [29, 34, 39, 44, 49, 54, 59] (.n 63 (.b true) (.s .a)) qe (by kernel_rfl) ?_
     refine WL_nil <| At_go <| W_cond true (by kernel_rfl) (fun _ => ?_) (fun h => by cases h)
     refine W_seq <| W_reg <| WLs 1 [] (.n 64 (.agg [.ar e64 (Vec.rep 16 ((0 : UInt64) : UInt64))]) (.s (.k .z))) qe (by kernel_rfl) ?_
     refine WL_op ?_
     have k_9 := k_8.sel (.kk .e)
     refine Op_b [] 1 (.agg [.ar e64 (Vec.rep 16 ((0 : UInt64) : UInt64))]) [.ar e64 (Vec.rep 16 ((0 : UInt64) : UInt64))] (Pt.at g1 0) k_9 rfl .all (by kernel_rfl) (by kernel_rfl) ?_
     intro w_5 k_10
     have k_11 := k_10.sel (.s (.k .e))
     refine WLs 1 [] (.n 15 (I 1) (.s .a)) qe (by kernel_rfl) ?_
     refine WL_nil <| At_go <| W_ret (At_tr ?_)
     obtain rfl := Option.some.inj hm
     refine At_rt [.agg [.ar e64 (Vec.rep 16 ((0 : UInt64) : UInt64))], I 1] (qo (.agg [.ar e64 (Vec.rep 16 ((0 : UInt64) : UInt64))]) <| qc (fun w => Rd w (some ⟨g1, 0, none⟩) (SV.cl [.ar e64 (Vec.rep 16 ((0 : UInt64) : UInt64))])) (k_11.brd 0 rfl) <| qe) (by kernel_rfl) ?_
     have k_12 := k_11.sel .z
     exact ⟨rfl, k_12⟩
   · rw [if_neg (by rw [hg1]; decide)] at hm
     refine WLs 1 [24] (.n 25 (I c) .a) qe (by kernel_rfl) ?_
     refine WL_op ?_
     have k_13 := k_8.sel (.kk .e)
     obtain ⟨r_2, h_r_2, hm⟩ := ob hm
     refine Op_call [24] 26 _ yz_go137 (by kernel_rfl) (c_r03_place (F := N0) (O := N0) _ (Cx.refl _) _ h_r_2) ?_
     rintro e_ w_6 ⟨rfl, k_14⟩
     have k_15 := k_13.call k_14
     refine ⟨.b r_2, rfl, ?_⟩
     refine WLs 3 [24] (.n 29 (.b (!r_2)) (.sss .a)) qe (by kernel_rfl) ?_
     refine WL_sp 29 (!r_2) (.s .a) (by kernel_rfl) (fun hg2 => ?_) (fun hg2 => ?_)
     · rw [if_pos hg2] at hm
       refine WLs 34 [29, 34, 39, 44, 49, 54, 59] (.n 63 (.b true) (.s .a)) qe (by kernel_rfl) ?_
       refine WL_nil <| At_go <| W_cond true (by kernel_rfl) (fun _ => ?_) (fun h => by cases h)
       refine W_seq <| W_reg <| WLs 1 [] (.n 64 (.agg [.ar e64 (Vec.rep 16 ((0 : UInt64) : UInt64))]) (.s (.k .z))) qe (by kernel_rfl) ?_
       refine WL_op <| Op_b [] 1 (.agg [.ar e64 (Vec.rep 16 ((0 : UInt64) : UInt64))]) [.ar e64 (Vec.rep 16 ((0 : UInt64) : UInt64))] (Pt.at g1 0) k_15 rfl .all (by kernel_rfl) (by kernel_rfl) ?_
       intro w_7 k_16
       have k_17 := k_16.sel (.s (.k .e))
       refine WLs 1 [] (.n 15 (I 1) (.s .a)) qe (by kernel_rfl) ?_
       refine WL_nil <| At_go <| W_ret (At_tr ?_)
       obtain rfl := Option.some.inj hm
       refine At_rt [.agg [.ar e64 (Vec.rep 16 ((0 : UInt64) : UInt64))], I 1] (qo (.agg [.ar e64 (Vec.rep 16 ((0 : UInt64) : UInt64))]) <| qc (fun w => Rd w (some ⟨g1, 0, none⟩) (SV.cl [.ar e64 (Vec.rep 16 ((0 : UInt64) : UInt64))])) (k_17.brd 0 rfl) <| qe) (by kernel_rfl) ?_
       have k_18 := k_17.sel .z
       exact ⟨rfl, k_18⟩
     · rw [if_neg (by rw [hg2]; decide)] at hm
       refine WLs 1 [29] (.n 30 (I d) .a) qe (by kernel_rfl) ?_
       refine WL_op ?_
       obtain ⟨r_3, h_r_3, hm⟩ := ob hm
       refine Op_call [29] 31 _ yz_go137 (by kernel_rfl) (c_r03_place (F := N0) (O := N0) _ (Cx.refl _) _ h_r_3) ?_
       rintro e_ w_8 ⟨rfl, k_19⟩
       have k_20 := k_15.call k_19
       refine ⟨.b r_3, rfl, ?_⟩
       refine WLs 32 [29] (.n 63 (.b (((((((!r_3) || (decide (a_ = b))) || (decide (a_ = c))) || (decide (a_ = d))) || (decide (b = c))) || (decide (b = d))) || (decide (c = d)))) (.sss .a)) qe (by kernel_rfl) ?_
       refine WL_nil <| At_go <| W_cond (((((((!r_3) || (decide (a_ = b))) || (decide (a_ = c))) || (decide (a_ = d))) || (decide (b = c))) || (decide (b = d))) || (decide (c = d))) (by kernel_rfl) (fun hc => ?_) (fun hc => ?_)
       · rw [if_pos hc] at hm
         refine W_seq <| W_reg <| WLs 1 [] (.n 64 (.agg [.ar e64 (Vec.rep 16 ((0 : UInt64) : UInt64))]) (.s (.k .z))) qe (by kernel_rfl) ?_
         refine WL_op <| Op_b [] 1 (.agg [.ar e64 (Vec.rep 16 ((0 : UInt64) : UInt64))]) [.ar e64 (Vec.rep 16 ((0 : UInt64) : UInt64))] (Pt.at g1 0) k_20 rfl .all (by kernel_rfl) (by kernel_rfl) ?_
         intro w_9 k_21
         have k_22 := k_21.sel (.s (.k .e))
         refine WLs 1 [] (.n 15 (I 1) (.s .a)) qe (by kernel_rfl) ?_
         refine WL_nil <| At_go <| W_ret (At_tr ?_)
         obtain rfl := Option.some.inj hm
         refine At_rt [.agg [.ar e64 (Vec.rep 16 ((0 : UInt64) : UInt64))], I 1] (qo (.agg [.ar e64 (Vec.rep 16 ((0 : UInt64) : UInt64))]) <| qc (fun w => Rd w (some ⟨g1, 0, none⟩) (SV.cl [.ar e64 (Vec.rep 16 ((0 : UInt64) : UInt64))])) (k_22.brd 0 rfl) <| qe) (by kernel_rfl) ?_
         have k_23 := k_22.sel .z
         exact ⟨rfl, k_23⟩
       rw [if_neg (by rw [hc]; decide)] at hm
       refine W_skip <| At_go <| W_seq ?_
       have k_24 := k_20.drew 1
       refine W_m yz_mixed (.q 0 0 (.q 1 0 (.q 2 0 (.q 3 0 (.q 4 0 (.q 5 0 (.q 6 0 (.q 7 0 (.q 8 0 (.q 9 0 (.q 10 0 (.op 11 .nil)))))))))))) [11] k_24 (.c (.s (.k .e)) .l) (by kernel_rfl) (fun _ => ?_)
       obtain ⟨x_3, h_x_3, hm⟩ := ob hm
       obtain ⟨x_4, h_x_4, hm⟩ := ob hm
       obtain ⟨x_5, h_x_5, hm⟩ := ob hm
       refine MXq 11 0 [] (.n 74 (.u64 ((x_3 + x_4) + x_)) (.n 75 (.v (.pointer (ixA (some ⟨g, 0, none⟩) a_ 1))) (.s (.kkkk (.kk (.s .a)))))) (fun x hx => qV (hx.vrd 0 rfl e64 v 0 (by kernel_rfl)) h_x_3 rfl (.u64 x_3) rfl <| qV (hx.vrd 0 rfl e64 v 0 (by kernel_rfl)) h_x_4 rfl (.u64 x_4) rfl <| qI g 0 h_x_5 <| qe) (by kernel_rfl) (fun _ => ?_)
       refine MX_op (by kernel_rfl) rfl ?_
       obtain ⟨v1, h_v1, hm⟩ := nm hm
       refine Op_vs (E := e64) (kk := 0) [] 0 (.u64 ((x_3 + x_4) + x_)) [.u64 ((x_3 + x_4) + x_)] h_v1 h_x_5 (Pt.ix0 (Pt.at g 0) a_ 1) k_24 rfl .h rfl (by kernel_rfl) (by kernel_rfl) ?_
       intro w_10 k_25
       refine ⟨(k_25.sel (.s (.k .e))), fun _ => ?_⟩
       refine MX_nil <| At_go <| W_seq ?_
       have k_26 := k_25.drew 1
       refine W_m yz_mixed (.q 0 1 (.q 1 1 (.q 2 1 (.q 3 1 (.q 4 1 (.q 5 1 (.q 6 1 (.q 7 0 (.op 8 (.q 9 1 (.op 10 .nil))))))))))) [8, 10] k_26 (.c (.kk .e) (.c (.s (.k .e)) .l)) (by kernel_rfl) (fun _ => ?_)
       obtain ⟨x_6, h_x_6, hm⟩ := ob hm
       obtain ⟨x_7, h_x_7, hm⟩ := ob hm
       refine MXq 7 1 [] (.n 76 (I d) (.n 79 (.u64 x_6) (.n 82 (.u64 x_7) (.ss .a)))) (fun x hx => qV (hx.vrd 0 rfl e64 v1 0 (by kernel_rfl)) h_x_6 rfl (.u64 x_6) rfl <| qV (hx.vrd 0 rfl e64 v1 0 (by kernel_rfl)) h_x_7 rfl (.u64 x_7) rfl <| qe) (by kernel_rfl) (fun _ => ?_)
       refine MXq 1 0 [] (.n 83 (.u64 (x_6 ^^^ x_7)) (.k (.ss .a))) (fun x hx => qe) (by kernel_rfl) (fun _ => ?_)
       refine MX_op (by kernel_rfl) rfl ?_
       obtain ⟨r_4, h_r_4, hm⟩ := ob hm
       refine Op_call [] 84 _ yz_go138 (by kernel_rfl) (c_r01_Turn64 (F := N0) (O := N0) _ _ (Cx.refl _) _ h_r_4) ?_
       rintro e_ w_11 ⟨rfl, k_27⟩
       have k_28 := k_26.call k_27
       refine ⟨.u64 r_4, rfl, ?_⟩
       refine ⟨k_28, fun _ => ?_⟩
       obtain ⟨x_8, h_x_8, hm⟩ := ob hm
       refine MXq 1 1 [] (.n 85 (.v (.pointer (ixA (some ⟨g, 0, none⟩) d 1))) (.k (.ss .a))) (fun x hx => qI g 0 h_x_8 <| qe) (by kernel_rfl) (fun _ => ?_)
       refine MX_op (by kernel_rfl) rfl ?_
       have k_29 := k_28.sel (.kk .e)
       obtain ⟨v2, h_v2, hm⟩ := nm hm
       refine Op_vs (E := e64) (kk := 0) [] 0 (.u64 r_4) [.u64 r_4] h_v2 h_x_8 (Pt.ix0 (Pt.at g 0) d 1) k_29 rfl .h rfl (by kernel_rfl) (by kernel_rfl) ?_
       intro w_12 k_30
       refine ⟨(k_30.sel (.s (.k .e))), fun _ => ?_⟩
       refine MX_nil <| At_go <| W_seq ?_
       have k_31 := k_30.drew 1
       refine W_m yz_mixed (.q 0 0 (.q 1 0 (.q 2 0 (.q 3 0 (.q 4 0 (.q 5 0 (.q 6 0 (.q 7 0 (.q 8 0 (.op 9 .nil)))))))))) [9] k_31 (.c (.s (.k .e)) .l) (by kernel_rfl) (fun _ => ?_)
       obtain ⟨x_9, h_x_9, hm⟩ := ob hm
       obtain ⟨x_10, h_x_10, hm⟩ := ob hm
       obtain ⟨x_11, h_x_11, hm⟩ := ob hm
       refine MXq 9 0 [] (.n 93 (.u64 (x_9 + x_10)) (.n 94 (.v (.pointer (ixA (some ⟨g, 0, none⟩) c 1))) (.ss .a))) (fun x hx => qV (hx.vrd 0 rfl e64 v2 0 (by kernel_rfl)) h_x_9 rfl (.u64 x_9) rfl <| qV (hx.vrd 0 rfl e64 v2 0 (by kernel_rfl)) h_x_10 rfl (.u64 x_10) rfl <| qI g 0 h_x_11 <| qe) (by kernel_rfl) (fun _ => ?_)
       refine MX_op (by kernel_rfl) rfl ?_
       obtain ⟨v3, h_v3, hm⟩ := nm hm
       refine Op_vs (E := e64) (kk := 0) [] 0 (.u64 (x_9 + x_10)) [.u64 (x_9 + x_10)] h_v3 h_x_11 (Pt.ix0 (Pt.at g 0) c 1) k_31 rfl .h rfl (by kernel_rfl) (by kernel_rfl) ?_
       intro w_13 k_32
       refine ⟨(k_32.sel (.s (.k .e))), fun _ => ?_⟩
       refine MX_nil <| At_go <| W_seq ?_
       have k_33 := k_32.drew 1
       refine W_m yz_mixed (.q 0 1 (.q 1 1 (.q 2 1 (.q 3 1 (.q 4 1 (.q 5 1 (.q 6 1 (.q 7 0 (.op 8 (.q 9 1 (.op 10 .nil))))))))))) [8, 10] k_33 (.c (.kk .e) (.c (.s (.k .e)) .l)) (by kernel_rfl) (fun _ => ?_)
       obtain ⟨x_12, h_x_12, hm⟩ := ob hm
       obtain ⟨x_13, h_x_13, hm⟩ := ob hm
       refine MXq 7 1 [] (.n 95 (I b) (.n 98 (.u64 x_12) (.n 101 (.u64 x_13) (.ss .a)))) (fun x hx => qV (hx.vrd 0 rfl e64 v3 0 (by kernel_rfl)) h_x_12 rfl (.u64 x_12) rfl <| qV (hx.vrd 0 rfl e64 v3 0 (by kernel_rfl)) h_x_13 rfl (.u64 x_13) rfl <| qe) (by kernel_rfl) (fun _ => ?_)
       refine MXq 1 0 [] (.n 102 (.u64 (x_12 ^^^ x_13)) (.k (.ss .a))) (fun x hx => qe) (by kernel_rfl) (fun _ => ?_)
       refine MX_op (by kernel_rfl) rfl ?_
       obtain ⟨r_5, h_r_5, hm⟩ := ob hm
       refine Op_call [] 103 _ yz_go138 (by kernel_rfl) (c_r01_Turn64 (F := N0) (O := N0) _ _ (Cx.refl _) _ h_r_5) ?_
       rintro e_ w_14 ⟨rfl, k_34⟩
       have k_35 := k_33.call k_34
       refine ⟨.u64 r_5, rfl, ?_⟩
       refine ⟨k_35, fun _ => ?_⟩
       obtain ⟨x_14, h_x_14, hm⟩ := ob hm
       refine MXq 1 1 [] (.n 104 (.v (.pointer (ixA (some ⟨g, 0, none⟩) b 1))) (.k (.ss .a))) (fun x hx => qI g 0 h_x_14 <| qe) (by kernel_rfl) (fun _ => ?_)
       refine MX_op (by kernel_rfl) rfl ?_
       obtain ⟨v4, h_v4, hm⟩ := nm hm
       refine Op_vs (E := e64) (kk := 0) [] 0 (.u64 r_5) [.u64 r_5] h_v4 h_x_14 (Pt.ix0 (Pt.at g 0) b 1) k_35 rfl .h rfl (by kernel_rfl) (by kernel_rfl) ?_
       intro w_15 k_36
       refine ⟨(k_36.sel (.s (.k .e))), fun _ => ?_⟩
       refine MX_nil <| At_go <| W_seq ?_
       have k_37 := k_36.drew 1
       refine W_m yz_mixed (.q 0 0 (.q 1 0 (.q 2 0 (.q 3 0 (.q 4 0 (.q 5 0 (.q 6 0 (.q 7 0 (.q 8 0 (.q 9 0 (.q 10 0 (.op 11 .nil)))))))))))) [11] k_37 (.c (.s (.k .e)) .l) (by kernel_rfl) (fun _ => ?_)
       obtain ⟨x_15, h_x_15, hm⟩ := ob hm
       obtain ⟨x_16, h_x_16, hm⟩ := ob hm
       obtain ⟨x_17, h_x_17, hm⟩ := ob hm
       refine MXq 11 0 [] (.n 114 (.u64 ((x_15 + x_16) + y_)) (.n 115 (.v (.pointer (ixA (some ⟨g, 0, none⟩) a_ 1))) (.ss (.kkkk (.kk .z))))) (fun x hx => qV (hx.vrd 0 rfl e64 v4 0 (by kernel_rfl)) h_x_15 rfl (.u64 x_15) rfl <| qV (hx.vrd 0 rfl e64 v4 0 (by kernel_rfl)) h_x_16 rfl (.u64 x_16) rfl <| qI g 0 h_x_17 <| qe) (by kernel_rfl) (fun _ => ?_)
       refine MX_op (by kernel_rfl) rfl ?_
       have k_38 := k_37.sel (.kk .e)
       obtain ⟨v5, h_v5, hm⟩ := nm hm
       refine Op_vs (E := e64) (kk := 0) [] 0 (.u64 ((x_15 + x_16) + y_)) [.u64 ((x_15 + x_16) + y_)] h_v5 h_x_17 (Pt.ix0 (Pt.at g 0) a_ 1) k_38 rfl .h rfl (by kernel_rfl) (by kernel_rfl) ?_
       intro w_16 k_39
       refine ⟨(k_39.sel (.s (.k .e))), fun _ => ?_⟩
       refine MX_nil <| At_go <| W_seq ?_
       have k_40 := k_39.drew 1
       refine W_m yz_mixed (.q 0 1 (.q 1 1 (.q 2 1 (.q 3 1 (.q 4 1 (.q 5 1 (.q 6 1 (.q 7 0 (.op 8 (.q 9 1 (.op 10 .nil))))))))))) [8, 10] k_40 (.c (.kk .e) (.c (.s (.k .e)) .l)) (by kernel_rfl) (fun _ => ?_)
       obtain ⟨x_18, h_x_18, hm⟩ := ob hm
       obtain ⟨x_19, h_x_19, hm⟩ := ob hm
       refine MXq 7 1 [] (.n 116 (I d) (.n 119 (.u64 x_18) (.n 122 (.u64 x_19) (.ss (.kk (.s .a)))))) (fun x hx => qV (hx.vrd 0 rfl e64 v5 0 (by kernel_rfl)) h_x_18 rfl (.u64 x_18) rfl <| qV (hx.vrd 0 rfl e64 v5 0 (by kernel_rfl)) h_x_19 rfl (.u64 x_19) rfl <| qe) (by kernel_rfl) (fun _ => ?_)
       refine MXq 1 0 [] (.n 123 (.u64 (x_18 ^^^ x_19)) (.k (.ss .a))) (fun x hx => qe) (by kernel_rfl) (fun _ => ?_)
       refine MX_op (by kernel_rfl) rfl ?_
       obtain ⟨r_6, h_r_6, hm⟩ := ob hm
       refine Op_call [] 124 _ yz_go138 (by kernel_rfl) (c_r01_Turn64 (F := N0) (O := N0) _ _ (Cx.refl _) _ h_r_6) ?_
       rintro e_ w_17 ⟨rfl, k_41⟩
       have k_42 := k_40.call k_41
       refine ⟨.u64 r_6, rfl, ?_⟩
       refine ⟨k_42, fun _ => ?_⟩
       obtain ⟨x_20, h_x_20, hm⟩ := ob hm
       refine MXq 1 1 [] (.n 125 (.v (.pointer (ixA (some ⟨g, 0, none⟩) d 1))) (.k (.ss .a))) (fun x hx => qI g 0 h_x_20 <| qe) (by kernel_rfl) (fun _ => ?_)
       refine MX_op (by kernel_rfl) rfl ?_
       obtain ⟨v6, h_v6, hm⟩ := nm hm
       refine Op_vs (E := e64) (kk := 0) [] 0 (.u64 r_6) [.u64 r_6] h_v6 h_x_20 (Pt.ix0 (Pt.at g 0) d 1) k_42 rfl .h rfl (by kernel_rfl) (by kernel_rfl) ?_
       intro w_18 k_43
       refine ⟨(k_43.sel (.s (.k .e))), fun _ => ?_⟩
       refine MX_nil <| At_go <| W_seq ?_
       have k_44 := k_43.drew 1
       refine W_m yz_mixed (.q 0 0 (.q 1 0 (.q 2 0 (.q 3 0 (.q 4 0 (.q 5 0 (.q 6 0 (.q 7 0 (.q 8 0 (.op 9 .nil)))))))))) [9] k_44 (.c (.s (.k .e)) .l) (by kernel_rfl) (fun _ => ?_)
       obtain ⟨x_21, h_x_21, hm⟩ := ob hm
       obtain ⟨x_22, h_x_22, hm⟩ := ob hm
       obtain ⟨x_23, h_x_23, hm⟩ := ob hm
       refine MXq 9 0 [] (.n 133 (.u64 (x_21 + x_22)) (.n 134 (.v (.pointer (ixA (some ⟨g, 0, none⟩) c 1))) (.ss (.kkkk .z)))) (fun x hx => qV (hx.vrd 0 rfl e64 v6 0 (by kernel_rfl)) h_x_21 rfl (.u64 x_21) rfl <| qV (hx.vrd 0 rfl e64 v6 0 (by kernel_rfl)) h_x_22 rfl (.u64 x_22) rfl <| qI g 0 h_x_23 <| qe) (by kernel_rfl) (fun _ => ?_)
       refine MX_op (by kernel_rfl) rfl ?_
       obtain ⟨v7, h_v7, hm⟩ := nm hm
       refine Op_vs (E := e64) (kk := 0) [] 0 (.u64 (x_21 + x_22)) [.u64 (x_21 + x_22)] h_v7 h_x_23 (Pt.ix0 (Pt.at g 0) c 1) k_44 rfl .h rfl (by kernel_rfl) (by kernel_rfl) ?_
       intro w_19 k_45
       refine ⟨(k_45.sel (.s (.k .e))), fun _ => ?_⟩
       refine MX_nil <| At_go <| W_seq ?_
       have k_46 := k_45.drew 1
       refine W_m yz_mixed (.q 0 1 (.q 1 1 (.q 2 1 (.q 3 1 (.q 4 1 (.q 5 1 (.q 6 1 (.q 7 0 (.op 8 (.q 9 1 (.op 10 .nil))))))))))) [8, 10] k_46 (.c (.kk .e) (.c (.s (.k .e)) .l)) (by kernel_rfl) (fun _ => ?_)
       obtain ⟨x_24, h_x_24, hm⟩ := ob hm
       obtain ⟨x_25, h_x_25, hm⟩ := ob hm
       refine MXq 7 1 [] (.n 135 (I b) (.n 138 (.u64 x_24) (.n 141 (.u64 x_25) (.ss (.kk .z))))) (fun x hx => qV (hx.vrd 0 rfl e64 v7 0 (by kernel_rfl)) h_x_24 rfl (.u64 x_24) rfl <| qV (hx.vrd 0 rfl e64 v7 0 (by kernel_rfl)) h_x_25 rfl (.u64 x_25) rfl <| qe) (by kernel_rfl) (fun _ => ?_)
       refine MXq 1 0 [] (.n 142 (.u64 (x_24 ^^^ x_25)) (.k (.ss .a))) (fun x hx => qe) (by kernel_rfl) (fun _ => ?_)
       refine MX_op (by kernel_rfl) rfl ?_
       have k_47 := k_46.sel (.kk .e)
       obtain ⟨r_7, h_r_7, hm⟩ := ob hm
       refine Op_call [] 143 _ yz_go138 (by kernel_rfl) (c_r01_Turn64 (F := N0) (O := N0) _ _ (Cx.refl _) _ h_r_7) ?_
       rintro e_ w_20 ⟨rfl, k_48⟩
       have k_49 := k_47.call k_48
       refine ⟨.u64 r_7, rfl, ?_⟩
       refine ⟨k_49, fun _ => ?_⟩
       obtain ⟨x_26, h_x_26, hm⟩ := ob hm
       refine MXq 1 1 [] (.n 144 (.v (.pointer (ixA (some ⟨g, 0, none⟩) b 1))) (.k (.ss .a))) (fun x hx => qI g 0 h_x_26 <| qe) (by kernel_rfl) (fun _ => ?_)
       refine MX_op (by kernel_rfl) rfl ?_
       obtain ⟨v8, h_v8, hm⟩ := nm hm
       refine Op_vs (E := e64) (kk := 0) [] 0 (.u64 r_7) [.u64 r_7] h_v8 h_x_26 (Pt.ix0 (Pt.at g 0) b 1) k_49 rfl .h rfl (by kernel_rfl) (by kernel_rfl) ?_
       intro w_21 k_50
       refine ⟨(k_50.sel (.s (.k .e))), fun _ => ?_⟩
       refine MX_nil <| At_go <| W_seq <| W_reg <| WLs 1 [] (.n 145 (.agg [.ar e64 v8]) (.ss (.k .z))) (qT k_50 0 rfl 0 16 [.ar e64 v8] (by kernel_rfl) (by decide) <| qe) (by kernel_rfl) ?_
       refine WL_op <| Op_b [] 1 (.agg [.ar e64 v8]) [.ar e64 v8] (Pt.at g1 0) k_50 rfl .all (by kernel_rfl) (by kernel_rfl) ?_
       intro w_22 k_51
       have k_52 := k_51.sel (.s (.k .e))
       refine WLs 1 [] (.n 15 (I 0) (.s .a)) qe (by kernel_rfl) ?_
       refine WL_nil <| At_go <| W_ret ?_
       obtain rfl := Option.some.inj hm
       refine At_rt [.agg [.ar e64 v8], I 0] (qo (.agg [.ar e64 v8]) <| qc (fun w => Rd w (some ⟨g1, 0, none⟩) (SV.cl [.ar e64 v8])) (k_52.brd 0 rfl) <| qe) (by kernel_rfl) ?_
       have k_53 := k_52.sel .z
       exact ⟨rfl, k_53⟩

-- quern/quernref03.Round
noncomputable def m_r03_Round_l0 (m_ : Vec UInt64 16) (round : Int) : (Vec UInt64 16 × Int) → Option ((Vec UInt64 16 × Int) ⊕ (Vec UInt64 16 × Int))
  | (v1, i) => if i < 8 then ((m_r03_Places i).bind fun r_ => (geti r_.l (0 : Int)).bind fun x_0 => (geti r_.l (1 : Int)).bind fun x_2 => (geti r_.l (2 : Int)).bind fun x_3 => (geti r_.l (3 : Int)).bind fun x_4 => (m_r03_Sigma round (w64 (2 * i))).bind fun r_1 => (geti m_.l r_1).bind fun x_5 => (m_r03_Sigma round (w64 ((w64 (2 * i)) + 1))).bind fun r_2 => (geti m_.l r_2).bind fun x_6 => (m_r03_G v1 x_0 x_2 x_3 x_4 x_5 x_6).bind fun r_3 => some (.inl (r_3.1, w64 (i + 1)))) else (Option.map Sum.inr (some (v1, (0 : Int))))
noncomputable def m_r03_Round (v : Vec UInt64 16) (m_ : Vec UInt64 16) (round : Int) : Option (Vec UInt64 16 × Int) :=
  if ((decide (round < 0)) || (decide (11 < round))) = true then (some ((Vec.rep 16 ((0 : UInt64) : UInt64)), (1 : Int))) else (whileO (m_r03_Round_l0 m_ round) (v, (0 : Int)))
theorem c_r03_Round {F O : Nat → Prop} {w : World} (v : Vec UInt64 16) (m_ : Vec UInt64 16) (round : Int) (k : Cx F O w w []) (r : (Vec UInt64 16 × Int)) (hm : m_r03_Round v m_ round = some r) :
    Calls Tryz.prog 113 (vals [.agg [.ar e64 v], .agg [.ar e64 m_], I round]) w (fun e w' => e = .returned (SV.val (.tup [.agg [.ar e64 r.1], I r.2])) ∧ Cx F O w w' []) := by
 unfold m_r03_Round at hm
 refine calls [.agg [.ar e64 v], .agg [.ar e64 m_], I round] Tryz.func113 rfl (of_decide_eq_true (by kernel_rfl)) ?_
 refine W_seq <| W_reg <| WL_op <| Op_box [] 3 (.agg [.ar e64 v]) [.ar e64 v] (by kernel_rfl) k ?_
 intro g w_ k_
 refine WL_op <| Op_box [] 4 (.agg [.ar e64 m_]) [.ar e64 m_] (by kernel_rfl) k_ ?_
 intro g1 w_1 k_1
 refine WL_op <| Op_alloc [] 6 [.ar e64 (Vec.rep 16 (0 : UInt64))] (by kernel_rfl) k_1 ?_
 intro g2 w_2 k_2
 refine WLs 1 [] (.kkk (.ss .a)) qe (by kernel_rfl) ?_
 refine WL_nil <| At_go <| W_seq <| W_seq <| W_q [] (.n 15 (.b ((decide (round < 0)) || (decide (11 < round)))) .a) qe (by kernel_rfl) ?_
 refine At_go <| W_cond ((decide (round < 0)) || (decide (11 < round))) (by kernel_rfl) (fun hc => ?_) (fun hc => ?_)
 · rw [if_pos hc] at hm
   refine W_seq <| W_reg <| WLs 1 [] (.n 16 (.agg [.ar e64 (Vec.rep 16 ((0 : UInt64) : UInt64))]) (.s (.k .z))) qe (by kernel_rfl) ?_
   refine WL_op <| Op_b [] 2 (.agg [.ar e64 (Vec.rep 16 ((0 : UInt64) : UInt64))]) [.ar e64 (Vec.rep 16 ((0 : UInt64) : UInt64))] (Pt.at g2 0) k_2 rfl .all (by kernel_rfl) (by kernel_rfl) ?_
   intro w_3 k_3
   have k_4 := k_3.sel (.ss (.k .e))
   refine WLs 1 [] (.n 7 (I 1) (.s .a)) qe (by kernel_rfl) ?_
   refine WL_nil <| At_go <| W_ret (At_tr ?_)
   obtain rfl := Option.some.inj hm
   refine At_rt [.agg [.ar e64 (Vec.rep 16 ((0 : UInt64) : UInt64))], I 1] (qo (.agg [.ar e64 (Vec.rep 16 ((0 : UInt64) : UInt64))]) <| qc (fun w => Rd w (some ⟨g2, 0, none⟩) (SV.cl [.ar e64 (Vec.rep 16 ((0 : UInt64) : UInt64))])) (k_4.brd 0 rfl) <| qe) (by kernel_rfl) ?_
   have k_5 := k_4.sel .z
   exact ⟨rfl, k_5⟩
 rw [if_neg (by rw [hc]; decide)] at hm
 refine W_skip <| At_go <| W_seq <| W_seq <| W_q [] (.n 8 (I 0) (.s .a)) qe (by kernel_rfl) ?_
 refine At_go <| W_block <| W_lp (m_r03_Round_l0 m_ round) (fun s L wr => ∃ (v1 : Vec UInt64 16) (i : Int), (v1, i) = s ∧ L = [(2, I round), (3, pt g 0), (4, pt g1 0), (6, pt g2 0), (8, I i)] ∧ Cx F O w wr [Bx 108 g [.ar e64 v1], Bx 108 g1 [.ar e64 m_], Bx 108 g2 [.ar e64 (Vec.rep 16 (0 : UInt64))]]) (v, (0 : Int)) r hm ⟨v, (0 : Int), rfl, rfl, k_2⟩ (by kernel_rfl) ?_
 intro s0_ L_ w_4 y0 hrel hstep hr0
 obtain ⟨v1, i, rfl, rfl, k_6⟩ := hrel
 have hm := hstep; simp only [m_r03_Round_l0] at hm
 clear hstep
 refine W_seq <| W_seq <| W_q [] (.n 18 (.b (decide (i < 8))) .a) qe (by kernel_rfl) ?_
 refine At_go <| W_condp (i < 8) (by kernel_rfl) (fun hc1 => ?_) (fun hc1 => ?_)
 · rw [if_pos hc1] at hm
   refine W_skip <| At_go <| W_seq <| W_block <| W_seq <| W_reg <| WLs 1 [] (.n 21 (I i) (.s .a)) qe (by kernel_rfl) ?_
   refine WL_op ?_
   obtain ⟨r_, h_r_, hm⟩ := ob hm
   refine Op_call [] 22 _ yz_go126 (by kernel_rfl) (c_r03_Places (F := N0) (O := N0) _ (Cx.refl _) _ h_r_) ?_
   rintro e_ w_5 ⟨rfl, k_7⟩
   have k_8 := k_6.call k_7
   refine ⟨.agg [.ar eI r_], rfl, ?_⟩
   refine WL_op <| Op_alloc [] 9 [.ar eI (Vec.rep 4 (0 : Int))] (by kernel_rfl) k_8 ?_
   intro g3 w_6 k_9
   refine WL_op <| Op_b [] 3 (.agg [.ar eI r_]) [.ar eI r_] (Pt.at g3 0) k_9 rfl .all (by kernel_rfl) (by kernel_rfl) ?_
   intro w_7 k_10
   refine WL_nil <| At_go ?_
   have k_11 := k_10.drew 1
   refine W_m yz_mixed (.q 0 2 (.q 9 2 (.q 15 2 (.q 1 3 (.q 2 2 (.q 3 3 (.q 4 2 (.q 5 3 (.q 6 2 (.q 7 3 (.q 8 2 (.q 10 3 (.q 11 2 (.q 16 3 (.q 17 3 (.q 18 2 (.op 12 (.q 13 3 (.q 14 2 (.op 19 (.q 20 3 (.q 21 2 (.op 22 (.q 23 3 (.q 24 3 (.q 25 4 (.op 26 .nil))))))))))))))))))))))))))) [12, 19, 22, 26] k_11 (.c (.kkkk .e) (.c (.kkkk .e) (.c (.kkkk .e) (.c (.s (.kk (.k .e))) .l)))) (by kernel_rfl) (fun _ => ?_)
   refine MXq 3 2 [] (.n 24 (.agg [.ar e64 v1]) (.n 33 (I round) (.n 39 (I round) (.k (.ss .a))))) (fun x hx => qT hx 0 rfl 0 16 [.ar e64 v1] (by kernel_rfl) (by decide) <| qe) (by kernel_rfl) (fun _ => ?_)
   obtain ⟨x_0, h_x_0, hm⟩ := ob hm
   refine MXq 1 3 [] (.n 25 (.v (.pointer (ixA (some ⟨g3, 0, none⟩) (0 : Int) 1))) .a) (fun x hx => qI g3 0 h_x_0 <| qe) (by kernel_rfl) (fun _ => ?_)
   refine MXq 1 2 [] (.n 26 (I x_0) (.s .a)) (fun x hx => qC (I x_0) (Rd.el (k := 0) (hx.vrd 3 rfl eI r_ 0 (by kernel_rfl)) h_x_0 (Pt.ix1 (some ⟨g3, 0, none⟩) (0 : Int) 1) rfl) <| qe) (by kernel_rfl) (fun _ => ?_)
   obtain ⟨x_2, h_x_2, hm⟩ := ob hm
   refine MXq 1 3 [] (.n 27 (.v (.pointer (ixA (some ⟨g3, 0, none⟩) (1 : Int) 1))) .a) (fun x hx => qI g3 0 h_x_2 <| qe) (by kernel_rfl) (fun _ => ?_)
   refine MXq 1 2 [] (.n 28 (I x_2) (.s .a)) (fun x hx => qC (I x_2) (Rd.el (k := 0) (hx.vrd 3 rfl eI r_ 0 (by kernel_rfl)) h_x_2 (Pt.ix1 (some ⟨g3, 0, none⟩) (1 : Int) 1) rfl) <| qe) (by kernel_rfl) (fun _ => ?_)
   obtain ⟨x_3, h_x_3, hm⟩ := ob hm
   refine MXq 1 3 [] (.n 29 (.v (.pointer (ixA (some ⟨g3, 0, none⟩) (2 : Int) 1))) .a) (fun x hx => qI g3 0 h_x_3 <| qe) (by kernel_rfl) (fun _ => ?_)
   refine MXq 1 2 [] (.n 30 (I x_3) (.s .a)) (fun x hx => qC (I x_3) (Rd.el (k := 0) (hx.vrd 3 rfl eI r_ 0 (by kernel_rfl)) h_x_3 (Pt.ix1 (some ⟨g3, 0, none⟩) (2 : Int) 1) rfl) <| qe) (by kernel_rfl) (fun _ => ?_)
   obtain ⟨x_4, h_x_4, hm⟩ := ob hm
   refine MXq 1 3 [] (.n 31 (.v (.pointer (ixA (some ⟨g3, 0, none⟩) (3 : Int) 1))) (.kkkk (.kk (.s .a)))) (fun x hx => qI g3 0 h_x_4 <| qe) (by kernel_rfl) (fun _ => ?_)
   refine MXq 1 2 [] (.n 32 (I x_4) (.s .a)) (fun x hx => qC (I x_4) (Rd.el (k := 0) (hx.vrd 3 rfl eI r_ 0 (by kernel_rfl)) h_x_4 (Pt.ix1 (some ⟨g3, 0, none⟩) (3 : Int) 1) rfl) <| qe) (by kernel_rfl) (fun _ => ?_)
   refine MXq 1 3 [] (.n 34 (I i) .a) (fun x hx => qe) (by kernel_rfl) (fun _ => ?_)
   refine MXq 1 2 [] (.n 35 (I (w64 (2 * i))) (.s .a)) (fun x hx => qe) (by kernel_rfl) (fun _ => ?_)
   refine MXq 2 3 [] (.n 41 (I (w64 (2 * i))) .a) (fun x hx => qe) (by kernel_rfl) (fun _ => ?_)
   refine MXq 1 2 [] (.n 42 (I (w64 ((w64 (2 * i)) + 1))) (.s .a)) (fun x hx => qe) (by kernel_rfl) (fun _ => ?_)
   refine MX_op (by kernel_rfl) rfl ?_
   obtain ⟨r_1, h_r_1, hm⟩ := ob hm
   refine Op_call [] 36 _ yz_go128 (by kernel_rfl) (c_r03_Sigma (F := N0) (O := N0) _ _ (Cx.refl _) _ h_r_1) ?_
   rintro e_ w_8 ⟨rfl, k_12⟩
   have k_13 := k_11.call k_12
   refine ⟨I r_1, rfl, ?_⟩
   refine ⟨k_13, fun _ => ?_⟩
   obtain ⟨x_5, h_x_5, hm⟩ := ob hm
   refine MXq 1 3 [] (.n 37 (.v (.pointer (ixA (some ⟨g1, 0, none⟩) r_1 1))) (.s (.k (.s (.kkkk (.k (.s .a))))))) (fun x hx => qI g1 0 h_x_5 <| qe) (by kernel_rfl) (fun _ => ?_)
   refine MXq 1 2 [] (.n 38 (.u64 x_5) (.s .a)) (fun x hx => qC (.u64 x_5) (Rd.el (k := 0) (hx.vrd 1 rfl e64 m_ 0 (by kernel_rfl)) h_x_5 (Pt.ix1 (some ⟨g1, 0, none⟩) r_1 1) rfl) <| qe) (by kernel_rfl) (fun _ => ?_)
   refine MX_op (by kernel_rfl) rfl ?_
   have k_14 := k_13.sel (.kkkk .e)
   obtain ⟨r_2, h_r_2, hm⟩ := ob hm
   refine Op_call [] 43 _ yz_go128 (by kernel_rfl) (c_r03_Sigma (F := N0) (O := N0) _ _ (Cx.refl _) _ h_r_2) ?_
   rintro e_ w_9 ⟨rfl, k_15⟩
   have k_16 := k_14.call k_15
   refine ⟨I r_2, rfl, ?_⟩
   refine ⟨k_16, fun _ => ?_⟩
   obtain ⟨x_6, h_x_6, hm⟩ := ob hm
   refine MXq 1 3 [] (.n 44 (.v (.pointer (ixA (some ⟨g1, 0, none⟩) r_2 1))) (.s (.k (.s (.kkkk (.k (.s .a))))))) (fun x hx => qI g1 0 h_x_6 <| qe) (by kernel_rfl) (fun _ => ?_)
   refine MXq 1 2 [] (.n 45 (.u64 x_6) (.s .a)) (fun x hx => qC (.u64 x_6) (Rd.el (k := 0) (hx.vrd 1 rfl e64 m_ 0 (by kernel_rfl)) h_x_6 (Pt.ix1 (some ⟨g1, 0, none⟩) r_2 1) rfl) <| qe) (by kernel_rfl) (fun _ => ?_)
   refine MX_op (by kernel_rfl) rfl ?_
   obtain ⟨r_3, h_r_3, hm⟩ := ob hm
   refine Op_call [] 46 _ yz_go127 (by kernel_rfl) (c_r03_G (F := N0) (O := N0) _ _ _ _ _ _ _ (Cx.refl _) _ h_r_3) ?_
   rintro e_ w_10 ⟨rfl, k_17⟩
   have k_18 := k_16.call k_17
   refine ⟨.tup [.agg [.ar e64 r_3.1], I r_3.2], rfl, ?_⟩
   refine ⟨k_18, fun _ => ?_⟩
   refine MXq 2 3 [] (.n 23 (.tup [.agg [.ar e64 r_3.1], I r_3.2]) (.n 47 (.agg [.ar e64 r_3.1]) (.ssss (.ssss .a)))) (fun x hx => qe) (by kernel_rfl) (fun _ => ?_)
   refine MXq 1 4 [] (.s .a) (fun x hx => qe) (by kernel_rfl) (fun _ => ?_)
   refine MX_op (by kernel_rfl) rfl <| Op_b [] 0 (.agg [.ar e64 r_3.1]) [.ar e64 r_3.1] (Pt.at g 0) k_18 rfl .all (by kernel_rfl) (by kernel_rfl) ?_
   intro w_11 k_19
   refine ⟨(k_19.sel (.s (.kk (.k .e)))), fun _ => ?_⟩
   refine MX_nil <| At_in <| At_go <| W_q [] (.n 8 (I (w64 (i + 1))) (.s (.kkkk .z))) qe (by kernel_rfl) ?_
   have k_20 := k_19.sel (.kk (.k .z))
   exact At_rd (r_3.1, w64 (i + 1)) (Option.some.inj hm).symm ⟨r_3.1, w64 (i + 1), rfl, rfl, k_20⟩ (by kernel_rfl)
 rw [if_neg hc1] at hm
 refine W_exit (At_te (At_te (At_ie ?_)))
 have hm := exit_of hm hr0
 refine At_go <| W_seq <| W_reg <| WLs 1 [] (.n 49 (.agg [.ar e64 v1]) (.ssss (.k .z))) (qT k_6 0 rfl 0 16 [.ar e64 v1] (by kernel_rfl) (by decide) <| qe) (by kernel_rfl) ?_
 refine WL_op <| Op_b [] 2 (.agg [.ar e64 v1]) [.ar e64 v1] (Pt.at g2 0) k_6 rfl .all (by kernel_rfl) (by kernel_rfl) ?_
 intro w_12 k_21
 have k_22 := k_21.sel (.ss (.k .e))
 refine WLs 1 [] (.n 7 (I 0) (.s .a)) qe (by kernel_rfl) ?_
 refine WL_nil <| At_go <| W_ret ?_
 obtain rfl := Option.some.inj hm
 refine At_rt [.agg [.ar e64 v1], I 0] (qo (.agg [.ar e64 v1]) <| qc (fun w => Rd w (some ⟨g2, 0, none⟩) (SV.cl [.ar e64 v1])) (k_22.brd 0 rfl) <| qe) (by kernel_rfl) ?_
 have k_23 := k_22.sel .z
 exact ⟨rfl, k_23⟩

-- quern/quernref03.F
noncomputable def m_r03_F_l1 (v : Vec UInt64 16) : (Vec UInt64 8 × Int) → Option ((Vec UInt64 8 × Int) ⊕ (Vec UInt64 8))
  | (h1, i) => if i < 8 then ((geti h1.l i).bind fun x_0 => (geti v.l i).bind fun x_1 => (geti v.l (w64 (i + 8))).bind fun x_2 => (geti h1.l i).bind fun x_3 => (some (vst h1 i ((x_0 ^^^ x_1) ^^^ x_2))).bind fun v1 => some (.inl (v1, w64 (i + 1)))) else (Option.map Sum.inr (some h1))
noncomputable def m_r03_F_l0 (h : Vec UInt64 8) (m_ : Vec UInt64 16) : (Vec UInt64 16 × Int) → Option ((Vec UInt64 16 × Int) ⊕ (Vec UInt64 8))
  | (v, r_1) => if r_1 < 12 then ((m_r03_Round v m_ r_1).bind fun r_2 => some (.inl (r_2.1, w64 (r_1 + 1)))) else (Option.map Sum.inr (whileO (m_r03_F_l1 v) (h, (0 : Int))))
noncomputable def m_r03_F (h : Vec UInt64 8) (m_ : Vec UInt64 16) (lo : UInt64) (hi : UInt64) (last : Bool) (node : Bool) : Option (Vec UInt64 8) :=
  (m_r03_Init h lo hi last node).bind fun r_ => whileO (m_r03_F_l0 h m_) (r_, (0 : Int))
theorem c_r03_F {F O : Nat → Prop} {w : World} (h : Vec UInt64 8) (m_ : Vec UInt64 16) (lo : UInt64) (hi : UInt64) (last : Bool) (node : Bool) (k : Cx F O w w []) (r : (Vec UInt64 8)) (hm : m_r03_F h m_ lo hi last node = some r) :
    Calls Tryz.prog 95 (vals [.agg [.ar e64 h], .agg [.ar e64 m_], .u64 lo, .u64 hi, .b last, .b node]) w (fun e w' => e = .returned (SV.val (.agg [.ar e64 r])) ∧ Cx F O w w' []) := by
 unfold m_r03_F at hm
 refine calls [.agg [.ar e64 h], .agg [.ar e64 m_], .u64 lo, .u64 hi, .b last, .b node] Tryz.func95 rfl (of_decide_eq_true (by kernel_rfl)) ?_
 refine W_seq <| W_reg <| WL_op <| Op_box [] 6 (.agg [.ar e64 h]) [.ar e64 h] (by kernel_rfl) k ?_
 intro g w_ k_
 refine WL_op <| Op_box [] 7 (.agg [.ar e64 m_]) [.ar e64 m_] (by kernel_rfl) k_ ?_
 intro g1 w_1 k_1
 refine WL_op <| Op_alloc [] 12 [.ar e64 (Vec.rep 8 (0 : UInt64))] (by kernel_rfl) k_1 ?_
 intro g2 w_2 k_2
 refine WL_nil <| At_go <| W_seq <| W_reg <| WLs 5 [] (.n 16 (.agg [.ar e64 h]) (.n 17 (.u64 lo) (.n 18 (.u64 hi) (.n 19 (.b last) (.n 20 (.b node) (.kkk .z)))))) (qT k_2 0 rfl 0 8 [.ar e64 h] (by kernel_rfl) (by decide) <| qe) (by kernel_rfl) ?_
 refine WL_op ?_
 obtain ⟨r_, h_r_, hm⟩ := ob hm
 refine Op_call [] 21 _ yz_go112 (by kernel_rfl) (c_r03_Init (F := N0) (O := N0) _ _ _ _ _ (Cx.refl _) _ h_r_) ?_
 rintro e_ w_3 ⟨rfl, k_3⟩
 have k_4 := k_2.call k_3
 refine ⟨.agg [.ar e64 r_], rfl, ?_⟩
 refine WL_op ?_
 have k_5 := k_4.sel (.kk (.k .e))
 refine Op_alloc [] 13 [.ar e64 (Vec.rep 16 (0 : UInt64))] (by kernel_rfl) k_5 ?_
 intro g3 w_4 k_6
 refine WL_op <| Op_b [] 3 (.agg [.ar e64 r_]) [.ar e64 r_] (Pt.at g3 0) k_6 rfl .all (by kernel_rfl) (by kernel_rfl) ?_
 intro w_5 k_7
 refine WL_nil <| At_go <| W_seq <| W_seq <| W_q [] (.n 14 (I 0) (.k (.ssss (.ss .a)))) qe (by kernel_rfl) ?_
 refine At_go <| W_block <| W_lp (m_r03_F_l0 h m_) (fun s L wr => ∃ (v : Vec UInt64 16) (r_1 : Int), (v, r_1) = s ∧ L = [(6, pt g 0), (7, pt g1 0), (12, pt g2 0), (13, pt g3 0), (14, I r_1)] ∧ Cx F O w wr [Bx 150 g [.ar e64 h], Bx 108 g1 [.ar e64 m_], Bx 150 g2 [.ar e64 (Vec.rep 8 (0 : UInt64))], Bx 108 g3 [.ar e64 v]]) (r_, (0 : Int)) r hm ⟨r_, (0 : Int), rfl, rfl, k_7⟩ (by kernel_rfl) ?_
 intro s0_ L_ w_6 y0 hrel hstep hr0
 obtain ⟨v, r_1, rfl, rfl, k_8⟩ := hrel
 have hm := hstep; simp only [m_r03_F_l0] at hm
 clear hstep
 refine W_seq <| W_seq <| W_q [] (.n 23 (.b (decide (r_1 < 12))) .a) qe (by kernel_rfl) ?_
 refine At_go <| W_condp (r_1 < 12) (by kernel_rfl) (fun hc => ?_) (fun hc => ?_)
 · rw [if_pos hc] at hm
   refine W_skip <| At_go <| W_seq <| W_block <| W_reg <| WLs 3 [] (.n 27 (.agg [.ar e64 v]) (.n 28 (.agg [.ar e64 m_]) (.n 29 (I r_1) (.s .a)))) (qT k_8 3 rfl 0 16 [.ar e64 v] (by kernel_rfl) (by decide) <| qT k_8 1 rfl 0 16 [.ar e64 m_] (by kernel_rfl) (by decide) <| qe) (by kernel_rfl) ?_
   refine WL_op ?_
   obtain ⟨r_2, h_r_2, hm⟩ := ob hm
   refine Op_call [] 30 _ yz_go113 (by kernel_rfl) (c_r03_Round (F := N0) (O := N0) _ _ _ (Cx.refl _) _ h_r_2) ?_
   rintro e_ w_7 ⟨rfl, k_9⟩
   have k_10 := k_8.call k_9
   refine ⟨.tup [.agg [.ar e64 r_2.1], I r_2.2], rfl, ?_⟩
   refine WLs 3 [] (.n 31 (.agg [.ar e64 r_2.1]) (.ssss .a)) qe (by kernel_rfl) ?_
   refine WL_op <| Op_b [] 3 (.agg [.ar e64 r_2.1]) [.ar e64 r_2.1] (Pt.at g3 0) k_10 rfl .all (by kernel_rfl) (by kernel_rfl) ?_
   intro w_8 k_11
   refine WL_nil <| At_in <| At_go <| W_q [] (.n 14 (I (w64 (r_1 + 1))) (.s (.kkkk .z))) qe (by kernel_rfl) ?_
   exact At_rd (r_2.1, w64 (r_1 + 1)) (Option.some.inj hm).symm ⟨r_2.1, w64 (r_1 + 1), rfl, rfl, k_11⟩ (by kernel_rfl)
 rw [if_neg hc] at hm
 refine W_exit (At_te (At_te (At_ie ?_)))
 have hm := exit_of hm hr0
 refine At_go <| W_seq <| W_seq <| W_q [] (.n 15 (I 0) (.s (.k (.s (.kk .z))))) qe (by kernel_rfl) ?_
 refine At_go <| W_block ?_
 have k_13 := k_8.sel (.k (.s (.kk .e)))
 refine W_lp (m_r03_F_l1 v) (fun s L wr => ∃ (h1 : Vec UInt64 8) (i : Int), (h1, i) = s ∧ L = [(6, pt g 0), (12, pt g2 0), (13, pt g3 0), (15, I i)] ∧ Cx F O w wr [Bx 150 g [.ar e64 h1], Bx 150 g2 [.ar e64 (Vec.rep 8 (0 : UInt64))], Bx 108 g3 [.ar e64 v]]) (h, (0 : Int)) r hm ⟨h, (0 : Int), rfl, rfl, k_13⟩ (by kernel_rfl) ?_
 intro s0_ L_ w_9 y0 hrel hstep hr0
 obtain ⟨h1, i, rfl, rfl, k_12⟩ := hrel
 have hm := hstep; simp only [m_r03_F_l1] at hm
 clear hstep
 refine W_seq <| W_seq <| W_q [] (.n 34 (.b (decide (i < 8))) .a) qe (by kernel_rfl) ?_
 refine At_go <| W_condp (i < 8) (by kernel_rfl) (fun hc1 => ?_) (fun hc1 => ?_)
 · rw [if_pos hc1] at hm
   refine W_skip <| At_go <| W_seq <| W_block ?_
   have k_14 := k_12.drew 1
   refine W_m yz_mixed (.q 0 0 (.q 1 0 (.q 2 0 (.q 3 0 (.q 4 0 (.q 5 0 (.q 6 0 (.q 7 0 (.q 8 0 (.q 9 0 (.q 10 0 (.q 11 0 (.q 12 0 (.q 13 0 (.op 14 .nil))))))))))))))) [14] k_14 (.c (.s (.kk .e)) .l) (by kernel_rfl) (fun _ => ?_)
   obtain ⟨x_0, h_x_0, hm⟩ := ob hm
   obtain ⟨x_1, h_x_1, hm⟩ := ob hm
   obtain ⟨x_2, h_x_2, hm⟩ := ob hm
   obtain ⟨x_3, h_x_3, hm⟩ := ob hm
   refine MXq 14 0 [] (.n 49 (.u64 ((x_0 ^^^ x_1) ^^^ x_2)) (.n 50 (.v (.pointer (ixA (some ⟨g, 0, none⟩) i 1))) (.s .a))) (fun x hx => qV (hx.vrd 0 rfl e64 h1 0 (by kernel_rfl)) h_x_0 rfl (.u64 x_0) rfl <| qV (hx.vrd 2 rfl e64 v 0 (by kernel_rfl)) h_x_1 rfl (.u64 x_1) rfl <| qV (hx.vrd 2 rfl e64 v 0 (by kernel_rfl)) h_x_2 rfl (.u64 x_2) rfl <| qI g 0 h_x_3 <| qe) (by kernel_rfl) (fun _ => ?_)
   refine MX_op (by kernel_rfl) rfl ?_
   obtain ⟨v1, h_v1, hm⟩ := nm hm
   refine Op_vs (E := e64) (kk := 0) [] 0 (.u64 ((x_0 ^^^ x_1) ^^^ x_2)) [.u64 ((x_0 ^^^ x_1) ^^^ x_2)] h_v1 h_x_3 (Pt.ix0 (Pt.at g 0) i 1) k_14 rfl .h rfl (by kernel_rfl) (by kernel_rfl) ?_
   intro w_10 k_15
   refine ⟨(k_15.sel (.s (.kk .e))), fun _ => ?_⟩
   refine MX_nil <| At_in <| At_go <| W_q [] (.n 15 (I (w64 (i + 1))) (.ss (.kkk .z))) qe (by kernel_rfl) ?_
   exact At_rd (v1, w64 (i + 1)) (Option.some.inj hm).symm ⟨v1, w64 (i + 1), rfl, rfl, k_15⟩ (by kernel_rfl)
 rw [if_neg hc1] at hm
 refine W_exit (At_te (At_te (At_ie ?_)))
 have hm := exit_of hm hr0
 refine At_go <| W_seq <| W_reg <| WLs 1 [] (.n 51 (.agg [.ar e64 h1]) (.ss (.k .z))) (qT k_12 0 rfl 0 8 [.ar e64 h1] (by kernel_rfl) (by decide) <| qe) (by kernel_rfl) ?_
 refine WL_op <| Op_b [] 1 (.agg [.ar e64 h1]) [.ar e64 h1] (Pt.at g2 0) k_12 rfl .all (by kernel_rfl) (by kernel_rfl) ?_
 intro w_11 k_16
 have k_17 := k_16.sel (.s (.k .z))
 refine WL_nil <| At_go <| W_ret ?_
 obtain rfl := Option.some.inj hm
 refine At_rt [.agg [.ar e64 h1]] (qo (.agg [.ar e64 h1]) <| qc (fun w => Rd w (some ⟨g2, 0, none⟩) (SV.cl [.ar e64 h1])) (k_17.brd 0 rfl) <| qe) (by kernel_rfl) ?_
 have k_18 := k_17.sel .z
 exact ⟨rfl, k_18⟩

-- quern/quernref04.Words
noncomputable def m_r04_Words_l0 (b : List UInt8) : (Vec UInt32 16 × Int) → Option ((Vec UInt32 16 × Int) ⊕ (Vec UInt32 16 × Int))
  | (m_, i) => if i < 16 then ((m_r04_load b (w64 (4 * i))).bind fun r_ => (geti m_.l i).bind fun x_0 => (some (vst m_ i r_)).bind fun v => some (.inl (v, w64 (i + 1)))) else (Option.map Sum.inr (some (m_, (0 : Int))))
noncomputable def m_r04_Words (b : List UInt8) : Option (Vec UInt32 16 × Int) :=
  if ((b.length : Nat) : Int) < 64 then (some ((Vec.rep 16 (0 : UInt32)), (3 : Int))) else (if 64 < ((b.length : Nat) : Int) then (some ((Vec.rep 16 (0 : UInt32)), (2 : Int))) else (whileO (m_r04_Words_l0 b) ((Vec.rep 16 (0 : UInt32)), (0 : Int))))
theorem c_r04_Words {F O : Nat → Prop} {w : World} (b : List UInt8) (A_b : Option Addr) (n_b : Nat) (c_b : Nat) (h_b : Ro F w A_b (e8.all b)) (hn_b : b.length = n_b) (hc_b : n_b ≤ c_b) (k : Cx F O w w []) (r : (Vec UInt32 16 × Int)) (hm : m_r04_Words b = some r) :
    Calls Tryz.prog 96 (vals [sl A_b n_b c_b]) w (fun e w' => e = .returned (SV.val (.tup [.agg [.ar e32 r.1], I r.2])) ∧ Cx F O w w' []) := by
 unfold m_r04_Words at hm
 subst hn_b
 refine calls [sl A_b b.length c_b] Tryz.func96 rfl (of_decide_eq_true (by kernel_rfl)) ?_
 refine W_seq <| W_reg <| WL_op <| Op_alloc [] 2 [.ar e32 (Vec.rep 16 (0 : UInt32))] (by kernel_rfl) k ?_
 intro g w_ k_
 refine WLs 1 [] .a qe (by kernel_rfl) ?_
 refine WL_nil <| At_go <| W_seq <| W_reg <| WL_op <| Op_alloc [] 4 [.ar e32 (Vec.rep 16 (0 : UInt32))] (by kernel_rfl) k_ ?_
 intro g1 w_1 k_1
 refine WL_nil <| At_go <| W_seq <| W_block <| W_seq <| W_q [] (.n 6 (.b (decide (((b.length : Nat) : Int) < 64))) .a) qe (by kernel_rfl) ?_
 refine At_go <| W_condp (((b.length : Nat) : Int) < 64) (by kernel_rfl) (fun hc => ?_) (fun hc => ?_)
 · rw [if_pos hc] at hm
   refine W_seq <| W_reg <| WLs 1 [] (.n 10 (.agg [.ar e32 (Vec.rep 16 (0 : UInt32))]) (.ss (.k .z))) (qT k_1 1 rfl 0 16 [.ar e32 (Vec.rep 16 (0 : UInt32))] (by kernel_rfl) (by decide) <| qe) (by kernel_rfl) ?_
   refine WL_op <| Op_b [] 0 (.agg [.ar e32 (Vec.rep 16 (0 : UInt32))]) [.ar e32 (Vec.rep 16 (0 : UInt32))] (Pt.at g 0) k_1 rfl .all (by kernel_rfl) (by kernel_rfl) ?_
   intro w_2 k_2
   have k_3 := k_2.sel (.k .z)
   refine WLs 1 [] (.n 3 (I 3) (.s .a)) qe (by kernel_rfl) ?_
   refine WL_nil <| At_go <| W_ret (At_ir (At_tr ?_))
   obtain rfl := Option.some.inj hm
   refine At_rt [.agg [.ar e32 (Vec.rep 16 (0 : UInt32))], I 3] (qo (.agg [.ar e32 (Vec.rep 16 (0 : UInt32))]) <| qc (fun w => Rd w (some ⟨g, 0, none⟩) (SV.cl [.ar e32 (Vec.rep 16 (0 : UInt32))])) (k_3.brd 0 rfl) <| qe) (by kernel_rfl) ?_
   have k_4 := k_3.sel .z
   exact ⟨rfl, k_4⟩
 rw [if_neg hc] at hm
 refine W_seq <| W_q [] (.n 11 (.b (decide (64 < ((b.length : Nat) : Int)))) (.s .a)) qe (by kernel_rfl) ?_
 refine At_go <| W_condp (64 < ((b.length : Nat) : Int)) (by kernel_rfl) (fun hc1 => ?_) (fun hc1 => ?_)
 · rw [if_pos hc1] at hm
   refine W_seq <| W_reg <| WLs 1 [] (.n 15 (.agg [.ar e32 (Vec.rep 16 (0 : UInt32))]) (.ss (.k .z))) (qT k_1 1 rfl 0 16 [.ar e32 (Vec.rep 16 (0 : UInt32))] (by kernel_rfl) (by decide) <| qe) (by kernel_rfl) ?_
   refine WL_op <| Op_b [] 0 (.agg [.ar e32 (Vec.rep 16 (0 : UInt32))]) [.ar e32 (Vec.rep 16 (0 : UInt32))] (Pt.at g 0) k_1 rfl .all (by kernel_rfl) (by kernel_rfl) ?_
   intro w_3 k_5
   have k_6 := k_5.sel (.k .z)
   refine WLs 1 [] (.n 3 (I 2) (.s .a)) qe (by kernel_rfl) ?_
   refine WL_nil <| At_go <| W_ret (At_ir (At_tr ?_))
   obtain rfl := Option.some.inj hm
   refine At_rt [.agg [.ar e32 (Vec.rep 16 (0 : UInt32))], I 2] (qo (.agg [.ar e32 (Vec.rep 16 (0 : UInt32))]) <| qc (fun w => Rd w (some ⟨g, 0, none⟩) (SV.cl [.ar e32 (Vec.rep 16 (0 : UInt32))])) (k_6.brd 0 rfl) <| qe) (by kernel_rfl) ?_
   have k_7 := k_6.sel .z
   exact ⟨rfl, k_7⟩
 rw [if_neg hc1] at hm
 refine W_skip <| At_in <| At_go <| W_seq <| W_seq <| W_q [] (.n 5 (I 0) (.s .a)) qe (by kernel_rfl) ?_
 refine At_go <| W_block <| W_lp (m_r04_Words_l0 b) (fun s L wr => ∃ (m_ : Vec UInt32 16) (i : Int), (m_, i) = s ∧ L = [(0, sl A_b b.length c_b), (2, pt g 0), (4, pt g1 0), (5, I i)] ∧ Cx F O w wr [Bx 155 g [.ar e32 (Vec.rep 16 (0 : UInt32))], Bx 155 g1 [.ar e32 m_]]) ((Vec.rep 16 (0 : UInt32)), (0 : Int)) r hm ⟨(Vec.rep 16 (0 : UInt32)), (0 : Int), rfl, rfl, k_1⟩ (by kernel_rfl) ?_
 intro s0_ L_ w_4 y0 hrel hstep hr0
 obtain ⟨m_, i, rfl, rfl, k_8⟩ := hrel
 have hm := hstep; simp only [m_r04_Words_l0] at hm
 clear hstep
 refine W_seq <| W_seq <| W_q [] (.n 17 (.b (decide (i < 16))) .a) qe (by kernel_rfl) ?_
 refine At_go <| W_condp (i < 16) (by kernel_rfl) (fun hc2 => ?_) (fun hc2 => ?_)
 · rw [if_pos hc2] at hm
   refine W_skip <| At_go <| W_seq <| W_block <| W_reg <| WLs 4 [] (.n 20 (I i) (.n 21 (sl A_b b.length c_b) (.n 23 (I (w64 (4 * i))) (.s .a)))) qe (by kernel_rfl) ?_
   refine WL_op ?_
   obtain ⟨r_, h_r_, hm⟩ := ob hm
   refine Op_call [] 24 _ yz_go114 (by kernel_rfl) (c_r04_load (F := N0) (O := N0) _ _ _ _ _ (Ro.n0 (h_b.cx k_8)) rfl hc_b (Cx.refl _) _ h_r_) ?_
   rintro e_ w_5 ⟨rfl, k_9⟩
   have k_10 := k_8.call k_9
   refine ⟨.u32 r_, rfl, ?_⟩
   obtain ⟨x_0, h_x_0, hm⟩ := ob hm
   refine WLs 1 [] (.n 25 (.v (.pointer (ixA (some ⟨g1, 0, none⟩) i 1))) (.k (.sss .a))) (qI g1 0 h_x_0 <| qe) (by kernel_rfl) ?_
   refine WL_op ?_
   obtain ⟨v, h_v, hm⟩ := nm hm
   refine Op_vs (E := e32) (kk := 0) [] 1 (.u32 r_) [.u32 r_] h_v h_x_0 (Pt.ix0 (Pt.at g1 0) i 1) k_10 rfl .h rfl (by kernel_rfl) (by kernel_rfl) ?_
   intro w_6 k_11
   refine WL_nil <| At_in <| At_go <| W_q [] (.n 5 (I (w64 (i + 1))) (.ss (.kkk .z))) qe (by kernel_rfl) ?_
   exact At_rd (v, w64 (i + 1)) (Option.some.inj hm).symm ⟨v, w64 (i + 1), rfl, rfl, k_11⟩ (by kernel_rfl)
 rw [if_neg hc2] at hm
 refine W_exit (At_te (At_te (At_ie ?_)))
 have hm := exit_of hm hr0
 refine At_go <| W_seq <| W_reg <| WLs 1 [] (.n 26 (.agg [.ar e32 m_]) (.ss (.k .z))) (qT k_8 1 rfl 0 16 [.ar e32 m_] (by kernel_rfl) (by decide) <| qe) (by kernel_rfl) ?_
 refine WL_op <| Op_b [] 0 (.agg [.ar e32 m_]) [.ar e32 m_] (Pt.at g 0) k_8 rfl .all (by kernel_rfl) (by kernel_rfl) ?_
 intro w_7 k_12
 have k_13 := k_12.sel (.k .z)
 refine WLs 1 [] (.n 3 (I 0) (.s .a)) qe (by kernel_rfl) ?_
 refine WL_nil <| At_go <| W_ret ?_
 obtain rfl := Option.some.inj hm
 refine At_rt [.agg [.ar e32 m_], I 0] (qo (.agg [.ar e32 m_]) <| qc (fun w => Rd w (some ⟨g, 0, none⟩) (SV.cl [.ar e32 m_])) (k_13.brd 0 rfl) <| qe) (by kernel_rfl) ?_
 have k_14 := k_13.sel .z
 exact ⟨rfl, k_14⟩

-- quern/quernref04.Begin
noncomputable def m_r04_Begin_j1 (v7 : Vec UInt32 16) : Option (Vec UInt32 16) :=
  some v7
noncomputable def m_r04_Begin_j0 (node : Bool) (v5 : Vec UInt32 16) : Option (Vec UInt32 16) :=
  if node = true then ((geti v5.l (15 : Int)).bind fun x_10 => (geti v5.l (15 : Int)).bind fun x_11 => (some (vst v5 (15 : Int) (x_10 ^^^ 4294967295))).bind fun v8 => m_r04_Begin_j1 v8) else (m_r04_Begin_j1 v5)
noncomputable def m_r04_Begin_l0 (h : Vec UInt32 8) (count : UInt64) (last : Bool) (node : Bool) (r_ : (Vec UInt32 8)) : (Vec UInt32 16 × Int) → Option ((Vec UInt32 16 × Int) ⊕ (Vec UInt32 16))
  | (v, i) => if i < 8 then ((geti h.l i).bind fun x_0 => (geti v.l i).bind fun x_1 => (some (vst v i x_0)).bind fun v1 => (geti r_.l i).bind fun x_2 => (geti v1.l (w64 (i + 8))).bind fun x_3 => (some (vst v1 (w64 (i + 8)) x_2)).bind fun v2 => some (.inl (v2, w64 (i + 1)))) else (Option.map Sum.inr ((geti v.l (12 : Int)).bind fun x_4 => (geti v.l (12 : Int)).bind fun x_5 => (some (vst v (12 : Int) (x_4 ^^^ (UInt32.ofNat count.toNat)))).bind fun v3 => (geti v3.l (13 : Int)).bind fun x_6 => (geti v3.l (13 : Int)).bind fun x_7 => (some (vst v3 (13 : Int) (x_6 ^^^ (UInt32.ofNat (shr64 count ((32 : UInt64).toNat)).toNat)))).bind fun v4 => if last = true then ((geti v4.l (14 : Int)).bind fun x_8 => (geti v4.l (14 : Int)).bind fun x_9 => (some (vst v4 (14 : Int) (x_8 ^^^ 4294967295))).bind fun v6 => m_r04_Begin_j0 node v6) else (m_r04_Begin_j0 node v4)))
noncomputable def m_r04_Begin (h : Vec UInt32 8) (count : UInt64) (last : Bool) (node : Bool) : Option (Vec UInt32 16) :=
  (m_r04_IV).bind fun r_ => whileO (m_r04_Begin_l0 h count last node r_) ((Vec.rep 16 (0 : UInt32)), (0 : Int))
theorem c_r04_Begin {F O : Nat → Prop} {w : World} (h : Vec UInt32 8) (count : UInt64) (last : Bool) (node : Bool) (k : Cx F O w w []) (r : (Vec UInt32 16)) (hm : m_r04_Begin h count last node = some r) :
    Calls Tryz.prog 115 (vals [.agg [.ar e32 h], .u64 count, .b last, .b node]) w (fun e w' => e = .returned (SV.val (.agg [.ar e32 r])) ∧ Cx F O w w' []) := by
 unfold m_r04_Begin at hm
 refine calls [.agg [.ar e32 h], .u64 count, .b last, .b node] Tryz.func115 rfl (of_decide_eq_true (by kernel_rfl)) ?_
 refine W_seq <| W_reg <| WL_op <| Op_box [] 4 (.agg [.ar e32 h]) [.ar e32 h] (by kernel_rfl) k ?_
 intro g w_ k_
 refine WL_op <| Op_alloc [] 8 [.ar e32 (Vec.rep 16 (0 : UInt32))] (by kernel_rfl) k_ ?_
 intro g1 w_1 k_1
 refine WL_nil <| At_go <| W_seq <| W_reg <| WL_op <| Op_alloc [] 9 [.ar e32 (Vec.rep 16 (0 : UInt32))] (by kernel_rfl) k_1 ?_
 intro g2 w_2 k_2
 refine WL_nil <| At_go <| W_seq <| W_reg <| WL_op ?_
 obtain ⟨r_, h_r_, hm⟩ := ob hm
 refine Op_call [] 12 _ yz_go125 (by kernel_rfl) (c_r04_IV (F := N0) (O := N0)  (Cx.refl _) _ h_r_) ?_
 rintro e_ w_3 ⟨rfl, k_3⟩
 have k_4 := k_2.call k_3
 refine ⟨.agg [.ar e32 r_], rfl, ?_⟩
 refine WL_op ?_
 have k_5 := k_4.sel (.kk (.k .e))
 refine Op_alloc [] 10 [.ar e32 (Vec.rep 8 (0 : UInt32))] (by kernel_rfl) k_5 ?_
 intro g3 w_4 k_6
 refine WL_op <| Op_b [] 3 (.agg [.ar e32 r_]) [.ar e32 r_] (Pt.at g3 0) k_6 rfl .all (by kernel_rfl) (by kernel_rfl) ?_
 intro w_5 k_7
 refine WL_nil <| At_go <| W_seq <| W_seq <| W_q [] (.n 11 (I 0) (.k (.s (.kkk (.s .a))))) qe (by kernel_rfl) ?_
 refine At_go <| W_block <| W_lp (m_r04_Begin_l0 h count last node r_) (fun s L wr => ∃ (v : Vec UInt32 16) (i : Int), (v, i) = s ∧ L = [(1, .u64 count), (2, .b last), (3, .b node), (4, pt g 0), (8, pt g1 0), (9, pt g2 0), (10, pt g3 0), (11, I i)] ∧ Cx F O w wr [Bx 154 g [.ar e32 h], Bx 155 g1 [.ar e32 (Vec.rep 16 (0 : UInt32))], Bx 155 g2 [.ar e32 v], Bx 154 g3 [.ar e32 r_]]) ((Vec.rep 16 (0 : UInt32)), (0 : Int)) r hm ⟨(Vec.rep 16 (0 : UInt32)), (0 : Int), rfl, rfl, k_7⟩ (by kernel_rfl) ?_
 intro s0_ L_ w_6 y0 hrel hstep hr0
 obtain ⟨v, i, rfl, rfl, k_8⟩ := hrel
 have hm := hstep; simp only [m_r04_Begin_l0] at hm
 clear hstep
 refine W_seq <| W_seq <| W_q [] (.n 14 (.b (decide (i < 8))) .a) qe (by kernel_rfl) ?_
 refine At_go <| W_condp (i < 8) (by kernel_rfl) (fun hc => ?_) (fun hc => ?_)
 · rw [if_pos hc] at hm
   refine W_skip <| At_go <| W_seq <| W_block <| W_seq <| W_reg ?_
   obtain ⟨x_0, h_x_0, hm⟩ := ob hm
   obtain ⟨x_1, h_x_1, hm⟩ := ob hm
   refine WLs 5 [] (.n 20 (.u32 x_0) (.n 21 (.v (.pointer (ixA (some ⟨g2, 0, none⟩) i 1))) (.s .a))) (qV (k_8.vrd 0 rfl e32 h 0 (by kernel_rfl)) h_x_0 rfl (.u32 x_0) rfl <| qI g2 0 h_x_1 <| qe) (by kernel_rfl) ?_
   refine WL_op ?_
   obtain ⟨v1, h_v1, hm⟩ := nm hm
   refine Op_vs (E := e32) (kk := 0) [] 2 (.u32 x_0) [.u32 x_0] h_v1 h_x_1 (Pt.ix0 (Pt.at g2 0) i 1) k_8 rfl .h rfl (by kernel_rfl) (by kernel_rfl) ?_
   intro w_7 k_9
   refine WL_nil <| At_go <| W_reg ?_
   obtain ⟨x_2, h_x_2, hm⟩ := ob hm
   obtain ⟨x_3, h_x_3, hm⟩ := ob hm
   refine WLs 6 [] (.n 26 (.u32 x_2) (.n 27 (.v (.pointer (ixA (some ⟨g2, 0, none⟩) (w64 (i + 8)) 1))) (.ss .a))) (qV (k_9.vrd 3 rfl e32 r_ 0 (by kernel_rfl)) h_x_2 rfl (.u32 x_2) rfl <| qI g2 0 h_x_3 <| qe) (by kernel_rfl) ?_
   refine WL_op ?_
   obtain ⟨v2, h_v2, hm⟩ := nm hm
   refine Op_vs (E := e32) (kk := 0) [] 2 (.u32 x_2) [.u32 x_2] h_v2 h_x_3 (Pt.ix0 (Pt.at g2 0) (w64 (i + 8)) 1) k_9 rfl .h rfl (by kernel_rfl) (by kernel_rfl) ?_
   intro w_8 k_10
   refine WL_nil <| At_in <| At_go <| W_q [] (.n 11 (I (w64 (i + 1))) (.ss (.kkkk (.kkk .z)))) qe (by kernel_rfl) ?_
   exact At_rd (v2, w64 (i + 1)) (Option.some.inj hm).symm ⟨v2, w64 (i + 1), rfl, rfl, k_10⟩ (by kernel_rfl)
 rw [if_neg hc] at hm
 refine W_exit (At_te (At_te (At_ie ?_)))
 have hm := exit_of hm hr0
 refine At_go <| W_seq <| W_reg ?_
 obtain ⟨x_4, h_x_4, hm⟩ := ob hm
 obtain ⟨x_5, h_x_5, hm⟩ := ob hm
 refine WLs 6 [] (.n 32 (.u32 (x_4 ^^^ (UInt32.ofNat count.toNat))) (.n 33 (.v (.pointer (ixA (some ⟨g2, 0, none⟩) (12 : Int) 1))) (.s (.kkk (.s (.kk .z)))))) (qV (k_8.vrd 2 rfl e32 v 0 (by kernel_rfl)) h_x_4 rfl (.u32 x_4) rfl <| qI g2 0 h_x_5 <| qe) (by kernel_rfl) ?_
 refine WL_op ?_
 obtain ⟨v3, h_v3, hm⟩ := nm hm
 refine Op_vs (E := e32) (kk := 0) [] 2 (.u32 (x_4 ^^^ (UInt32.ofNat count.toNat))) [.u32 (x_4 ^^^ (UInt32.ofNat count.toNat))] h_v3 h_x_5 (Pt.ix0 (Pt.at g2 0) (12 : Int) 1) k_8 rfl .h rfl (by kernel_rfl) (by kernel_rfl) ?_
 intro w_9 k_11
 refine WL_nil <| At_go <| W_seq <| W_reg ?_
 obtain ⟨x_6, h_x_6, hm⟩ := ob hm
 obtain ⟨x_7, h_x_7, hm⟩ := ob hm
 refine WLs 7 [] (.n 39 (.u32 (x_6 ^^^ (UInt32.ofNat (shr64 count ((32 : UInt64).toNat)).toNat))) (.n 40 (.v (.pointer (ixA (some ⟨g2, 0, none⟩) (13 : Int) 1))) (.sss .a))) (qV (k_11.vrd 2 rfl e32 v3 0 (by kernel_rfl)) h_x_6 rfl (.u32 x_6) rfl <| qI g2 0 h_x_7 <| qe) (by kernel_rfl) ?_
 refine WL_op ?_
 obtain ⟨v4, h_v4, hm⟩ := nm hm
 refine Op_vs (E := e32) (kk := 0) [] 2 (.u32 (x_6 ^^^ (UInt32.ofNat (shr64 count ((32 : UInt64).toNat)).toNat))) [.u32 (x_6 ^^^ (UInt32.ofNat (shr64 count ((32 : UInt64).toNat)).toNat))] h_v4 h_x_7 (Pt.ix0 (Pt.at g2 0) (13 : Int) 1) k_11 rfl .h rfl (by kernel_rfl) (by kernel_rfl) ?_
 intro w_10 k_12
 refine WL_nil <| At_go <| W_cut (fun L wr => ∃ (v5 : Vec UInt32 16), m_r04_Begin_j0 node v5 = some r ∧ L = [(3, .b node), (8, pt g1 0), (9, pt g2 0)] ∧ Cx F O w wr [Bx 155 g1 [.ar e32 (Vec.rep 16 (0 : UInt32))], Bx 155 g2 [.ar e32 v5]]) ?_ ?_
 ·
  refine W_seq <| W_q [] (.n 41 (.b last) (.sss .a)) qe (by kernel_rfl) ?_
  refine At_go <| W_cond last (by kernel_rfl) (fun hc1 => ?_) (fun hc1 => ?_)
  · rw [if_pos hc1] at hm
    refine W_reg ?_
    obtain ⟨x_8, h_x_8, hm⟩ := ob hm
    obtain ⟨x_9, h_x_9, hm⟩ := ob hm
    refine WLs 4 [] (.n 44 (.u32 (x_8 ^^^ 4294967295)) (.n 45 (.v (.pointer (ixA (some ⟨g2, 0, none⟩) (14 : Int) 1))) (.s .a))) (qV (k_12.vrd 2 rfl e32 v4 0 (by kernel_rfl)) h_x_8 rfl (.u32 x_8) rfl <| qI g2 0 h_x_9 <| qe) (by kernel_rfl) ?_
    refine WL_op ?_
    obtain ⟨v6, h_v6, hm⟩ := nm hm
    refine Op_vs (E := e32) (kk := 0) [] 2 (.u32 (x_8 ^^^ 4294967295)) [.u32 (x_8 ^^^ 4294967295)] h_v6 h_x_9 (Pt.ix0 (Pt.at g2 0) (14 : Int) 1) k_12 rfl .h rfl (by kernel_rfl) (by kernel_rfl) ?_
    intro w_11 k_13
    refine WL_nil ?_
    have k_14 := k_13.sel (.s (.kk .z))
    exact At_c ⟨v6, hm, rfl, k_14⟩ (by kernel_rfl)
  rw [if_neg (by rw [hc1]; decide)] at hm
  refine W_skip ?_
  have k_15 := k_12.sel (.s (.kk .z))
  exact At_c ⟨v4, hm, rfl, k_15⟩ (by kernel_rfl)
 rintro L_ w_12 ⟨v5, hm, rfl, k_16⟩
 simp only [m_r04_Begin_j0] at hm
 refine W_cut (fun L wr => ∃ (v7 : Vec UInt32 16), m_r04_Begin_j1 v7 = some r ∧ L = [(8, pt g1 0), (9, pt g2 0)] ∧ Cx F O w wr [Bx 155 g1 [.ar e32 (Vec.rep 16 (0 : UInt32))], Bx 155 g2 [.ar e32 v7]]) ?_ ?_
 ·
  refine W_seq <| W_q [] (.n 46 (.b node) (.s .a)) qe (by kernel_rfl) ?_
  refine At_go <| W_cond node (by kernel_rfl) (fun hc2 => ?_) (fun hc2 => ?_)
  · rw [if_pos hc2] at hm
    refine W_reg ?_
    obtain ⟨x_10, h_x_10, hm⟩ := ob hm
    obtain ⟨x_11, h_x_11, hm⟩ := ob hm
    refine WLs 4 [] (.n 49 (.u32 (x_10 ^^^ 4294967295)) (.n 50 (.v (.pointer (ixA (some ⟨g2, 0, none⟩) (15 : Int) 1))) (.s .a))) (qV (k_16.vrd 1 rfl e32 v5 0 (by kernel_rfl)) h_x_10 rfl (.u32 x_10) rfl <| qI g2 0 h_x_11 <| qe) (by kernel_rfl) ?_
    refine WL_op ?_
    obtain ⟨v8, h_v8, hm⟩ := nm hm
    refine Op_vs (E := e32) (kk := 0) [] 1 (.u32 (x_10 ^^^ 4294967295)) [.u32 (x_10 ^^^ 4294967295)] h_v8 h_x_11 (Pt.ix0 (Pt.at g2 0) (15 : Int) 1) k_16 rfl .h rfl (by kernel_rfl) (by kernel_rfl) ?_
    intro w_13 k_17
    refine WL_nil ?_
    exact At_c ⟨v8, hm, rfl, k_17⟩ (by kernel_rfl)
  rw [if_neg (by rw [hc2]; decide)] at hm
  refine W_skip ?_
  exact At_c ⟨v5, hm, rfl, k_16⟩ (by kernel_rfl)
 rintro L_ w_14 ⟨v7, hm, rfl, k_18⟩
 simp only [m_r04_Begin_j1] at hm
 refine W_seq <| W_reg <| WLs 1 [] (.n 51 (.agg [.ar e32 v7]) (.k .z)) (qT k_18 1 rfl 0 16 [.ar e32 v7] (by kernel_rfl) (by decide) <| qe) (by kernel_rfl) ?_
 refine WL_op <| Op_b [] 0 (.agg [.ar e32 v7]) [.ar e32 v7] (Pt.at g1 0) k_18 rfl .all (by kernel_rfl) (by kernel_rfl) ?_
 intro w_15 k_19
 have k_20 := k_19.sel (.k .z)
 refine WL_nil <| At_go <| W_ret ?_
 obtain rfl := Option.some.inj hm
 refine At_rt [.agg [.ar e32 v7]] (qo (.agg [.ar e32 v7]) <| qc (fun w => Rd w (some ⟨g1, 0, none⟩) (SV.cl [.ar e32 v7])) (k_20.brd 0 rfl) <| qe) (by kernel_rfl) ?_
 have k_21 := k_20.sel .z
 exact ⟨rfl, k_21⟩

-- quern/quernref04.four
noncomputable def m_r04_four (i : Int) : Option (Int × Int × Int × Int) :=
  if i < 4 then (some (i, w64 (i + 4), w64 (i + 8), w64 (i + 12))) else (some (w64 (i - 4), w64 (4 + (Int.tmod (w64 ((w64 (i - 4)) + 1)) 4)), w64 (8 + (Int.tmod (w64 ((w64 (i - 4)) + 2)) 4)), w64 (12 + (Int.tmod (w64 ((w64 (i - 4)) + 3)) 4))))
theorem c_r04_four {F O : Nat → Prop} {w : World} (i : Int) (k : Cx F O w w []) (r : (Int × Int × Int × Int)) (hm : m_r04_four i = some r) :
    Calls Tryz.prog 129 (vals [I i]) w (fun e w' => e = .returned (SV.val (.tup [I r.1, I r.2.1, I r.2.2.1, I r.2.2.2])) ∧ Cx F O w w' []) := by
 unfold m_r04_four at hm
 refine calls [I i] Tryz.func129 rfl (of_decide_eq_true (by kernel_rfl)) ?_
 refine W_seq <| W_q [] .a qe (by kernel_rfl) ?_
 refine At_go <| W_seq <| W_seq <| W_q [] (.n 8 (.b (decide (i < 4))) .a) qe (by kernel_rfl) ?_
 refine At_go <| W_condp (i < 4) (by kernel_rfl) (fun hc => ?_) (fun hc => ?_)
 · rw [if_pos hc] at hm
   refine W_seq <| W_q [] (.n 2 (I i) (.n 3 (I (w64 (i + 4))) (.n 4 (I (w64 (i + 8))) (.n 5 (I (w64 (i + 12))) .z)))) qe (by kernel_rfl) ?_
   refine At_go <| W_ret (At_tr ?_)
   obtain rfl := Option.some.inj hm
   refine At_rt [I i, I (w64 (i + 4)), I (w64 (i + 8)), I (w64 (i + 12))] qe (by kernel_rfl) ?_
   exact ⟨rfl, k⟩
 rw [if_neg hc] at hm
 refine W_skip <| At_go <| W_seq <| W_q [] (.n 6 (I (w64 (i - 4))) .z) qe (by kernel_rfl) ?_
 refine At_go <| W_seq <| W_q [] (.n 2 (I (w64 (i - 4))) (.n 3 (I (w64 (4 + (Int.tmod (w64 ((w64 (i - 4)) + 1)) 4)))) (.n 4 (I (w64 (8 + (Int.tmod (w64 ((w64 (i - 4)) + 2)) 4)))) (.n 5 (I (w64 (12 + (Int.tmod (w64 ((w64 (i - 4)) + 3)) 4)))) .z)))) (qp ((4 : Int) ≠ (0 : Int)) (by omega) <| qp ((4 : Int) ≠ (0 : Int)) (by omega) <| qp ((4 : Int) ≠ (0 : Int)) (by omega) <| qe) (by kernel_rfl) ?_
 refine At_go <| W_ret ?_
 obtain rfl := Option.some.inj hm
 refine At_rt [I (w64 (i - 4)), I (w64 (4 + (Int.tmod (w64 ((w64 (i - 4)) + 1)) 4))), I (w64 (8 + (Int.tmod (w64 ((w64 (i - 4)) + 2)) 4))), I (w64 (12 + (Int.tmod (w64 ((w64 (i - 4)) + 3)) 4)))] qe (by kernel_rfl) ?_
 exact ⟨rfl, k⟩
end Go.Sx
