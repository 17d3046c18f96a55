import Derived.Test.YtmknbdnofogmdaaGreatW2
namespace Go.Sx
open Go.RowKit Go.Proofs
set_option linter.unusedVariables false
set_option linter.unusedSimpArgs false
set_option maxRecDepth 20000

-- quern/quernref03.G
noncomputable def m_r03_G (v : Vec UInt64 16) (a_ : Int) (b : Int) (c : Int) (d : Int) (x_ : UInt64) (y_ : UInt64) : Option (Vec UInt64 16 × Int) :=
  (m_r03_place a_).bind fun r_ => if (!r_) = true then (some ((Vec.rep 16 ((0 : UInt64) : UInt64)), (1 : Int))) else ((m_r03_place b).bind fun r_1 => if (!r_1) = true then (some ((Vec.rep 16 ((0 : UInt64) : UInt64)), (1 : Int))) else ((m_r03_place c).bind fun r_2 => if (!r_2) = true then (some ((Vec.rep 16 ((0 : UInt64) : UInt64)), (1 : Int))) else ((m_r03_place d).bind fun r_3 => if (((((((!r_3) || (decide (a_ = b))) || (decide (a_ = c))) || (decide (a_ = d))) || (decide (b = c))) || (decide (b = d))) || (decide (c = d))) = true then (some ((Vec.rep 16 ((0 : UInt64) : UInt64)), (1 : Int))) else ((geti v.l a_).bind fun x_3 => (geti v.l b).bind fun x_4 => (geti v.l a_).bind fun x_5 => (some (vst v a_ ((x_3 + x_4) + x_))).bind fun v1 => (geti v1.l d).bind fun x_6 => (geti v1.l a_).bind fun x_7 => (m_r01_Turn64 (x_6 ^^^ x_7) (32 : Int)).bind fun r_4 => (geti v1.l d).bind fun x_8 => (some (vst v1 d r_4)).bind fun v2 => (geti v2.l c).bind fun x_9 => (geti v2.l d).bind fun x_10 => (geti v2.l c).bind fun x_11 => (some (vst v2 c (x_9 + x_10))).bind fun v3 => (geti v3.l b).bind fun x_12 => (geti v3.l c).bind fun x_13 => (m_r01_Turn64 (x_12 ^^^ x_13) (24 : Int)).bind fun r_5 => (geti v3.l b).bind fun x_14 => (some (vst v3 b r_5)).bind fun v4 => (geti v4.l a_).bind fun x_15 => (geti v4.l b).bind fun x_16 => (geti v4.l a_).bind fun x_17 => (some (vst v4 a_ ((x_15 + x_16) + y_))).bind fun v5 => (geti v5.l d).bind fun x_18 => (geti v5.l a_).bind fun x_19 => (m_r01_Turn64 (x_18 ^^^ x_19) (16 : Int)).bind fun r_6 => (geti v5.l d).bind fun x_20 => (some (vst v5 d r_6)).bind fun v6 => (geti v6.l c).bind fun x_21 => (geti v6.l d).bind fun x_22 => (geti v6.l c).bind fun x_23 => (some (vst v6 c (x_21 + x_22))).bind fun v7 => (geti v7.l b).bind fun x_24 => (geti v7.l c).bind fun x_25 => (m_r01_Turn64 (x_24 ^^^ x_25) (63 : Int)).bind fun r_7 => (geti v7.l b).bind fun x_26 => (some (vst v7 b r_7)).bind fun v8 => some (v8, (0 : Int))))))
theorem c_r03_G {F O : Nat → Prop} {w : World} (v : Vec UInt64 16) (a_ : Int) (b : Int) (c : Int) (d : Int) (x_ : UInt64) (y_ : UInt64) (k : Cx F O w w []) (r : (Vec UInt64 16 × Int)) (hm : m_r03_G v a_ b c d x_ y_ = some r) :
    Calls Tryz.prog 127 (vals [.agg [.ar e64 v], I a_, I b, I c, I d, .u64 x_, .u64 y_]) w (fun e w' => e = .returned (SV.val (.tup [.agg [.ar e64 r.1], I r.2])) ∧ Cx F O w w' []) := by
 unfold m_r03_G at hm
 refine calls [.agg [.ar e64 v], I a_, I b, I c, I d, .u64 x_, .u64 y_] Tryz.func127 rfl (of_decide_eq_true (by kernel_rfl)) ?_
 refine W_seq <| W_reg <| WL_op <| Op_box [] 7 (.agg [.ar e64 v]) [.ar e64 v] (by kernel_rfl) k ?_
 intro g w_ k_
 refine WL_op <| Op_alloc [] 14 [.ar e64 (Vec.rep 16 (0 : UInt64))] (by kernel_rfl) k_ ?_
 intro g1 w_1 k_1
 refine WLs 1 [] (.kk (.s .a)) qe (by kernel_rfl) ?_
 refine WL_nil <| At_go <| W_seq <| W_seq <| W_reg <| WLs 1 [] (.n 16 (I a_) .a) qe (by kernel_rfl) ?_
 refine WL_op ?_
 obtain ⟨r_, h_r_, hm⟩ := ob hm
 refine Op_call [] 17 _ yz_go137 (by kernel_rfl) (c_r03_place (F := N0) (O := N0) _ (Cx.refl _) _ h_r_) ?_
 rintro e_ w_2 ⟨rfl, k_2⟩
 have k_3 := k_1.call k_2
 refine ⟨.b r_, rfl, ?_⟩
 refine WLs 2 [] (.n 19 (.b (!r_)) (.ss .a)) qe (by kernel_rfl) ?_
 refine WL_sp 19 (!r_) (.s .a) (by kernel_rfl) (fun hg => ?_) (fun hg => ?_)
 · rw [if_pos hg] at hm
   refine WLs 5 [19] (.n 24 (.b true) (.s .a)) qe (by kernel_rfl) ?_
   refine WLs 5 [24] (.n 29 (.b true) (.s .a)) qe (by kernel_rfl) ?_
   refine WLs 34 [29, 34, 39, 44, 49, 54, 59] (.n 63 (.b true) (.s .a)) qe (by kernel_rfl) ?_
   refine WL_nil <| At_go <| W_cond true (by kernel_rfl) (fun _ => ?_) (fun h => by cases h)
   refine W_seq <| W_reg <| WLs 1 [] (.n 64 (.agg [.ar e64 (Vec.rep 16 ((0 : UInt64) : UInt64))]) (.s (.k .z))) qe (by kernel_rfl) ?_
   refine WL_op <| Op_b [] 1 (.agg [.ar e64 (Vec.rep 16 ((0 : UInt64) : UInt64))]) [.ar e64 (Vec.rep 16 ((0 : UInt64) : UInt64))] (Pt.at g1 0) k_3 rfl .all (by kernel_rfl) (by kernel_rfl) ?_
   intro w_3 k_4
   have k_5 := k_4.sel (.s (.k .e))
   refine WLs 1 [] (.n 15 (I 1) (.s .a)) qe (by kernel_rfl) ?_
   refine WL_nil <| At_go <| W_ret (At_tr ?_)
   obtain rfl := Option.some.inj hm
   refine At_rt [.agg [.ar e64 (Vec.rep 16 ((0 : UInt64) : UInt64))], I 1] (qo (.agg [.ar e64 (Vec.rep 16 ((0 : UInt64) : UInt64))]) <| qc (fun w => Rd w (some ⟨g1, 0, none⟩) (SV.cl [.ar e64 (Vec.rep 16 ((0 : UInt64) : UInt64))])) (k_5.brd 0 rfl) <| qe) (by kernel_rfl) ?_
   have k_6 := k_5.sel .z
   exact ⟨rfl, k_6⟩
 · rw [if_neg (by rw [hg]; decide)] at hm
   refine WLs 1 [19] (.n 20 (I b) .a) qe (by kernel_rfl) ?_
   refine WL_op ?_
   obtain ⟨r_1, h_r_1, hm⟩ := ob hm
   refine Op_call [19] 21 _ yz_go137 (by kernel_rfl) (c_r03_place (F := N0) (O := N0) _ (Cx.refl _) _ h_r_1) ?_
   rintro e_ w_4 ⟨rfl, k_7⟩
   have k_8 := k_3.call k_7
   refine ⟨.b r_1, rfl, ?_⟩
   refine WLs 3 [19] (.n 24 (.b (!r_1)) (.sss .a)) qe (by kernel_rfl) ?_
   refine WL_sp 24 (!r_1) (.s .a) (by kernel_rfl) (fun hg1 => ?_) (fun hg1 => ?_)
   · rw [if_pos hg1] at hm
     refine WLs 5 [24] (.n 29 (.b true) (.s .a)) qe (by kernel_rfl) ?_
     refine WLs 34 [29, 34, 39, 44, 49, 54, 59] (.n 63 (.b true) (.s .a)) qe (by kernel_rfl) ?_
     refine WL_nil <| At_go <| W_cond true (by kernel_rfl) (fun _ => ?_) (fun h => by cases h)
     refine W_seq <| W_reg <| WLs 1 [] (.n 64 (.agg [.ar e64 (Vec.rep 16 ((0 : UInt64) : UInt64))]) (.s (.k .z))) qe (by kernel_rfl) ?_
     refine WL_op ?_
     have k_9 := k_8.sel (.kk .e)
     refine Op_b [] 1 (.agg [.ar e64 (Vec.rep 16 ((0 : UInt64) : UInt64))]) [.ar e64 (Vec.rep 16 ((0 : UInt64) : UInt64))] (Pt.at g1 0) k_9 rfl .all (by kernel_rfl) (by kernel_rfl) ?_
     intro w_5 k_10
     have k_11 := k_10.sel (.s (.k .e))
     refine WLs 1 [] (.n 15 (I 1) (.s .a)) qe (by kernel_rfl) ?_
     refine WL_nil <| At_go <| W_ret (At_tr ?_)
     obtain rfl := Option.some.inj hm
     refine At_rt [.agg [.ar e64 (Vec.rep 16 ((0 : UInt64) : UInt64))], I 1] (qo (.agg [.ar e64 (Vec.rep 16 ((0 : UInt64) : UInt64))]) <| qc (fun w => Rd w (some ⟨g1, 0, none⟩) (SV.cl [.ar e64 (Vec.rep 16 ((0 : UInt64) : UInt64))])) (k_11.brd 0 rfl) <| qe) (by kernel_rfl) ?_
     have k_12 := k_11.sel .z
     exact ⟨rfl, k_12⟩
   · rw [if_neg (by rw [hg1]; decide)] at hm
     refine WLs 1 [24] (.n 25 (I c) .a) qe (by kernel_rfl) ?_
     refine WL_op ?_
     have k_13 := k_8.sel (.kk .e)
     obtain ⟨r_2, h_r_2, hm⟩ := ob hm
     refine Op_call [24] 26 _ yz_go137 (by kernel_rfl) (c_r03_place (F := N0) (O := N0) _ (Cx.refl _) _ h_r_2) ?_
     rintro e_ w_6 ⟨rfl, k_14⟩
     have k_15 := k_13.call k_14
     refine ⟨.b r_2, rfl, ?_⟩
     refine WLs 3 [24] (.n 29 (.b (!r_2)) (.sss .a)) qe (by kernel_rfl) ?_
     refine WL_sp 29 (!r_2) (.s .a) (by kernel_rfl) (fun hg2 => ?_) (fun hg2 => ?_)
     · rw [if_pos hg2] at hm
       refine WLs 34 [29, 34, 39, 44, 49, 54, 59] (.n 63 (.b true) (.s .a)) qe (by kernel_rfl) ?_
       refine WL_nil <| At_go <| W_cond true (by kernel_rfl) (fun _ => ?_) (fun h => by cases h)
       refine W_seq <| W_reg <| WLs 1 [] (.n 64 (.agg [.ar e64 (Vec.rep 16 ((0 : UInt64) : UInt64))]) (.s (.k .z))) qe (by kernel_rfl) ?_
       refine WL_op <| Op_b [] 1 (.agg [.ar e64 (Vec.rep 16 ((0 : UInt64) : UInt64))]) [.ar e64 (Vec.rep 16 ((0 : UInt64) : UInt64))] (Pt.at g1 0) k_15 rfl .all (by kernel_rfl) (by kernel_rfl) ?_
       intro w_7 k_16
       have k_17 := k_16.sel (.s (.k .e))
       refine WLs 1 [] (.n 15 (I 1) (.s .a)) qe (by kernel_rfl) ?_
       refine WL_nil <| At_go <| W_ret (At_tr ?_)
       obtain rfl := Option.some.inj hm
       refine At_rt [.agg [.ar e64 (Vec.rep 16 ((0 : UInt64) : UInt64))], I 1] (qo (.agg [.ar e64 (Vec.rep 16 ((0 : UInt64) : UInt64))]) <| qc (fun w => Rd w (some ⟨g1, 0, none⟩) (SV.cl [.ar e64 (Vec.rep 16 ((0 : UInt64) : UInt64))])) (k_17.brd 0 rfl) <| qe) (by kernel_rfl) ?_
       have k_18 := k_17.sel .z
       exact ⟨rfl, k_18⟩
     · rw [if_neg (by rw [hg2]; decide)] at hm
       refine WLs 1 [29] (.n 30 (I d) .a) qe (by kernel_rfl) ?_
       refine WL_op ?_
       obtain ⟨r_3, h_r_3, hm⟩ := ob hm
       refine Op_call [29] 31 _ yz_go137 (by kernel_rfl) (c_r03_place (F := N0) (O := N0) _ (Cx.refl _) _ h_r_3) ?_
       rintro e_ w_8 ⟨rfl, k_19⟩
       have k_20 := k_15.call k_19
       refine ⟨.b r_3, rfl, ?_⟩
       refine WLs 32 [29] (.n 63 (.b (((((((!r_3) || (decide (a_ = b))) || (decide (a_ = c))) || (decide (a_ = d))) || (decide (b = c))) || (decide (b = d))) || (decide (c = d)))) (.sss .a)) qe (by kernel_rfl) ?_
       refine WL_nil <| At_go <| W_cond (((((((!r_3) || (decide (a_ = b))) || (decide (a_ = c))) || (decide (a_ = d))) || (decide (b = c))) || (decide (b = d))) || (decide (c = d))) (by kernel_rfl) (fun hc => ?_) (fun hc => ?_)
       · rw [if_pos hc] at hm
         refine W_seq <| W_reg <| WLs 1 [] (.n 64 (.agg [.ar e64 (Vec.rep 16 ((0 : UInt64) : UInt64))]) (.s (.k .z))) qe (by kernel_rfl) ?_
         refine WL_op <| Op_b [] 1 (.agg [.ar e64 (Vec.rep 16 ((0 : UInt64) : UInt64))]) [.ar e64 (Vec.rep 16 ((0 : UInt64) : UInt64))] (Pt.at g1 0) k_20 rfl .all (by kernel_rfl) (by kernel_rfl) ?_
         intro w_9 k_21
         have k_22 := k_21.sel (.s (.k .e))
         refine WLs 1 [] (.n 15 (I 1) (.s .a)) qe (by kernel_rfl) ?_
         refine WL_nil <| At_go <| W_ret (At_tr ?_)
         obtain rfl := Option.some.inj hm
         refine At_rt [.agg [.ar e64 (Vec.rep 16 ((0 : UInt64) : UInt64))], I 1] (qo (.agg [.ar e64 (Vec.rep 16 ((0 : UInt64) : UInt64))]) <| qc (fun w => Rd w (some ⟨g1, 0, none⟩) (SV.cl [.ar e64 (Vec.rep 16 ((0 : UInt64) : UInt64))])) (k_22.brd 0 rfl) <| qe) (by kernel_rfl) ?_
         have k_23 := k_22.sel .z
         exact ⟨rfl, k_23⟩
       rw [if_neg (by rw [hc]; decide)] at hm
       refine W_skip <| At_go <| W_seq ?_
       have k_24 := k_20.drew 1
       refine W_m yz_mixed (.q 0 0 (.q 1 0 (.q 2 0 (.q 3 0 (.q 4 0 (.q 5 0 (.q 6 0 (.q 7 0 (.q 8 0 (.q 9 0 (.q 10 0 (.op 11 .nil)))))))))))) [11] k_24 (.c (.s (.k .e)) .l) (by kernel_rfl) (fun _ => ?_)
       obtain ⟨x_3, h_x_3, hm⟩ := ob hm
       obtain ⟨x_4, h_x_4, hm⟩ := ob hm
       obtain ⟨x_5, h_x_5, hm⟩ := ob hm
       refine MXq 11 0 [] (.n 74 (.u64 ((x_3 + x_4) + x_)) (.n 75 (.v (.pointer (ixA (some ⟨g, 0, none⟩) a_ 1))) (.s (.kkkk (.kk (.s .a)))))) (fun x hx => qV (hx.vrd 0 rfl e64 v 0 (by kernel_rfl)) h_x_3 rfl (.u64 x_3) rfl <| qV (hx.vrd 0 rfl e64 v 0 (by kernel_rfl)) h_x_4 rfl (.u64 x_4) rfl <| qI g 0 h_x_5 <| qe) (by kernel_rfl) (fun _ => ?_)
       refine MX_op (by kernel_rfl) rfl ?_
       obtain ⟨v1, h_v1, hm⟩ := nm hm
       refine Op_vs (E := e64) (kk := 0) [] 0 (.u64 ((x_3 + x_4) + x_)) [.u64 ((x_3 + x_4) + x_)] h_v1 h_x_5 (Pt.ix0 (Pt.at g 0) a_ 1) k_24 rfl .h rfl (by kernel_rfl) (by kernel_rfl) ?_
       intro w_10 k_25
       refine ⟨(k_25.sel (.s (.k .e))), fun _ => ?_⟩
       refine MX_nil <| At_go <| W_seq ?_
       have k_26 := k_25.drew 1
       refine W_m yz_mixed (.q 0 1 (.q 1 1 (.q 2 1 (.q 3 1 (.q 4 1 (.q 5 1 (.q 6 1 (.q 7 0 (.op 8 (.q 9 1 (.op 10 .nil))))))))))) [8, 10] k_26 (.c (.kk .e) (.c (.s (.k .e)) .l)) (by kernel_rfl) (fun _ => ?_)
       obtain ⟨x_6, h_x_6, hm⟩ := ob hm
       obtain ⟨x_7, h_x_7, hm⟩ := ob hm
       refine MXq 7 1 [] (.n 76 (I d) (.n 79 (.u64 x_6) (.n 82 (.u64 x_7) (.ss .a)))) (fun x hx => qV (hx.vrd 0 rfl e64 v1 0 (by kernel_rfl)) h_x_6 rfl (.u64 x_6) rfl <| qV (hx.vrd 0 rfl e64 v1 0 (by kernel_rfl)) h_x_7 rfl (.u64 x_7) rfl <| qe) (by kernel_rfl) (fun _ => ?_)
       refine MXq 1 0 [] (.n 83 (.u64 (x_6 ^^^ x_7)) (.k (.ss .a))) (fun x hx => qe) (by kernel_rfl) (fun _ => ?_)
       refine MX_op (by kernel_rfl) rfl ?_
       obtain ⟨r_4, h_r_4, hm⟩ := ob hm
       refine Op_call [] 84 _ yz_go138 (by kernel_rfl) (c_r01_Turn64 (F := N0) (O := N0) _ _ (Cx.refl _) _ h_r_4) ?_
       rintro e_ w_11 ⟨rfl, k_27⟩
       have k_28 := k_26.call k_27
       refine ⟨.u64 r_4, rfl, ?_⟩
       refine ⟨k_28, fun _ => ?_⟩
       obtain ⟨x_8, h_x_8, hm⟩ := ob hm
       refine MXq 1 1 [] (.n 85 (.v (.pointer (ixA (some ⟨g, 0, none⟩) d 1))) (.k (.ss .a))) (fun x hx => qI g 0 h_x_8 <| qe) (by kernel_rfl) (fun _ => ?_)
       refine MX_op (by kernel_rfl) rfl ?_
       have k_29 := k_28.sel (.kk .e)
       obtain ⟨v2, h_v2, hm⟩ := nm hm
       refine Op_vs (E := e64) (kk := 0) [] 0 (.u64 r_4) [.u64 r_4] h_v2 h_x_8 (Pt.ix0 (Pt.at g 0) d 1) k_29 rfl .h rfl (by kernel_rfl) (by kernel_rfl) ?_
       intro w_12 k_30
       refine ⟨(k_30.sel (.s (.k .e))), fun _ => ?_⟩
       refine MX_nil <| At_go <| W_seq ?_
       have k_31 := k_30.drew 1
       refine W_m yz_mixed (.q 0 0 (.q 1 0 (.q 2 0 (.q 3 0 (.q 4 0 (.q 5 0 (.q 6 0 (.q 7 0 (.q 8 0 (.op 9 .nil)))))))))) [9] k_31 (.c (.s (.k .e)) .l) (by kernel_rfl) (fun _ => ?_)
       obtain ⟨x_9, h_x_9, hm⟩ := ob hm
       obtain ⟨x_10, h_x_10, hm⟩ := ob hm
       obtain ⟨x_11, h_x_11, hm⟩ := ob hm
       refine MXq 9 0 [] (.n 93 (.u64 (x_9 + x_10)) (.n 94 (.v (.pointer (ixA (some ⟨g, 0, none⟩) c 1))) (.ss .a))) (fun x hx => qV (hx.vrd 0 rfl e64 v2 0 (by kernel_rfl)) h_x_9 rfl (.u64 x_9) rfl <| qV (hx.vrd 0 rfl e64 v2 0 (by kernel_rfl)) h_x_10 rfl (.u64 x_10) rfl <| qI g 0 h_x_11 <| qe) (by kernel_rfl) (fun _ => ?_)
       refine MX_op (by kernel_rfl) rfl ?_
       obtain ⟨v3, h_v3, hm⟩ := nm hm
       refine Op_vs (E := e64) (kk := 0) [] 0 (.u64 (x_9 + x_10)) [.u64 (x_9 + x_10)] h_v3 h_x_11 (Pt.ix0 (Pt.at g 0) c 1) k_31 rfl .h rfl (by kernel_rfl) (by kernel_rfl) ?_
       intro w_13 k_32
       refine ⟨(k_32.sel (.s (.k .e))), fun _ => ?_⟩
       refine MX_nil <| At_go <| W_seq ?_
       have k_33 := k_32.drew 1
       refine W_m yz_mixed (.q 0 1 (.q 1 1 (.q 2 1 (.q 3 1 (.q 4 1 (.q 5 1 (.q 6 1 (.q 7 0 (.op 8 (.q 9 1 (.op 10 .nil))))))))))) [8, 10] k_33 (.c (.kk .e) (.c (.s (.k .e)) .l)) (by kernel_rfl) (fun _ => ?_)
       obtain ⟨x_12, h_x_12, hm⟩ := ob hm
       obtain ⟨x_13, h_x_13, hm⟩ := ob hm
       refine MXq 7 1 [] (.n 95 (I b) (.n 98 (.u64 x_12) (.n 101 (.u64 x_13) (.ss .a)))) (fun x hx => qV (hx.vrd 0 rfl e64 v3 0 (by kernel_rfl)) h_x_12 rfl (.u64 x_12) rfl <| qV (hx.vrd 0 rfl e64 v3 0 (by kernel_rfl)) h_x_13 rfl (.u64 x_13) rfl <| qe) (by kernel_rfl) (fun _ => ?_)
       refine MXq 1 0 [] (.n 102 (.u64 (x_12 ^^^ x_13)) (.k (.ss .a))) (fun x hx => qe) (by kernel_rfl) (fun _ => ?_)
       refine MX_op (by kernel_rfl) rfl ?_
       obtain ⟨r_5, h_r_5, hm⟩ := ob hm
       refine Op_call [] 103 _ yz_go138 (by kernel_rfl) (c_r01_Turn64 (F := N0) (O := N0) _ _ (Cx.refl _) _ h_r_5) ?_
       rintro e_ w_14 ⟨rfl, k_34⟩
       have k_35 := k_33.call k_34
       refine ⟨.u64 r_5, rfl, ?_⟩
       refine ⟨k_35, fun _ => ?_⟩
       obtain ⟨x_14, h_x_14, hm⟩ := ob hm
       refine MXq 1 1 [] (.n 104 (.v (.pointer (ixA (some ⟨g, 0, none⟩) b 1))) (.k (.ss .a))) (fun x hx => qI g 0 h_x_14 <| qe) (by kernel_rfl) (fun _ => ?_)
       refine MX_op (by kernel_rfl) rfl ?_
       obtain ⟨v4, h_v4, hm⟩ := nm hm
       refine Op_vs (E := e64) (kk := 0) [] 0 (.u64 r_5) [.u64 r_5] h_v4 h_x_14 (Pt.ix0 (Pt.at g 0) b 1) k_35 rfl .h rfl (by kernel_rfl) (by kernel_rfl) ?_
       intro w_15 k_36
       refine ⟨(k_36.sel (.s (.k .e))), fun _ => ?_⟩
       refine MX_nil <| At_go <| W_seq ?_
       have k_37 := k_36.drew 1
       refine W_m yz_mixed (.q 0 0 (.q 1 0 (.q 2 0 (.q 3 0 (.q 4 0 (.q 5 0 (.q 6 0 (.q 7 0 (.q 8 0 (.q 9 0 (.q 10 0 (.op 11 .nil)))))))))))) [11] k_37 (.c (.s (.k .e)) .l) (by kernel_rfl) (fun _ => ?_)
       obtain ⟨x_15, h_x_15, hm⟩ := ob hm
       obtain ⟨x_16, h_x_16, hm⟩ := ob hm
       obtain ⟨x_17, h_x_17, hm⟩ := ob hm
       refine MXq 11 0 [] (.n 114 (.u64 ((x_15 + x_16) + y_)) (.n 115 (.v (.pointer (ixA (some ⟨g, 0, none⟩) a_ 1))) (.ss (.kkkk (.kk .z))))) (fun x hx => qV (hx.vrd 0 rfl e64 v4 0 (by kernel_rfl)) h_x_15 rfl (.u64 x_15) rfl <| qV (hx.vrd 0 rfl e64 v4 0 (by kernel_rfl)) h_x_16 rfl (.u64 x_16) rfl <| qI g 0 h_x_17 <| qe) (by kernel_rfl) (fun _ => ?_)
       refine MX_op (by kernel_rfl) rfl ?_
       have k_38 := k_37.sel (.kk .e)
       obtain ⟨v5, h_v5, hm⟩ := nm hm
       refine Op_vs (E := e64) (kk := 0) [] 0 (.u64 ((x_15 + x_16) + y_)) [.u64 ((x_15 + x_16) + y_)] h_v5 h_x_17 (Pt.ix0 (Pt.at g 0) a_ 1) k_38 rfl .h rfl (by kernel_rfl) (by kernel_rfl) ?_
       intro w_16 k_39
       refine ⟨(k_39.sel (.s (.k .e))), fun _ => ?_⟩
       refine MX_nil <| At_go <| W_seq ?_
       have k_40 := k_39.drew 1
       refine W_m yz_mixed (.q 0 1 (.q 1 1 (.q 2 1 (.q 3 1 (.q 4 1 (.q 5 1 (.q 6 1 (.q 7 0 (.op 8 (.q 9 1 (.op 10 .nil))))))))))) [8, 10] k_40 (.c (.kk .e) (.c (.s (.k .e)) .l)) (by kernel_rfl) (fun _ => ?_)
       obtain ⟨x_18, h_x_18, hm⟩ := ob hm
       obtain ⟨x_19, h_x_19, hm⟩ := ob hm
       refine MXq 7 1 [] (.n 116 (I d) (.n 119 (.u64 x_18) (.n 122 (.u64 x_19) (.ss (.kk (.s .a)))))) (fun x hx => qV (hx.vrd 0 rfl e64 v5 0 (by kernel_rfl)) h_x_18 rfl (.u64 x_18) rfl <| qV (hx.vrd 0 rfl e64 v5 0 (by kernel_rfl)) h_x_19 rfl (.u64 x_19) rfl <| qe) (by kernel_rfl) (fun _ => ?_)
       refine MXq 1 0 [] (.n 123 (.u64 (x_18 ^^^ x_19)) (.k (.ss .a))) (fun x hx => qe) (by kernel_rfl) (fun _ => ?_)
       refine MX_op (by kernel_rfl) rfl ?_
       obtain ⟨r_6, h_r_6, hm⟩ := ob hm
       refine Op_call [] 124 _ yz_go138 (by kernel_rfl) (c_r01_Turn64 (F := N0) (O := N0) _ _ (Cx.refl _) _ h_r_6) ?_
       rintro e_ w_17 ⟨rfl, k_41⟩
       have k_42 := k_40.call k_41
       refine ⟨.u64 r_6, rfl, ?_⟩
       refine ⟨k_42, fun _ => ?_⟩
       obtain ⟨x_20, h_x_20, hm⟩ := ob hm
       refine MXq 1 1 [] (.n 125 (.v (.pointer (ixA (some ⟨g, 0, none⟩) d 1))) (.k (.ss .a))) (fun x hx => qI g 0 h_x_20 <| qe) (by kernel_rfl) (fun _ => ?_)
       refine MX_op (by kernel_rfl) rfl ?_
       obtain ⟨v6, h_v6, hm⟩ := nm hm
       refine Op_vs (E := e64) (kk := 0) [] 0 (.u64 r_6) [.u64 r_6] h_v6 h_x_20 (Pt.ix0 (Pt.at g 0) d 1) k_42 rfl .h rfl (by kernel_rfl) (by kernel_rfl) ?_
       intro w_18 k_43
       refine ⟨(k_43.sel (.s (.k .e))), fun _ => ?_⟩
       refine MX_nil <| At_go <| W_seq ?_
       have k_44 := k_43.drew 1
       refine W_m yz_mixed (.q 0 0 (.q 1 0 (.q 2 0 (.q 3 0 (.q 4 0 (.q 5 0 (.q 6 0 (.q 7 0 (.q 8 0 (.op 9 .nil)))))))))) [9] k_44 (.c (.s (.k .e)) .l) (by kernel_rfl) (fun _ => ?_)
       obtain ⟨x_21, h_x_21, hm⟩ := ob hm
       obtain ⟨x_22, h_x_22, hm⟩ := ob hm
       obtain ⟨x_23, h_x_23, hm⟩ := ob hm
       refine MXq 9 0 [] (.n 133 (.u64 (x_21 + x_22)) (.n 134 (.v (.pointer (ixA (some ⟨g, 0, none⟩) c 1))) (.ss (.kkkk .z)))) (fun x hx => qV (hx.vrd 0 rfl e64 v6 0 (by kernel_rfl)) h_x_21 rfl (.u64 x_21) rfl <| qV (hx.vrd 0 rfl e64 v6 0 (by kernel_rfl)) h_x_22 rfl (.u64 x_22) rfl <| qI g 0 h_x_23 <| qe) (by kernel_rfl) (fun _ => ?_)
       refine MX_op (by kernel_rfl) rfl ?_
       obtain ⟨v7, h_v7, hm⟩ := nm hm
       refine Op_vs (E := e64) (kk := 0) [] 0 (.u64 (x_21 + x_22)) [.u64 (x_21 + x_22)] h_v7 h_x_23 (Pt.ix0 (Pt.at g 0) c 1) k_44 rfl .h rfl (by kernel_rfl) (by kernel_rfl) ?_
       intro w_19 k_45
       refine ⟨(k_45.sel (.s (.k .e))), fun _ => ?_⟩
       refine MX_nil <| At_go <| W_seq ?_
       have k_46 := k_45.drew 1
       refine W_m yz_mixed (.q 0 1 (.q 1 1 (.q 2 1 (.q 3 1 (.q 4 1 (.q 5 1 (.q 6 1 (.q 7 0 (.op 8 (.q 9 1 (.op 10 .nil))))))))))) [8, 10] k_46 (.c (.kk .e) (.c (.s (.k .e)) .l)) (by kernel_rfl) (fun _ => ?_)
       obtain ⟨x_24, h_x_24, hm⟩ := ob hm
       obtain ⟨x_25, h_x_25, hm⟩ := ob hm
       refine MXq 7 1 [] (.n 135 (I b) (.n 138 (.u64 x_24) (.n 141 (.u64 x_25) (.ss (.kk .z))))) (fun x hx => qV (hx.vrd 0 rfl e64 v7 0 (by kernel_rfl)) h_x_24 rfl (.u64 x_24) rfl <| qV (hx.vrd 0 rfl e64 v7 0 (by kernel_rfl)) h_x_25 rfl (.u64 x_25) rfl <| qe) (by kernel_rfl) (fun _ => ?_)
       refine MXq 1 0 [] (.n 142 (.u64 (x_24 ^^^ x_25)) (.k (.ss .a))) (fun x hx => qe) (by kernel_rfl) (fun _ => ?_)
       refine MX_op (by kernel_rfl) rfl ?_
       have k_47 := k_46.sel (.kk .e)
       obtain ⟨r_7, h_r_7, hm⟩ := ob hm
       refine Op_call [] 143 _ yz_go138 (by kernel_rfl) (c_r01_Turn64 (F := N0) (O := N0) _ _ (Cx.refl _) _ h_r_7) ?_
       rintro e_ w_20 ⟨rfl, k_48⟩
       have k_49 := k_47.call k_48
       refine ⟨.u64 r_7, rfl, ?_⟩
       refine ⟨k_49, fun _ => ?_⟩
       obtain ⟨x_26, h_x_26, hm⟩ := ob hm
       refine MXq 1 1 [] (.n 144 (.v (.pointer (ixA (some ⟨g, 0, none⟩) b 1))) (.k (.ss .a))) (fun x hx => qI g 0 h_x_26 <| qe) (by kernel_rfl) (fun _ => ?_)
       refine MX_op (by kernel_rfl) rfl ?_
       obtain ⟨v8, h_v8, hm⟩ := nm hm
       refine Op_vs (E := e64) (kk := 0) [] 0 (.u64 r_7) [.u64 r_7] h_v8 h_x_26 (Pt.ix0 (Pt.at g 0) b 1) k_49 rfl .h rfl (by kernel_rfl) (by kernel_rfl) ?_
       intro w_21 k_50
       refine ⟨(k_50.sel (.s (.k .e))), fun _ => ?_⟩
       refine MX_nil <| At_go <| W_seq <| W_reg <| WLs 1 [] (.n 145 (.agg [.ar e64 v8]) (.ss (.k .z))) (qT k_50 0 rfl 0 16 [.ar e64 v8] (by kernel_rfl) (by decide) <| qe) (by kernel_rfl) ?_
       refine WL_op <| Op_b [] 1 (.agg [.ar e64 v8]) [.ar e64 v8] (Pt.at g1 0) k_50 rfl .all (by kernel_rfl) (by kernel_rfl) ?_
       intro w_22 k_51
       have k_52 := k_51.sel (.s (.k .e))
       refine WLs 1 [] (.n 15 (I 0) (.s .a)) qe (by kernel_rfl) ?_
       refine WL_nil <| At_go <| W_ret ?_
       obtain rfl := Option.some.inj hm
       refine At_rt [.agg [.ar e64 v8], I 0] (qo (.agg [.ar e64 v8]) <| qc (fun w => Rd w (some ⟨g1, 0, none⟩) (SV.cl [.ar e64 v8])) (k_52.brd 0 rfl) <| qe) (by kernel_rfl) ?_
       have k_53 := k_52.sel .z
       exact ⟨rfl, k_53⟩

-- quern/quernref03.Round
noncomputable def m_r03_Round_l0 (m_ : Vec UInt64 16) (round : Int) : (Vec UInt64 16 × Int) → Option ((Vec UInt64 16 × Int) ⊕ (Vec UInt64 16 × Int))
  | (v1, i) => if i < 8 then ((m_r03_Places i).bind fun r_ => (geti r_.l (0 : Int)).bind fun x_0 => (geti r_.l (1 : Int)).bind fun x_2 => (geti r_.l (2 : Int)).bind fun x_3 => (geti r_.l (3 : Int)).bind fun x_4 => (m_r03_Sigma round (w64 (2 * i))).bind fun r_1 => (geti m_.l r_1).bind fun x_5 => (m_r03_Sigma round (w64 ((w64 (2 * i)) + 1))).bind fun r_2 => (geti m_.l r_2).bind fun x_6 => (m_r03_G v1 x_0 x_2 x_3 x_4 x_5 x_6).bind fun r_3 => some (.inl (r_3.1, w64 (i + 1)))) else (Option.map Sum.inr (some (v1, (0 : Int))))
noncomputable def m_r03_Round (v : Vec UInt64 16) (m_ : Vec UInt64 16) (round : Int) : Option (Vec UInt64 16 × Int) :=
  if ((decide (round < 0)) || (decide (11 < round))) = true then (some ((Vec.rep 16 ((0 : UInt64) : UInt64)), (1 : Int))) else (whileO (m_r03_Round_l0 m_ round) (v, (0 : Int)))
theorem c_r03_Round {F O : Nat → Prop} {w : World} (v : Vec UInt64 16) (m_ : Vec UInt64 16) (round : Int) (k : Cx F O w w []) (r : (Vec UInt64 16 × Int)) (hm : m_r03_Round v m_ round = some r) :
    Calls Tryz.prog 113 (vals [.agg [.ar e64 v], .agg [.ar e64 m_], I round]) w (fun e w' => e = .returned (SV.val (.tup [.agg [.ar e64 r.1], I r.2])) ∧ Cx F O w w' []) := by
 unfold m_r03_Round at hm
 refine calls [.agg [.ar e64 v], .agg [.ar e64 m_], I round] Tryz.func113 rfl (of_decide_eq_true (by kernel_rfl)) ?_
 refine W_seq <| W_reg <| WL_op <| Op_box [] 3 (.agg [.ar e64 v]) [.ar e64 v] (by kernel_rfl) k ?_
 intro g w_ k_
 refine WL_op <| Op_box [] 4 (.agg [.ar e64 m_]) [.ar e64 m_] (by kernel_rfl) k_ ?_
 intro g1 w_1 k_1
 refine WL_op <| Op_alloc [] 6 [.ar e64 (Vec.rep 16 (0 : UInt64))] (by kernel_rfl) k_1 ?_
 intro g2 w_2 k_2
 refine WLs 1 [] (.kkk (.ss .a)) qe (by kernel_rfl) ?_
 refine WL_nil <| At_go <| W_seq <| W_seq <| W_q [] (.n 15 (.b ((decide (round < 0)) || (decide (11 < round)))) .a) qe (by kernel_rfl) ?_
 refine At_go <| W_cond ((decide (round < 0)) || (decide (11 < round))) (by kernel_rfl) (fun hc => ?_) (fun hc => ?_)
 · rw [if_pos hc] at hm
   refine W_seq <| W_reg <| WLs 1 [] (.n 16 (.agg [.ar e64 (Vec.rep 16 ((0 : UInt64) : UInt64))]) (.s (.k .z))) qe (by kernel_rfl) ?_
   refine WL_op <| Op_b [] 2 (.agg [.ar e64 (Vec.rep 16 ((0 : UInt64) : UInt64))]) [.ar e64 (Vec.rep 16 ((0 : UInt64) : UInt64))] (Pt.at g2 0) k_2 rfl .all (by kernel_rfl) (by kernel_rfl) ?_
   intro w_3 k_3
   have k_4 := k_3.sel (.ss (.k .e))
   refine WLs 1 [] (.n 7 (I 1) (.s .a)) qe (by kernel_rfl) ?_
   refine WL_nil <| At_go <| W_ret (At_tr ?_)
   obtain rfl := Option.some.inj hm
   refine At_rt [.agg [.ar e64 (Vec.rep 16 ((0 : UInt64) : UInt64))], I 1] (qo (.agg [.ar e64 (Vec.rep 16 ((0 : UInt64) : UInt64))]) <| qc (fun w => Rd w (some ⟨g2, 0, none⟩) (SV.cl [.ar e64 (Vec.rep 16 ((0 : UInt64) : UInt64))])) (k_4.brd 0 rfl) <| qe) (by kernel_rfl) ?_
   have k_5 := k_4.sel .z
   exact ⟨rfl, k_5⟩
 rw [if_neg (by rw [hc]; decide)] at hm
 refine W_skip <| At_go <| W_seq <| W_seq <| W_q [] (.n 8 (I 0) (.s .a)) qe (by kernel_rfl) ?_
 refine At_go <| W_block <| W_lp (m_r03_Round_l0 m_ round) (fun s L wr => ∃ (v1 : Vec UInt64 16) (i : Int), (v1, i) = s ∧ L = [(2, I round), (3, pt g 0), (4, pt g1 0), (6, pt g2 0), (8, I i)] ∧ Cx F O w wr [Bx 108 g [.ar e64 v1], Bx 108 g1 [.ar e64 m_], Bx 108 g2 [.ar e64 (Vec.rep 16 (0 : UInt64))]]) (v, (0 : Int)) r hm ⟨v, (0 : Int), rfl, rfl, k_2⟩ (by kernel_rfl) ?_
 intro s0_ L_ w_4 y0 hrel hstep hr0
 obtain ⟨v1, i, rfl, rfl, k_6⟩ := hrel
 have hm := hstep; simp only [m_r03_Round_l0] at hm
 clear hstep
 refine W_seq <| W_seq <| W_q [] (.n 18 (.b (decide (i < 8))) .a) qe (by kernel_rfl) ?_
 refine At_go <| W_condp (i < 8) (by kernel_rfl) (fun hc1 => ?_) (fun hc1 => ?_)
 · rw [if_pos hc1] at hm
   refine W_skip <| At_go <| W_seq <| W_block <| W_seq <| W_reg <| WLs 1 [] (.n 21 (I i) (.s .a)) qe (by kernel_rfl) ?_
   refine WL_op ?_
   obtain ⟨r_, h_r_, hm⟩ := ob hm
   refine Op_call [] 22 _ yz_go126 (by kernel_rfl) (c_r03_Places (F := N0) (O := N0) _ (Cx.refl _) _ h_r_) ?_
   rintro e_ w_5 ⟨rfl, k_7⟩
   have k_8 := k_6.call k_7
   refine ⟨.agg [.ar eI r_], rfl, ?_⟩
   refine WL_op <| Op_alloc [] 9 [.ar eI (Vec.rep 4 (0 : Int))] (by kernel_rfl) k_8 ?_
   intro g3 w_6 k_9
   refine WL_op <| Op_b [] 3 (.agg [.ar eI r_]) [.ar eI r_] (Pt.at g3 0) k_9 rfl .all (by kernel_rfl) (by kernel_rfl) ?_
   intro w_7 k_10
   refine WL_nil <| At_go ?_
   have k_11 := k_10.drew 1
   refine W_m yz_mixed (.q 0 2 (.q 9 2 (.q 15 2 (.q 1 3 (.q 2 2 (.q 3 3 (.q 4 2 (.q 5 3 (.q 6 2 (.q 7 3 (.q 8 2 (.q 10 3 (.q 11 2 (.q 16 3 (.q 17 3 (.q 18 2 (.op 12 (.q 13 3 (.q 14 2 (.op 19 (.q 20 3 (.q 21 2 (.op 22 (.q 23 3 (.q 24 3 (.q 25 4 (.op 26 .nil))))))))))))))))))))))))))) [12, 19, 22, 26] k_11 (.c (.kkkk .e) (.c (.kkkk .e) (.c (.kkkk .e) (.c (.s (.kk (.k .e))) .l)))) (by kernel_rfl) (fun _ => ?_)
   refine MXq 3 2 [] (.n 24 (.agg [.ar e64 v1]) (.n 33 (I round) (.n 39 (I round) (.k (.ss .a))))) (fun x hx => qT hx 0 rfl 0 16 [.ar e64 v1] (by kernel_rfl) (by decide) <| qe) (by kernel_rfl) (fun _ => ?_)
   obtain ⟨x_0, h_x_0, hm⟩ := ob hm
   refine MXq 1 3 [] (.n 25 (.v (.pointer (ixA (some ⟨g3, 0, none⟩) (0 : Int) 1))) .a) (fun x hx => qI g3 0 h_x_0 <| qe) (by kernel_rfl) (fun _ => ?_)
   refine MXq 1 2 [] (.n 26 (I x_0) (.s .a)) (fun x hx => qC (I x_0) (Rd.el (k := 0) (hx.vrd 3 rfl eI r_ 0 (by kernel_rfl)) h_x_0 (Pt.ix1 (some ⟨g3, 0, none⟩) (0 : Int) 1) rfl) <| qe) (by kernel_rfl) (fun _ => ?_)
   obtain ⟨x_2, h_x_2, hm⟩ := ob hm
   refine MXq 1 3 [] (.n 27 (.v (.pointer (ixA (some ⟨g3, 0, none⟩) (1 : Int) 1))) .a) (fun x hx => qI g3 0 h_x_2 <| qe) (by kernel_rfl) (fun _ => ?_)
   refine MXq 1 2 [] (.n 28 (I x_2) (.s .a)) (fun x hx => qC (I x_2) (Rd.el (k := 0) (hx.vrd 3 rfl eI r_ 0 (by kernel_rfl)) h_x_2 (Pt.ix1 (some ⟨g3, 0, none⟩) (1 : Int) 1) rfl) <| qe) (by kernel_rfl) (fun _ => ?_)
   obtain ⟨x_3, h_x_3, hm⟩ := ob hm
   refine MXq 1 3 [] (.n 29 (.v (.pointer (ixA (some ⟨g3, 0, none⟩) (2 : Int) 1))) .a) (fun x hx => qI g3 0 h_x_3 <| qe) (by kernel_rfl) (fun _ => ?_)
   refine MXq 1 2 [] (.n 30 (I x_3) (.s .a)) (fun x hx => qC (I x_3) (Rd.el (k := 0) (hx.vrd 3 rfl eI r_ 0 (by kernel_rfl)) h_x_3 (Pt.ix1 (some ⟨g3, 0, none⟩) (2 : Int) 1) rfl) <| qe) (by kernel_rfl) (fun _ => ?_)
   obtain ⟨x_4, h_x_4, hm⟩ := ob hm
   refine MXq 1 3 [] (.n 31 (.v (.pointer (ixA (some ⟨g3, 0, none⟩) (3 : Int) 1))) (.kkkk (.kk (.s .a)))) (fun x hx => qI g3 0 h_x_4 <| qe) (by kernel_rfl) (fun _ => ?_)
   refine MXq 1 2 [] (.n 32 (I x_4) (.s .a)) (fun x hx => qC (I x_4) (Rd.el (k := 0) (hx.vrd 3 rfl eI r_ 0 (by kernel_rfl)) h_x_4 (Pt.ix1 (some ⟨g3, 0, none⟩) (3 : Int) 1) rfl) <| qe) (by kernel_rfl) (fun _ => ?_)
   refine MXq 1 3 [] (.n 34 (I i) .a) (fun x hx => qe) (by kernel_rfl) (fun _ => ?_)
   refine MXq 1 2 [] (.n 35 (I (w64 (2 * i))) (.s .a)) (fun x hx => qe) (by kernel_rfl) (fun _ => ?_)
   refine MXq 2 3 [] (.n 41 (I (w64 (2 * i))) .a) (fun x hx => qe) (by kernel_rfl) (fun _ => ?_)
   refine MXq 1 2 [] (.n 42 (I (w64 ((w64 (2 * i)) + 1))) (.s .a)) (fun x hx => qe) (by kernel_rfl) (fun _ => ?_)
   refine MX_op (by kernel_rfl) rfl ?_
   obtain ⟨r_1, h_r_1, hm⟩ := ob hm
   refine Op_call [] 36 _ yz_go128 (by kernel_rfl) (c_r03_Sigma (F := N0) (O := N0) _ _ (Cx.refl _) _ h_r_1) ?_
   rintro e_ w_8 ⟨rfl, k_12⟩
   have k_13 := k_11.call k_12
   refine ⟨I r_1, rfl, ?_⟩
   refine ⟨k_13, fun _ => ?_⟩
   obtain ⟨x_5, h_x_5, hm⟩ := ob hm
   refine MXq 1 3 [] (.n 37 (.v (.pointer (ixA (some ⟨g1, 0, none⟩) r_1 1))) (.s (.k (.s (.kkkk (.k (.s .a))))))) (fun x hx => qI g1 0 h_x_5 <| qe) (by kernel_rfl) (fun _ => ?_)
   refine MXq 1 2 [] (.n 38 (.u64 x_5) (.s .a)) (fun x hx => qC (.u64 x_5) (Rd.el (k := 0) (hx.vrd 1 rfl e64 m_ 0 (by kernel_rfl)) h_x_5 (Pt.ix1 (some ⟨g1, 0, none⟩) r_1 1) rfl) <| qe) (by kernel_rfl) (fun _ => ?_)
   refine MX_op (by kernel_rfl) rfl ?_
   have k_14 := k_13.sel (.kkkk .e)
   obtain ⟨r_2, h_r_2, hm⟩ := ob hm
   refine Op_call [] 43 _ yz_go128 (by kernel_rfl) (c_r03_Sigma (F := N0) (O := N0) _ _ (Cx.refl _) _ h_r_2) ?_
   rintro e_ w_9 ⟨rfl, k_15⟩
   have k_16 := k_14.call k_15
   refine ⟨I r_2, rfl, ?_⟩
   refine ⟨k_16, fun _ => ?_⟩
   obtain ⟨x_6, h_x_6, hm⟩ := ob hm
   refine MXq 1 3 [] (.n 44 (.v (.pointer (ixA (some ⟨g1, 0, none⟩) r_2 1))) (.s (.k (.s (.kkkk (.k (.s .a))))))) (fun x hx => qI g1 0 h_x_6 <| qe) (by kernel_rfl) (fun _ => ?_)
   refine MXq 1 2 [] (.n 45 (.u64 x_6) (.s .a)) (fun x hx => qC (.u64 x_6) (Rd.el (k := 0) (hx.vrd 1 rfl e64 m_ 0 (by kernel_rfl)) h_x_6 (Pt.ix1 (some ⟨g1, 0, none⟩) r_2 1) rfl) <| qe) (by kernel_rfl) (fun _ => ?_)
   refine MX_op (by kernel_rfl) rfl ?_
   obtain ⟨r_3, h_r_3, hm⟩ := ob hm
   refine Op_call [] 46 _ yz_go127 (by kernel_rfl) (c_r03_G (F := N0) (O := N0) _ _ _ _ _ _ _ (Cx.refl _) _ h_r_3) ?_
   rintro e_ w_10 ⟨rfl, k_17⟩
   have k_18 := k_16.call k_17
   refine ⟨.tup [.agg [.ar e64 r_3.1], I r_3.2], rfl, ?_⟩
   refine ⟨k_18, fun _ => ?_⟩
   refine MXq 2 3 [] (.n 23 (.tup [.agg [.ar e64 r_3.1], I r_3.2]) (.n 47 (.agg [.ar e64 r_3.1]) (.ssss (.ssss .a)))) (fun x hx => qe) (by kernel_rfl) (fun _ => ?_)
   refine MXq 1 4 [] (.s .a) (fun x hx => qe) (by kernel_rfl) (fun _ => ?_)
   refine MX_op (by kernel_rfl) rfl <| Op_b [] 0 (.agg [.ar e64 r_3.1]) [.ar e64 r_3.1] (Pt.at g 0) k_18 rfl .all (by kernel_rfl) (by kernel_rfl) ?_
   intro w_11 k_19
   refine ⟨(k_19.sel (.s (.kk (.k .e)))), fun _ => ?_⟩
   refine MX_nil <| At_in <| At_go <| W_q [] (.n 8 (I (w64 (i + 1))) (.s (.kkkk .z))) qe (by kernel_rfl) ?_
   have k_20 := k_19.sel (.kk (.k .z))
   exact At_rd (r_3.1, w64 (i + 1)) (Option.some.inj hm).symm ⟨r_3.1, w64 (i + 1), rfl, rfl, k_20⟩ (by kernel_rfl)
 rw [if_neg hc1] at hm
 refine W_exit (At_te (At_te (At_ie ?_)))
 have hm := exit_of hm hr0
 refine At_go <| W_seq <| W_reg <| WLs 1 [] (.n 49 (.agg [.ar e64 v1]) (.ssss (.k .z))) (qT k_6 0 rfl 0 16 [.ar e64 v1] (by kernel_rfl) (by decide) <| qe) (by kernel_rfl) ?_
 refine WL_op <| Op_b [] 2 (.agg [.ar e64 v1]) [.ar e64 v1] (Pt.at g2 0) k_6 rfl .all (by kernel_rfl) (by kernel_rfl) ?_
 intro w_12 k_21
 have k_22 := k_21.sel (.ss (.k .e))
 refine WLs 1 [] (.n 7 (I 0) (.s .a)) qe (by kernel_rfl) ?_
 refine WL_nil <| At_go <| W_ret ?_
 obtain rfl := Option.some.inj hm
 refine At_rt [.agg [.ar e64 v1], I 0] (qo (.agg [.ar e64 v1]) <| qc (fun w => Rd w (some ⟨g2, 0, none⟩) (SV.cl [.ar e64 v1])) (k_22.brd 0 rfl) <| qe) (by kernel_rfl) ?_
 have k_23 := k_22.sel .z
 exact ⟨rfl, k_23⟩

-- quern/quernref03.F
noncomputable def m_r03_F_l1 (v : Vec UInt64 16) : (Vec UInt64 8 × Int) → Option ((Vec UInt64 8 × Int) ⊕ (Vec UInt64 8))
  | (h1, i) => if i < 8 then ((geti h1.l i).bind fun x_0 => (geti v.l i).bind fun x_1 => (geti v.l (w64 (i + 8))).bind fun x_2 => (geti h1.l i).bind fun x_3 => (some (vst h1 i ((x_0 ^^^ x_1) ^^^ x_2))).bind fun v1 => some (.inl (v1, w64 (i + 1)))) else (Option.map Sum.inr (some h1))
noncomputable def m_r03_F_l0 (h : Vec UInt64 8) (m_ : Vec UInt64 16) : (Vec UInt64 16 × Int) → Option ((Vec UInt64 16 × Int) ⊕ (Vec UInt64 8))
  | (v, r_1) => if r_1 < 12 then ((m_r03_Round v m_ r_1).bind fun r_2 => some (.inl (r_2.1, w64 (r_1 + 1)))) else (Option.map Sum.inr (whileO (m_r03_F_l1 v) (h, (0 : Int))))
noncomputable def m_r03_F (h : Vec UInt64 8) (m_ : Vec UInt64 16) (lo : UInt64) (hi : UInt64) (last : Bool) (node : Bool) : Option (Vec UInt64 8) :=
  (m_r03_Init h lo hi last node).bind fun r_ => whileO (m_r03_F_l0 h m_) (r_, (0 : Int))
theorem c_r03_F {F O : Nat → Prop} {w : World} (h : Vec UInt64 8) (m_ : Vec UInt64 16) (lo : UInt64) (hi : UInt64) (last : Bool) (node : Bool) (k : Cx F O w w []) (r : (Vec UInt64 8)) (hm : m_r03_F h m_ lo hi last node = some r) :
    Calls Tryz.prog 95 (vals [.agg [.ar e64 h], .agg [.ar e64 m_], .u64 lo, .u64 hi, .b last, .b node]) w (fun e w' => e = .returned (SV.val (.agg [.ar e64 r])) ∧ Cx F O w w' []) := by
 unfold m_r03_F at hm
 refine calls [.agg [.ar e64 h], .agg [.ar e64 m_], .u64 lo, .u64 hi, .b last, .b node] Tryz.func95 rfl (of_decide_eq_true (by kernel_rfl)) ?_
 refine W_seq <| W_reg <| WL_op <| Op_box [] 6 (.agg [.ar e64 h]) [.ar e64 h] (by kernel_rfl) k ?_
 intro g w_ k_
 refine WL_op <| Op_box [] 7 (.agg [.ar e64 m_]) [.ar e64 m_] (by kernel_rfl) k_ ?_
 intro g1 w_1 k_1
 refine WL_op <| Op_alloc [] 12 [.ar e64 (Vec.rep 8 (0 : UInt64))] (by kernel_rfl) k_1 ?_
 intro g2 w_2 k_2
 refine WL_nil <| At_go <| W_seq <| W_reg <| WLs 5 [] (.n 16 (.agg [.ar e64 h]) (.n 17 (.u64 lo) (.n 18 (.u64 hi) (.n 19 (.b last) (.n 20 (.b node) (.kkk .z)))))) (qT k_2 0 rfl 0 8 [.ar e64 h] (by kernel_rfl) (by decide) <| qe) (by kernel_rfl) ?_
 refine WL_op ?_
 obtain ⟨r_, h_r_, hm⟩ := ob hm
 refine Op_call [] 21 _ yz_go112 (by kernel_rfl) (c_r03_Init (F := N0) (O := N0) _ _ _ _ _ (Cx.refl _) _ h_r_) ?_
 rintro e_ w_3 ⟨rfl, k_3⟩
 have k_4 := k_2.call k_3
 refine ⟨.agg [.ar e64 r_], rfl, ?_⟩
 refine WL_op ?_
 have k_5 := k_4.sel (.kk (.k .e))
 refine Op_alloc [] 13 [.ar e64 (Vec.rep 16 (0 : UInt64))] (by kernel_rfl) k_5 ?_
 intro g3 w_4 k_6
 refine WL_op <| Op_b [] 3 (.agg [.ar e64 r_]) [.ar e64 r_] (Pt.at g3 0) k_6 rfl .all (by kernel_rfl) (by kernel_rfl) ?_
 intro w_5 k_7
 refine WL_nil <| At_go <| W_seq <| W_seq <| W_q [] (.n 14 (I 0) (.k (.ssss (.ss .a)))) qe (by kernel_rfl) ?_
 refine At_go <| W_block <| W_lp (m_r03_F_l0 h m_) (fun s L wr => ∃ (v : Vec UInt64 16) (r_1 : Int), (v, r_1) = s ∧ L = [(6, pt g 0), (7, pt g1 0), (12, pt g2 0), (13, pt g3 0), (14, I r_1)] ∧ Cx F O w wr [Bx 150 g [.ar e64 h], Bx 108 g1 [.ar e64 m_], Bx 150 g2 [.ar e64 (Vec.rep 8 (0 : UInt64))], Bx 108 g3 [.ar e64 v]]) (r_, (0 : Int)) r hm ⟨r_, (0 : Int), rfl, rfl, k_7⟩ (by kernel_rfl) ?_
 intro s0_ L_ w_6 y0 hrel hstep hr0
 obtain ⟨v, r_1, rfl, rfl, k_8⟩ := hrel
 have hm := hstep; simp only [m_r03_F_l0] at hm
 clear hstep
 refine W_seq <| W_seq <| W_q [] (.n 23 (.b (decide (r_1 < 12))) .a) qe (by kernel_rfl) ?_
 refine At_go <| W_condp (r_1 < 12) (by kernel_rfl) (fun hc => ?_) (fun hc => ?_)
 · rw [if_pos hc] at hm
   refine W_skip <| At_go <| W_seq <| W_block <| W_reg <| WLs 3 [] (.n 27 (.agg [.ar e64 v]) (.n 28 (.agg [.ar e64 m_]) (.n 29 (I r_1) (.s .a)))) (qT k_8 3 rfl 0 16 [.ar e64 v] (by kernel_rfl) (by decide) <| qT k_8 1 rfl 0 16 [.ar e64 m_] (by kernel_rfl) (by decide) <| qe) (by kernel_rfl) ?_
   refine WL_op ?_
   obtain ⟨r_2, h_r_2, hm⟩ := ob hm
   refine Op_call [] 30 _ yz_go113 (by kernel_rfl) (c_r03_Round (F := N0) (O := N0) _ _ _ (Cx.refl _) _ h_r_2) ?_
   rintro e_ w_7 ⟨rfl, k_9⟩
   have k_10 := k_8.call k_9
   refine ⟨.tup [.agg [.ar e64 r_2.1], I r_2.2], rfl, ?_⟩
   refine WLs 3 [] (.n 31 (.agg [.ar e64 r_2.1]) (.ssss .a)) qe (by kernel_rfl) ?_
   refine WL_op <| Op_b [] 3 (.agg [.ar e64 r_2.1]) [.ar e64 r_2.1] (Pt.at g3 0) k_10 rfl .all (by kernel_rfl) (by kernel_rfl) ?_
   intro w_8 k_11
   refine WL_nil <| At_in <| At_go <| W_q [] (.n 14 (I (w64 (r_1 + 1))) (.s (.kkkk .z))) qe (by kernel_rfl) ?_
   exact At_rd (r_2.1, w64 (r_1 + 1)) (Option.some.inj hm).symm ⟨r_2.1, w64 (r_1 + 1), rfl, rfl, k_11⟩ (by kernel_rfl)
 rw [if_neg hc] at hm
 refine W_exit (At_te (At_te (At_ie ?_)))
 have hm := exit_of hm hr0
 refine At_go <| W_seq <| W_seq <| W_q [] (.n 15 (I 0) (.s (.k (.s (.kk .z))))) qe (by kernel_rfl) ?_
 refine At_go <| W_block ?_
 have k_13 := k_8.sel (.k (.s (.kk .e)))
 refine W_lp (m_r03_F_l1 v) (fun s L wr => ∃ (h1 : Vec UInt64 8) (i : Int), (h1, i) = s ∧ L = [(6, pt g 0), (12, pt g2 0), (13, pt g3 0), (15, I i)] ∧ Cx F O w wr [Bx 150 g [.ar e64 h1], Bx 150 g2 [.ar e64 (Vec.rep 8 (0 : UInt64))], Bx 108 g3 [.ar e64 v]]) (h, (0 : Int)) r hm ⟨h, (0 : Int), rfl, rfl, k_13⟩ (by kernel_rfl) ?_
 intro s0_ L_ w_9 y0 hrel hstep hr0
 obtain ⟨h1, i, rfl, rfl, k_12⟩ := hrel
 have hm := hstep; simp only [m_r03_F_l1] at hm
 clear hstep
 refine W_seq <| W_seq <| W_q [] (.n 34 (.b (decide (i < 8))) .a) qe (by kernel_rfl) ?_
 refine At_go <| W_condp (i < 8) (by kernel_rfl) (fun hc1 => ?_) (fun hc1 => ?_)
 · rw [if_pos hc1] at hm
   refine W_skip <| At_go <| W_seq <| W_block ?_
   have k_14 := k_12.drew 1
   refine W_m yz_mixed (.q 0 0 (.q 1 0 (.q 2 0 (.q 3 0 (.q 4 0 (.q 5 0 (.q 6 0 (.q 7 0 (.q 8 0 (.q 9 0 (.q 10 0 (.q 11 0 (.q 12 0 (.q 13 0 (.op 14 .nil))))))))))))))) [14] k_14 (.c (.s (.kk .e)) .l) (by kernel_rfl) (fun _ => ?_)
   obtain ⟨x_0, h_x_0, hm⟩ := ob hm
   obtain ⟨x_1, h_x_1, hm⟩ := ob hm
   obtain ⟨x_2, h_x_2, hm⟩ := ob hm
   obtain ⟨x_3, h_x_3, hm⟩ := ob hm
   refine MXq 14 0 [] (.n 49 (.u64 ((x_0 ^^^ x_1) ^^^ x_2)) (.n 50 (.v (.pointer (ixA (some ⟨g, 0, none⟩) i 1))) (.s .a))) (fun x hx => qV (hx.vrd 0 rfl e64 h1 0 (by kernel_rfl)) h_x_0 rfl (.u64 x_0) rfl <| qV (hx.vrd 2 rfl e64 v 0 (by kernel_rfl)) h_x_1 rfl (.u64 x_1) rfl <| qV (hx.vrd 2 rfl e64 v 0 (by kernel_rfl)) h_x_2 rfl (.u64 x_2) rfl <| qI g 0 h_x_3 <| qe) (by kernel_rfl) (fun _ => ?_)
   refine MX_op (by kernel_rfl) rfl ?_
   obtain ⟨v1, h_v1, hm⟩ := nm hm
   refine Op_vs (E := e64) (kk := 0) [] 0 (.u64 ((x_0 ^^^ x_1) ^^^ x_2)) [.u64 ((x_0 ^^^ x_1) ^^^ x_2)] h_v1 h_x_3 (Pt.ix0 (Pt.at g 0) i 1) k_14 rfl .h rfl (by kernel_rfl) (by kernel_rfl) ?_
   intro w_10 k_15
   refine ⟨(k_15.sel (.s (.kk .e))), fun _ => ?_⟩
   refine MX_nil <| At_in <| At_go <| W_q [] (.n 15 (I (w64 (i + 1))) (.ss (.kkk .z))) qe (by kernel_rfl) ?_
   exact At_rd (v1, w64 (i + 1)) (Option.some.inj hm).symm ⟨v1, w64 (i + 1), rfl, rfl, k_15⟩ (by kernel_rfl)
 rw [if_neg hc1] at hm
 refine W_exit (At_te (At_te (At_ie ?_)))
 have hm := exit_of hm hr0
 refine At_go <| W_seq <| W_reg <| WLs 1 [] (.n 51 (.agg [.ar e64 h1]) (.ss (.k .z))) (qT k_12 0 rfl 0 8 [.ar e64 h1] (by kernel_rfl) (by decide) <| qe) (by kernel_rfl) ?_
 refine WL_op <| Op_b [] 1 (.agg [.ar e64 h1]) [.ar e64 h1] (Pt.at g2 0) k_12 rfl .all (by kernel_rfl) (by kernel_rfl) ?_
 intro w_11 k_16
 have k_17 := k_16.sel (.s (.k .z))
 refine WL_nil <| At_go <| W_ret ?_
 obtain rfl := Option.some.inj hm
 refine At_rt [.agg [.ar e64 h1]] (qo (.agg [.ar e64 h1]) <| qc (fun w => Rd w (some ⟨g2, 0, none⟩) (SV.cl [.ar e64 h1])) (k_17.brd 0 rfl) <| qe) (by kernel_rfl) ?_
 have k_18 := k_17.sel .z
 exact ⟨rfl, k_18⟩

-- quern/quernref04.Words
noncomputable def m_r04_Words_l0 (b : List UInt8) : (Vec UInt32 16 × Int) → Option ((Vec UInt32 16 × Int) ⊕ (Vec UInt32 16 × Int))
  | (m_, i) => if i < 16 then ((m_r04_load b (w64 (4 * i))).bind fun r_ => (geti m_.l i).bind fun x_0 => (some (vst m_ i r_)).bind fun v => some (.inl (v, w64 (i + 1)))) else (Option.map Sum.inr (some (m_, (0 : Int))))
noncomputable def m_r04_Words (b : List UInt8) : Option (Vec UInt32 16 × Int) :=
  if ((b.length : Nat) : Int) < 64 then (some ((Vec.rep 16 (0 : UInt32)), (3 : Int))) else (if 64 < ((b.length : Nat) : Int) then (some ((Vec.rep 16 (0 : UInt32)), (2 : Int))) else (whileO (m_r04_Words_l0 b) ((Vec.rep 16 (0 : UInt32)), (0 : Int))))
theorem c_r04_Words {F O : Nat → Prop} {w : World} (b : List UInt8) (A_b : Option Addr) (n_b : Nat) (c_b : Nat) (h_b : Ro F w A_b (e8.all b)) (hn_b : b.length = n_b) (hc_b : n_b ≤ c_b) (k : Cx F O w w []) (r : (Vec UInt32 16 × Int)) (hm : m_r04_Words b = some r) :
    Calls Tryz.prog 96 (vals [sl A_b n_b c_b]) w (fun e w' => e = .returned (SV.val (.tup [.agg [.ar e32 r.1], I r.2])) ∧ Cx F O w w' []) := by
 unfold m_r04_Words at hm
 subst hn_b
 refine calls [sl A_b b.length c_b] Tryz.func96 rfl (of_decide_eq_true (by kernel_rfl)) ?_
 refine W_seq <| W_reg <| WL_op <| Op_alloc [] 2 [.ar e32 (Vec.rep 16 (0 : UInt32))] (by kernel_rfl) k ?_
 intro g w_ k_
 refine WLs 1 [] .a qe (by kernel_rfl) ?_
 refine WL_nil <| At_go <| W_seq <| W_reg <| WL_op <| Op_alloc [] 4 [.ar e32 (Vec.rep 16 (0 : UInt32))] (by kernel_rfl) k_ ?_
 intro g1 w_1 k_1
 refine WL_nil <| At_go <| W_seq <| W_block <| W_seq <| W_q [] (.n 6 (.b (decide (((b.length : Nat) : Int) < 64))) .a) qe (by kernel_rfl) ?_
 refine At_go <| W_condp (((b.length : Nat) : Int) < 64) (by kernel_rfl) (fun hc => ?_) (fun hc => ?_)
 · rw [if_pos hc] at hm
   refine W_seq <| W_reg <| WLs 1 [] (.n 10 (.agg [.ar e32 (Vec.rep 16 (0 : UInt32))]) (.ss (.k .z))) (qT k_1 1 rfl 0 16 [.ar e32 (Vec.rep 16 (0 : UInt32))] (by kernel_rfl) (by decide) <| qe) (by kernel_rfl) ?_
   refine WL_op <| Op_b [] 0 (.agg [.ar e32 (Vec.rep 16 (0 : UInt32))]) [.ar e32 (Vec.rep 16 (0 : UInt32))] (Pt.at g 0) k_1 rfl .all (by kernel_rfl) (by kernel_rfl) ?_
   intro w_2 k_2
   have k_3 := k_2.sel (.k .z)
   refine WLs 1 [] (.n 3 (I 3) (.s .a)) qe (by kernel_rfl) ?_
   refine WL_nil <| At_go <| W_ret (At_ir (At_tr ?_))
   obtain rfl := Option.some.inj hm
   refine At_rt [.agg [.ar e32 (Vec.rep 16 (0 : UInt32))], I 3] (qo (.agg [.ar e32 (Vec.rep 16 (0 : UInt32))]) <| qc (fun w => Rd w (some ⟨g, 0, none⟩) (SV.cl [.ar e32 (Vec.rep 16 (0 : UInt32))])) (k_3.brd 0 rfl) <| qe) (by kernel_rfl) ?_
   have k_4 := k_3.sel .z
   exact ⟨rfl, k_4⟩
 rw [if_neg hc] at hm
 refine W_seq <| W_q [] (.n 11 (.b (decide (64 < ((b.length : Nat) : Int)))) (.s .a)) qe (by kernel_rfl) ?_
 refine At_go <| W_condp (64 < ((b.length : Nat) : Int)) (by kernel_rfl) (fun hc1 => ?_) (fun hc1 => ?_)
 · rw [if_pos hc1] at hm
   refine W_seq <| W_reg <| WLs 1 [] (.n 15 (.agg [.ar e32 (Vec.rep 16 (0 : UInt32))]) (.ss (.k .z))) (qT k_1 1 rfl 0 16 [.ar e32 (Vec.rep 16 (0 : UInt32))] (by kernel_rfl) (by decide) <| qe) (by kernel_rfl) ?_
   refine WL_op <| Op_b [] 0 (.agg [.ar e32 (Vec.rep 16 (0 : UInt32))]) [.ar e32 (Vec.rep 16 (0 : UInt32))] (Pt.at g 0) k_1 rfl .all (by kernel_rfl) (by kernel_rfl) ?_
   intro w_3 k_5
   have k_6 := k_5.sel (.k .z)
   refine WLs 1 [] (.n 3 (I 2) (.s .a)) qe (by kernel_rfl) ?_
   refine WL_nil <| At_go <| W_ret (At_ir (At_tr ?_))
   obtain rfl := Option.some.inj hm
   refine At_rt [.agg [.ar e32 (Vec.rep 16 (0 : UInt32))], I 2] (qo (.agg [.ar e32 (Vec.rep 16 (0 : UInt32))]) <| qc (fun w => Rd w (some ⟨g, 0, none⟩) (SV.cl [.ar e32 (Vec.rep 16 (0 : UInt32))])) (k_6.brd 0 rfl) <| qe) (by kernel_rfl) ?_
   have k_7 := k_6.sel .z
   exact ⟨rfl, k_7⟩
 rw [if_neg hc1] at hm
 refine W_skip <| At_in <| At_go <| W_seq <| W_seq <| W_q [] (.n 5 (I 0) (.s .a)) qe (by kernel_rfl) ?_
 refine At_go <| W_block <| W_lp (m_r04_Words_l0 b) (fun s L wr => ∃ (m_ : Vec UInt32 16) (i : Int), (m_, i) = s ∧ L = [(0, sl A_b b.length c_b), (2, pt g 0), (4, pt g1 0), (5, I i)] ∧ Cx F O w wr [Bx 155 g [.ar e32 (Vec.rep 16 (0 : UInt32))], Bx 155 g1 [.ar e32 m_]]) ((Vec.rep 16 (0 : UInt32)), (0 : Int)) r hm ⟨(Vec.rep 16 (0 : UInt32)), (0 : Int), rfl, rfl, k_1⟩ (by kernel_rfl) ?_
 intro s0_ L_ w_4 y0 hrel hstep hr0
 obtain ⟨m_, i, rfl, rfl, k_8⟩ := hrel
 have hm := hstep; simp only [m_r04_Words_l0] at hm
 clear hstep
 refine W_seq <| W_seq <| W_q [] (.n 17 (.b (decide (i < 16))) .a) qe (by kernel_rfl) ?_
 refine At_go <| W_condp (i < 16) (by kernel_rfl) (fun hc2 => ?_) (fun hc2 => ?_)
 · rw [if_pos hc2] at hm
   refine W_skip <| At_go <| W_seq <| W_block <| W_reg <| WLs 4 [] (.n 20 (I i) (.n 21 (sl A_b b.length c_b) (.n 23 (I (w64 (4 * i))) (.s .a)))) qe (by kernel_rfl) ?_
   refine WL_op ?_
   obtain ⟨r_, h_r_, hm⟩ := ob hm
   refine Op_call [] 24 _ yz_go114 (by kernel_rfl) (c_r04_load (F := N0) (O := N0) _ _ _ _ _ (Ro.n0 (h_b.cx k_8)) rfl hc_b (Cx.refl _) _ h_r_) ?_
   rintro e_ w_5 ⟨rfl, k_9⟩
   have k_10 := k_8.call k_9
   refine ⟨.u32 r_, rfl, ?_⟩
   obtain ⟨x_0, h_x_0, hm⟩ := ob hm
   refine WLs 1 [] (.n 25 (.v (.pointer (ixA (some ⟨g1, 0, none⟩) i 1))) (.k (.sss .a))) (qI g1 0 h_x_0 <| qe) (by kernel_rfl) ?_
   refine WL_op ?_
   obtain ⟨v, h_v, hm⟩ := nm hm
   refine Op_vs (E := e32) (kk := 0) [] 1 (.u32 r_) [.u32 r_] h_v h_x_0 (Pt.ix0 (Pt.at g1 0) i 1) k_10 rfl .h rfl (by kernel_rfl) (by kernel_rfl) ?_
   intro w_6 k_11
   refine WL_nil <| At_in <| At_go <| W_q [] (.n 5 (I (w64 (i + 1))) (.ss (.kkk .z))) qe (by kernel_rfl) ?_
   exact At_rd (v, w64 (i + 1)) (Option.some.inj hm).symm ⟨v, w64 (i + 1), rfl, rfl, k_11⟩ (by kernel_rfl)
 rw [if_neg hc2] at hm
 refine W_exit (At_te (At_te (At_ie ?_)))
 have hm := exit_of hm hr0
 refine At_go <| W_seq <| W_reg <| WLs 1 [] (.n 26 (.agg [.ar e32 m_]) (.ss (.k .z))) (qT k_8 1 rfl 0 16 [.ar e32 m_] (by kernel_rfl) (by decide) <| qe) (by kernel_rfl) ?_
 refine WL_op <| Op_b [] 0 (.agg [.ar e32 m_]) [.ar e32 m_] (Pt.at g 0) k_8 rfl .all (by kernel_rfl) (by kernel_rfl) ?_
 intro w_7 k_12
 have k_13 := k_12.sel (.k .z)
 refine WLs 1 [] (.n 3 (I 0) (.s .a)) qe (by kernel_rfl) ?_
 refine WL_nil <| At_go <| W_ret ?_
 obtain rfl := Option.some.inj hm
 refine At_rt [.agg [.ar e32 m_], I 0] (qo (.agg [.ar e32 m_]) <| qc (fun w => Rd w (some ⟨g, 0, none⟩) (SV.cl [.ar e32 m_])) (k_13.brd 0 rfl) <| qe) (by kernel_rfl) ?_
 have k_14 := k_13.sel .z
 exact ⟨rfl, k_14⟩

-- quern/quernref04.Begin
noncomputable def m_r04_Begin_j1 (v7 : Vec UInt32 16) : Option (Vec UInt32 16) :=
  some v7
noncomputable def m_r04_Begin_j0 (node : Bool) (v5 : Vec UInt32 16) : Option (Vec UInt32 16) :=
  if node = true then ((geti v5.l (15 : Int)).bind fun x_10 => (geti v5.l (15 : Int)).bind fun x_11 => (some (vst v5 (15 : Int) (x_10 ^^^ 4294967295))).bind fun v8 => m_r04_Begin_j1 v8) else (m_r04_Begin_j1 v5)
noncomputable def m_r04_Begin_l0 (h : Vec UInt32 8) (count : UInt64) (last : Bool) (node : Bool) (r_ : (Vec UInt32 8)) : (Vec UInt32 16 × Int) → Option ((Vec UInt32 16 × Int) ⊕ (Vec UInt32 16))
  | (v, i) => if i < 8 then ((geti h.l i).bind fun x_0 => (geti v.l i).bind fun x_1 => (some (vst v i x_0)).bind fun v1 => (geti r_.l i).bind fun x_2 => (geti v1.l (w64 (i + 8))).bind fun x_3 => (some (vst v1 (w64 (i + 8)) x_2)).bind fun v2 => some (.inl (v2, w64 (i + 1)))) else (Option.map Sum.inr ((geti v.l (12 : Int)).bind fun x_4 => (geti v.l (12 : Int)).bind fun x_5 => (some (vst v (12 : Int) (x_4 ^^^ (UInt32.ofNat count.toNat)))).bind fun v3 => (geti v3.l (13 : Int)).bind fun x_6 => (geti v3.l (13 : Int)).bind fun x_7 => (some (vst v3 (13 : Int) (x_6 ^^^ (UInt32.ofNat (shr64 count ((32 : UInt64).toNat)).toNat)))).bind fun v4 => if last = true then ((geti v4.l (14 : Int)).bind fun x_8 => (geti v4.l (14 : Int)).bind fun x_9 => (some (vst v4 (14 : Int) (x_8 ^^^ 4294967295))).bind fun v6 => m_r04_Begin_j0 node v6) else (m_r04_Begin_j0 node v4)))
noncomputable def m_r04_Begin (h : Vec UInt32 8) (count : UInt64) (last : Bool) (node : Bool) : Option (Vec UInt32 16) :=
  (m_r04_IV).bind fun r_ => whileO (m_r04_Begin_l0 h count last node r_) ((Vec.rep 16 (0 : UInt32)), (0 : Int))
theorem c_r04_Begin {F O : Nat → Prop} {w : World} (h : Vec UInt32 8) (count : UInt64) (last : Bool) (node : Bool) (k : Cx F O w w []) (r : (Vec UInt32 16)) (hm : m_r04_Begin h count last node = some r) :
    Calls Tryz.prog 115 (vals [.agg [.ar e32 h], .u64 count, .b last, .b node]) w (fun e w' => e = .returned (SV.val (.agg [.ar e32 r])) ∧ Cx F O w w' []) := by
 unfold m_r04_Begin at hm
 refine calls [.agg [.ar e32 h], .u64 count, .b last, .b node] Tryz.func115 rfl (of_decide_eq_true (by kernel_rfl)) ?_
 refine W_seq <| W_reg <| WL_op <| Op_box [] 4 (.agg [.ar e32 h]) [.ar e32 h] (by kernel_rfl) k ?_
 intro g w_ k_
 refine WL_op <| Op_alloc [] 8 [.ar e32 (Vec.rep 16 (0 : UInt32))] (by kernel_rfl) k_ ?_
 intro g1 w_1 k_1
 refine WL_nil <| At_go <| W_seq <| W_reg <| WL_op <| Op_alloc [] 9 [.ar e32 (Vec.rep 16 (0 : UInt32))] (by kernel_rfl) k_1 ?_
 intro g2 w_2 k_2
 refine WL_nil <| At_go <| W_seq <| W_reg <| WL_op ?_
 obtain ⟨r_, h_r_, hm⟩ := ob hm
 refine Op_call [] 12 _ yz_go125 (by kernel_rfl) (c_r04_IV (F := N0) (O := N0)  (Cx.refl _) _ h_r_) ?_
 rintro e_ w_3 ⟨rfl, k_3⟩
 have k_4 := k_2.call k_3
 refine ⟨.agg [.ar e32 r_], rfl, ?_⟩
 refine WL_op ?_
 have k_5 := k_4.sel (.kk (.k .e))
 refine Op_alloc [] 10 [.ar e32 (Vec.rep 8 (0 : UInt32))] (by kernel_rfl) k_5 ?_
 intro g3 w_4 k_6
 refine WL_op <| Op_b [] 3 (.agg [.ar e32 r_]) [.ar e32 r_] (Pt.at g3 0) k_6 rfl .all (by kernel_rfl) (by kernel_rfl) ?_
 intro w_5 k_7
 refine WL_nil <| At_go <| W_seq <| W_seq <| W_q [] (.n 11 (I 0) (.k (.s (.kkk (.s .a))))) qe (by kernel_rfl) ?_
 refine At_go <| W_block <| W_lp (m_r04_Begin_l0 h count last node r_) (fun s L wr => ∃ (v : Vec UInt32 16) (i : Int), (v, i) = s ∧ L = [(1, .u64 count), (2, .b last), (3, .b node), (4, pt g 0), (8, pt g1 0), (9, pt g2 0), (10, pt g3 0), (11, I i)] ∧ Cx F O w wr [Bx 154 g [.ar e32 h], Bx 155 g1 [.ar e32 (Vec.rep 16 (0 : UInt32))], Bx 155 g2 [.ar e32 v], Bx 154 g3 [.ar e32 r_]]) ((Vec.rep 16 (0 : UInt32)), (0 : Int)) r hm ⟨(Vec.rep 16 (0 : UInt32)), (0 : Int), rfl, rfl, k_7⟩ (by kernel_rfl) ?_
 intro s0_ L_ w_6 y0 hrel hstep hr0
 obtain ⟨v, i, rfl, rfl, k_8⟩ := hrel
 have hm := hstep; simp only [m_r04_Begin_l0] at hm
 clear hstep
 refine W_seq <| W_seq <| W_q [] (.n 14 (.b (decide (i < 8))) .a) qe (by kernel_rfl) ?_
 refine At_go <| W_condp (i < 8) (by kernel_rfl) (fun hc => ?_) (fun hc => ?_)
 · rw [if_pos hc] at hm
   refine W_skip <| At_go <| W_seq <| W_block <| W_seq <| W_reg ?_
   obtain ⟨x_0, h_x_0, hm⟩ := ob hm
   obtain ⟨x_1, h_x_1, hm⟩ := ob hm
   refine WLs 5 [] (.n 20 (.u32 x_0) (.n 21 (.v (.pointer (ixA (some ⟨g2, 0, none⟩) i 1))) (.s .a))) (qV (k_8.vrd 0 rfl e32 h 0 (by kernel_rfl)) h_x_0 rfl (.u32 x_0) rfl <| qI g2 0 h_x_1 <| qe) (by kernel_rfl) ?_
   refine WL_op ?_
   obtain ⟨v1, h_v1, hm⟩ := nm hm
   refine Op_vs (E := e32) (kk := 0) [] 2 (.u32 x_0) [.u32 x_0] h_v1 h_x_1 (Pt.ix0 (Pt.at g2 0) i 1) k_8 rfl .h rfl (by kernel_rfl) (by kernel_rfl) ?_
   intro w_7 k_9
   refine WL_nil <| At_go <| W_reg ?_
   obtain ⟨x_2, h_x_2, hm⟩ := ob hm
   obtain ⟨x_3, h_x_3, hm⟩ := ob hm
   refine WLs 6 [] (.n 26 (.u32 x_2) (.n 27 (.v (.pointer (ixA (some ⟨g2, 0, none⟩) (w64 (i + 8)) 1))) (.ss .a))) (qV (k_9.vrd 3 rfl e32 r_ 0 (by kernel_rfl)) h_x_2 rfl (.u32 x_2) rfl <| qI g2 0 h_x_3 <| qe) (by kernel_rfl) ?_
   refine WL_op ?_
   obtain ⟨v2, h_v2, hm⟩ := nm hm
   refine Op_vs (E := e32) (kk := 0) [] 2 (.u32 x_2) [.u32 x_2] h_v2 h_x_3 (Pt.ix0 (Pt.at g2 0) (w64 (i + 8)) 1) k_9 rfl .h rfl (by kernel_rfl) (by kernel_rfl) ?_
   intro w_8 k_10
   refine WL_nil <| At_in <| At_go <| W_q [] (.n 11 (I (w64 (i + 1))) (.ss (.kkkk (.kkk .z)))) qe (by kernel_rfl) ?_
   exact At_rd (v2, w64 (i + 1)) (Option.some.inj hm).symm ⟨v2, w64 (i + 1), rfl, rfl, k_10⟩ (by kernel_rfl)
 rw [if_neg hc] at hm
 refine W_exit (At_te (At_te (At_ie ?_)))
 have hm := exit_of hm hr0
 refine At_go <| W_seq <| W_reg ?_
 obtain ⟨x_4, h_x_4, hm⟩ := ob hm
 obtain ⟨x_5, h_x_5, hm⟩ := ob hm
 refine WLs 6 [] (.n 32 (.u32 (x_4 ^^^ (UInt32.ofNat count.toNat))) (.n 33 (.v (.pointer (ixA (some ⟨g2, 0, none⟩) (12 : Int) 1))) (.s (.kkk (.s (.kk .z)))))) (qV (k_8.vrd 2 rfl e32 v 0 (by kernel_rfl)) h_x_4 rfl (.u32 x_4) rfl <| qI g2 0 h_x_5 <| qe) (by kernel_rfl) ?_
 refine WL_op ?_
 obtain ⟨v3, h_v3, hm⟩ := nm hm
 refine Op_vs (E := e32) (kk := 0) [] 2 (.u32 (x_4 ^^^ (UInt32.ofNat count.toNat))) [.u32 (x_4 ^^^ (UInt32.ofNat count.toNat))] h_v3 h_x_5 (Pt.ix0 (Pt.at g2 0) (12 : Int) 1) k_8 rfl .h rfl (by kernel_rfl) (by kernel_rfl) ?_
 intro w_9 k_11
 refine WL_nil <| At_go <| W_seq <| W_reg ?_
 obtain ⟨x_6, h_x_6, hm⟩ := ob hm
 obtain ⟨x_7, h_x_7, hm⟩ := ob hm
 refine WLs 7 [] (.n 39 (.u32 (x_6 ^^^ (UInt32.ofNat (shr64 count ((32 : UInt64).toNat)).toNat))) (.n 40 (.v (.pointer (ixA (some ⟨g2, 0, none⟩) (13 : Int) 1))) (.sss .a))) (qV (k_11.vrd 2 rfl e32 v3 0 (by kernel_rfl)) h_x_6 rfl (.u32 x_6) rfl <| qI g2 0 h_x_7 <| qe) (by kernel_rfl) ?_
 refine WL_op ?_
 obtain ⟨v4, h_v4, hm⟩ := nm hm
 refine Op_vs (E := e32) (kk := 0) [] 2 (.u32 (x_6 ^^^ (UInt32.ofNat (shr64 count ((32 : UInt64).toNat)).toNat))) [.u32 (x_6 ^^^ (UInt32.ofNat (shr64 count ((32 : UInt64).toNat)).toNat))] h_v4 h_x_7 (Pt.ix0 (Pt.at g2 0) (13 : Int) 1) k_11 rfl .h rfl (by kernel_rfl) (by kernel_rfl) ?_
 intro w_10 k_12
 refine WL_nil <| At_go <| W_cut (fun L wr => ∃ (v5 : Vec UInt32 16), m_r04_Begin_j0 node v5 = some r ∧ L = [(3, .b node), (8, pt g1 0), (9, pt g2 0)] ∧ Cx F O w wr [Bx 155 g1 [.ar e32 (Vec.rep 16 (0 : UInt32))], Bx 155 g2 [.ar e32 v5]]) ?_ ?_
 ·
  refine W_seq <| W_q [] (.n 41 (.b last) (.sss .a)) qe (by kernel_rfl) ?_
  refine At_go <| W_cond last (by kernel_rfl) (fun hc1 => ?_) (fun hc1 => ?_)
  · rw [if_pos hc1] at hm
    refine W_reg ?_
    obtain ⟨x_8, h_x_8, hm⟩ := ob hm
    obtain ⟨x_9, h_x_9, hm⟩ := ob hm
    refine WLs 4 [] (.n 44 (.u32 (x_8 ^^^ 4294967295)) (.n 45 (.v (.pointer (ixA (some ⟨g2, 0, none⟩) (14 : Int) 1))) (.s .a))) (qV (k_12.vrd 2 rfl e32 v4 0 (by kernel_rfl)) h_x_8 rfl (.u32 x_8) rfl <| qI g2 0 h_x_9 <| qe) (by kernel_rfl) ?_
    refine WL_op ?_
    obtain ⟨v6, h_v6, hm⟩ := nm hm
    refine Op_vs (E := e32) (kk := 0) [] 2 (.u32 (x_8 ^^^ 4294967295)) [.u32 (x_8 ^^^ 4294967295)] h_v6 h_x_9 (Pt.ix0 (Pt.at g2 0) (14 : Int) 1) k_12 rfl .h rfl (by kernel_rfl) (by kernel_rfl) ?_
    intro w_11 k_13
    refine WL_nil ?_
    have k_14 := k_13.sel (.s (.kk .z))
    exact At_c ⟨v6, hm, rfl, k_14⟩ (by kernel_rfl)
  rw [if_neg (by rw [hc1]; decide)] at hm
  refine W_skip ?_
  have k_15 := k_12.sel (.s (.kk .z))
  exact At_c ⟨v4, hm, rfl, k_15⟩ (by kernel_rfl)
 rintro L_ w_12 ⟨v5, hm, rfl, k_16⟩
 simp only [m_r04_Begin_j0] at hm
 refine W_cut (fun L wr => ∃ (v7 : Vec UInt32 16), m_r04_Begin_j1 v7 = some r ∧ L = [(8, pt g1 0), (9, pt g2 0)] ∧ Cx F O w wr [Bx 155 g1 [.ar e32 (Vec.rep 16 (0 : UInt32))], Bx 155 g2 [.ar e32 v7]]) ?_ ?_
 ·
  refine W_seq <| W_q [] (.n 46 (.b node) (.s .a)) qe (by kernel_rfl) ?_
  refine At_go <| W_cond node (by kernel_rfl) (fun hc2 => ?_) (fun hc2 => ?_)
  · rw [if_pos hc2] at hm
    refine W_reg ?_
    obtain ⟨x_10, h_x_10, hm⟩ := ob hm
    obtain ⟨x_11, h_x_11, hm⟩ := ob hm
    refine WLs 4 [] (.n 49 (.u32 (x_10 ^^^ 4294967295)) (.n 50 (.v (.pointer (ixA (some ⟨g2, 0, none⟩) (15 : Int) 1))) (.s .a))) (qV (k_16.vrd 1 rfl e32 v5 0 (by kernel_rfl)) h_x_10 rfl (.u32 x_10) rfl <| qI g2 0 h_x_11 <| qe) (by kernel_rfl) ?_
    refine WL_op ?_
    obtain ⟨v8, h_v8, hm⟩ := nm hm
    refine Op_vs (E := e32) (kk := 0) [] 1 (.u32 (x_10 ^^^ 4294967295)) [.u32 (x_10 ^^^ 4294967295)] h_v8 h_x_11 (Pt.ix0 (Pt.at g2 0) (15 : Int) 1) k_16 rfl .h rfl (by kernel_rfl) (by kernel_rfl) ?_
    intro w_13 k_17
    refine WL_nil ?_
    exact At_c ⟨v8, hm, rfl, k_17⟩ (by kernel_rfl)
  rw [if_neg (by rw [hc2]; decide)] at hm
  refine W_skip ?_
  exact At_c ⟨v5, hm, rfl, k_16⟩ (by kernel_rfl)
 rintro L_ w_14 ⟨v7, hm, rfl, k_18⟩
 simp only [m_r04_Begin_j1] at hm
 refine W_seq <| W_reg <| WLs 1 [] (.n 51 (.agg [.ar e32 v7]) (.k .z)) (qT k_18 1 rfl 0 16 [.ar e32 v7] (by kernel_rfl) (by decide) <| qe) (by kernel_rfl) ?_
 refine WL_op <| Op_b [] 0 (.agg [.ar e32 v7]) [.ar e32 v7] (Pt.at g1 0) k_18 rfl .all (by kernel_rfl) (by kernel_rfl) ?_
 intro w_15 k_19
 have k_20 := k_19.sel (.k .z)
 refine WL_nil <| At_go <| W_ret ?_
 obtain rfl := Option.some.inj hm
 refine At_rt [.agg [.ar e32 v7]] (qo (.agg [.ar e32 v7]) <| qc (fun w => Rd w (some ⟨g1, 0, none⟩) (SV.cl [.ar e32 v7])) (k_20.brd 0 rfl) <| qe) (by kernel_rfl) ?_
 have k_21 := k_20.sel .z
 exact ⟨rfl, k_21⟩

-- quern/quernref04.four
noncomputable def m_r04_four (i : Int) : Option (Int × Int × Int × Int) :=
  if i < 4 then (some (i, w64 (i + 4), w64 (i + 8), w64 (i + 12))) else (some (w64 (i - 4), w64 (4 + (Int.tmod (w64 ((w64 (i - 4)) + 1)) 4)), w64 (8 + (Int.tmod (w64 ((w64 (i - 4)) + 2)) 4)), w64 (12 + (Int.tmod (w64 ((w64 (i - 4)) + 3)) 4))))
theorem c_r04_four {F O : Nat → Prop} {w : World} (i : Int) (k : Cx F O w w []) (r : (Int × Int × Int × Int)) (hm : m_r04_four i = some r) :
    Calls Tryz.prog 129 (vals [I i]) w (fun e w' => e = .returned (SV.val (.tup [I r.1, I r.2.1, I r.2.2.1, I r.2.2.2])) ∧ Cx F O w w' []) := by
 unfold m_r04_four at hm
 refine calls [I i] Tryz.func129 rfl (of_decide_eq_true (by kernel_rfl)) ?_
 refine W_seq <| W_q [] .a qe (by kernel_rfl) ?_
 refine At_go <| W_seq <| W_seq <| W_q [] (.n 8 (.b (decide (i < 4))) .a) qe (by kernel_rfl) ?_
 refine At_go <| W_condp (i < 4) (by kernel_rfl) (fun hc => ?_) (fun hc => ?_)
 · rw [if_pos hc] at hm
   refine W_seq <| W_q [] (.n 2 (I i) (.n 3 (I (w64 (i + 4))) (.n 4 (I (w64 (i + 8))) (.n 5 (I (w64 (i + 12))) .z)))) qe (by kernel_rfl) ?_
   refine At_go <| W_ret (At_tr ?_)
   obtain rfl := Option.some.inj hm
   refine At_rt [I i, I (w64 (i + 4)), I (w64 (i + 8)), I (w64 (i + 12))] qe (by kernel_rfl) ?_
   exact ⟨rfl, k⟩
 rw [if_neg hc] at hm
 refine W_skip <| At_go <| W_seq <| W_q [] (.n 6 (I (w64 (i - 4))) .z) qe (by kernel_rfl) ?_
 refine At_go <| W_seq <| W_q [] (.n 2 (I (w64 (i - 4))) (.n 3 (I (w64 (4 + (Int.tmod (w64 ((w64 (i - 4)) + 1)) 4)))) (.n 4 (I (w64 (8 + (Int.tmod (w64 ((w64 (i - 4)) + 2)) 4)))) (.n 5 (I (w64 (12 + (Int.tmod (w64 ((w64 (i - 4)) + 3)) 4)))) .z)))) (qp ((4 : Int) ≠ (0 : Int)) (by omega) <| qp ((4 : Int) ≠ (0 : Int)) (by omega) <| qp ((4 : Int) ≠ (0 : Int)) (by omega) <| qe) (by kernel_rfl) ?_
 refine At_go <| W_ret ?_
 obtain rfl := Option.some.inj hm
 refine At_rt [I (w64 (i - 4)), I (w64 (4 + (Int.tmod (w64 ((w64 (i - 4)) + 1)) 4))), I (w64 (8 + (Int.tmod (w64 ((w64 (i - 4)) + 2)) 4))), I (w64 (12 + (Int.tmod (w64 ((w64 (i - 4)) + 3)) 4)))] qe (by kernel_rfl) ?_
 exact ⟨rfl, k⟩

-- quern/quernref04.places
noncomputable def m_r04_places_l1 (a_ : Int) (b : Int) (c : Int) (d : Int) (i : Int) : Int → Option (Int ⊕ (Int ⊕ Bool))
  | j => if j < i then ((geti ([a_, b, c, d] : List Int) i).bind fun x_2 => (geti ([a_, b, c, d] : List Int) j).bind fun x_3 => if x_2 = x_3 then (Option.map Sum.inr (Option.map Sum.inr (some false))) else (some (.inl (w64 (j + 1))))) else (Option.map Sum.inr (some (.inl (w64 (i + 1)))))
noncomputable def m_r04_places_l0 (a_ : Int) (b : Int) (c : Int) (d : Int) : Int → Option (Int ⊕ Bool)
  | i => if i < 4 then ((geti ([a_, b, c, d] : List Int) i).bind fun x_0 => (gif (!(decide (x_0 < 0))) (geti ([a_, b, c, d] : List Int) i)).bind fun x_1 => if ((decide (x_0 < 0)) || (decide (15 < x_1))) = true then (Option.map Sum.inr (some false)) else (whileO (m_r04_places_l1 a_ b c d i) (0 : Int))) else (Option.map Sum.inr (some true))
noncomputable def m_r04_places (a_ : Int) (b : Int) (c : Int) (d : Int) : Option Bool :=
  whileO (m_r04_places_l0 a_ b c d) (0 : Int)
theorem c_r04_places {F O : Nat → Prop} {w : World} (a_ : Int) (b : Int) (c : Int) (d : Int) (k : Cx F O w w []) (r : Bool) (hm : m_r04_places a_ b c d = some r) :
    Calls Tryz.prog 141 (vals [I a_, I b, I c, I d]) w (fun e w' => e = .returned (SV.val (.b r)) ∧ Cx F O w w' []) := by
 unfold m_r04_places at hm
 refine calls [I a_, I b, I c, I d] Tryz.func141 rfl (of_decide_eq_true (by kernel_rfl)) ?_
 refine W_seq <| W_q [] .a qe (by kernel_rfl) ?_
 refine At_go <| W_seq <| W_reg <| WLs 4 [] (.n 12 (I a_) (.n 13 (I b) (.n 14 (I c) (.n 15 (I d) .z)))) qe (by kernel_rfl) ?_
 refine WL_op <| Op_mk yz_tf231 eI [] 16 ([a_, b, c, d] : List Int) [(0, I a_), (1, I b), (2, I c), (3, I d)] [I a_, I b, I c, I d] (by kernel_rfl) (by kernel_rfl) (by kernel_rfl) k ?_
 intro A w_ k_
 refine WLs 1 [] (.n 9 (sl A 4 4) .z) qe (by kernel_rfl) ?_
 refine WL_nil <| At_go <| W_seq <| W_seq <| W_q [] (.n 10 (I 0) .a) qe (by kernel_rfl) ?_
 refine At_go <| W_block <| W_lp (m_r04_places_l0 a_ b c d) (fun s L wr => ∃ (i : Int), i = s ∧ L = [(9, sl A 4 4), (10, I i)] ∧ Cx F O w wr [Ow eI A 4 4 ([a_, b, c, d] : List Int)]) (0 : Int) r hm ⟨(0 : Int), rfl, rfl, k_⟩ (by kernel_rfl) ?_
 intro s0_ L_ w_1 y0 hrel hstep hr0
 obtain ⟨i, rfl, rfl, k_1⟩ := hrel
 have hm := hstep; simp only [m_r04_places_l0] at hm
 clear hstep
 refine W_seq <| W_seq <| W_q [] (.n 18 (.b (decide (i < 4))) .a) qe (by kernel_rfl) ?_
 refine At_go <| W_condp (i < 4) (by kernel_rfl) (fun hc => ?_) (fun hc => ?_)
 · rw [if_pos hc] at hm
   refine W_skip <| At_go <| W_seq <| W_block <| W_seq <| W_seq ?_
   obtain ⟨x_0, h_x_0, hm⟩ := ob hm
   obtain ⟨x_1, h_x_1, hm⟩ := ob hm
   refine W_q [] (.n 32 (.b ((decide (x_0 < 0)) || (decide (15 < x_1)))) (.s .a)) (qW (k_1.rd 0 rfl) h_x_0 (k_1.len 0 rfl) (I x_0) rfl <| qp ((decide (x_0 < 0)) = false → 0 ≤ i ∧ i < ((4 : Nat) : Int) ∧ A.isSome = true) (fun hg0 => Rd.ix (E := eI) (k_1.rd 0 rfl) (gif_not h_x_1 hg0) (k_1.len 0 rfl) (by decide)) <| qo (I x_1) <| qc (fun w => (decide (x_0 < 0)) = false → ∃ a, ixA A i 1 = some a ∧ w.cell? a = some (SV.val (I x_1))) (fun hg0 => Rd.el (k := 0) (k_1.rd 0 rfl) (gif_not h_x_1 hg0) (Pt.ix1 A i 1) rfl) <| qe) (by kernel_rfl) ?_
   refine At_go <| W_cond ((decide (x_0 < 0)) || (decide (15 < x_1))) (by kernel_rfl) (fun hc1 => ?_) (fun hc1 => ?_)
   · rw [if_pos hc1] at hm
     refine W_seq <| W_q [] (.n 8 (.b false) .z) qe (by kernel_rfl) ?_
     refine At_go <| W_ret (At_tr (At_ir (At_tr (At_tr (At_ir (At_tr ?_))))))
     have hm := exit_of hm hr0
     obtain rfl := Option.some.inj hm
     refine At_rt [.b false] qe (by kernel_rfl) ?_
     have k_2 := k_1.sel .z
     exact ⟨rfl, k_2⟩
   rw [if_neg (by rw [hc1]; decide)] at hm
   refine W_skip <| At_go <| W_seq <| W_q [] (.n 11 (I 0) (.s .a)) qe (by kernel_rfl) ?_
   refine At_go <| W_block <| W_lp (m_r04_places_l1 a_ b c d i) (fun s L wr => ∃ (j : Int), j = s ∧ L = [(9, sl A 4 4), (10, I i), (11, I j)] ∧ Cx F O w wr [Ow eI A 4 4 ([a_, b, c, d] : List Int)]) (0 : Int) y0 hm ⟨(0 : Int), rfl, rfl, k_1⟩ (by kernel_rfl) ?_
   intro s1_ L_ w_2 y1 hrel hstep hr1
   obtain ⟨j, rfl, rfl, k_3⟩ := hrel
   have hm := hstep; simp only [m_r04_places_l1] at hm
   clear hstep
   refine W_seq <| W_seq <| W_q [] (.n 35 (.b (decide (j < i))) .a) qe (by kernel_rfl) ?_
   refine At_go <| W_condp (j < i) (by kernel_rfl) (fun hc2 => ?_) (fun hc2 => ?_)
   · rw [if_pos hc2] at hm
     refine W_skip <| At_go <| W_seq <| W_block <| W_seq ?_
     obtain ⟨x_2, h_x_2, hm⟩ := ob hm
     obtain ⟨x_3, h_x_3, hm⟩ := ob hm
     refine W_d yz_mixed (by kernel_rfl) (.n 46 (.b (decide (x_2 = x_3))) (.s .a)) (fun m => qW ((k_3.drew m).rd 0 rfl) h_x_2 (k_3.len 0 rfl) (I x_2) rfl <| qW ((k_3.drew m).rd 0 rfl) h_x_3 (k_3.len 0 rfl) (I x_3) rfl <| qe) (by kernel_rfl) (fun m_ => ?_)
     have k_4 := k_3.drew m_
     refine At_go <| W_condp (x_2 = x_3) (by kernel_rfl) (fun hc3 => ?_) (fun hc3 => ?_)
     · rw [if_pos hc3] at hm
       refine W_seq <| W_q [] (.n 8 (.b false) .z) qe (by kernel_rfl) ?_
       refine At_go <| W_ret (At_ir (At_tr (At_tr (At_ir (At_ir (At_tr (At_tr (At_ir (At_tr ?_)))))))))
       have hm := exit_of hm hr1
       have hm := exit_of hm hr0
       obtain rfl := Option.some.inj hm
       refine At_rt [.b false] qe (by kernel_rfl) ?_
       have k_5 := k_4.sel .z
       exact ⟨rfl, k_5⟩
     rw [if_neg hc3] at hm
     refine W_skip <| At_in <| At_go <| W_q [] (.n 11 (I (w64 (j + 1))) (.s (.kk .z))) qe (by kernel_rfl) ?_
     exact At_rd (w64 (j + 1)) (Option.some.inj hm).symm ⟨w64 (j + 1), rfl, rfl, k_4⟩ (by kernel_rfl)
   rw [if_neg hc2] at hm
   refine W_exit (At_te (At_te (At_ie ?_)))
   have hm := exit_of hm hr1
   refine At_in <| At_go <| W_q [] (.n 10 (I (w64 (i + 1))) (.s (.k .z))) qe (by kernel_rfl) ?_
   exact At_rd (w64 (i + 1)) (Option.some.inj hm).symm ⟨w64 (i + 1), rfl, rfl, k_3⟩ (by kernel_rfl)
 rw [if_neg hc] at hm
 refine W_exit (At_te (At_te (At_ie ?_)))
 have hm := exit_of hm hr0
 refine At_go <| W_seq <| W_q [] (.n 8 (.b true) .z) qe (by kernel_rfl) ?_
 refine At_go <| W_ret ?_
 obtain rfl := Option.some.inj hm
 refine At_rt [.b true] qe (by kernel_rfl) ?_
 have k_6 := k_1.sel .z
 exact ⟨rfl, k_6⟩

-- quern/quernref04.turn
noncomputable def m_r04_turn (x_ : UInt32) (r_ : Int) : Option UInt32 :=
  some ((shr32 x_ ((UInt64.ofInt r_).toNat)) ||| (shl32 x_ ((UInt64.ofInt (w64 (32 - r_))).toNat)))
theorem c_r04_turn {F O : Nat → Prop} {w : World} (x_ : UInt32) (r_ : Int) (k : Cx F O w w []) (r : UInt32) (hm : m_r04_turn x_ r_ = some r) :
    Calls Tryz.prog 142 (vals [.u32 x_, I r_]) w (fun e w' => e = .returned (SV.val (.u32 r)) ∧ Cx F O w w' []) := by
 unfold m_r04_turn at hm
 refine calls [.u32 x_, I r_] Tryz.func142 rfl (of_decide_eq_true (by kernel_rfl)) ?_
 refine W_seq <| W_q [] .a qe (by kernel_rfl) ?_
 refine At_go <| W_seq <| W_q [] (.n 4 (.u32 ((shr32 x_ ((UInt64.ofInt r_).toNat)) ||| (shl32 x_ ((UInt64.ofInt (w64 (32 - r_))).toNat)))) .z) qe (by kernel_rfl) ?_
 refine At_go <| W_ret ?_
 obtain rfl := Option.some.inj hm
 refine At_rt [.u32 ((shr32 x_ ((UInt64.ofInt r_).toNat)) ||| (shl32 x_ ((UInt64.ofInt (w64 (32 - r_))).toNat)))] qe (by kernel_rfl) ?_
 exact ⟨rfl, k⟩

-- quern/quernref04.G
noncomputable def m_r04_G (v : Vec UInt32 16) (a_ : Int) (b : Int) (c : Int) (d : Int) (x_ : UInt32) (y_ : UInt32) : Option (Vec UInt32 16 × Int) :=
  (m_r04_places a_ b c d).bind fun r_ => if (!r_) = true then (some ((Vec.rep 16 ((0 : UInt32) : UInt32)), (1 : Int))) else ((geti v.l a_).bind fun x_3 => (geti v.l b).bind fun x_4 => (geti v.l a_).bind fun x_5 => (some (vst v a_ ((x_3 + x_4) + x_))).bind fun v1 => (geti v1.l d).bind fun x_6 => (geti v1.l a_).bind fun x_7 => (m_r04_turn (x_6 ^^^ x_7) (16 : Int)).bind fun r_1 => (geti v1.l d).bind fun x_8 => (some (vst v1 d r_1)).bind fun v2 => (geti v2.l c).bind fun x_9 => (geti v2.l d).bind fun x_10 => (geti v2.l c).bind fun x_11 => (some (vst v2 c (x_9 + x_10))).bind fun v3 => (geti v3.l b).bind fun x_12 => (geti v3.l c).bind fun x_13 => (m_r04_turn (x_12 ^^^ x_13) (12 : Int)).bind fun r_2 => (geti v3.l b).bind fun x_14 => (some (vst v3 b r_2)).bind fun v4 => (geti v4.l a_).bind fun x_15 => (geti v4.l b).bind fun x_16 => (geti v4.l a_).bind fun x_17 => (some (vst v4 a_ ((x_15 + x_16) + y_))).bind fun v5 => (geti v5.l d).bind fun x_18 => (geti v5.l a_).bind fun x_19 => (m_r04_turn (x_18 ^^^ x_19) (8 : Int)).bind fun r_3 => (geti v5.l d).bind fun x_20 => (some (vst v5 d r_3)).bind fun v6 => (geti v6.l c).bind fun x_21 => (geti v6.l d).bind fun x_22 => (geti v6.l c).bind fun x_23 => (some (vst v6 c (x_21 + x_22))).bind fun v7 => (geti v7.l b).bind fun x_24 => (geti v7.l c).bind fun x_25 => (m_r04_turn (x_24 ^^^ x_25) (7 : Int)).bind fun r_4 => (geti v7.l b).bind fun x_26 => (some (vst v7 b r_4)).bind fun v8 => some (v8, (0 : Int)))
theorem c_r04_G {F O : Nat → Prop} {w : World} (v : Vec UInt32 16) (a_ : Int) (b : Int) (c : Int) (d : Int) (x_ : UInt32) (y_ : UInt32) (k : Cx F O w w []) (r : (Vec UInt32 16 × Int)) (hm : m_r04_G v a_ b c d x_ y_ = some r) :
    Calls Tryz.prog 130 (vals [.agg [.ar e32 v], I a_, I b, I c, I d, .u32 x_, .u32 y_]) w (fun e w' => e = .returned (SV.val (.tup [.agg [.ar e32 r.1], I r.2])) ∧ Cx F O w w' []) := by
 unfold m_r04_G at hm
 refine calls [.agg [.ar e32 v], I a_, I b, I c, I d, .u32 x_, .u32 y_] Tryz.func130 rfl (of_decide_eq_true (by kernel_rfl)) ?_
 refine W_seq <| W_reg <| WL_op <| Op_box [] 7 (.agg [.ar e32 v]) [.ar e32 v] (by kernel_rfl) k ?_
 intro g w_ k_
 refine WL_op <| Op_alloc [] 14 [.ar e32 (Vec.rep 16 (0 : UInt32))] (by kernel_rfl) k_ ?_
 intro g1 w_1 k_1
 refine WLs 1 [] (.kk (.s .a)) qe (by kernel_rfl) ?_
 refine WL_nil <| At_go <| W_seq <| W_seq <| W_reg <| WLs 4 [] (.n 16 (I a_) (.n 17 (I b) (.n 18 (I c) (.n 19 (I d) .a)))) qe (by kernel_rfl) ?_
 refine WL_op ?_
 obtain ⟨r_, h_r_, hm⟩ := ob hm
 refine Op_call [] 20 _ yz_go141 (by kernel_rfl) (c_r04_places (F := N0) (O := N0) _ _ _ _ (Cx.refl _) _ h_r_) ?_
 rintro e_ w_2 ⟨rfl, k_2⟩
 have k_3 := k_1.call k_2
 refine ⟨.b r_, rfl, ?_⟩
 refine WLs 1 [] (.n 21 (.b (!r_)) (.ssss (.s .a))) qe (by kernel_rfl) ?_
 refine WL_nil <| At_go <| W_cond (!r_) (by kernel_rfl) (fun hc => ?_) (fun hc => ?_)
 · rw [if_pos hc] at hm
   refine W_seq <| W_reg <| WLs 1 [] (.n 22 (.agg [.ar e32 (Vec.rep 16 ((0 : UInt32) : UInt32))]) (.s (.k .z))) qe (by kernel_rfl) ?_
   refine WL_op <| Op_b [] 1 (.agg [.ar e32 (Vec.rep 16 ((0 : UInt32) : UInt32))]) [.ar e32 (Vec.rep 16 ((0 : UInt32) : UInt32))] (Pt.at g1 0) k_3 rfl .all (by kernel_rfl) (by kernel_rfl) ?_
   intro w_3 k_4
   have k_5 := k_4.sel (.s (.k .e))
   refine WLs 1 [] (.n 15 (I 1) (.s .a)) qe (by kernel_rfl) ?_
   refine WL_nil <| At_go <| W_ret (At_tr ?_)
   obtain rfl := Option.some.inj hm
   refine At_rt [.agg [.ar e32 (Vec.rep 16 ((0 : UInt32) : UInt32))], I 1] (qo (.agg [.ar e32 (Vec.rep 16 ((0 : UInt32) : UInt32))]) <| qc (fun w => Rd w (some ⟨g1, 0, none⟩) (SV.cl [.ar e32 (Vec.rep 16 ((0 : UInt32) : UInt32))])) (k_5.brd 0 rfl) <| qe) (by kernel_rfl) ?_
   have k_6 := k_5.sel .z
   exact ⟨rfl, k_6⟩
 rw [if_neg (by rw [hc]; decide)] at hm
 refine W_skip <| At_go <| W_seq ?_
 have k_7 := k_3.drew 1
 refine W_m yz_mixed (.q 0 0 (.q 1 0 (.q 2 0 (.q 3 0 (.q 4 0 (.q 5 0 (.q 6 0 (.q 7 0 (.q 8 0 (.q 9 0 (.q 10 0 (.op 11 .nil)))))))))))) [11] k_7 (.c (.s (.k .e)) .l) (by kernel_rfl) (fun _ => ?_)
 obtain ⟨x_3, h_x_3, hm⟩ := ob hm
 obtain ⟨x_4, h_x_4, hm⟩ := ob hm
 obtain ⟨x_5, h_x_5, hm⟩ := ob hm
 refine MXq 11 0 [] (.n 32 (.u32 ((x_3 + x_4) + x_)) (.n 33 (.v (.pointer (ixA (some ⟨g, 0, none⟩) a_ 1))) (.s (.kkkk (.kk (.s .a)))))) (fun x hx => qV (hx.vrd 0 rfl e32 v 0 (by kernel_rfl)) h_x_3 rfl (.u32 x_3) rfl <| qV (hx.vrd 0 rfl e32 v 0 (by kernel_rfl)) h_x_4 rfl (.u32 x_4) rfl <| qI g 0 h_x_5 <| qe) (by kernel_rfl) (fun _ => ?_)
 refine MX_op (by kernel_rfl) rfl ?_
 obtain ⟨v1, h_v1, hm⟩ := nm hm
 refine Op_vs (E := e32) (kk := 0) [] 0 (.u32 ((x_3 + x_4) + x_)) [.u32 ((x_3 + x_4) + x_)] h_v1 h_x_5 (Pt.ix0 (Pt.at g 0) a_ 1) k_7 rfl .h rfl (by kernel_rfl) (by kernel_rfl) ?_
 intro w_4 k_8
 refine ⟨(k_8.sel (.s (.k .e))), fun _ => ?_⟩
 refine MX_nil <| At_go <| W_seq ?_
 have k_9 := k_8.drew 1
 refine W_m yz_mixed (.q 0 1 (.q 1 1 (.q 2 1 (.q 3 1 (.q 4 1 (.q 5 1 (.q 6 1 (.q 7 0 (.op 8 (.q 9 1 (.op 10 .nil))))))))))) [8, 10] k_9 (.c (.kk .e) (.c (.s (.k .e)) .l)) (by kernel_rfl) (fun _ => ?_)
 obtain ⟨x_6, h_x_6, hm⟩ := ob hm
 obtain ⟨x_7, h_x_7, hm⟩ := ob hm
 refine MXq 7 1 [] (.n 34 (I d) (.n 37 (.u32 x_6) (.n 40 (.u32 x_7) (.ss .a)))) (fun x hx => qV (hx.vrd 0 rfl e32 v1 0 (by kernel_rfl)) h_x_6 rfl (.u32 x_6) rfl <| qV (hx.vrd 0 rfl e32 v1 0 (by kernel_rfl)) h_x_7 rfl (.u32 x_7) rfl <| qe) (by kernel_rfl) (fun _ => ?_)
 refine MXq 1 0 [] (.n 41 (.u32 (x_6 ^^^ x_7)) (.k (.ss .a))) (fun x hx => qe) (by kernel_rfl) (fun _ => ?_)
 refine MX_op (by kernel_rfl) rfl ?_
 have k_10 := k_9.sel (.kk .e)
 obtain ⟨r_1, h_r_1, hm⟩ := ob hm
 refine Op_call [] 42 _ yz_go142 (by kernel_rfl) (c_r04_turn (F := N0) (O := N0) _ _ (Cx.refl _) _ h_r_1) ?_
 rintro e_ w_5 ⟨rfl, k_11⟩
 have k_12 := k_10.call k_11
 refine ⟨.u32 r_1, rfl, ?_⟩
 refine ⟨k_12, fun _ => ?_⟩
 obtain ⟨x_8, h_x_8, hm⟩ := ob hm
 refine MXq 1 1 [] (.n 43 (.v (.pointer (ixA (some ⟨g, 0, none⟩) d 1))) (.k (.ss .a))) (fun x hx => qI g 0 h_x_8 <| qe) (by kernel_rfl) (fun _ => ?_)
 refine MX_op (by kernel_rfl) rfl ?_
 obtain ⟨v2, h_v2, hm⟩ := nm hm
 refine Op_vs (E := e32) (kk := 0) [] 0 (.u32 r_1) [.u32 r_1] h_v2 h_x_8 (Pt.ix0 (Pt.at g 0) d 1) k_12 rfl .h rfl (by kernel_rfl) (by kernel_rfl) ?_
 intro w_6 k_13
 refine ⟨(k_13.sel (.s (.k .e))), fun _ => ?_⟩
 refine MX_nil <| At_go <| W_seq ?_
 have k_14 := k_13.drew 1
 refine W_m yz_mixed (.q 0 0 (.q 1 0 (.q 2 0 (.q 3 0 (.q 4 0 (.q 5 0 (.q 6 0 (.q 7 0 (.q 8 0 (.op 9 .nil)))))))))) [9] k_14 (.c (.s (.k .e)) .l) (by kernel_rfl) (fun _ => ?_)
 obtain ⟨x_9, h_x_9, hm⟩ := ob hm
 obtain ⟨x_10, h_x_10, hm⟩ := ob hm
 obtain ⟨x_11, h_x_11, hm⟩ := ob hm
 refine MXq 9 0 [] (.n 51 (.u32 (x_9 + x_10)) (.n 52 (.v (.pointer (ixA (some ⟨g, 0, none⟩) c 1))) (.ss .a))) (fun x hx => qV (hx.vrd 0 rfl e32 v2 0 (by kernel_rfl)) h_x_9 rfl (.u32 x_9) rfl <| qV (hx.vrd 0 rfl e32 v2 0 (by kernel_rfl)) h_x_10 rfl (.u32 x_10) rfl <| qI g 0 h_x_11 <| qe) (by kernel_rfl) (fun _ => ?_)
 refine MX_op (by kernel_rfl) rfl ?_
 obtain ⟨v3, h_v3, hm⟩ := nm hm
 refine Op_vs (E := e32) (kk := 0) [] 0 (.u32 (x_9 + x_10)) [.u32 (x_9 + x_10)] h_v3 h_x_11 (Pt.ix0 (Pt.at g 0) c 1) k_14 rfl .h rfl (by kernel_rfl) (by kernel_rfl) ?_
 intro w_7 k_15
 refine ⟨(k_15.sel (.s (.k .e))), fun _ => ?_⟩
 refine MX_nil <| At_go <| W_seq ?_
 have k_16 := k_15.drew 1
 refine W_m yz_mixed (.q 0 1 (.q 1 1 (.q 2 1 (.q 3 1 (.q 4 1 (.q 5 1 (.q 6 1 (.q 7 0 (.op 8 (.q 9 1 (.op 10 .nil))))))))))) [8, 10] k_16 (.c (.kk .e) (.c (.s (.k .e)) .l)) (by kernel_rfl) (fun _ => ?_)
 obtain ⟨x_12, h_x_12, hm⟩ := ob hm
 obtain ⟨x_13, h_x_13, hm⟩ := ob hm
 refine MXq 7 1 [] (.n 53 (I b) (.n 56 (.u32 x_12) (.n 59 (.u32 x_13) (.ss .a)))) (fun x hx => qV (hx.vrd 0 rfl e32 v3 0 (by kernel_rfl)) h_x_12 rfl (.u32 x_12) rfl <| qV (hx.vrd 0 rfl e32 v3 0 (by kernel_rfl)) h_x_13 rfl (.u32 x_13) rfl <| qe) (by kernel_rfl) (fun _ => ?_)
 refine MXq 1 0 [] (.n 60 (.u32 (x_12 ^^^ x_13)) (.k (.ss .a))) (fun x hx => qe) (by kernel_rfl) (fun _ => ?_)
 refine MX_op (by kernel_rfl) rfl ?_
 obtain ⟨r_2, h_r_2, hm⟩ := ob hm
 refine Op_call [] 61 _ yz_go142 (by kernel_rfl) (c_r04_turn (F := N0) (O := N0) _ _ (Cx.refl _) _ h_r_2) ?_
 rintro e_ w_8 ⟨rfl, k_17⟩
 have k_18 := k_16.call k_17
 refine ⟨.u32 r_2, rfl, ?_⟩
 refine ⟨k_18, fun _ => ?_⟩
 obtain ⟨x_14, h_x_14, hm⟩ := ob hm
 refine MXq 1 1 [] (.n 62 (.v (.pointer (ixA (some ⟨g, 0, none⟩) b 1))) (.k (.ss .a))) (fun x hx => qI g 0 h_x_14 <| qe) (by kernel_rfl) (fun _ => ?_)
 refine MX_op (by kernel_rfl) rfl ?_
 have k_19 := k_18.sel (.kk .e)
 obtain ⟨v4, h_v4, hm⟩ := nm hm
 refine Op_vs (E := e32) (kk := 0) [] 0 (.u32 r_2) [.u32 r_2] h_v4 h_x_14 (Pt.ix0 (Pt.at g 0) b 1) k_19 rfl .h rfl (by kernel_rfl) (by kernel_rfl) ?_
 intro w_9 k_20
 refine ⟨(k_20.sel (.s (.k .e))), fun _ => ?_⟩
 refine MX_nil <| At_go <| W_seq ?_
 have k_21 := k_20.drew 1
 refine W_m yz_mixed (.q 0 0 (.q 1 0 (.q 2 0 (.q 3 0 (.q 4 0 (.q 5 0 (.q 6 0 (.q 7 0 (.q 8 0 (.q 9 0 (.q 10 0 (.op 11 .nil)))))))))))) [11] k_21 (.c (.s (.k .e)) .l) (by kernel_rfl) (fun _ => ?_)
 obtain ⟨x_15, h_x_15, hm⟩ := ob hm
 obtain ⟨x_16, h_x_16, hm⟩ := ob hm
 obtain ⟨x_17, h_x_17, hm⟩ := ob hm
 refine MXq 11 0 [] (.n 72 (.u32 ((x_15 + x_16) + y_)) (.n 73 (.v (.pointer (ixA (some ⟨g, 0, none⟩) a_ 1))) (.ss (.kkkk (.kk .z))))) (fun x hx => qV (hx.vrd 0 rfl e32 v4 0 (by kernel_rfl)) h_x_15 rfl (.u32 x_15) rfl <| qV (hx.vrd 0 rfl e32 v4 0 (by kernel_rfl)) h_x_16 rfl (.u32 x_16) rfl <| qI g 0 h_x_17 <| qe) (by kernel_rfl) (fun _ => ?_)
 refine MX_op (by kernel_rfl) rfl ?_
 obtain ⟨v5, h_v5, hm⟩ := nm hm
 refine Op_vs (E := e32) (kk := 0) [] 0 (.u32 ((x_15 + x_16) + y_)) [.u32 ((x_15 + x_16) + y_)] h_v5 h_x_17 (Pt.ix0 (Pt.at g 0) a_ 1) k_21 rfl .h rfl (by kernel_rfl) (by kernel_rfl) ?_
 intro w_10 k_22
 refine ⟨(k_22.sel (.s (.k .e))), fun _ => ?_⟩
 refine MX_nil <| At_go <| W_seq ?_
 have k_23 := k_22.drew 1
 refine W_m yz_mixed (.q 0 1 (.q 1 1 (.q 2 1 (.q 3 1 (.q 4 1 (.q 5 1 (.q 6 1 (.q 7 0 (.op 8 (.q 9 1 (.op 10 .nil))))))))))) [8, 10] k_23 (.c (.kk .e) (.c (.s (.k .e)) .l)) (by kernel_rfl) (fun _ => ?_)
 obtain ⟨x_18, h_x_18, hm⟩ := ob hm
 obtain ⟨x_19, h_x_19, hm⟩ := ob hm
 refine MXq 7 1 [] (.n 74 (I d) (.n 77 (.u32 x_18) (.n 80 (.u32 x_19) (.ss (.kk (.s .a)))))) (fun x hx => qV (hx.vrd 0 rfl e32 v5 0 (by kernel_rfl)) h_x_18 rfl (.u32 x_18) rfl <| qV (hx.vrd 0 rfl e32 v5 0 (by kernel_rfl)) h_x_19 rfl (.u32 x_19) rfl <| qe) (by kernel_rfl) (fun _ => ?_)
 refine MXq 1 0 [] (.n 81 (.u32 (x_18 ^^^ x_19)) (.k (.ss .a))) (fun x hx => qe) (by kernel_rfl) (fun _ => ?_)
 refine MX_op (by kernel_rfl) rfl ?_
 obtain ⟨r_3, h_r_3, hm⟩ := ob hm
 refine Op_call [] 82 _ yz_go142 (by kernel_rfl) (c_r04_turn (F := N0) (O := N0) _ _ (Cx.refl _) _ h_r_3) ?_
 rintro e_ w_11 ⟨rfl, k_24⟩
 have k_25 := k_23.call k_24
 refine ⟨.u32 r_3, rfl, ?_⟩
 refine ⟨k_25, fun _ => ?_⟩
 obtain ⟨x_20, h_x_20, hm⟩ := ob hm
 refine MXq 1 1 [] (.n 83 (.v (.pointer (ixA (some ⟨g, 0, none⟩) d 1))) (.k (.ss .a))) (fun x hx => qI g 0 h_x_20 <| qe) (by kernel_rfl) (fun _ => ?_)
 refine MX_op (by kernel_rfl) rfl ?_
 obtain ⟨v6, h_v6, hm⟩ := nm hm
 refine Op_vs (E := e32) (kk := 0) [] 0 (.u32 r_3) [.u32 r_3] h_v6 h_x_20 (Pt.ix0 (Pt.at g 0) d 1) k_25 rfl .h rfl (by kernel_rfl) (by kernel_rfl) ?_
 intro w_12 k_26
 refine ⟨(k_26.sel (.s (.k .e))), fun _ => ?_⟩
 refine MX_nil <| At_go <| W_seq ?_
 have k_27 := k_26.drew 1
 refine W_m yz_mixed (.q 0 0 (.q 1 0 (.q 2 0 (.q 3 0 (.q 4 0 (.q 5 0 (.q 6 0 (.q 7 0 (.q 8 0 (.op 9 .nil)))))))))) [9] k_27 (.c (.s (.k .e)) .l) (by kernel_rfl) (fun _ => ?_)
 obtain ⟨x_21, h_x_21, hm⟩ := ob hm
 obtain ⟨x_22, h_x_22, hm⟩ := ob hm
 obtain ⟨x_23, h_x_23, hm⟩ := ob hm
 refine MXq 9 0 [] (.n 91 (.u32 (x_21 + x_22)) (.n 92 (.v (.pointer (ixA (some ⟨g, 0, none⟩) c 1))) (.ss (.kkkk .z)))) (fun x hx => qV (hx.vrd 0 rfl e32 v6 0 (by kernel_rfl)) h_x_21 rfl (.u32 x_21) rfl <| qV (hx.vrd 0 rfl e32 v6 0 (by kernel_rfl)) h_x_22 rfl (.u32 x_22) rfl <| qI g 0 h_x_23 <| qe) (by kernel_rfl) (fun _ => ?_)
 refine MX_op (by kernel_rfl) rfl ?_
 have k_28 := k_27.sel (.kk .e)
 obtain ⟨v7, h_v7, hm⟩ := nm hm
 refine Op_vs (E := e32) (kk := 0) [] 0 (.u32 (x_21 + x_22)) [.u32 (x_21 + x_22)] h_v7 h_x_23 (Pt.ix0 (Pt.at g 0) c 1) k_28 rfl .h rfl (by kernel_rfl) (by kernel_rfl) ?_
 intro w_13 k_29
 refine ⟨(k_29.sel (.s (.k .e))), fun _ => ?_⟩
 refine MX_nil <| At_go <| W_seq ?_
 have k_30 := k_29.drew 1
 refine W_m yz_mixed (.q 0 1 (.q 1 1 (.q 2 1 (.q 3 1 (.q 4 1 (.q 5 1 (.q 6 1 (.q 7 0 (.op 8 (.q 9 1 (.op 10 .nil))))))))))) [8, 10] k_30 (.c (.kk .e) (.c (.s (.k .e)) .l)) (by kernel_rfl) (fun _ => ?_)
 obtain ⟨x_24, h_x_24, hm⟩ := ob hm
 obtain ⟨x_25, h_x_25, hm⟩ := ob hm
 refine MXq 7 1 [] (.n 93 (I b) (.n 96 (.u32 x_24) (.n 99 (.u32 x_25) (.ss (.kk .z))))) (fun x hx => qV (hx.vrd 0 rfl e32 v7 0 (by kernel_rfl)) h_x_24 rfl (.u32 x_24) rfl <| qV (hx.vrd 0 rfl e32 v7 0 (by kernel_rfl)) h_x_25 rfl (.u32 x_25) rfl <| qe) (by kernel_rfl) (fun _ => ?_)
 refine MXq 1 0 [] (.n 100 (.u32 (x_24 ^^^ x_25)) (.k (.ss .a))) (fun x hx => qe) (by kernel_rfl) (fun _ => ?_)
 refine MX_op (by kernel_rfl) rfl ?_
 obtain ⟨r_4, h_r_4, hm⟩ := ob hm
 refine Op_call [] 101 _ yz_go142 (by kernel_rfl) (c_r04_turn (F := N0) (O := N0) _ _ (Cx.refl _) _ h_r_4) ?_
 rintro e_ w_14 ⟨rfl, k_31⟩
 have k_32 := k_30.call k_31
 refine ⟨.u32 r_4, rfl, ?_⟩
 refine ⟨k_32, fun _ => ?_⟩
 obtain ⟨x_26, h_x_26, hm⟩ := ob hm
 refine MXq 1 1 [] (.n 102 (.v (.pointer (ixA (some ⟨g, 0, none⟩) b 1))) (.k (.ss .a))) (fun x hx => qI g 0 h_x_26 <| qe) (by kernel_rfl) (fun _ => ?_)
 refine MX_op (by kernel_rfl) rfl ?_
 obtain ⟨v8, h_v8, hm⟩ := nm hm
 refine Op_vs (E := e32) (kk := 0) [] 0 (.u32 r_4) [.u32 r_4] h_v8 h_x_26 (Pt.ix0 (Pt.at g 0) b 1) k_32 rfl .h rfl (by kernel_rfl) (by kernel_rfl) ?_
 intro w_15 k_33
 refine ⟨(k_33.sel (.s (.k .e))), fun _ => ?_⟩
 refine MX_nil <| At_go <| W_seq <| W_reg <| WLs 1 [] (.n 103 (.agg [.ar e32 v8]) (.ss (.k .z))) (qT k_33 0 rfl 0 16 [.ar e32 v8] (by kernel_rfl) (by decide) <| qe) (by kernel_rfl) ?_
 refine WL_op <| Op_b [] 1 (.agg [.ar e32 v8]) [.ar e32 v8] (Pt.at g1 0) k_33 rfl .all (by kernel_rfl) (by kernel_rfl) ?_
 intro w_16 k_34
 have k_35 := k_34.sel (.s (.k .e))
 refine WLs 1 [] (.n 15 (I 0) (.s .a)) qe (by kernel_rfl) ?_
 refine WL_nil <| At_go <| W_ret ?_
 obtain rfl := Option.some.inj hm
 refine At_rt [.agg [.ar e32 v8], I 0] (qo (.agg [.ar e32 v8]) <| qc (fun w => Rd w (some ⟨g1, 0, none⟩) (SV.cl [.ar e32 v8])) (k_35.brd 0 rfl) <| qe) (by kernel_rfl) ?_
 have k_36 := k_35.sel .z
 exact ⟨rfl, k_36⟩

-- quern/quernref04.Round
noncomputable def m_r04_Round_l0 (m_ : Vec UInt32 16) (r_ : Int) : (Vec UInt32 16 × Int) → Option ((Vec UInt32 16 × Int) ⊕ (Vec UInt32 16 × Int))
  | (v1, i) => if i < 8 then ((m_r04_four i).bind fun r_1 => (m_r03_Sigma r_ (w64 (2 * i))).bind fun r_2 => (geti m_.l r_2).bind fun x_0 => (m_r03_Sigma r_ (w64 ((w64 (2 * i)) + 1))).bind fun r_3 => (geti m_.l r_3).bind fun x_2 => (m_r04_G v1 r_1.1 r_1.2.1 r_1.2.2.1 r_1.2.2.2 x_0 x_2).bind fun r_4 => some (.inl (r_4.1, w64 (i + 1)))) else (Option.map Sum.inr (some (v1, (0 : Int))))
noncomputable def m_r04_Round (v : Vec UInt32 16) (m_ : Vec UInt32 16) (r_ : Int) : Option (Vec UInt32 16 × Int) :=
  if ((decide (r_ < 0)) || (decide (9 < r_))) = true then (some ((Vec.rep 16 ((0 : UInt32) : UInt32)), (1 : Int))) else (whileO (m_r04_Round_l0 m_ r_) (v, (0 : Int)))
theorem c_r04_Round {F O : Nat → Prop} {w : World} (v : Vec UInt32 16) (m_ : Vec UInt32 16) (r_ : Int) (k : Cx F O w w []) (r : (Vec UInt32 16 × Int)) (hm : m_r04_Round v m_ r_ = some r) :
    Calls Tryz.prog 116 (vals [.agg [.ar e32 v], .agg [.ar e32 m_], I r_]) w (fun e w' => e = .returned (SV.val (.tup [.agg [.ar e32 r.1], I r.2])) ∧ Cx F O w w' []) := by
 unfold m_r04_Round at hm
 refine calls [.agg [.ar e32 v], .agg [.ar e32 m_], I r_] Tryz.func116 rfl (of_decide_eq_true (by kernel_rfl)) ?_
 refine W_seq <| W_reg <| WL_op <| Op_box [] 3 (.agg [.ar e32 v]) [.ar e32 v] (by kernel_rfl) k ?_
 intro g w_ k_
 refine WL_op <| Op_box [] 4 (.agg [.ar e32 m_]) [.ar e32 m_] (by kernel_rfl) k_ ?_
 intro g1 w_1 k_1
 refine WL_op <| Op_alloc [] 6 [.ar e32 (Vec.rep 16 (0 : UInt32))] (by kernel_rfl) k_1 ?_
 intro g2 w_2 k_2
 refine WLs 1 [] (.kkk (.ss .a)) qe (by kernel_rfl) ?_
 refine WL_nil <| At_go <| W_seq <| W_seq <| W_q [] (.n 18 (.b ((decide (r_ < 0)) || (decide (9 < r_)))) .a) qe (by kernel_rfl) ?_
 refine At_go <| W_cond ((decide (r_ < 0)) || (decide (9 < r_))) (by kernel_rfl) (fun hc => ?_) (fun hc => ?_)
 · rw [if_pos hc] at hm
   refine W_seq <| W_reg <| WLs 1 [] (.n 19 (.agg [.ar e32 (Vec.rep 16 ((0 : UInt32) : UInt32))]) (.s (.k .z))) qe (by kernel_rfl) ?_
   refine WL_op <| Op_b [] 2 (.agg [.ar e32 (Vec.rep 16 ((0 : UInt32) : UInt32))]) [.ar e32 (Vec.rep 16 ((0 : UInt32) : UInt32))] (Pt.at g2 0) k_2 rfl .all (by kernel_rfl) (by kernel_rfl) ?_
   intro w_3 k_3
   have k_4 := k_3.sel (.ss (.k .e))
   refine WLs 1 [] (.n 7 (I 1) (.s .a)) qe (by kernel_rfl) ?_
   refine WL_nil <| At_go <| W_ret (At_tr ?_)
   obtain rfl := Option.some.inj hm
   refine At_rt [.agg [.ar e32 (Vec.rep 16 ((0 : UInt32) : UInt32))], I 1] (qo (.agg [.ar e32 (Vec.rep 16 ((0 : UInt32) : UInt32))]) <| qc (fun w => Rd w (some ⟨g2, 0, none⟩) (SV.cl [.ar e32 (Vec.rep 16 ((0 : UInt32) : UInt32))])) (k_4.brd 0 rfl) <| qe) (by kernel_rfl) ?_
   have k_5 := k_4.sel .z
   exact ⟨rfl, k_5⟩
 rw [if_neg (by rw [hc]; decide)] at hm
 refine W_skip <| At_go <| W_seq <| W_seq <| W_q [] (.n 8 (I 0) (.s .a)) qe (by kernel_rfl) ?_
 refine At_go <| W_block <| W_lp (m_r04_Round_l0 m_ r_) (fun s L wr => ∃ (v1 : Vec UInt32 16) (i : Int), (v1, i) = s ∧ L = [(2, I r_), (3, pt g 0), (4, pt g1 0), (6, pt g2 0), (8, I i)] ∧ Cx F O w wr [Bx 155 g [.ar e32 v1], Bx 155 g1 [.ar e32 m_], Bx 155 g2 [.ar e32 (Vec.rep 16 (0 : UInt32))]]) (v, (0 : Int)) r hm ⟨v, (0 : Int), rfl, rfl, k_2⟩ (by kernel_rfl) ?_
 intro s0_ L_ w_4 y0 hrel hstep hr0
 obtain ⟨v1, i, rfl, rfl, k_6⟩ := hrel
 have hm := hstep; simp only [m_r04_Round_l0] at hm
 clear hstep
 refine W_seq <| W_seq <| W_q [] (.n 21 (.b (decide (i < 8))) .a) qe (by kernel_rfl) ?_
 refine At_go <| W_condp (i < 8) (by kernel_rfl) (fun hc1 => ?_) (fun hc1 => ?_)
 · rw [if_pos hc1] at hm
   refine W_skip <| At_go <| W_seq <| W_block <| W_seq <| W_reg <| WLs 1 [] (.n 25 (I i) (.s .a)) qe (by kernel_rfl) ?_
   refine WL_op ?_
   obtain ⟨r_1, h_r_1, hm⟩ := ob hm
   refine Op_call [] 26 _ yz_go129 (by kernel_rfl) (c_r04_four (F := N0) (O := N0) _ (Cx.refl _) _ h_r_1) ?_
   rintro e_ w_5 ⟨rfl, k_7⟩
   have k_8 := k_6.call k_7
   refine ⟨.tup [I r_1.1, I r_1.2.1, I r_1.2.2.1, I r_1.2.2.2], rfl, ?_⟩
   refine WLs 9 [] (.n 9 (I r_1.1) (.n 10 (I r_1.2.1) (.n 11 (I r_1.2.2.1) (.n 12 (I r_1.2.2.2) (.ss .a))))) qe (by kernel_rfl) ?_
   refine WL_nil <| At_go ?_
   have k_9 := k_8.drew 1
   refine W_m yz_mixed (.q 0 2 (.q 1 2 (.q 2 2 (.q 3 2 (.q 4 2 (.q 5 2 (.q 11 2 (.q 6 3 (.q 7 2 (.q 12 3 (.q 13 3 (.q 14 2 (.op 8 (.q 9 3 (.q 10 2 (.op 15 (.q 16 3 (.q 17 2 (.op 18 (.q 19 3 (.q 20 3 (.q 21 4 (.op 22 .nil))))))))))))))))))))))) [8, 15, 18, 22] k_9 (.c (.kk (.k .e)) (.c (.kk (.k .e)) (.c (.kk (.k .e)) (.c (.s (.kk .e)) .l)))) (by kernel_rfl) (fun _ => ?_)
   refine MXq 7 2 [] (.n 32 (.agg [.ar e32 v1]) (.n 33 (I r_1.1) (.n 34 (I r_1.2.1) (.n 35 (I r_1.2.2.1) (.n 36 (I r_1.2.2.2) (.n 37 (I r_) (.n 43 (I r_) (.ssss .a)))))))) (fun x hx => qT hx 0 rfl 0 16 [.ar e32 v1] (by kernel_rfl) (by decide) <| qe) (by kernel_rfl) (fun _ => ?_)
   refine MXq 1 3 [] (.n 38 (I i) .a) (fun x hx => qe) (by kernel_rfl) (fun _ => ?_)
   refine MXq 1 2 [] (.n 39 (I (w64 (2 * i))) (.s .a)) (fun x hx => qe) (by kernel_rfl) (fun _ => ?_)
   refine MXq 2 3 [] (.n 45 (I (w64 (2 * i))) .a) (fun x hx => qe) (by kernel_rfl) (fun _ => ?_)
   refine MXq 1 2 [] (.n 46 (I (w64 ((w64 (2 * i)) + 1))) (.s .a)) (fun x hx => qe) (by kernel_rfl) (fun _ => ?_)
   refine MX_op (by kernel_rfl) rfl ?_
   obtain ⟨r_2, h_r_2, hm⟩ := ob hm
   refine Op_call [] 40 _ yz_go128 (by kernel_rfl) (c_r03_Sigma (F := N0) (O := N0) _ _ (Cx.refl _) _ h_r_2) ?_
   rintro e_ w_6 ⟨rfl, k_10⟩
   have k_11 := k_9.call k_10
   refine ⟨I r_2, rfl, ?_⟩
   refine ⟨k_11, fun _ => ?_⟩
   obtain ⟨x_0, h_x_0, hm⟩ := ob hm
   refine MXq 1 3 [] (.n 41 (.v (.pointer (ixA (some ⟨g1, 0, none⟩) r_2 1))) (.s (.k (.s (.kkkk (.k (.s .a))))))) (fun x hx => qI g1 0 h_x_0 <| qe) (by kernel_rfl) (fun _ => ?_)
   refine MXq 1 2 [] (.n 42 (.u32 x_0) (.s .a)) (fun x hx => qC (.u32 x_0) (Rd.el (k := 0) (hx.vrd 1 rfl e32 m_ 0 (by kernel_rfl)) h_x_0 (Pt.ix1 (some ⟨g1, 0, none⟩) r_2 1) rfl) <| qe) (by kernel_rfl) (fun _ => ?_)
   refine MX_op (by kernel_rfl) rfl ?_
   obtain ⟨r_3, h_r_3, hm⟩ := ob hm
   refine Op_call [] 47 _ yz_go128 (by kernel_rfl) (c_r03_Sigma (F := N0) (O := N0) _ _ (Cx.refl _) _ h_r_3) ?_
   rintro e_ w_7 ⟨rfl, k_12⟩
   have k_13 := k_11.call k_12
   refine ⟨I r_3, rfl, ?_⟩
   refine ⟨k_13, fun _ => ?_⟩
   obtain ⟨x_2, h_x_2, hm⟩ := ob hm
   refine MXq 1 3 [] (.n 48 (.v (.pointer (ixA (some ⟨g1, 0, none⟩) r_3 1))) (.s (.k (.s (.kkkk (.k (.s .a))))))) (fun x hx => qI g1 0 h_x_2 <| qe) (by kernel_rfl) (fun _ => ?_)
   refine MXq 1 2 [] (.n 49 (.u32 x_2) (.s .a)) (fun x hx => qC (.u32 x_2) (Rd.el (k := 0) (hx.vrd 1 rfl e32 m_ 0 (by kernel_rfl)) h_x_2 (Pt.ix1 (some ⟨g1, 0, none⟩) r_3 1) rfl) <| qe) (by kernel_rfl) (fun _ => ?_)
   refine MX_op (by kernel_rfl) rfl ?_
   obtain ⟨r_4, h_r_4, hm⟩ := ob hm
   refine Op_call [] 50 _ yz_go130 (by kernel_rfl) (c_r04_G (F := N0) (O := N0) _ _ _ _ _ _ _ (Cx.refl _) _ h_r_4) ?_
   rintro e_ w_8 ⟨rfl, k_14⟩
   have k_15 := k_13.call k_14
   refine ⟨.tup [.agg [.ar e32 r_4.1], I r_4.2], rfl, ?_⟩
   refine ⟨k_15, fun _ => ?_⟩
   refine MXq 2 3 [] (.n 31 (.tup [.agg [.ar e32 r_4.1], I r_4.2]) (.n 51 (.agg [.ar e32 r_4.1]) (.ssss (.ssss .a)))) (fun x hx => qe) (by kernel_rfl) (fun _ => ?_)
   refine MXq 1 4 [] (.s .a) (fun x hx => qe) (by kernel_rfl) (fun _ => ?_)
   refine MX_op (by kernel_rfl) rfl ?_
   have k_16 := k_15.sel (.kk (.k .e))
   refine Op_b [] 0 (.agg [.ar e32 r_4.1]) [.ar e32 r_4.1] (Pt.at g 0) k_16 rfl .all (by kernel_rfl) (by kernel_rfl) ?_
   intro w_9 k_17
   refine ⟨(k_17.sel (.s (.kk .e))), fun _ => ?_⟩
   refine MX_nil <| At_in <| At_go <| W_q [] (.n 8 (I (w64 (i + 1))) (.s (.kkkk .z))) qe (by kernel_rfl) ?_
   exact At_rd (r_4.1, w64 (i + 1)) (Option.some.inj hm).symm ⟨r_4.1, w64 (i + 1), rfl, rfl, k_17⟩ (by kernel_rfl)
 rw [if_neg hc1] at hm
 refine W_exit (At_te (At_te (At_ie ?_)))
 have hm := exit_of hm hr0
 refine At_go <| W_seq <| W_reg <| WLs 1 [] (.n 53 (.agg [.ar e32 v1]) (.ssss (.k .z))) (qT k_6 0 rfl 0 16 [.ar e32 v1] (by kernel_rfl) (by decide) <| qe) (by kernel_rfl) ?_
 refine WL_op <| Op_b [] 2 (.agg [.ar e32 v1]) [.ar e32 v1] (Pt.at g2 0) k_6 rfl .all (by kernel_rfl) (by kernel_rfl) ?_
 intro w_10 k_18
 have k_19 := k_18.sel (.ss (.k .e))
 refine WLs 1 [] (.n 7 (I 0) (.s .a)) qe (by kernel_rfl) ?_
 refine WL_nil <| At_go <| W_ret ?_
 obtain rfl := Option.some.inj hm
 refine At_rt [.agg [.ar e32 v1], I 0] (qo (.agg [.ar e32 v1]) <| qc (fun w => Rd w (some ⟨g2, 0, none⟩) (SV.cl [.ar e32 v1])) (k_19.brd 0 rfl) <| qe) (by kernel_rfl) ?_
 have k_20 := k_19.sel .z
 exact ⟨rfl, k_20⟩

-- quern/quernref04.End
noncomputable def m_r04_End_l0 (v : Vec UInt32 16) : (Vec UInt32 8 × Int) → Option ((Vec UInt32 8 × Int) ⊕ (Vec UInt32 8))
  | (h1, i) => if i < 8 then ((geti h1.l i).bind fun x_0 => (geti v.l i).bind fun x_1 => (geti v.l (w64 (i + 8))).bind fun x_2 => (geti h1.l i).bind fun x_3 => (some (vst h1 i ((x_0 ^^^ x_1) ^^^ x_2))).bind fun v1 => some (.inl (v1, w64 (i + 1)))) else (Option.map Sum.inr (some h1))
noncomputable def m_r04_End (h : Vec UInt32 8) (v : Vec UInt32 16) : Option (Vec UInt32 8) :=
  whileO (m_r04_End_l0 v) (h, (0 : Int))
theorem c_r04_End {F O : Nat → Prop} {w : World} (h : Vec UInt32 8) (v : Vec UInt32 16) (k : Cx F O w w []) (r : (Vec UInt32 8)) (hm : m_r04_End h v = some r) :
    Calls Tryz.prog 117 (vals [.agg [.ar e32 h], .agg [.ar e32 v]]) w (fun e w' => e = .returned (SV.val (.agg [.ar e32 r])) ∧ Cx F O w w' []) := by
 unfold m_r04_End at hm
 refine calls [.agg [.ar e32 h], .agg [.ar e32 v]] Tryz.func117 rfl (of_decide_eq_true (by kernel_rfl)) ?_
 refine W_seq <| W_reg <| WL_op <| Op_box [] 2 (.agg [.ar e32 h]) [.ar e32 h] (by kernel_rfl) k ?_
 intro g w_ k_
 refine WL_op <| Op_box [] 3 (.agg [.ar e32 v]) [.ar e32 v] (by kernel_rfl) k_ ?_
 intro g1 w_1 k_1
 refine WL_op <| Op_alloc [] 4 [.ar e32 (Vec.rep 8 (0 : UInt32))] (by kernel_rfl) k_1 ?_
 intro g2 w_2 k_2
 refine WL_nil <| At_go <| W_seq <| W_seq <| W_q [] (.n 5 (I 0) (.kkk .z)) qe (by kernel_rfl) ?_
 refine At_go <| W_block <| W_lp (m_r04_End_l0 v) (fun s L wr => ∃ (h1 : Vec UInt32 8) (i : Int), (h1, i) = s ∧ L = [(2, pt g 0), (3, pt g1 0), (4, pt g2 0), (5, I i)] ∧ Cx F O w wr [Bx 154 g [.ar e32 h1], Bx 155 g1 [.ar e32 v], Bx 154 g2 [.ar e32 (Vec.rep 8 (0 : UInt32))]]) (h, (0 : Int)) r hm ⟨h, (0 : Int), rfl, rfl, k_2⟩ (by kernel_rfl) ?_
 intro s0_ L_ w_3 y0 hrel hstep hr0
 obtain ⟨h1, i, rfl, rfl, k_3⟩ := hrel
 have hm := hstep; simp only [m_r04_End_l0] at hm
 clear hstep
 refine W_seq <| W_seq <| W_q [] (.n 7 (.b (decide (i < 8))) .a) qe (by kernel_rfl) ?_
 refine At_go <| W_condp (i < 8) (by kernel_rfl) (fun hc => ?_) (fun hc => ?_)
 · rw [if_pos hc] at hm
   refine W_skip <| At_go <| W_seq <| W_block ?_
   have k_4 := k_3.drew 1
   refine W_m yz_mixed (.q 0 0 (.q 1 0 (.q 2 0 (.q 3 0 (.q 4 0 (.q 5 0 (.q 6 0 (.q 7 0 (.q 8 0 (.q 9 0 (.q 10 0 (.q 11 0 (.q 12 0 (.q 13 0 (.op 14 .nil))))))))))))))) [14] k_4 (.c (.s (.kk .e)) .l) (by kernel_rfl) (fun _ => ?_)
   obtain ⟨x_0, h_x_0, hm⟩ := ob hm
   obtain ⟨x_1, h_x_1, hm⟩ := ob hm
   obtain ⟨x_2, h_x_2, hm⟩ := ob hm
   obtain ⟨x_3, h_x_3, hm⟩ := ob hm
   refine MXq 14 0 [] (.n 22 (.u32 ((x_0 ^^^ x_1) ^^^ x_2)) (.n 23 (.v (.pointer (ixA (some ⟨g, 0, none⟩) i 1))) (.s .a))) (fun x hx => qV (hx.vrd 0 rfl e32 h1 0 (by kernel_rfl)) h_x_0 rfl (.u32 x_0) rfl <| qV (hx.vrd 1 rfl e32 v 0 (by kernel_rfl)) h_x_1 rfl (.u32 x_1) rfl <| qV (hx.vrd 1 rfl e32 v 0 (by kernel_rfl)) h_x_2 rfl (.u32 x_2) rfl <| qI g 0 h_x_3 <| qe) (by kernel_rfl) (fun _ => ?_)
   refine MX_op (by kernel_rfl) rfl ?_
   obtain ⟨v1, h_v1, hm⟩ := nm hm
   refine Op_vs (E := e32) (kk := 0) [] 0 (.u32 ((x_0 ^^^ x_1) ^^^ x_2)) [.u32 ((x_0 ^^^ x_1) ^^^ x_2)] h_v1 h_x_3 (Pt.ix0 (Pt.at g 0) i 1) k_4 rfl .h rfl (by kernel_rfl) (by kernel_rfl) ?_
   intro w_4 k_5
   refine ⟨(k_5.sel (.s (.kk .e))), fun _ => ?_⟩
   refine MX_nil <| At_in <| At_go <| W_q [] (.n 5 (I (w64 (i + 1))) (.ss (.kkk .z))) qe (by kernel_rfl) ?_
   exact At_rd (v1, w64 (i + 1)) (Option.some.inj hm).symm ⟨v1, w64 (i + 1), rfl, rfl, k_5⟩ (by kernel_rfl)
 rw [if_neg hc] at hm
 refine W_exit (At_te (At_te (At_ie ?_)))
 have hm := exit_of hm hr0
 refine At_go <| W_seq <| W_reg <| WLs 1 [] (.n 24 (.agg [.ar e32 h1]) (.sss (.k .z))) (qT k_3 0 rfl 0 8 [.ar e32 h1] (by kernel_rfl) (by decide) <| qe) (by kernel_rfl) ?_
 refine WL_op <| Op_b [] 2 (.agg [.ar e32 h1]) [.ar e32 h1] (Pt.at g2 0) k_3 rfl .all (by kernel_rfl) (by kernel_rfl) ?_
 intro w_5 k_6
 have k_7 := k_6.sel (.ss (.k .e))
 refine WL_nil <| At_go <| W_ret ?_
 obtain rfl := Option.some.inj hm
 refine At_rt [.agg [.ar e32 h1]] (qo (.agg [.ar e32 h1]) <| qc (fun w => Rd w (some ⟨g2, 0, none⟩) (SV.cl [.ar e32 h1])) (k_7.brd 0 rfl) <| qe) (by kernel_rfl) ?_
 have k_8 := k_7.sel .z
 exact ⟨rfl, k_8⟩

-- quern/quernref04.F
noncomputable def m_r04_F_l0 (h : Vec UInt32 8) (m_ : Vec UInt32 16) : (Vec UInt32 16 × Int) → Option ((Vec UInt32 16 × Int) ⊕ (Vec UInt32 8))
  | (v, r_1) => if r_1 < 10 then ((m_r04_Round v m_ r_1).bind fun r_2 => some (.inl (r_2.1, w64 (r_1 + 1)))) else (Option.map Sum.inr ((m_r04_End h v).bind fun r_3 => some r_3))
noncomputable def m_r04_F (h : Vec UInt32 8) (m_ : Vec UInt32 16) (count : UInt64) (last : Bool) (node : Bool) : Option (Vec UInt32 8) :=
  (m_r04_Begin h count last node).bind fun r_ => whileO (m_r04_F_l0 h m_) (r_, (0 : Int))
theorem c_r04_F {F O : Nat → Prop} {w : World} (h : Vec UInt32 8) (m_ : Vec UInt32 16) (count : UInt64) (last : Bool) (node : Bool) (k : Cx F O w w []) (r : (Vec UInt32 8)) (hm : m_r04_F h m_ count last node = some r) :
    Calls Tryz.prog 97 (vals [.agg [.ar e32 h], .agg [.ar e32 m_], .u64 count, .b last, .b node]) w (fun e w' => e = .returned (SV.val (.agg [.ar e32 r])) ∧ Cx F O w w' []) := by
 unfold m_r04_F at hm
 refine calls [.agg [.ar e32 h], .agg [.ar e32 m_], .u64 count, .b last, .b node] Tryz.func97 rfl (of_decide_eq_true (by kernel_rfl)) ?_
 refine W_seq <| W_reg <| WL_op <| Op_box [] 5 (.agg [.ar e32 h]) [.ar e32 h] (by kernel_rfl) k ?_
 intro g w_ k_
 refine WL_op <| Op_box [] 6 (.agg [.ar e32 m_]) [.ar e32 m_] (by kernel_rfl) k_ ?_
 intro g1 w_1 k_1
 refine WL_op <| Op_alloc [] 10 [.ar e32 (Vec.rep 8 (0 : UInt32))] (by kernel_rfl) k_1 ?_
 intro g2 w_2 k_2
 refine WL_nil <| At_go <| W_seq <| W_reg <| WLs 4 [] (.n 13 (.agg [.ar e32 h]) (.n 14 (.u64 count) (.n 15 (.b last) (.n 16 (.b node) (.kkk .z))))) (qT k_2 0 rfl 0 8 [.ar e32 h] (by kernel_rfl) (by decide) <| qe) (by kernel_rfl) ?_
 refine WL_op ?_
 obtain ⟨r_, h_r_, hm⟩ := ob hm
 refine Op_call [] 17 _ yz_go115 (by kernel_rfl) (c_r04_Begin (F := N0) (O := N0) _ _ _ _ (Cx.refl _) _ h_r_) ?_
 rintro e_ w_3 ⟨rfl, k_3⟩
 have k_4 := k_2.call k_3
 refine ⟨.agg [.ar e32 r_], rfl, ?_⟩
 refine WL_op ?_
 have k_5 := k_4.sel (.kk (.k .e))
 refine Op_alloc [] 11 [.ar e32 (Vec.rep 16 (0 : UInt32))] (by kernel_rfl) k_5 ?_
 intro g3 w_4 k_6
 refine WL_op <| Op_b [] 3 (.agg [.ar e32 r_]) [.ar e32 r_] (Pt.at g3 0) k_6 rfl .all (by kernel_rfl) (by kernel_rfl) ?_
 intro w_5 k_7
 refine WL_nil <| At_go <| W_seq <| W_seq <| W_q [] (.n 12 (I 0) (.k (.ssss (.s .a)))) qe (by kernel_rfl) ?_
 refine At_go <| W_block <| W_lp (m_r04_F_l0 h m_) (fun s L wr => ∃ (v : Vec UInt32 16) (r_1 : Int), (v, r_1) = s ∧ L = [(5, pt g 0), (6, pt g1 0), (10, pt g2 0), (11, pt g3 0), (12, I r_1)] ∧ Cx F O w wr [Bx 154 g [.ar e32 h], Bx 155 g1 [.ar e32 m_], Bx 154 g2 [.ar e32 (Vec.rep 8 (0 : UInt32))], Bx 155 g3 [.ar e32 v]]) (r_, (0 : Int)) r hm ⟨r_, (0 : Int), rfl, rfl, k_7⟩ (by kernel_rfl) ?_
 intro s0_ L_ w_6 y0 hrel hstep hr0
 obtain ⟨v, r_1, rfl, rfl, k_8⟩ := hrel
 have hm := hstep; simp only [m_r04_F_l0] at hm
 clear hstep
 refine W_seq <| W_seq <| W_q [] (.n 19 (.b (decide (r_1 < 10))) .a) qe (by kernel_rfl) ?_
 refine At_go <| W_condp (r_1 < 10) (by kernel_rfl) (fun hc => ?_) (fun hc => ?_)
 · rw [if_pos hc] at hm
   refine W_skip <| At_go <| W_seq <| W_block <| W_reg <| WLs 3 [] (.n 23 (.agg [.ar e32 v]) (.n 24 (.agg [.ar e32 m_]) (.n 25 (I r_1) (.s .a)))) (qT k_8 3 rfl 0 16 [.ar e32 v] (by kernel_rfl) (by decide) <| qT k_8 1 rfl 0 16 [.ar e32 m_] (by kernel_rfl) (by decide) <| qe) (by kernel_rfl) ?_
   refine WL_op ?_
   obtain ⟨r_2, h_r_2, hm⟩ := ob hm
   refine Op_call [] 26 _ yz_go116 (by kernel_rfl) (c_r04_Round (F := N0) (O := N0) _ _ _ (Cx.refl _) _ h_r_2) ?_
   rintro e_ w_7 ⟨rfl, k_9⟩
   have k_10 := k_8.call k_9
   refine ⟨.tup [.agg [.ar e32 r_2.1], I r_2.2], rfl, ?_⟩
   refine WLs 3 [] (.n 27 (.agg [.ar e32 r_2.1]) (.ssss .a)) qe (by kernel_rfl) ?_
   refine WL_op <| Op_b [] 3 (.agg [.ar e32 r_2.1]) [.ar e32 r_2.1] (Pt.at g3 0) k_10 rfl .all (by kernel_rfl) (by kernel_rfl) ?_
   intro w_8 k_11
   refine WL_nil <| At_in <| At_go <| W_q [] (.n 12 (I (w64 (r_1 + 1))) (.s (.kkkk .z))) qe (by kernel_rfl) ?_
   exact At_rd (r_2.1, w64 (r_1 + 1)) (Option.some.inj hm).symm ⟨r_2.1, w64 (r_1 + 1), rfl, rfl, k_11⟩ (by kernel_rfl)
 rw [if_neg hc] at hm
 refine W_exit (At_te (At_te (At_ie ?_)))
 have hm := exit_of hm hr0
 refine At_go <| W_seq <| W_reg <| WLs 2 [] (.n 29 (.agg [.ar e32 h]) (.n 30 (.agg [.ar e32 v]) (.sss (.k .z)))) (qT k_8 0 rfl 0 8 [.ar e32 h] (by kernel_rfl) (by decide) <| qT k_8 3 rfl 0 16 [.ar e32 v] (by kernel_rfl) (by decide) <| qe) (by kernel_rfl) ?_
 refine WL_op ?_
 obtain ⟨r_3, h_r_3, hm⟩ := ob hm
 refine Op_call [] 31 _ yz_go117 (by kernel_rfl) (c_r04_End (F := N0) (O := N0) _ _ (Cx.refl _) _ h_r_3) ?_
 rintro e_ w_9 ⟨rfl, k_12⟩
 have k_13 := k_8.call k_12
 refine ⟨.agg [.ar e32 r_3], rfl, ?_⟩
 have k_14 := k_13.sel (.ss (.k .z))
 refine WL_op <| Op_b [] 0 (.agg [.ar e32 r_3]) [.ar e32 r_3] (Pt.at g2 0) k_14 rfl .all (by kernel_rfl) (by kernel_rfl) ?_
 intro w_10 k_15
 refine WL_nil <| At_go <| W_ret ?_
 obtain rfl := Option.some.inj hm
 refine At_rt [.agg [.ar e32 r_3]] (qo (.agg [.ar e32 r_3]) <| qc (fun w => Rd w (some ⟨g2, 0, none⟩) (SV.cl [.ar e32 r_3])) (k_15.brd 0 rfl) <| qe) (by kernel_rfl) ?_
 have k_16 := k_15.sel .z
 exact ⟨rfl, k_16⟩

-- quern/quernref05.in
noncomputable def m_r05_in_l1 (r_1 : (Vec UInt64 8)) : (Vec UInt64 16 × Int) → Option ((Vec UInt64 16 × Int) ⊕ (Vec UInt64 16))
  | (h1, i1) => if i1 < 8 then ((geti r_1.l i1).bind fun x_2 => (geti h1.l i1).bind fun x_3 => (some (vst h1 i1 x_2)).bind fun v1 => some (.inl (v1, w64 (i1 + 1)))) else (Option.map Sum.inr (some h1))
noncomputable def m_r05_in_l0 (h : Vec UInt64 16) (b : List UInt8) (lo : UInt64) (hi : UInt64) (last : Bool) (node : Bool) : (Vec UInt64 8 × Int) → Option ((Vec UInt64 8 × Int) ⊕ (Vec UInt64 16))
  | (s_, i) => if i < 8 then ((geti h.l i).bind fun x_0 => (geti s_.l i).bind fun x_1 => (some (vst s_ i x_0)).bind fun v => some (.inl (v, w64 (i + 1)))) else (Option.map Sum.inr ((m_r03_Words b).bind fun r_ => (m_r03_F s_ r_.1 lo hi last node).bind fun r_1 => whileO (m_r05_in_l1 r_1) (h, (0 : Int))))
noncomputable def m_r05_in_l3 (r_3 : (Vec UInt32 8)) : (Vec UInt64 16 × Int) → Option ((Vec UInt64 16 × Int) ⊕ (Vec UInt64 16))
  | (h2, i3) => if i3 < 8 then ((geti r_3.l i3).bind fun x_6 => (geti h2.l i3).bind fun x_7 => (some (vst h2 i3 (UInt64.ofNat x_6.toNat))).bind fun v3 => some (.inl (v3, w64 (i3 + 1)))) else (Option.map Sum.inr (some h2))
noncomputable def m_r05_in_l2 (h : Vec UInt64 16) (b : List UInt8) (lo : UInt64) (last : Bool) (node : Bool) : (Vec UInt32 8 × Int) → Option ((Vec UInt32 8 × Int) ⊕ (Vec UInt64 16))
  | (s_1, i2) => if i2 < 8 then ((geti h.l i2).bind fun x_4 => (geti s_1.l i2).bind fun x_5 => (some (vst s_1 i2 (UInt32.ofNat x_4.toNat))).bind fun v2 => some (.inl (v2, w64 (i2 + 1)))) else (Option.map Sum.inr ((m_r04_Words b).bind fun r_2 => (m_r04_F s_1 r_2.1 lo last node).bind fun r_3 => whileO (m_r05_in_l3 r_3) (h, (0 : Int))))
noncomputable def m_r05_in (kind : Int) (h : Vec UInt64 16) (b : List UInt8) (lo : UInt64) (hi : UInt64) (last : Bool) (node : Bool) : Option (Vec UInt64 16) :=
  if kind = 1 then (whileO (m_r05_in_l0 h b lo hi last node) ((Vec.rep 8 (0 : UInt64)), (0 : Int))) else (whileO (m_r05_in_l2 h b lo last node) ((Vec.rep 8 (0 : UInt32)), (0 : Int)))
theorem c_r05_in {F O : Nat → Prop} {w : World} (kind : Int) (h : Vec UInt64 16) (b : List UInt8) (lo : UInt64) (hi : UInt64) (last : Bool) (node : Bool) (A_b : Option Addr) (n_b : Nat) (c_b : Nat) (h_b : Ro F w A_b (e8.all b)) (hn_b : b.length = n_b) (hc_b : n_b ≤ c_b) (k : Cx F O w w []) (r : (Vec UInt64 16)) (hm : m_r05_in kind h b lo hi last node = some r) :
    Calls Tryz.prog 75 (vals [I kind, .agg [.ar e64 h], sl A_b n_b c_b, .u64 lo, .u64 hi, .b last, .b node]) w (fun e w' => e = .returned (SV.val (.agg [.ar e64 r])) ∧ Cx F O w w' []) := by
 unfold m_r05_in at hm
 subst hn_b
 refine calls [I kind, .agg [.ar e64 h], sl A_b b.length c_b, .u64 lo, .u64 hi, .b last, .b node] Tryz.func75 rfl (of_decide_eq_true (by kernel_rfl)) ?_
 refine W_seq <| W_reg <| WL_op <| Op_box [] 8 (.agg [.ar e64 h]) [.ar e64 h] (by kernel_rfl) k ?_
 intro g w_ k_
 refine WL_op <| Op_alloc [] 14 [.ar e64 (Vec.rep 16 (0 : UInt64))] (by kernel_rfl) k_ ?_
 intro g1 w_1 k_1
 refine WL_nil <| At_go <| W_seq <| W_seq <| W_q [] (.n 26 (.b (decide (kind = 1))) (.kk (.ss .a))) qe (by kernel_rfl) ?_
 refine At_go <| W_condp (kind = 1) (by kernel_rfl) (fun hc => ?_) (fun hc => ?_)
 · rw [if_pos hc] at hm
   refine W_seq <| W_reg <| WL_op <| Op_alloc [] 15 [.ar e64 (Vec.rep 8 (0 : UInt64))] (by kernel_rfl) k_1 ?_
   intro g2 w_2 k_2
   refine WL_nil <| At_go <| W_seq <| W_seq <| W_q [] (.n 16 (I 0) (.k (.s .a))) qe (by kernel_rfl) ?_
   refine At_go <| W_block <| W_lp (m_r05_in_l0 h b lo hi last node) (fun s L wr => ∃ (s_ : Vec UInt64 8) (i : Int), (s_, i) = s ∧ L = [(2, sl A_b b.length c_b), (3, .u64 lo), (4, .u64 hi), (5, .b last), (6, .b node), (8, pt g 0), (14, pt g1 0), (15, pt g2 0), (16, I i)] ∧ Cx F O w wr [Bx 108 g [.ar e64 h], Bx 108 g1 [.ar e64 (Vec.rep 16 (0 : UInt64))], Bx 150 g2 [.ar e64 s_]]) ((Vec.rep 8 (0 : UInt64)), (0 : Int)) r hm ⟨(Vec.rep 8 (0 : UInt64)), (0 : Int), rfl, rfl, k_2⟩ (by kernel_rfl) ?_
   intro s0_ L_ w_3 y0 hrel hstep hr0
   obtain ⟨s_, i, rfl, rfl, k_3⟩ := hrel
   have hm := hstep; simp only [m_r05_in_l0] at hm
   clear hstep
   refine W_seq <| W_seq <| W_q [] (.n 28 (.b (decide (i < 8))) .a) qe (by kernel_rfl) ?_
   refine At_go <| W_condp (i < 8) (by kernel_rfl) (fun hc1 => ?_) (fun hc1 => ?_)
   · rw [if_pos hc1] at hm
     refine W_skip <| At_go <| W_seq <| W_block <| W_reg ?_
     obtain ⟨x_0, h_x_0, hm⟩ := ob hm
     obtain ⟨x_1, h_x_1, hm⟩ := ob hm
     refine WLs 5 [] (.n 34 (.u64 x_0) (.n 35 (.v (.pointer (ixA (some ⟨g2, 0, none⟩) i 1))) (.s .a))) (qV (k_3.vrd 0 rfl e64 h 0 (by kernel_rfl)) h_x_0 rfl (.u64 x_0) rfl <| qI g2 0 h_x_1 <| qe) (by kernel_rfl) ?_
     refine WL_op ?_
     obtain ⟨v, h_v, hm⟩ := nm hm
     refine Op_vs (E := e64) (kk := 0) [] 2 (.u64 x_0) [.u64 x_0] h_v h_x_1 (Pt.ix0 (Pt.at g2 0) i 1) k_3 rfl .h rfl (by kernel_rfl) (by kernel_rfl) ?_
     intro w_4 k_4
     refine WL_nil <| At_in <| At_go <| W_q [] (.n 16 (I (w64 (i + 1))) (.ss (.kkkk (.kkkk .z)))) qe (by kernel_rfl) ?_
     exact At_rd (v, w64 (i + 1)) (Option.some.inj hm).symm ⟨v, w64 (i + 1), rfl, rfl, k_4⟩ (by kernel_rfl)
   rw [if_neg hc1] at hm
   refine W_exit (At_te (At_te (At_ie ?_)))
   have hm := exit_of hm hr0
   refine At_go <| W_seq <| W_reg <| WLs 1 [] (.n 37 (sl A_b b.length c_b) (.ss (.kkkk (.kkk .z)))) qe (by kernel_rfl) ?_
   refine WL_op ?_
   obtain ⟨r_, h_r_, hm⟩ := ob hm
   refine Op_call [] 38 _ yz_go94 (by kernel_rfl) (c_r03_Words (F := N0) (O := N0) _ _ _ _ (Ro.n0 (h_b.cx k_3)) rfl hc_b (Cx.refl _) _ h_r_) ?_
   rintro e_ w_5 ⟨rfl, k_5⟩
   have k_6 := k_3.call k_5
   refine ⟨.tup [.agg [.ar e64 r_.1], I r_.2], rfl, ?_⟩
   refine WLs 3 [] (.n 39 (.agg [.ar e64 r_.1]) (.n 40 (I r_.2) (.ss .a))) qe (by kernel_rfl) ?_
   refine WL_op <| Op_alloc [] 17 [.ar e64 (Vec.rep 16 (0 : UInt64))] (by kernel_rfl) k_6 ?_
   intro g3 w_6 k_7
   refine WL_op <| Op_b [] 3 (.agg [.ar e64 r_.1]) [.ar e64 r_.1] (Pt.at g3 0) k_7 rfl .all (by kernel_rfl) (by kernel_rfl) ?_
   intro w_7 k_8
   refine WLs 1 [] (.k (.ss .a)) qe (by kernel_rfl) ?_
   refine WL_nil <| At_go <| W_seq <| W_reg <| WLs 6 [] (.n 41 (.agg [.ar e64 s_]) (.n 42 (.agg [.ar e64 r_.1]) (.n 43 (.u64 lo) (.n 44 (.u64 hi) (.n 45 (.b last) (.n 46 (.b node) (.ssss (.s .a)))))))) (qT k_8 2 rfl 0 8 [.ar e64 s_] (by kernel_rfl) (by decide) <| qT k_8 3 rfl 0 16 [.ar e64 r_.1] (by kernel_rfl) (by decide) <| qe) (by kernel_rfl) ?_
   refine WL_op ?_
   obtain ⟨r_1, h_r_1, hm⟩ := ob hm
   refine Op_call [] 47 _ yz_go95 (by kernel_rfl) (c_r03_F (F := N0) (O := N0) _ _ _ _ _ _ (Cx.refl _) _ h_r_1) ?_
   rintro e_ w_8 ⟨rfl, k_9⟩
   have k_10 := k_8.call k_9
   refine ⟨.agg [.ar e64 r_1], rfl, ?_⟩
   have k_11 := k_10.sel (.kk (.k .z))
   refine WL_op ?_
   have k_12 := k_11.sel (.kk (.k .e))
   refine Op_b [] 2 (.agg [.ar e64 r_1]) [.ar e64 r_1] (Pt.at g2 0) k_12 rfl .all (by kernel_rfl) (by kernel_rfl) ?_
   intro w_9 k_13
   refine WL_nil <| At_go <| W_seq <| W_seq <| W_q [] (.n 19 (I 0) (.ssss (.sss .a))) qe (by kernel_rfl) ?_
   refine At_go <| W_block <| W_lp (m_r05_in_l1 r_1) (fun s L wr => ∃ (h1 : Vec UInt64 16) (i1 : Int), (h1, i1) = s ∧ L = [(8, pt g 0), (14, pt g1 0), (15, pt g2 0), (19, I i1)] ∧ Cx F O w wr [Bx 108 g [.ar e64 h1], Bx 108 g1 [.ar e64 (Vec.rep 16 (0 : UInt64))], Bx 150 g2 [.ar e64 r_1]]) (h, (0 : Int)) r hm ⟨h, (0 : Int), rfl, rfl, k_13⟩ (by kernel_rfl) ?_
   intro s0_ L_ w_10 y0 hrel hstep hr0
   obtain ⟨h1, i1, rfl, rfl, k_14⟩ := hrel
   have hm := hstep; simp only [m_r05_in_l1] at hm
   clear hstep
   refine W_seq <| W_seq <| W_q [] (.n 49 (.b (decide (i1 < 8))) .a) qe (by kernel_rfl) ?_
   refine At_go <| W_condp (i1 < 8) (by kernel_rfl) (fun hc2 => ?_) (fun hc2 => ?_)
   · rw [if_pos hc2] at hm
     refine W_skip <| At_go <| W_seq <| W_block <| W_reg ?_
     obtain ⟨x_2, h_x_2, hm⟩ := ob hm
     obtain ⟨x_3, h_x_3, hm⟩ := ob hm
     refine WLs 5 [] (.n 55 (.u64 x_2) (.n 56 (.v (.pointer (ixA (some ⟨g, 0, none⟩) i1 1))) (.s .a))) (qV (k_14.vrd 2 rfl e64 r_1 0 (by kernel_rfl)) h_x_2 rfl (.u64 x_2) rfl <| qI g 0 h_x_3 <| qe) (by kernel_rfl) ?_
     refine WL_op ?_
     obtain ⟨v1, h_v1, hm⟩ := nm hm
     refine Op_vs (E := e64) (kk := 0) [] 0 (.u64 x_2) [.u64 x_2] h_v1 h_x_3 (Pt.ix0 (Pt.at g 0) i1 1) k_14 rfl .h rfl (by kernel_rfl) (by kernel_rfl) ?_
     intro w_11 k_15
     refine WL_nil <| At_in <| At_go <| W_q [] (.n 19 (I (w64 (i1 + 1))) (.ss (.kkk .z))) qe (by kernel_rfl) ?_
     exact At_rd (v1, w64 (i1 + 1)) (Option.some.inj hm).symm ⟨v1, w64 (i1 + 1), rfl, rfl, k_15⟩ (by kernel_rfl)
   rw [if_neg hc2] at hm
   refine W_exit (At_te (At_te (At_ie ?_)))
   have hm := exit_of hm hr0
   refine At_go <| W_seq <| W_reg <| WLs 1 [] (.n 57 (.agg [.ar e64 h1]) (.ss (.k .z))) (qT k_14 0 rfl 0 16 [.ar e64 h1] (by kernel_rfl) (by decide) <| qe) (by kernel_rfl) ?_
   refine WL_op <| Op_b [] 1 (.agg [.ar e64 h1]) [.ar e64 h1] (Pt.at g1 0) k_14 rfl .all (by kernel_rfl) (by kernel_rfl) ?_
   intro w_12 k_16
   have k_17 := k_16.sel (.s (.k .z))
   refine WL_nil <| At_go <| W_ret (At_tr ?_)
   obtain rfl := Option.some.inj hm
   refine At_rt [.agg [.ar e64 h1]] (qo (.agg [.ar e64 h1]) <| qc (fun w => Rd w (some ⟨g1, 0, none⟩) (SV.cl [.ar e64 h1])) (k_17.brd 0 rfl) <| qe) (by kernel_rfl) ?_
   have k_18 := k_17.sel .z
   exact ⟨rfl, k_18⟩
 rw [if_neg hc] at hm
 refine W_skip <| At_go <| W_seq <| W_reg <| WL_op <| Op_alloc [] 20 [.ar e32 (Vec.rep 8 (0 : UInt32))] (by kernel_rfl) k_1 ?_
 intro g4 w_13 k_19
 refine WL_nil <| At_go <| W_seq <| W_seq <| W_q [] (.n 21 (I 0) (.k (.s (.kkkk (.s .a))))) qe (by kernel_rfl) ?_
 refine At_go <| W_block <| W_lp (m_r05_in_l2 h b lo last node) (fun s L wr => ∃ (s_1 : Vec UInt32 8) (i2 : Int), (s_1, i2) = s ∧ L = [(2, sl A_b b.length c_b), (3, .u64 lo), (5, .b last), (6, .b node), (8, pt g 0), (14, pt g1 0), (20, pt g4 0), (21, I i2)] ∧ Cx F O w wr [Bx 108 g [.ar e64 h], Bx 108 g1 [.ar e64 (Vec.rep 16 (0 : UInt64))], Bx 154 g4 [.ar e32 s_1]]) ((Vec.rep 8 (0 : UInt32)), (0 : Int)) r hm ⟨(Vec.rep 8 (0 : UInt32)), (0 : Int), rfl, rfl, k_19⟩ (by kernel_rfl) ?_
 intro s0_ L_ w_14 y0 hrel hstep hr0
 obtain ⟨s_1, i2, rfl, rfl, k_20⟩ := hrel
 have hm := hstep; simp only [m_r05_in_l2] at hm
 clear hstep
 refine W_seq <| W_seq <| W_q [] (.n 59 (.b (decide (i2 < 8))) .a) qe (by kernel_rfl) ?_
 refine At_go <| W_condp (i2 < 8) (by kernel_rfl) (fun hc3 => ?_) (fun hc3 => ?_)
 · rw [if_pos hc3] at hm
   refine W_skip <| At_go <| W_seq <| W_block <| W_reg ?_
   obtain ⟨x_4, h_x_4, hm⟩ := ob hm
   obtain ⟨x_5, h_x_5, hm⟩ := ob hm
   refine WLs 6 [] (.n 66 (.u32 (UInt32.ofNat x_4.toNat)) (.n 67 (.v (.pointer (ixA (some ⟨g4, 0, none⟩) i2 1))) (.s .a))) (qV (k_20.vrd 0 rfl e64 h 0 (by kernel_rfl)) h_x_4 rfl (.u64 x_4) rfl <| qI g4 0 h_x_5 <| qe) (by kernel_rfl) ?_
   refine WL_op ?_
   obtain ⟨v2, h_v2, hm⟩ := nm hm
   refine Op_vs (E := e32) (kk := 0) [] 2 (.u32 (UInt32.ofNat x_4.toNat)) [.u32 (UInt32.ofNat x_4.toNat)] h_v2 h_x_5 (Pt.ix0 (Pt.at g4 0) i2 1) k_20 rfl .h rfl (by kernel_rfl) (by kernel_rfl) ?_
   intro w_15 k_21
   refine WL_nil <| At_in <| At_go <| W_q [] (.n 21 (I (w64 (i2 + 1))) (.ss (.kkkk (.kkk .z)))) qe (by kernel_rfl) ?_
   exact At_rd (v2, w64 (i2 + 1)) (Option.some.inj hm).symm ⟨v2, w64 (i2 + 1), rfl, rfl, k_21⟩ (by kernel_rfl)
 rw [if_neg hc3] at hm
 refine W_exit (At_te (At_te (At_ie ?_)))
 have hm := exit_of hm hr0
 refine At_go <| W_seq <| W_reg <| WLs 1 [] (.n 69 (sl A_b b.length c_b) (.ss (.kkkk (.kk .z)))) qe (by kernel_rfl) ?_
 refine WL_op ?_
 obtain ⟨r_2, h_r_2, hm⟩ := ob hm
 refine Op_call [] 70 _ yz_go96 (by kernel_rfl) (c_r04_Words (F := N0) (O := N0) _ _ _ _ (Ro.n0 (h_b.cx k_20)) rfl hc_b (Cx.refl _) _ h_r_2) ?_
 rintro e_ w_16 ⟨rfl, k_22⟩
 have k_23 := k_20.call k_22
 refine ⟨.tup [.agg [.ar e32 r_2.1], I r_2.2], rfl, ?_⟩
 refine WLs 3 [] (.n 71 (.agg [.ar e32 r_2.1]) (.n 72 (I r_2.2) (.ss .a))) qe (by kernel_rfl) ?_
 refine WL_op <| Op_alloc [] 22 [.ar e32 (Vec.rep 16 (0 : UInt32))] (by kernel_rfl) k_23 ?_
 intro g5 w_17 k_24
 refine WL_op <| Op_b [] 3 (.agg [.ar e32 r_2.1]) [.ar e32 r_2.1] (Pt.at g5 0) k_24 rfl .all (by kernel_rfl) (by kernel_rfl) ?_
 intro w_18 k_25
 refine WLs 1 [] (.k (.ss .a)) qe (by kernel_rfl) ?_
 refine WL_nil <| At_go <| W_seq <| W_reg <| WLs 5 [] (.n 73 (.agg [.ar e32 s_1]) (.n 74 (.agg [.ar e32 r_2.1]) (.n 75 (.u64 lo) (.n 76 (.b last) (.n 77 (.b node) (.ssss .a)))))) (qT k_25 2 rfl 0 8 [.ar e32 s_1] (by kernel_rfl) (by decide) <| qT k_25 3 rfl 0 16 [.ar e32 r_2.1] (by kernel_rfl) (by decide) <| qe) (by kernel_rfl) ?_
 refine WL_op ?_
 obtain ⟨r_3, h_r_3, hm⟩ := ob hm
 refine Op_call [] 78 _ yz_go97 (by kernel_rfl) (c_r04_F (F := N0) (O := N0) _ _ _ _ _ (Cx.refl _) _ h_r_3) ?_
 rintro e_ w_19 ⟨rfl, k_26⟩
 have k_27 := k_25.call k_26
 refine ⟨.agg [.ar e32 r_3], rfl, ?_⟩
 have k_28 := k_27.sel (.kk (.k .z))
 refine WL_op ?_
 have k_29 := k_28.sel (.kk (.k .e))
 refine Op_b [] 2 (.agg [.ar e32 r_3]) [.ar e32 r_3] (Pt.at g4 0) k_29 rfl .all (by kernel_rfl) (by kernel_rfl) ?_
 intro w_20 k_30
 refine WL_nil <| At_go <| W_seq <| W_seq <| W_q [] (.n 24 (I 0) (.ssss (.ss .a))) qe (by kernel_rfl) ?_
 refine At_go <| W_block <| W_lp (m_r05_in_l3 r_3) (fun s L wr => ∃ (h2 : Vec UInt64 16) (i3 : Int), (h2, i3) = s ∧ L = [(8, pt g 0), (14, pt g1 0), (20, pt g4 0), (24, I i3)] ∧ Cx F O w wr [Bx 108 g [.ar e64 h2], Bx 108 g1 [.ar e64 (Vec.rep 16 (0 : UInt64))], Bx 154 g4 [.ar e32 r_3]]) (h, (0 : Int)) r hm ⟨h, (0 : Int), rfl, rfl, k_30⟩ (by kernel_rfl) ?_
 intro s0_ L_ w_21 y0 hrel hstep hr0
 obtain ⟨h2, i3, rfl, rfl, k_31⟩ := hrel
 have hm := hstep; simp only [m_r05_in_l3] at hm
 clear hstep
 refine W_seq <| W_seq <| W_q [] (.n 80 (.b (decide (i3 < 8))) .a) qe (by kernel_rfl) ?_
 refine At_go <| W_condp (i3 < 8) (by kernel_rfl) (fun hc4 => ?_) (fun hc4 => ?_)
 · rw [if_pos hc4] at hm
   refine W_skip <| At_go <| W_seq <| W_block <| W_reg ?_
   obtain ⟨x_6, h_x_6, hm⟩ := ob hm
   obtain ⟨x_7, h_x_7, hm⟩ := ob hm
   refine WLs 6 [] (.n 87 (.u64 (UInt64.ofNat x_6.toNat)) (.n 88 (.v (.pointer (ixA (some ⟨g, 0, none⟩) i3 1))) (.s .a))) (qV (k_31.vrd 2 rfl e32 r_3 0 (by kernel_rfl)) h_x_6 rfl (.u32 x_6) rfl <| qI g 0 h_x_7 <| qe) (by kernel_rfl) ?_
   refine WL_op ?_
   obtain ⟨v3, h_v3, hm⟩ := nm hm
   refine Op_vs (E := e64) (kk := 0) [] 0 (.u64 (UInt64.ofNat x_6.toNat)) [.u64 (UInt64.ofNat x_6.toNat)] h_v3 h_x_7 (Pt.ix0 (Pt.at g 0) i3 1) k_31 rfl .h rfl (by kernel_rfl) (by kernel_rfl) ?_
   intro w_22 k_32
   refine WL_nil <| At_in <| At_go <| W_q [] (.n 24 (I (w64 (i3 + 1))) (.ss (.kkk .z))) qe (by kernel_rfl) ?_
   exact At_rd (v3, w64 (i3 + 1)) (Option.some.inj hm).symm ⟨v3, w64 (i3 + 1), rfl, rfl, k_32⟩ (by kernel_rfl)
 rw [if_neg hc4] at hm
 refine W_exit (At_te (At_te (At_ie ?_)))
 have hm := exit_of hm hr0
 refine At_go <| W_seq <| W_reg <| WLs 1 [] (.n 89 (.agg [.ar e64 h2]) (.ss (.k .z))) (qT k_31 0 rfl 0 16 [.ar e64 h2] (by kernel_rfl) (by decide) <| qe) (by kernel_rfl) ?_
 refine WL_op <| Op_b [] 1 (.agg [.ar e64 h2]) [.ar e64 h2] (Pt.at g1 0) k_31 rfl .all (by kernel_rfl) (by kernel_rfl) ?_
 intro w_23 k_33
 have k_34 := k_33.sel (.s (.k .z))
 refine WL_nil <| At_go <| W_ret ?_
 obtain rfl := Option.some.inj hm
 refine At_rt [.agg [.ar e64 h2]] (qo (.agg [.ar e64 h2]) <| qc (fun w => Rd w (some ⟨g1, 0, none⟩) (SV.cl [.ar e64 h2])) (k_34.brd 0 rfl) <| qe) (by kernel_rfl) ?_
 have k_35 := k_34.sel .z
 exact ⟨rfl, k_35⟩

-- (*quern/quernref05.Node).passed
noncomputable def m_r05_Node_passed_l0 (r_ : (Vec UInt64 16 × Int × Int × Int × Int × Int × UInt32 × UInt64 × UInt32 × Int × Int × Bool × Vec UInt64 16 × Bool × UInt64 × UInt64 × List UInt8 × UInt64)) (r_1 : Int) : (Vec UInt64 16 × UInt64 × UInt64 × Int) → Option ((Vec UInt64 16 × UInt64 × UInt64 × Int) ⊕ (Vec UInt64 16 × UInt64 × UInt64 × Int × Int × Int × Int × Int × Int × UInt32 × UInt64 × UInt32 × Int × Int × Bool × Vec UInt64 16 × Bool × UInt64 × UInt64 × List UInt8 × UInt64))
  | (h, lo, hi, at_) => if (w64 (at_ + r_1)) < ((r_.2.2.2.2.2.2.2.2.2.2.2.2.2.2.2.2.1.length : Nat) : Int) then ((m_r01_Add lo hi (UInt64.ofInt r_1)).bind fun r_2 => (m_r05_cut r_.2.2.2.2.2.2.2.2.2.2.2.2.2.2.2.2.1 at_ r_1).bind fun r_3 => (m_r05_in r_.2.1 h r_3 r_2.1 r_2.2.1 false false).bind fun r_4 => some (.inl (r_4, r_2.1, r_2.2.1, w64 (at_ + r_1)))) else (Option.map Sum.inr (some (h, lo, hi, at_, r_.2.1, r_.2.2.1, r_.2.2.2.1, r_.2.2.2.2.1, r_.2.2.2.2.2.1, r_.2.2.2.2.2.2.1, r_.2.2.2.2.2.2.2.1, r_.2.2.2.2.2.2.2.2.1, r_.2.2.2.2.2.2.2.2.2.1, r_.2.2.2.2.2.2.2.2.2.2.1, r_.2.2.2.2.2.2.2.2.2.2.2.1, r_.2.2.2.2.2.2.2.2.2.2.2.2.1, r_.2.2.2.2.2.2.2.2.2.2.2.2.2.1, r_.2.2.2.2.2.2.2.2.2.2.2.2.2.2.1, r_.2.2.2.2.2.2.2.2.2.2.2.2.2.2.2.1, r_.2.2.2.2.2.2.2.2.2.2.2.2.2.2.2.2.1, r_.2.2.2.2.2.2.2.2.2.2.2.2.2.2.2.2.2)))
noncomputable def m_r05_Node_passed (n_Kind : Int) (n_P_Digest : Int) (n_P_Key : Int) (n_P_Fanout : Int) (n_P_Depth : Int) (n_P_Leaf : UInt32) (n_P_Offset : UInt64) (n_P_Xof : UInt32) (n_P_NodeDepth : Int) (n_P_Inner : Int) (n_P_Salt : List UInt8) (n_P_Personal : List UInt8) (n_Key : List UInt8) (n_Last : Bool) (n_From : Vec UInt64 16) (n_Old : Bool) (n_Lo : UInt64) (n_Hi : UInt64) (n_Msg : List UInt8) (n_Count : UInt64) : Option (Vec UInt64 16 × UInt64 × UInt64 × Int × Int × Int × Int × Int × Int × UInt32 × UInt64 × UInt32 × Int × Int × Bool × Vec UInt64 16 × Bool × UInt64 × UInt64 × List UInt8 × UInt64) :=
  (m_r05_Node_first n_Kind n_P_Digest n_P_Key n_P_Fanout n_P_Depth n_P_Leaf n_P_Offset n_P_Xof n_P_NodeDepth n_P_Inner n_P_Salt n_P_Personal n_Key n_Last n_From n_Old n_Lo n_Hi n_Msg n_Count).bind fun r_ => (m_r05_Block r_.2.1).bind fun r_1 => whileO (m_r05_Node_passed_l0 r_ r_1) (r_.1, r_.2.2.2.2.2.2.2.2.2.2.2.2.2.2.1, r_.2.2.2.2.2.2.2.2.2.2.2.2.2.2.2.1, (0 : Int))
theorem c_r05_Node_passed {F O : Nat → Prop} {w : World} (n_Kind : Int) (n_P_Digest : Int) (n_P_Key : Int) (n_P_Fanout : Int) (n_P_Depth : Int) (n_P_Leaf : UInt32) (n_P_Offset : UInt64) (n_P_Xof : UInt32) (n_P_NodeDepth : Int) (n_P_Inner : Int) (n_P_Salt : List UInt8) (n_P_Personal : List UInt8) (n_Key : List UInt8) (n_Last : Bool) (n_From : Vec UInt64 16) (n_Old : Bool) (n_Lo : UInt64) (n_Hi : UInt64) (n_Msg : List UInt8) (n_Count : UInt64) (g_n : Nat) (A_n_P_Salt : Option Addr) (n_n_P_Salt : Nat) (c_n_P_Salt : Nat) (A_n_P_Personal : Option Addr) (n_n_P_Personal : Nat) (c_n_P_Personal : Nat) (A_n_Key : Option Addr) (n_n_Key : Nat) (c_n_Key : Nat) (A_n_Msg : Option Addr) (n_n_Msg : Nat) (c_n_Msg : Nat) (h_n_P_Salt : Ro F w A_n_P_Salt (e8.all n_P_Salt)) (hn_n_P_Salt : n_P_Salt.length = n_n_P_Salt) (hc_n_P_Salt : n_n_P_Salt ≤ c_n_P_Salt) (h_n_P_Personal : Ro F w A_n_P_Personal (e8.all n_P_Personal)) (hn_n_P_Personal : n_P_Personal.length = n_n_P_Personal) (hc_n_P_Personal : n_n_P_Personal ≤ c_n_P_Personal) (h_n_Key : Ro F w A_n_Key (e8.all n_Key)) (hn_n_Key : n_Key.length = n_n_Key) (hc_n_Key : n_n_Key ≤ c_n_Key) (k : Cx F O w w [Bx 110 g_n [I n_Kind, I n_P_Digest, I n_P_Key, I n_P_Fanout, I n_P_Depth, .u32 n_P_Leaf, .u64 n_P_Offset, .u32 n_P_Xof, I n_P_NodeDepth, I n_P_Inner, sl A_n_P_Salt n_n_P_Salt c_n_P_Salt, sl A_n_P_Personal n_n_P_Personal c_n_P_Personal, sl A_n_Key n_n_Key c_n_Key, .b n_Last, .ar e64 n_From, .b n_Old, .u64 n_Lo, .u64 n_Hi, sl A_n_Msg n_n_Msg c_n_Msg, .u64 n_Count], Ow e8 A_n_Msg n_n_Msg c_n_Msg n_Msg]) (r : (Vec UInt64 16 × UInt64 × UInt64 × Int × Int × Int × Int × Int × Int × UInt32 × UInt64 × UInt32 × Int × Int × Bool × Vec UInt64 16 × Bool × UInt64 × UInt64 × List UInt8 × UInt64)) (hm : m_r05_Node_passed n_Kind n_P_Digest n_P_Key n_P_Fanout n_P_Depth n_P_Leaf n_P_Offset n_P_Xof n_P_NodeDepth n_P_Inner n_P_Salt n_P_Personal n_Key n_Last n_From n_Old n_Lo n_Hi n_Msg n_Count = some r) :
    Calls Tryz.prog 72 (vals [pt g_n 0]) w (fun e w' => ∃ A n c, r.2.2.2.2.2.2.2.2.2.2.2.2.2.2.2.2.2.2.2.1.length = n ∧ e = .returned (SV.val (.tup [.agg [.ar e64 r.1], .u64 r.2.1, .u64 r.2.2.1, I r.2.2.2.1])) ∧ Cx F O w w' [Bx 110 g_n [I r.2.2.2.2.1, I r.2.2.2.2.2.1, I r.2.2.2.2.2.2.1, I r.2.2.2.2.2.2.2.1, I r.2.2.2.2.2.2.2.2.1, .u32 r.2.2.2.2.2.2.2.2.2.1, .u64 r.2.2.2.2.2.2.2.2.2.2.1, .u32 r.2.2.2.2.2.2.2.2.2.2.2.1, I r.2.2.2.2.2.2.2.2.2.2.2.2.1, I r.2.2.2.2.2.2.2.2.2.2.2.2.2.1, sl A_n_P_Salt n_n_P_Salt c_n_P_Salt, sl A_n_P_Personal n_n_P_Personal c_n_P_Personal, sl A_n_Key n_n_Key c_n_Key, .b r.2.2.2.2.2.2.2.2.2.2.2.2.2.2.1, .ar e64 r.2.2.2.2.2.2.2.2.2.2.2.2.2.2.2.1, .b r.2.2.2.2.2.2.2.2.2.2.2.2.2.2.2.2.1, .u64 r.2.2.2.2.2.2.2.2.2.2.2.2.2.2.2.2.2.1, .u64 r.2.2.2.2.2.2.2.2.2.2.2.2.2.2.2.2.2.2.1, sl A n c, .u64 r.2.2.2.2.2.2.2.2.2.2.2.2.2.2.2.2.2.2.2.2], Ow e8 A n c r.2.2.2.2.2.2.2.2.2.2.2.2.2.2.2.2.2.2.2.1]) := by
 unfold m_r05_Node_passed at hm
 subst hn_n_P_Salt
 subst hn_n_P_Personal
 subst hn_n_Key
 obtain rfl := k.len 1 rfl
 refine calls [pt g_n 0] Tryz.func72 rfl (of_decide_eq_true (by kernel_rfl)) ?_
 refine W_seq <| W_reg <| WL_op <| Op_alloc [] 2 [.ar e64 (Vec.rep 16 (0 : UInt64))] (by kernel_rfl) k ?_
 intro g w_ k_
 refine WLs 3 [] .a qe (by kernel_rfl) ?_
 refine WL_nil <| At_go <| W_seq <| W_reg <| WLs 1 [] (.n 11 (pt g_n 0) .a) qe (by kernel_rfl) ?_
 refine WL_op ?_
 obtain ⟨r_, h_r_, hm⟩ := ob hm
 obtain ⟨F1, O1, kin, hO, hre, hF, hb⟩ := k_.go (.i (.i (.r .e)))
 refine Op_call [] 12 _ yz_go93 (by kernel_rfl) (c_r05_Node_first (F := F1) (O := O1) _ _ _ _ _ _ _ _ _ _ _ _ _ _ _ _ _ _ _ _ _ _ _ _ _ _ _ _ _ _ _ _ _ (Ro.of_old h_n_P_Salt k_ hF) rfl hc_n_P_Salt (Ro.of_old h_n_P_Personal k_ hF) rfl hc_n_P_Personal (Ro.of_old h_n_Key k_ hF) rfl hc_n_Key kin _ h_r_) ?_
 rintro e_ w_1 ⟨A0, _, c0, rfl, rfl, k_1⟩
 have k_2 := hb w_1 _ _ k_1 (.c (.c .n))
 refine ⟨.agg [.ar e64 r_.1], rfl, ?_⟩
 refine WL_op <| Op_alloc [] 6 [.ar e64 (Vec.rep 16 (0 : UInt64))] (by kernel_rfl) k_2 ?_
 intro g1 w_2 k_3
 refine WL_op <| Op_b [] 3 (.agg [.ar e64 r_.1]) [.ar e64 r_.1] (Pt.at g1 0) k_3 rfl .all (by kernel_rfl) (by kernel_rfl) ?_
 intro w_3 k_4
 refine WL_nil <| At_go <| W_seq <| W_q [] (.n 7 (.u64 r_.2.2.2.2.2.2.2.2.2.2.2.2.2.2.1) (.k (.ss .a))) (qs g_n 0 <| qs g_n 0 <| qB k_4 0 rfl 31 (.u64 r_.2.2.2.2.2.2.2.2.2.2.2.2.2.2.1) (by kernel_rfl) <| qe) (by kernel_rfl) ?_
 refine At_go <| W_seq <| W_q [] (.n 8 (.u64 r_.2.2.2.2.2.2.2.2.2.2.2.2.2.2.2.1) .a) (qs g_n 0 <| qs g_n 0 <| qB k_4 0 rfl 32 (.u64 r_.2.2.2.2.2.2.2.2.2.2.2.2.2.2.2.1) (by kernel_rfl) <| qe) (by kernel_rfl) ?_
 refine At_go <| W_seq <| W_reg <| WLs 4 [] (.n 24 (I r_.2.1) .a) (qs g_n 0 <| qs g_n 0 <| qB k_4 0 rfl 0 (I r_.2.1) (by kernel_rfl) <| qe) (by kernel_rfl) ?_
 refine WL_op ?_
 have k_5 := k_4.sel (.kkkk .e)
 obtain ⟨r_1, h_r_1, hm⟩ := ob hm
 refine Op_call [] 25 _ yz_go77 (by kernel_rfl) (c_r05_Block (F := N0) (O := N0) _ (Cx.refl _) _ h_r_1) ?_
 rintro e_ w_4 ⟨rfl, k_6⟩
 have k_7 := k_5.call k_6
 refine ⟨I r_1, rfl, ?_⟩
 refine WLs 1 [] (.n 9 (I r_1) (.ss .a)) qe (by kernel_rfl) ?_
 refine WL_nil <| At_go <| W_seq <| W_q [] (.n 10 (I 0) .a) qe (by kernel_rfl) ?_
 refine At_go <| W_seq <| W_block <| W_lp (m_r05_Node_passed_l0 r_ r_1) (fun s L wr => ∃ (h : Vec UInt64 16) (lo : UInt64) (hi : UInt64) (at_ : Int), (h, lo, hi, at_) = s ∧ L = [(0, pt g_n 0), (2, pt g 0), (6, pt g1 0), (7, .u64 lo), (8, .u64 hi), (9, I r_1), (10, I at_)] ∧ Cx F O w wr [Bx 110 g_n [I r_.2.1, I r_.2.2.1, I r_.2.2.2.1, I r_.2.2.2.2.1, I r_.2.2.2.2.2.1, .u32 r_.2.2.2.2.2.2.1, .u64 r_.2.2.2.2.2.2.2.1, .u32 r_.2.2.2.2.2.2.2.2.1, I r_.2.2.2.2.2.2.2.2.2.1, I r_.2.2.2.2.2.2.2.2.2.2.1, sl A_n_P_Salt n_P_Salt.length c_n_P_Salt, sl A_n_P_Personal n_P_Personal.length c_n_P_Personal, sl A_n_Key n_Key.length c_n_Key, .b r_.2.2.2.2.2.2.2.2.2.2.2.1, .ar e64 r_.2.2.2.2.2.2.2.2.2.2.2.2.1, .b r_.2.2.2.2.2.2.2.2.2.2.2.2.2.1, .u64 r_.2.2.2.2.2.2.2.2.2.2.2.2.2.2.1, .u64 r_.2.2.2.2.2.2.2.2.2.2.2.2.2.2.2.1, sl A0 r_.2.2.2.2.2.2.2.2.2.2.2.2.2.2.2.2.1.length c0, .u64 r_.2.2.2.2.2.2.2.2.2.2.2.2.2.2.2.2.2], Ow e8 A0 r_.2.2.2.2.2.2.2.2.2.2.2.2.2.2.2.2.1.length c0 r_.2.2.2.2.2.2.2.2.2.2.2.2.2.2.2.2.1, Bx 108 g [.ar e64 (Vec.rep 16 (0 : UInt64))], Bx 108 g1 [.ar e64 h]]) (r_.1, r_.2.2.2.2.2.2.2.2.2.2.2.2.2.2.1, r_.2.2.2.2.2.2.2.2.2.2.2.2.2.2.2.1, (0 : Int)) r hm ⟨r_.1, r_.2.2.2.2.2.2.2.2.2.2.2.2.2.2.1, r_.2.2.2.2.2.2.2.2.2.2.2.2.2.2.2.1, (0 : Int), rfl, rfl, k_7⟩ (by kernel_rfl) ?_
 intro s0_ L_ w_5 y0 hrel hstep hr0
 obtain ⟨h, lo, hi, at_, rfl, rfl, k_8⟩ := hrel
 have hm := hstep; simp only [m_r05_Node_passed_l0] at hm
 clear hstep
 refine W_seq <| W_seq <| W_q [] (.n 34 (.b (decide ((w64 (at_ + r_1)) < ((r_.2.2.2.2.2.2.2.2.2.2.2.2.2.2.2.2.1.length : Nat) : Int)))) .a) (qs g_n 0 <| qs g_n 0 <| qB k_8 0 rfl 33 (sl A0 r_.2.2.2.2.2.2.2.2.2.2.2.2.2.2.2.2.1.length c0) (by kernel_rfl) <| qe) (by kernel_rfl) ?_
 refine At_go <| W_condp ((w64 (at_ + r_1)) < ((r_.2.2.2.2.2.2.2.2.2.2.2.2.2.2.2.2.1.length : Nat) : Int)) (by kernel_rfl) (fun hc => ?_) (fun hc => ?_)
 · rw [if_pos hc] at hm
   refine W_skip <| At_go <| W_block <| W_seq <| W_reg <| WLs 4 [] (.n 36 (.u64 lo) (.n 37 (.u64 hi) (.n 39 (.u64 (UInt64.ofInt r_1)) (.s .a)))) qe (by kernel_rfl) ?_
   refine WL_op ?_
   obtain ⟨r_2, h_r_2, hm⟩ := ob hm
   refine Op_call [] 40 _ yz_go73 (by kernel_rfl) (c_r01_Add (F := N0) (O := N0) _ _ _ (Cx.refl _) _ h_r_2) ?_
   rintro e_ w_6 ⟨rfl, k_9⟩
   have k_10 := k_8.call k_9
   refine ⟨.tup [.u64 r_2.1, .u64 r_2.2.1, .b r_2.2.2], rfl, ?_⟩
   refine WLs 6 [] (.n 7 (.u64 r_2.1) (.n 8 (.u64 r_2.2.1) (.ssss (.kkk (.ss .a))))) qe (by kernel_rfl) ?_
   refine WL_nil <| At_go <| W_seq ?_
   have k_11 := k_10.drew 1
   refine W_m yz_mixed (.q 4 1 (.q 9 1 (.q 10 1 (.q 12 1 (.q 13 1 (.q 0 2 (.q 1 2 (.q 2 2 (.q 3 1 (.q 5 2 (.q 6 2 (.q 7 2 (.q 8 1 (.op 11 (.op 14 (.op 15 .nil)))))))))))))))) [11, 14, 15] k_11 (.c (.kkkk .e) (.c (.kkkk .e) (.c (.kk (.k .z)) .l))) (by kernel_rfl) (fun _ => ?_)
   refine MXq 5 1 [] (.n 48 (.agg [.ar e64 h]) (.n 53 (I at_) (.n 54 (I r_1) (.n 56 (.u64 r_2.1) (.n 57 (.u64 r_2.2.1) .a))))) (fun x hx => qT hx 3 rfl 0 16 [.ar e64 h] (by kernel_rfl) (by decide) <| qe) (by kernel_rfl) (fun _ => ?_)
   refine MXq 3 2 [] (.n 46 (pt g_n 0) .a) (fun x hx => qs g_n 0 <| qs g_n 0 <| qe) (by kernel_rfl) (fun _ => ?_)
   refine MXq 1 1 [] (.n 47 (I r_.2.1) (.s .a)) (fun x hx => qB hx 0 rfl 0 (I r_.2.1) (by kernel_rfl) <| qe) (by kernel_rfl) (fun _ => ?_)
   refine MXq 3 2 [] (.n 51 (pt g_n 33) .a) (fun x hx => qs g_n 0 <| qs g_n 0 <| qe) (by kernel_rfl) (fun _ => ?_)
   refine MXq 1 1 [] (.n 52 (sl A0 r_.2.2.2.2.2.2.2.2.2.2.2.2.2.2.2.2.1.length c0) (.s .a)) (fun x hx => qB hx 0 rfl 33 (sl A0 r_.2.2.2.2.2.2.2.2.2.2.2.2.2.2.2.2.1.length c0) (by kernel_rfl) <| qe) (by kernel_rfl) (fun _ => ?_)
   refine MX_op (by kernel_rfl) rfl ?_
   obtain ⟨r_3, h_r_3, hm⟩ := ob hm
   refine Op_call [] 55 _ yz_go76 (by kernel_rfl) (c_r05_cut (F := N0) (O := N0) _ _ _ _ _ _ (Ro.n0 (k_11.rd 1 rfl)) (k_11.len 1 rfl) (k_11.lec 1 rfl) (Cx.refl _) _ h_r_3) ?_
   rintro e_ w_7 ⟨A1, _, c1, rfl, rfl, k_12⟩
   have k_13 := k_11.call k_12
   refine ⟨sl A1 r_3.length c1, rfl, ?_⟩
   refine ⟨(k_13.sel (.kkkk .z)), fun _ => ?_⟩
   refine MX_op (by kernel_rfl) rfl ?_
   obtain ⟨r_4, h_r_4, hm⟩ := ob hm
   refine Op_call [] 58 _ yz_go75 (by kernel_rfl) (c_r05_in (F := N0) (O := N0) _ _ _ _ _ _ _ _ _ _ (Ro.n0 (k_13.rd 4 rfl)) (k_13.len 4 rfl) (k_13.lec 4 rfl) (Cx.refl _) _ h_r_4) ?_
   rintro e_ w_8 ⟨rfl, k_14⟩
   have k_15 := k_13.call k_14
   refine ⟨.agg [.ar e64 r_4], rfl, ?_⟩
   have k_16 := k_15.sel (.kkkk .z)
   refine ⟨k_16, fun _ => ?_⟩
   refine MX_op (by kernel_rfl) rfl <| Op_b [] 3 (.agg [.ar e64 r_4]) [.ar e64 r_4] (Pt.at g1 0) k_16 rfl .all (by kernel_rfl) (by kernel_rfl) ?_
   intro w_9 k_17
   refine ⟨(k_17.sel (.kk (.k .z))), fun _ => ?_⟩
   refine MX_nil <| At_go <| W_q [] (.n 10 (I (w64 (at_ + r_1))) (.ssss (.ssss (.s (.kkkk (.kk .z)))))) qe (by kernel_rfl) ?_
   refine At_in ?_
   exact At_rd (r_4, r_2.1, r_2.2.1, w64 (at_ + r_1)) (Option.some.inj hm).symm ⟨r_4, r_2.1, r_2.2.1, w64 (at_ + r_1), rfl, rfl, k_17⟩ (by kernel_rfl)
 rw [if_neg hc] at hm
 refine W_exit (At_te (At_te (At_ie ?_)))
 have hm := exit_of hm hr0
 refine At_go <| W_seq <| W_reg <| WLs 4 [] (.n 62 (.agg [.ar e64 h]) (.n 63 (.u64 lo) (.n 64 (.u64 hi) (.n 65 (I at_) (.ss (.k .z)))))) (qT k_8 3 rfl 0 16 [.ar e64 h] (by kernel_rfl) (by decide) <| qe) (by kernel_rfl) ?_
 refine WL_op <| Op_b [] 2 (.agg [.ar e64 h]) [.ar e64 h] (Pt.at g 0) k_8 rfl .all (by kernel_rfl) (by kernel_rfl) ?_
 intro w_10 k_18
 have k_19 := k_18.sel (.kk (.k .z))
 refine WLs 3 [] (.n 3 (.u64 lo) (.n 4 (.u64 hi) (.n 5 (I at_) (.ssss .a)))) qe (by kernel_rfl) ?_
 refine WL_nil <| At_go <| W_ret ?_
 obtain rfl := Option.some.inj hm
 refine At_rt [.agg [.ar e64 h], .u64 lo, .u64 hi, I at_] (qo (.agg [.ar e64 h]) <| qc (fun w => Rd w (some ⟨g, 0, none⟩) (SV.cl [.ar e64 h])) (k_19.brd 2 rfl) <| qe) (by kernel_rfl) ?_
 have k_20 := k_19.sel (.kk .z)
 exact ⟨A0, r_.2.2.2.2.2.2.2.2.2.2.2.2.2.2.2.2.1.length, c0, k_20.len 1 rfl, rfl, k_20⟩

-- quern/quernref01.Store
noncomputable def m_r01_Store_l0 (n : Int) : (UInt64 × List UInt8 × Int) → Option ((UInt64 × List UInt8 × Int) ⊕ (List UInt8))
  | (w_1, b, i) => if i < n then ((app b ([UInt8.ofNat (w_1 % 256).toNat] : List UInt8) 1).bind fun b1 => some (.inl (w_1 / 256, b1, w64 (i + 1)))) else (Option.map Sum.inr (some b))
noncomputable def m_r01_Store (w_ : UInt64) (n : Int) : Option (List UInt8) :=
  whileO (m_r01_Store_l0 n) (w_, ([] : List UInt8), (0 : Int))
theorem c_r01_Store {F O : Nat → Prop} {w : World} (w_ : UInt64) (n : Int) (k : Cx F O w w []) (r : (List UInt8)) (hm : m_r01_Store w_ n = some r) :
    Calls Tryz.prog 48 (vals [.u64 w_, I n]) w (fun e w' => ∃ A n1 c, r.length = n1 ∧ e = .returned (SV.val (sl A n1 c)) ∧ Cx F O w w' [Ow e8 A n1 c r]) := by
 unfold m_r01_Store at hm
 refine calls [.u64 w_, I n] Tryz.func48 rfl (of_decide_eq_true (by kernel_rfl)) ?_
 refine W_seq <| W_q [] .a qe (by kernel_rfl) ?_
 refine At_go <| W_seq <| W_q [] (.n 5 (sl none 0 0) .a) qe (by kernel_rfl) ?_
 refine At_go <| W_seq <| W_seq <| W_q [] (.n 6 (I 0) .a) qe (by kernel_rfl) ?_
 refine At_go <| W_block ?_
 have k_1 := k.nil e8
 refine W_lp (m_r01_Store_l0 n) (fun s L wr => ∃ (w_1 : UInt64) (b : List UInt8) (i : Int) (A0 : Option Addr) (n2 : Nat) (c0 : Nat), (w_1, b, i) = s ∧ L = [(0, .u64 w_1), (1, I n), (5, sl A0 n2 c0), (6, I i)] ∧ b.length = n2 ∧ Cx F O w wr [Ow e8 A0 n2 c0 b]) (w_, ([] : List UInt8), (0 : Int)) r hm ⟨w_, ([] : List UInt8), (0 : Int), none, 0, 0, rfl, rfl, k_1.len 0 rfl, k_1⟩ (by kernel_rfl) ?_
 intro s0_ L_ w_2 y0 hrel hstep hr0
 obtain ⟨w_1, b, i, A0, _, c0, rfl, rfl, rfl, k_⟩ := hrel
 have hm := hstep; simp only [m_r01_Store_l0] at hm
 clear hstep
 refine W_seq <| W_seq <| W_q [] (.n 9 (.b (decide (i < n))) .a) qe (by kernel_rfl) ?_
 refine At_go <| W_condp (i < n) (by kernel_rfl) (fun hc => ?_) (fun hc => ?_)
 · rw [if_pos hc] at hm
   refine W_skip <| At_go <| W_seq <| W_block <| W_seq <| W_reg <| WLs 4 [] (.n 12 (sl A0 b.length c0) (.n 15 (.u8 (UInt8.ofNat (w_1 % 256).toNat)) (.s .a))) (qp ((256 : UInt64) ≠ 0) (by show (256 : UInt64) ≠ 0; decide) <| qe) (by kernel_rfl) ?_
   refine WL_op <| Op_mk yz_tf22 e8 [] 16 ([UInt8.ofNat (w_1 % 256).toNat] : List UInt8) [(0, .u8 (UInt8.ofNat (w_1 % 256).toNat))] [.u8 (UInt8.ofNat (w_1 % 256).toNat)] (by kernel_rfl) (by kernel_rfl) (by kernel_rfl) k_ ?_
   intro A1 w_3 k_2
   refine WL_op ?_
   obtain ⟨b1, h_b1, hm⟩ := ob hm
   obtain ⟨hz, hl⟩ := app_some h_b1
   refine Op_append (E := e8) (v := sl A1 1 1) (ys := ([UInt8.ofNat (w_1 % 256).toNat] : List UInt8)) yz_tf22 [] 17 0 (by kernel_rfl) k_2 rfl (Src.sl (k_2.rd 1 rfl) (k_2.len 1 rfl) (by rfl)) (k_2.len 1 rfl) (by have := k_2.len 0 rfl; have := (k_2.len 1 rfl); omega) ?_
   intro A2 c1 w_4 k_3
   rw [← hl] at k_3
   have k_4 := k_3.sel (.k .z)
   refine WLs 1 [] (.n 5 (sl A2 (b.length + 1) c1) (.ssss (.kk (.s .a)))) qe (by kernel_rfl) ?_
   refine WL_nil <| At_go <| W_q [] (.n 0 (.u64 (w_1 / 256)) (.k (.s .a))) (qp ((256 : UInt64) ≠ 0) (by show (256 : UInt64) ≠ 0; decide) <| qe) (by kernel_rfl) ?_
   refine At_in <| At_go <| W_q [] (.n 6 (I (w64 (i + 1))) (.kkk .z)) qe (by kernel_rfl) ?_
   exact At_rd (w_1 / 256, b1, w64 (i + 1)) (Option.some.inj hm).symm ⟨w_1 / 256, b1, w64 (i + 1), A2, b.length + 1, c1, rfl, rfl, k_4.len 0 rfl, k_4⟩ (by kernel_rfl)
 rw [if_neg hc] at hm
 refine W_exit (At_te (At_te (At_ie ?_)))
 have hm := exit_of hm hr0
 refine At_go <| W_seq <| W_q [] (.n 4 (sl A0 b.length c0) .z) qe (by kernel_rfl) ?_
 refine At_go <| W_ret ?_
 obtain rfl := Option.some.inj hm
 refine At_rt [sl A0 b.length c0] qe (by kernel_rfl) ?_
 exact ⟨A0, b.length, c0, k_.len 0 rfl, rfl, k_⟩

-- quern/quernref05.bytes
noncomputable def m_r05_bytes_l0 (kind : Int) (h : Vec UInt64 16) : (List UInt8 × Int) → Option ((List UInt8 × Int) ⊕ (List UInt8))
  | (b, i) => if i < 8 then ((geti h.l i).bind fun x_0 => (m_r05_Full kind).bind fun r_ => (m_r01_Store x_0 (w64 (Int.tdiv r_ 8))).bind fun r_1 => (app b r_1 1).bind fun b1 => some (.inl (b1, w64 (i + 1)))) else (Option.map Sum.inr (some b))
noncomputable def m_r05_bytes (kind : Int) (h : Vec UInt64 16) : Option (List UInt8) :=
  whileO (m_r05_bytes_l0 kind h) (([] : List UInt8), (0 : Int))
theorem c_r05_bytes {F O : Nat → Prop} {w : World} (kind : Int) (h : Vec UInt64 16) (k : Cx F O w w []) (r : (List UInt8)) (hm : m_r05_bytes kind h = some r) :
    Calls Tryz.prog 74 (vals [I kind, .agg [.ar e64 h]]) w (fun e w' => ∃ A n c, r.length = n ∧ e = .returned (SV.val (sl A n c)) ∧ Cx F O w w' [Ow e8 A n c r]) := by
 unfold m_r05_bytes at hm
 refine calls [I kind, .agg [.ar e64 h]] Tryz.func74 rfl (of_decide_eq_true (by kernel_rfl)) ?_
 refine W_seq <| W_reg <| WL_op <| Op_box [] 3 (.agg [.ar e64 h]) [.ar e64 h] (by kernel_rfl) k ?_
 intro g w_ k_
 refine WLs 1 [] (.kk .z) qe (by kernel_rfl) ?_
 refine WL_nil <| At_go <| W_seq <| W_q [] (.n 5 (sl none 0 0) .a) qe (by kernel_rfl) ?_
 refine At_go <| W_seq <| W_seq <| W_q [] (.n 6 (I 0) .a) qe (by kernel_rfl) ?_
 refine At_go <| W_block ?_
 have k_2 := k_.nil e8
 refine W_lp (m_r05_bytes_l0 kind h) (fun s L wr => ∃ (b : List UInt8) (i : Int) (A0 : Option Addr) (n0 : Nat) (c0 : Nat), (b, i) = s ∧ L = [(0, I kind), (3, pt g 0), (5, sl A0 n0 c0), (6, I i)] ∧ b.length = n0 ∧ Cx F O w wr [Bx 108 g [.ar e64 h], Ow e8 A0 n0 c0 b]) (([] : List UInt8), (0 : Int)) r hm ⟨([] : List UInt8), (0 : Int), none, 0, 0, rfl, rfl, k_2.len 1 rfl, k_2⟩ (by kernel_rfl) ?_
 intro s0_ L_ w_1 y0 hrel hstep hr0
 obtain ⟨b, i, A0, _, c0, rfl, rfl, rfl, k_1⟩ := hrel
 have hm := hstep; simp only [m_r05_bytes_l0] at hm
 clear hstep
 refine W_seq <| W_seq <| W_q [] (.n 8 (.b (decide (i < 8))) .a) qe (by kernel_rfl) ?_
 refine At_go <| W_condp (i < 8) (by kernel_rfl) (fun hc => ?_) (fun hc => ?_)
 · rw [if_pos hc] at hm
   refine W_skip <| At_go <| W_seq <| W_block ?_
   have k_3 := k_1.drew 1
   refine W_m yz_mixed (.q 0 2 (.q 4 2 (.q 1 3 (.q 2 3 (.q 3 2 (.op 5 (.q 6 2 (.op 7 (.op 8 (.q 9 3 .nil)))))))))) [5, 7, 8] k_3 (.c (.kk .e) (.c (.kk .e) (.c (.k .z) .l))) (by kernel_rfl) (fun _ => ?_)
   refine MXq 2 2 [] (.n 11 (sl A0 b.length c0) (.n 15 (I kind) (.s .a))) (fun x hx => qe) (by kernel_rfl) (fun _ => ?_)
   obtain ⟨x_0, h_x_0, hm⟩ := ob hm
   refine MXq 2 3 [] (.n 13 (.v (.pointer (ixA (some ⟨g, 0, none⟩) i 1))) .a) (fun x hx => qI g 0 h_x_0 <| qe) (by kernel_rfl) (fun _ => ?_)
   refine MXq 1 2 [] (.n 14 (.u64 x_0) (.s .a)) (fun x hx => qC (.u64 x_0) (Rd.el (k := 0) (hx.vrd 0 rfl e64 h 0 (by kernel_rfl)) h_x_0 (Pt.ix1 (some ⟨g, 0, none⟩) i 1) rfl) <| qe) (by kernel_rfl) (fun _ => ?_)
   refine MX_op (by kernel_rfl) rfl ?_
   obtain ⟨r_, h_r_, hm⟩ := ob hm
   refine Op_call [] 16 _ yz_go60 (by kernel_rfl) (c_r05_Full (F := N0) (O := N0) _ (Cx.refl _) _ h_r_) ?_
   rintro e_ w_2 ⟨rfl, k_4⟩
   have k_5 := k_3.call k_4
   refine ⟨I r_, rfl, ?_⟩
   refine ⟨k_5, fun _ => ?_⟩
   refine MXq 1 2 [] (.n 17 (I (w64 (Int.tdiv r_ 8))) (.s (.kk (.s .a)))) (fun x hx => qp ((8 : Int) ≠ (0 : Int)) (by omega) <| qe) (by kernel_rfl) (fun _ => ?_)
   refine MX_op (by kernel_rfl) rfl ?_
   obtain ⟨r_1, h_r_1, hm⟩ := ob hm
   refine Op_call [] 18 _ yz_go48 (by kernel_rfl) (c_r01_Store (F := N0) (O := N0) _ _ (Cx.refl _) _ h_r_1) ?_
   rintro e_ w_3 ⟨A1, _, c1, rfl, rfl, k_6⟩
   have k_7 := k_5.call k_6
   refine ⟨sl A1 r_1.length c1, rfl, ?_⟩
   refine ⟨(k_7.sel (.kk .z)), fun _ => ?_⟩
   refine MX_op (by kernel_rfl) rfl ?_
   obtain ⟨b1, h_b1, hm⟩ := ob hm
   obtain ⟨hz, hl⟩ := app_some h_b1
   refine Op_append (E := e8) (v := sl A1 r_1.length c1) (ys := r_1) yz_tf22 [] 19 1 (by kernel_rfl) k_7 rfl (Src.sl (k_7.rd 2 rfl) (k_7.len 2 rfl) (by rfl)) (k_7.len 2 rfl) (by have := k_7.len 1 rfl; have := (k_7.len 2 rfl); omega) ?_
   intro A2 c2 w_4 k_8
   rw [← hl] at k_8
   have k_9 := k_8.sel (.kk .z)
   refine ⟨(k_9.sel (.k .z)), fun _ => ?_⟩
   refine MXq 1 3 [] (.n 5 (sl A2 (b.length + r_1.length) c2) (.ssss (.s (.kk (.s .a))))) (fun x hx => qe) (by kernel_rfl) (fun _ => ?_)
   refine MX_nil <| At_in <| At_go <| W_q [] (.n 6 (I (w64 (i + 1))) (.kkk .z)) qe (by kernel_rfl) ?_
   exact At_rd (b1, w64 (i + 1)) (Option.some.inj hm).symm ⟨b1, w64 (i + 1), A2, b.length + r_1.length, c2, rfl, rfl, k_9.len 1 rfl, k_9⟩ (by kernel_rfl)
 rw [if_neg hc] at hm
 refine W_exit (At_te (At_te (At_ie ?_)))
 have hm := exit_of hm hr0
 refine At_go <| W_seq <| W_q [] (.n 4 (sl A0 b.length c0) .z) qe (by kernel_rfl) ?_
 refine At_go <| W_ret ?_
 obtain rfl := Option.some.inj hm
 refine At_rt [sl A0 b.length c0] qe (by kernel_rfl) ?_
 have k_10 := k_1.sel (.s (.k .e))
 exact ⟨A0, b.length, c0, k_10.len 0 rfl, rfl, k_10⟩

-- (*quern/quernref05.Node).Out
noncomputable def m_r05_Node_Out (n_Kind : Int) (n_P_Digest : Int) (n_P_Key : Int) (n_P_Fanout : Int) (n_P_Depth : Int) (n_P_Leaf : UInt32) (n_P_Offset : UInt64) (n_P_Xof : UInt32) (n_P_NodeDepth : Int) (n_P_Inner : Int) (n_P_Salt : List UInt8) (n_P_Personal : List UInt8) (n_Key : List UInt8) (n_Last : Bool) (n_From : Vec UInt64 16) (n_Old : Bool) (n_Lo : UInt64) (n_Hi : UInt64) (n_Msg : List UInt8) (n_Count : UInt64) : Option (List UInt8 × Int × Int × Int × Int × Int × UInt32 × UInt64 × UInt32 × Int × Int × Bool × Vec UInt64 16 × Bool × UInt64 × UInt64 × List UInt8 × UInt64) :=
  (m_r05_Node_passed n_Kind n_P_Digest n_P_Key n_P_Fanout n_P_Depth n_P_Leaf n_P_Offset n_P_Xof n_P_NodeDepth n_P_Inner n_P_Salt n_P_Personal n_Key n_Last n_From n_Old n_Lo n_Hi n_Msg n_Count).bind fun r_ => (m_r01_Add r_.2.1 r_.2.2.1 (UInt64.ofInt (w64 (((r_.2.2.2.2.2.2.2.2.2.2.2.2.2.2.2.2.2.2.2.1.length : Nat) : Int) - r_.2.2.2.1)))).bind fun r_1 => (m_r05_Block r_.2.2.2.2.1).bind fun r_2 => (m_r05_cut r_.2.2.2.2.2.2.2.2.2.2.2.2.2.2.2.2.2.2.2.1 r_.2.2.2.1 r_2).bind fun r_3 => (m_r05_in r_.2.2.2.2.1 r_.1 r_3 r_1.1 r_1.2.1 true r_.2.2.2.2.2.2.2.2.2.2.2.2.2.2.1).bind fun r_4 => (m_r05_bytes r_.2.2.2.2.1 r_4).bind fun r_5 => some (r_5, r_.2.2.2.2.1, r_.2.2.2.2.2.1, r_.2.2.2.2.2.2.1, r_.2.2.2.2.2.2.2.1, r_.2.2.2.2.2.2.2.2.1, r_.2.2.2.2.2.2.2.2.2.1, r_.2.2.2.2.2.2.2.2.2.2.1, r_.2.2.2.2.2.2.2.2.2.2.2.1, r_.2.2.2.2.2.2.2.2.2.2.2.2.1, r_.2.2.2.2.2.2.2.2.2.2.2.2.2.1, r_.2.2.2.2.2.2.2.2.2.2.2.2.2.2.1, r_.2.2.2.2.2.2.2.2.2.2.2.2.2.2.2.1, r_.2.2.2.2.2.2.2.2.2.2.2.2.2.2.2.2.1, r_.2.2.2.2.2.2.2.2.2.2.2.2.2.2.2.2.2.1, r_.2.2.2.2.2.2.2.2.2.2.2.2.2.2.2.2.2.2.1, r_.2.2.2.2.2.2.2.2.2.2.2.2.2.2.2.2.2.2.2.1, r_.2.2.2.2.2.2.2.2.2.2.2.2.2.2.2.2.2.2.2.2)
theorem c_r05_Node_Out {F O : Nat → Prop} {w : World} (n_Kind : Int) (n_P_Digest : Int) (n_P_Key : Int) (n_P_Fanout : Int) (n_P_Depth : Int) (n_P_Leaf : UInt32) (n_P_Offset : UInt64) (n_P_Xof : UInt32) (n_P_NodeDepth : Int) (n_P_Inner : Int) (n_P_Salt : List UInt8) (n_P_Personal : List UInt8) (n_Key : List UInt8) (n_Last : Bool) (n_From : Vec UInt64 16) (n_Old : Bool) (n_Lo : UInt64) (n_Hi : UInt64) (n_Msg : List UInt8) (n_Count : UInt64) (g_n : Nat) (A_n_P_Salt : Option Addr) (n_n_P_Salt : Nat) (c_n_P_Salt : Nat) (A_n_P_Personal : Option Addr) (n_n_P_Personal : Nat) (c_n_P_Personal : Nat) (A_n_Key : Option Addr) (n_n_Key : Nat) (c_n_Key : Nat) (A_n_Msg : Option Addr) (n_n_Msg : Nat) (c_n_Msg : Nat) (h_n_P_Salt : Ro F w A_n_P_Salt (e8.all n_P_Salt)) (hn_n_P_Salt : n_P_Salt.length = n_n_P_Salt) (hc_n_P_Salt : n_n_P_Salt ≤ c_n_P_Salt) (h_n_P_Personal : Ro F w A_n_P_Personal (e8.all n_P_Personal)) (hn_n_P_Personal : n_P_Personal.length = n_n_P_Personal) (hc_n_P_Personal : n_n_P_Personal ≤ c_n_P_Personal) (h_n_Key : Ro F w A_n_Key (e8.all n_Key)) (hn_n_Key : n_Key.length = n_n_Key) (hc_n_Key : n_n_Key ≤ c_n_Key) (k : Cx F O w w [Bx 110 g_n [I n_Kind, I n_P_Digest, I n_P_Key, I n_P_Fanout, I n_P_Depth, .u32 n_P_Leaf, .u64 n_P_Offset, .u32 n_P_Xof, I n_P_NodeDepth, I n_P_Inner, sl A_n_P_Salt n_n_P_Salt c_n_P_Salt, sl A_n_P_Personal n_n_P_Personal c_n_P_Personal, sl A_n_Key n_n_Key c_n_Key, .b n_Last, .ar e64 n_From, .b n_Old, .u64 n_Lo, .u64 n_Hi, sl A_n_Msg n_n_Msg c_n_Msg, .u64 n_Count], Ow e8 A_n_Msg n_n_Msg c_n_Msg n_Msg]) (r : (List UInt8 × Int × Int × Int × Int × Int × UInt32 × UInt64 × UInt32 × Int × Int × Bool × Vec UInt64 16 × Bool × UInt64 × UInt64 × List UInt8 × UInt64)) (hm : m_r05_Node_Out n_Kind n_P_Digest n_P_Key n_P_Fanout n_P_Depth n_P_Leaf n_P_Offset n_P_Xof n_P_NodeDepth n_P_Inner n_P_Salt n_P_Personal n_Key n_Last n_From n_Old n_Lo n_Hi n_Msg n_Count = some r) :
    Calls Tryz.prog 62 (vals [pt g_n 0]) w (fun e w' => ∃ A n c A1 n1 c1, r.1.length = n ∧ r.2.2.2.2.2.2.2.2.2.2.2.2.2.2.2.2.1.length = n1 ∧ e = .returned (SV.val (sl A n c)) ∧ Cx F O w w' [Ow e8 A n c r.1, Bx 110 g_n [I r.2.1, I r.2.2.1, I r.2.2.2.1, I r.2.2.2.2.1, I r.2.2.2.2.2.1, .u32 r.2.2.2.2.2.2.1, .u64 r.2.2.2.2.2.2.2.1, .u32 r.2.2.2.2.2.2.2.2.1, I r.2.2.2.2.2.2.2.2.2.1, I r.2.2.2.2.2.2.2.2.2.2.1, sl A_n_P_Salt n_n_P_Salt c_n_P_Salt, sl A_n_P_Personal n_n_P_Personal c_n_P_Personal, sl A_n_Key n_n_Key c_n_Key, .b r.2.2.2.2.2.2.2.2.2.2.2.1, .ar e64 r.2.2.2.2.2.2.2.2.2.2.2.2.1, .b r.2.2.2.2.2.2.2.2.2.2.2.2.2.1, .u64 r.2.2.2.2.2.2.2.2.2.2.2.2.2.2.1, .u64 r.2.2.2.2.2.2.2.2.2.2.2.2.2.2.2.1, sl A1 n1 c1, .u64 r.2.2.2.2.2.2.2.2.2.2.2.2.2.2.2.2.2], Ow e8 A1 n1 c1 r.2.2.2.2.2.2.2.2.2.2.2.2.2.2.2.2.1]) := by
 unfold m_r05_Node_Out at hm
 subst hn_n_P_Salt
 subst hn_n_P_Personal
 subst hn_n_Key
 obtain rfl := k.len 1 rfl
 refine calls [pt g_n 0] Tryz.func62 rfl (of_decide_eq_true (by kernel_rfl)) ?_
 refine W_seq <| W_q [] .a qe (by kernel_rfl) ?_
 refine At_go <| W_seq <| W_reg <| WLs 1 [] (.n 8 (pt g_n 0) .a) qe (by kernel_rfl) ?_
 refine WL_op ?_
 obtain ⟨r_, h_r_, hm⟩ := ob hm
 obtain ⟨F1, O1, kin, hO, hre, hF, hb⟩ := k.go (.i (.i .e))
 refine Op_call [] 9 _ yz_go72 (by kernel_rfl) (c_r05_Node_passed (F := F1) (O := O1) _ _ _ _ _ _ _ _ _ _ _ _ _ _ _ _ _ _ _ _ _ _ _ _ _ _ _ _ _ _ _ _ _ (Ro.of_old h_n_P_Salt k hF) rfl hc_n_P_Salt (Ro.of_old h_n_P_Personal k hF) rfl hc_n_P_Personal (Ro.of_old h_n_Key k hF) rfl hc_n_Key kin _ h_r_) ?_
 rintro e_ w_ ⟨A0, _, c0, rfl, rfl, k_⟩
 have k_1 := hb w_ _ _ k_ (.c (.c .n))
 refine ⟨.tup [.agg [.ar e64 r_.1], .u64 r_.2.1, .u64 r_.2.2.1, I r_.2.2.2.1], rfl, ?_⟩
 refine WLs 5 [] (.n 10 (.agg [.ar e64 r_.1]) (.n 11 (.u64 r_.2.1) (.n 12 (.u64 r_.2.2.1) (.n 13 (I r_.2.2.2.1) (.ss .a))))) qe (by kernel_rfl) ?_
 refine WL_op <| Op_alloc [] 3 [.ar e64 (Vec.rep 16 (0 : UInt64))] (by kernel_rfl) k_1 ?_
 intro g w_1 k_2
 refine WL_op <| Op_b [] 2 (.agg [.ar e64 r_.1]) [.ar e64 r_.1] (Pt.at g 0) k_2 rfl .all (by kernel_rfl) (by kernel_rfl) ?_
 intro w_2 k_3
 refine WLs 3 [] (.n 4 (.u64 r_.2.1) (.n 5 (.u64 r_.2.2.1) (.n 6 (I r_.2.2.2.1) (.k (.ssss .a))))) qe (by kernel_rfl) ?_
 refine WL_nil <| At_go <| W_seq <| W_reg <| WLs 10 [] (.n 15 (.u64 r_.2.1) (.n 16 (.u64 r_.2.2.1) (.n 24 (.u64 (UInt64.ofInt (w64 (((r_.2.2.2.2.2.2.2.2.2.2.2.2.2.2.2.2.2.2.2.1.length : Nat) : Int) - r_.2.2.2.1)))) .a))) (qs g_n 0 <| qs g_n 0 <| qB k_3 0 rfl 33 (sl A0 r_.2.2.2.2.2.2.2.2.2.2.2.2.2.2.2.2.2.2.2.1.length c0) (by kernel_rfl) <| qe) (by kernel_rfl) ?_
 refine WL_op ?_
 obtain ⟨r_1, h_r_1, hm⟩ := ob hm
 refine Op_call [] 25 _ yz_go73 (by kernel_rfl) (c_r01_Add (F := N0) (O := N0) _ _ _ (Cx.refl _) _ h_r_1) ?_
 rintro e_ w_3 ⟨rfl, k_4⟩
 have k_5 := k_3.call k_4
 refine ⟨.tup [.u64 r_1.1, .u64 r_1.2.1, .b r_1.2.2], rfl, ?_⟩
 refine WLs 6 [] (.n 4 (.u64 r_1.1) (.n 5 (.u64 r_1.2.1) (.ssss (.ss .a)))) qe (by kernel_rfl) ?_
 refine WL_nil <| At_go <| W_seq ?_
 have k_6 := k_5.drew 1
 refine W_m yz_mixed (.q 8 3 (.q 13 3 (.q 20 3 (.q 21 3 (.q 0 4 (.q 1 4 (.q 2 4 (.q 3 3 (.q 4 4 (.q 5 4 (.q 6 4 (.q 7 3 (.q 9 4 (.q 10 4 (.q 11 4 (.q 12 3 (.q 14 4 (.q 15 4 (.q 16 4 (.q 17 3 (.q 22 4 (.q 23 4 (.q 24 4 (.q 25 3 (.op 18 (.op 19 (.op 26 (.op 27 (.q 28 4 .nil))))))))))))))))))))))))))))) [18, 19, 26, 27] k_6 (.c (.kk (.k .e)) (.c (.kk (.k .e)) (.c (.kk (.k .e)) (.c (.kk (.k .e)) .l)))) (by kernel_rfl) (fun _ => ?_)
 refine MXq 4 3 [] (.n 37 (.agg [.ar e64 r_.1]) (.n 42 (I r_.2.2.2.1) (.n 49 (.u64 r_1.1) (.n 50 (.u64 r_1.2.1) (.ssss .a))))) (fun x hx => qT hx 2 rfl 0 16 [.ar e64 r_.1] (by kernel_rfl) (by decide) <| qe) (by kernel_rfl) (fun _ => ?_)
 refine MXq 3 4 [] (.n 31 (pt g_n 0) .a) (fun x hx => qs g_n 0 <| qs g_n 0 <| qe) (by kernel_rfl) (fun _ => ?_)
 refine MXq 1 3 [] (.n 32 (I r_.2.2.2.2.1) (.s .a)) (fun x hx => qB hx 0 rfl 0 (I r_.2.2.2.2.1) (by kernel_rfl) <| qe) (by kernel_rfl) (fun _ => ?_)
 refine MXq 3 4 [] (.n 35 (pt g_n 0) .a) (fun x hx => qs g_n 0 <| qs g_n 0 <| qe) (by kernel_rfl) (fun _ => ?_)
 refine MXq 1 3 [] (.n 36 (I r_.2.2.2.2.1) (.s .a)) (fun x hx => qB hx 0 rfl 0 (I r_.2.2.2.2.1) (by kernel_rfl) <| qe) (by kernel_rfl) (fun _ => ?_)
 refine MXq 3 4 [] (.n 40 (pt g_n 33) .a) (fun x hx => qs g_n 0 <| qs g_n 0 <| qe) (by kernel_rfl) (fun _ => ?_)
 refine MXq 1 3 [] (.n 41 (sl A0 r_.2.2.2.2.2.2.2.2.2.2.2.2.2.2.2.2.2.2.2.1.length c0) (.s .a)) (fun x hx => qB hx 0 rfl 33 (sl A0 r_.2.2.2.2.2.2.2.2.2.2.2.2.2.2.2.2.2.2.2.1.length c0) (by kernel_rfl) <| qe) (by kernel_rfl) (fun _ => ?_)
 refine MXq 3 4 [] (.n 45 (pt g_n 0) .a) (fun x hx => qs g_n 0 <| qs g_n 0 <| qe) (by kernel_rfl) (fun _ => ?_)
 refine MXq 1 3 [] (.n 46 (I r_.2.2.2.2.1) (.s .a)) (fun x hx => qB hx 0 rfl 0 (I r_.2.2.2.2.1) (by kernel_rfl) <| qe) (by kernel_rfl) (fun _ => ?_)
 refine MXq 3 4 [] (.n 53 (pt g_n 13) (.kkkk (.kkkk .z))) (fun x hx => qs g_n 0 <| qs g_n 0 <| qe) (by kernel_rfl) (fun _ => ?_)
 refine MXq 1 3 [] (.n 54 (.b r_.2.2.2.2.2.2.2.2.2.2.2.2.2.2.1) (.s .a)) (fun x hx => qB hx 0 rfl 13 (.b r_.2.2.2.2.2.2.2.2.2.2.2.2.2.2.1) (by kernel_rfl) <| qe) (by kernel_rfl) (fun _ => ?_)
 refine MX_op (by kernel_rfl) rfl ?_
 have k_7 := k_6.sel (.kk (.k .e))
 obtain ⟨r_2, h_r_2, hm⟩ := ob hm
 refine Op_call [] 47 _ yz_go77 (by kernel_rfl) (c_r05_Block (F := N0) (O := N0) _ (Cx.refl _) _ h_r_2) ?_
 rintro e_ w_4 ⟨rfl, k_8⟩
 have k_9 := k_7.call k_8
 refine ⟨I r_2, rfl, ?_⟩
 refine ⟨k_9, fun _ => ?_⟩
 refine MX_op (by kernel_rfl) rfl ?_
 obtain ⟨r_3, h_r_3, hm⟩ := ob hm
 refine Op_call [] 48 _ yz_go76 (by kernel_rfl) (c_r05_cut (F := N0) (O := N0) _ _ _ _ _ _ (Ro.n0 (k_9.rd 1 rfl)) (k_9.len 1 rfl) (k_9.lec 1 rfl) (Cx.refl _) _ h_r_3) ?_
 rintro e_ w_5 ⟨A2, _, c2, rfl, rfl, k_10⟩
 have k_11 := k_9.call k_10
 refine ⟨sl A2 r_3.length c2, rfl, ?_⟩
 refine ⟨(k_11.sel (.kk (.k .z))), fun _ => ?_⟩
 refine MX_op (by kernel_rfl) rfl ?_
 obtain ⟨r_4, h_r_4, hm⟩ := ob hm
 refine Op_call [] 55 _ yz_go75 (by kernel_rfl) (c_r05_in (F := N0) (O := N0) _ _ _ _ _ _ _ _ _ _ (Ro.n0 (k_11.rd 3 rfl)) (k_11.len 3 rfl) (k_11.lec 3 rfl) (Cx.refl _) _ h_r_4) ?_
 rintro e_ w_6 ⟨rfl, k_12⟩
 have k_13 := k_11.call k_12
 refine ⟨.agg [.ar e64 r_4], rfl, ?_⟩
 have k_14 := k_13.sel (.kk (.k .z))
 refine ⟨k_14, fun _ => ?_⟩
 refine MX_op (by kernel_rfl) rfl ?_
 obtain ⟨r_5, h_r_5, hm⟩ := ob hm
 refine Op_call [] 56 _ yz_go74 (by kernel_rfl) (c_r05_bytes (F := N0) (O := N0) _ _ (Cx.refl _) _ h_r_5) ?_
 rintro e_ w_7 ⟨A3, _, c3, rfl, rfl, k_15⟩
 have k_16 := k_14.call k_15
 refine ⟨sl A3 r_5.length c3, rfl, ?_⟩
 refine ⟨(k_16.sel (.kk (.k .z))), fun _ => ?_⟩
 refine MXq 1 4 [] (.n 2 (sl A3 r_5.length c3) .z) (fun x hx => qe) (by kernel_rfl) (fun _ => ?_)
 refine MX_nil <| At_go <| W_ret ?_
 obtain rfl := Option.some.inj hm
 refine At_rt [sl A3 r_5.length c3] qe (by kernel_rfl) ?_
 have k_17 := (((k_16.pk (.t .h)).pk (.t .h)).pk (.t (.t (.t .h)))).sel (.kk (.k .z))
 exact ⟨A3, r_5.length, c3, A0, r_.2.2.2.2.2.2.2.2.2.2.2.2.2.2.2.2.2.2.2.1.length, c0, k_17.len 0 rfl, k_17.len 2 rfl, rfl, k_17⟩

-- quern/quernref05.Hash
noncomputable def m_r05_Hash (kind : Int) (p_Digest : Int) (p_Key : Int) (p_Fanout : Int) (p_Depth : Int) (p_Leaf : UInt32) (p_Offset : UInt64) (p_Xof : UInt32) (p_NodeDepth : Int) (p_Inner : Int) (p_Salt : List UInt8) (p_Personal : List UInt8) (key : List UInt8) (last : Bool) (out : Int) (data : List UInt8) : Option (List UInt8 × Int) :=
  (m_r05_New kind p_Digest p_Key p_Fanout p_Depth p_Leaf p_Offset p_Xof p_NodeDepth p_Inner p_Salt p_Personal key).bind fun r_ => (Sum.elim (fun r_1 => if r_1 ≠ 0 then (some (([] : List UInt8), r_1)) else (if out < 1 then (some (([] : List UInt8), (1 : Int))) else ((m_r05_Full kind).bind fun r_3 => if r_3 < out then (some (([] : List UInt8), (1 : Int))) else none))) (fun r_2 => if 0 ≠ 0 then (some (([] : List UInt8), (0 : Int))) else (if out < 1 then (some (([] : List UInt8), (1 : Int))) else ((m_r05_Full kind).bind fun r_4 => if r_4 < out then (some (([] : List UInt8), (1 : Int))) else ((m_r05_Node_Write r_2.1 r_2.2.1 r_2.2.2.1 r_2.2.2.2.1 r_2.2.2.2.2.1 r_2.2.2.2.2.2.1 r_2.2.2.2.2.2.2.1 r_2.2.2.2.2.2.2.2.1 r_2.2.2.2.2.2.2.2.2.1 r_2.2.2.2.2.2.2.2.2.2.1 p_Salt p_Personal key last r_2.2.2.2.2.2.2.2.2.2.2.1 false (0 : UInt64) (0 : UInt64) r_2.2.2.2.2.2.2.2.2.2.2.2 (0 : UInt64) data).bind fun r_5 => (m_r05_Node_Out r_5.1 r_5.2.1 r_5.2.2.1 r_5.2.2.2.1 r_5.2.2.2.2.1 r_5.2.2.2.2.2.1 r_5.2.2.2.2.2.2.1 r_5.2.2.2.2.2.2.2.1 r_5.2.2.2.2.2.2.2.2.1 r_5.2.2.2.2.2.2.2.2.2.1 p_Salt p_Personal key r_5.2.2.2.2.2.2.2.2.2.2.1 r_5.2.2.2.2.2.2.2.2.2.2.2.1 r_5.2.2.2.2.2.2.2.2.2.2.2.2.1 r_5.2.2.2.2.2.2.2.2.2.2.2.2.2.1 r_5.2.2.2.2.2.2.2.2.2.2.2.2.2.2.1 r_5.2.2.2.2.2.2.2.2.2.2.2.2.2.2.2.1 r_5.2.2.2.2.2.2.2.2.2.2.2.2.2.2.2.2).bind fun r_6 => (slc r_6.1 0 out).bind fun b => some (b, (0 : Int))))))) r_
theorem c_r05_Hash {F O : Nat → Prop} {w : World} (kind : Int) (p_Digest : Int) (p_Key : Int) (p_Fanout : Int) (p_Depth : Int) (p_Leaf : UInt32) (p_Offset : UInt64) (p_Xof : UInt32) (p_NodeDepth : Int) (p_Inner : Int) (p_Salt : List UInt8) (p_Personal : List UInt8) (key : List UInt8) (last : Bool) (out : Int) (data : List UInt8) (A_p_Salt : Option Addr) (n_p_Salt : Nat) (c_p_Salt : Nat) (A_p_Personal : Option Addr) (n_p_Personal : Nat) (c_p_Personal : Nat) (A_key : Option Addr) (n_key : Nat) (c_key : Nat) (A_data : Option Addr) (n_data : Nat) (c_data : Nat) (h_p_Salt : Ro F w A_p_Salt (e8.all p_Salt)) (hn_p_Salt : p_Salt.length = n_p_Salt) (hc_p_Salt : n_p_Salt ≤ c_p_Salt) (h_p_Personal : Ro F w A_p_Personal (e8.all p_Personal)) (hn_p_Personal : p_Personal.length = n_p_Personal) (hc_p_Personal : n_p_Personal ≤ c_p_Personal) (h_key : Ro F w A_key (e8.all key)) (hn_key : key.length = n_key) (hc_key : n_key ≤ c_key) (h_data : Ro F w A_data (e8.all data)) (hn_data : data.length = n_data) (hc_data : n_data ≤ c_data) (k : Cx F O w w []) (r : (List UInt8 × Int)) (hm : m_r05_Hash kind p_Digest p_Key p_Fanout p_Depth p_Leaf p_Offset p_Xof p_NodeDepth p_Inner p_Salt p_Personal key last out data = some r) :
    Calls Tryz.prog 43 (vals [I kind, .agg [I p_Digest, I p_Key, I p_Fanout, I p_Depth, .u32 p_Leaf, .u64 p_Offset, .u32 p_Xof, I p_NodeDepth, I p_Inner, sl A_p_Salt n_p_Salt c_p_Salt, sl A_p_Personal n_p_Personal c_p_Personal], sl A_key n_key c_key, .b last, I out, sl A_data n_data c_data]) w (fun e w' => ∃ A n c, r.1.length = n ∧ e = .returned (SV.val (.tup [sl A n c, I r.2])) ∧ Cx F O w w' [Ow e8 A n c r.1]) := by
 unfold m_r05_Hash at hm
 subst hn_p_Salt
 subst hn_p_Personal
 subst hn_key
 subst hn_data
 refine calls [I kind, .agg [I p_Digest, I p_Key, I p_Fanout, I p_Depth, .u32 p_Leaf, .u64 p_Offset, .u32 p_Xof, I p_NodeDepth, I p_Inner, sl A_p_Salt p_Salt.length c_p_Salt, sl A_p_Personal p_Personal.length c_p_Personal], sl A_key key.length c_key, .b last, I out, sl A_data data.length c_data] Tryz.func43 rfl (of_decide_eq_true (by kernel_rfl)) ?_
 refine W_seq <| W_reg <| WL_op <| Op_box [] 7 (.agg [I p_Digest, I p_Key, I p_Fanout, I p_Depth, .u32 p_Leaf, .u64 p_Offset, .u32 p_Xof, I p_NodeDepth, I p_Inner, sl A_p_Salt p_Salt.length c_p_Salt, sl A_p_Personal p_Personal.length c_p_Personal]) [I p_Digest, I p_Key, I p_Fanout, I p_Depth, .u32 p_Leaf, .u64 p_Offset, .u32 p_Xof, I p_NodeDepth, I p_Inner, sl A_p_Salt p_Salt.length c_p_Salt, sl A_p_Personal p_Personal.length c_p_Personal] (by kernel_rfl) k ?_
 intro g w_ k_
 refine WLs 2 [] (.kk (.s .a)) qe (by kernel_rfl) ?_
 refine WL_nil <| At_go <| W_seq <| W_reg <| WLs 3 [] (.n 17 (I kind) (.n 18 (.agg [I p_Digest, I p_Key, I p_Fanout, I p_Depth, .u32 p_Leaf, .u64 p_Offset, .u32 p_Xof, I p_NodeDepth, I p_Inner, sl A_p_Salt p_Salt.length c_p_Salt, sl A_p_Personal p_Personal.length c_p_Personal]) (.n 19 (sl A_key key.length c_key) (.s (.k (.s .a)))))) (qT k_ 0 rfl 0 11 [I p_Digest, I p_Key, I p_Fanout, I p_Depth, .u32 p_Leaf, .u64 p_Offset, .u32 p_Xof, I p_NodeDepth, I p_Inner, sl A_p_Salt p_Salt.length c_p_Salt, sl A_p_Personal p_Personal.length c_p_Personal] (by kernel_rfl) (by decide) <| qe) (by kernel_rfl) ?_
 refine WL_op ?_
 obtain ⟨r_, h_r_, hm⟩ := ob hm
 refine Op_call [] 20 _ yz_go59 (by kernel_rfl) (c_r05_New (F := N0) (O := N0) _ _ _ _ _ _ _ _ _ _ _ _ _ _ _ _ _ _ _ _ _ _ (Ro.n0 (h_p_Salt.cx k_)) rfl hc_p_Salt (Ro.n0 (h_p_Personal.cx k_)) rfl hc_p_Personal (Ro.n0 (h_key.cx k_)) rfl hc_key (Cx.refl _) _ h_r_) ?_
 rcases r_ with r_1 | r_2
 · simp only [Sum.elim_inl, Sum.elim_inr] at hm
   rintro e_ w_1 ⟨rfl, k_1⟩
   have k_2 := k_.call k_1
   refine ⟨.tup [.v (.pointer none), I r_1], rfl, ?_⟩
   have k_3 := k_2.sel .z
   refine WLs 5 [] (.n 14 (.v (.pointer none)) (.n 15 (I r_1) (.ssss .a))) qe (by kernel_rfl) ?_
   refine WL_nil <| At_go <| W_seq <| W_seq <| W_q [] (.n 24 (.b (decide (r_1 ≠ 0))) .a) qe (by kernel_rfl) ?_
   refine At_go <| W_condp (r_1 ≠ 0) (by kernel_rfl) (fun hc => ?_) (fun hc => ?_)
   · rw [if_pos hc] at hm
     refine W_seq <| W_q [] (.n 12 (sl none 0 0) (.n 13 (I r_1) .z)) qe (by kernel_rfl) ?_
     refine At_go <| W_ret (At_tr ?_)
     have k_4 := k_3.nil e8
     obtain rfl := Option.some.inj hm
     refine At_rt [sl none 0 0, I r_1] qe (by kernel_rfl) ?_
     exact ⟨none, 0, 0, k_4.len 0 rfl, rfl, k_4⟩
   rw [if_neg hc] at hm
   refine W_skip <| At_go <| W_seq <| W_seq <| W_reg <| WLs 3 [] (.n 28 (.b (decide (out < 1))) (.s (.k (.s .a)))) qe (by kernel_rfl) ?_
   refine WL_sp 28 (decide (out < 1)) (.s .a) (by kernel_rfl) (fun hg => ?_) (fun hg => ?_)
   · rw [if_pos (of_decide_eq_true hg)] at hm
     refine WLs 5 [28] (.n 33 (.b true) (.s (.k (.s .a)))) qe (by kernel_rfl) ?_
     refine WL_nil <| At_go <| W_cond true (by kernel_rfl) (fun _ => ?_) (fun h => by cases h)
     refine W_seq <| W_q [] (.n 12 (sl none 0 0) (.n 13 (I 1) .z)) qe (by kernel_rfl) ?_
     refine At_go <| W_ret (At_tr ?_)
     have k_5 := k_3.nil e8
     obtain rfl := Option.some.inj hm
     refine At_rt [sl none 0 0, I 1] qe (by kernel_rfl) ?_
     exact ⟨none, 0, 0, k_5.len 0 rfl, rfl, k_5⟩
   · rw [if_neg (of_decide_eq_false hg)] at hm
     refine WLs 2 [28] (.n 29 (I out) (.n 30 (I kind) (.kk (.s .a)))) qe (by kernel_rfl) ?_
     refine WL_op ?_
     obtain ⟨r_3, h_r_3, hm⟩ := ob hm
     refine Op_call [28] 31 _ yz_go60 (by kernel_rfl) (c_r05_Full (F := N0) (O := N0) _ (Cx.refl _) _ h_r_3) ?_
     rintro e_ w_2 ⟨rfl, k_6⟩
     have k_7 := k_3.call k_6
     refine ⟨I r_3, rfl, ?_⟩
     refine WLs 2 [28] (.n 33 (.b (decide (r_3 < out))) (.ssss .a)) qe (by kernel_rfl) ?_
     refine WL_nil <| At_go <| W_condp (r_3 < out) (by kernel_rfl) (fun hc1 => ?_) (fun hc1 => ?_)
     · rw [if_pos hc1] at hm
       refine W_seq <| W_q [] (.n 12 (sl none 0 0) (.n 13 (I 1) .z)) qe (by kernel_rfl) ?_
       refine At_go <| W_ret (At_tr ?_)
       have k_8 := k_7.nil e8
       obtain rfl := Option.some.inj hm
       refine At_rt [sl none 0 0, I 1] qe (by kernel_rfl) ?_
       exact ⟨none, 0, 0, k_8.len 0 rfl, rfl, k_8⟩
     rw [if_neg hc1] at hm
     cases hm
 · simp only [Sum.elim_inl, Sum.elim_inr] at hm
   rintro e_ w_3 ⟨g1, A0, _, c0, rfl, rfl, k_9⟩
   have k_10 := k_.call k_9
   refine ⟨.tup [pt g1 0, I 0], rfl, ?_⟩
   have k_11 := k_10.sel (.s (.kk .e))
   refine WLs 5 [] (.n 14 (pt g1 0) (.n 15 (I 0) (.ssss .a))) qe (by kernel_rfl) ?_
   refine WL_nil <| At_go <| W_seq <| W_seq <| W_q [] (.n 24 (.b (decide (0 ≠ 0))) .a) qe (by kernel_rfl) ?_
   refine At_go <| W_condp (0 ≠ 0) (by kernel_rfl) (fun hc0 => ?_) (fun hc0 => ?_)
   · rw [if_pos hc0] at hm
     refine W_seq <| W_q [] (.n 12 (sl none 0 0) (.n 13 (I 0) .z)) qe (by kernel_rfl) ?_
     refine At_go <| W_ret (At_tr ?_)
     have k_12 := k_11.nil e8
     obtain rfl := Option.some.inj hm
     refine At_rt [sl none 0 0, I 0] qe (by kernel_rfl) ?_
     have k_13 := k_12.sel (.ss (.k .e))
     exact ⟨none, 0, 0, k_13.len 0 rfl, rfl, k_13⟩
   rw [if_neg hc0] at hm
   refine W_skip <| At_go <| W_seq <| W_seq <| W_reg <| WLs 3 [] (.n 28 (.b (decide (out < 1))) (.s (.k (.s .a)))) qe (by kernel_rfl) ?_
   refine WL_sp 28 (decide (out < 1)) (.s .a) (by kernel_rfl) (fun hg0 => ?_) (fun hg0 => ?_)
   · rw [if_pos (of_decide_eq_true hg0)] at hm
     refine WLs 5 [28] (.n 33 (.b true) (.s (.k (.s .a)))) qe (by kernel_rfl) ?_
     refine WL_nil <| At_go <| W_cond true (by kernel_rfl) (fun _ => ?_) (fun h => by cases h)
     refine W_seq <| W_q [] (.n 12 (sl none 0 0) (.n 13 (I 1) .z)) qe (by kernel_rfl) ?_
     refine At_go <| W_ret (At_tr ?_)
     have k_14 := k_11.nil e8
     obtain rfl := Option.some.inj hm
     refine At_rt [sl none 0 0, I 1] qe (by kernel_rfl) ?_
     have k_15 := k_14.sel (.ss (.k .e))
     exact ⟨none, 0, 0, k_15.len 0 rfl, rfl, k_15⟩
   · rw [if_neg (of_decide_eq_false hg0)] at hm
     refine WLs 2 [28] (.n 29 (I out) (.n 30 (I kind) (.kk (.s .a)))) qe (by kernel_rfl) ?_
     refine WL_op ?_
     obtain ⟨r_4, h_r_4, hm⟩ := ob hm
     refine Op_call [28] 31 _ yz_go60 (by kernel_rfl) (c_r05_Full (F := N0) (O := N0) _ (Cx.refl _) _ h_r_4) ?_
     rintro e_ w_4 ⟨rfl, k_16⟩
     have k_17 := k_11.call k_16
     refine ⟨I r_4, rfl, ?_⟩
     refine WLs 2 [28] (.n 33 (.b (decide (r_4 < out))) (.ssss .a)) qe (by kernel_rfl) ?_
     refine WL_nil <| At_go <| W_condp (r_4 < out) (by kernel_rfl) (fun hc2 => ?_) (fun hc2 => ?_)
     · rw [if_pos hc2] at hm
       refine W_seq <| W_q [] (.n 12 (sl none 0 0) (.n 13 (I 1) .z)) qe (by kernel_rfl) ?_
       refine At_go <| W_ret (At_tr ?_)
       have k_18 := k_17.nil e8
       obtain rfl := Option.some.inj hm
       refine At_rt [sl none 0 0, I 1] qe (by kernel_rfl) ?_
       have k_19 := k_18.sel (.ss (.k .e))
       exact ⟨none, 0, 0, k_19.len 0 rfl, rfl, k_19⟩
     rw [if_neg hc2] at hm
     refine W_skip <| At_go <| W_seq <| W_reg <| WLs 4 [] (.n 35 (.b last) (.n 37 (pt g1 13) (.s (.k (.s .a))))) (qs g1 0 <| qs g1 0 <| qe) (by kernel_rfl) ?_
     refine WL_op <| Op_b [] 0 (.b last) [.b last] (Pt.at g1 13) k_17 rfl (.kkkk (.kkkk (.kkkk (.k .h)))) (by kernel_rfl) (by kernel_rfl) ?_
     intro w_5 k_20
     refine WL_nil <| At_go <| W_seq <| W_reg <| WLs 2 [] (.n 38 (pt g1 0) (.n 39 (sl A_data data.length c_data) (.ss (.kk .z)))) qe (by kernel_rfl) ?_
     refine WL_op ?_
     have k_21 := k_20.sel (.kk .e)
     obtain ⟨r_5, h_r_5, hm⟩ := ob hm
     obtain ⟨F1, O1, kin, hO, hre, hF, hb⟩ := k_21.go (.i (.i .e))
     refine Op_call [] 40 _ yz_go61 (by kernel_rfl) (c_r05_Node_Write (F := F1) (O := O1) _ _ _ _ _ _ _ _ _ _ _ _ _ _ _ _ _ _ _ _ _ _ _ _ _ _ _ _ _ _ _ _ _ _ _ _ _ (Ro.of_old h_p_Salt k_21 hF) rfl hc_p_Salt (Ro.of_old h_p_Personal k_21 hF) rfl hc_p_Personal (Ro.of_old h_key k_21 hF) rfl hc_key (Ro.of_old h_data k_21 hF) rfl hc_data kin _ h_r_5) ?_
     rintro e_ w_6 ⟨A1, _, c1, rfl, rfl, k_22⟩
     have k_23 := hb w_6 _ _ k_22 (.c (.c .n))
     refine ⟨.tup [], rfl, ?_⟩
     refine WL_nil <| At_go <| W_seq <| W_reg <| WLs 1 [] (.n 41 (pt g1 0) (.ssss .a)) qe (by kernel_rfl) ?_
     refine WL_op ?_
     obtain ⟨r_6, h_r_6, hm⟩ := ob hm
     obtain ⟨F11, O11, kin1, hO1, hre1, hF1, hb1⟩ := k_23.go (.i (.i .e))
     refine Op_call [] 42 _ yz_go62 (by kernel_rfl) (c_r05_Node_Out (F := F11) (O := O11) _ _ _ _ _ _ _ _ _ _ _ _ _ _ _ _ _ _ _ _ _ _ _ _ _ _ _ _ _ _ _ _ _ (Ro.of_old h_p_Salt k_23 hF1) rfl hc_p_Salt (Ro.of_old h_p_Personal k_23 hF1) rfl hc_p_Personal (Ro.of_old h_key k_23 hF1) rfl hc_key kin1 _ h_r_6) ?_
     rintro e_ w_7 ⟨A2, _, c2, A3, _, c3, rfl, rfl, rfl, k_24⟩
     have k_25 := hb1 w_7 _ _ k_24 (.c (.c (.c .n)))
     refine ⟨sl A2 r_6.1.length c2, rfl, ?_⟩
     have k_26 := k_25.sel (.k .z)
     obtain ⟨b, h_b, hm⟩ := ob hm
     have hs := slc_some h_b
     have hl := slc_len h_b
     have hn : r_6.1.length = r_6.1.length := (k_26.len 0 rfl)
     have hc3 : r_6.1.length ≤ c2 := (k_26.lec 0 rfl)
     have hc4 : b.length ≤ c2 := by omega
     refine WLs 4 [] (.n 12 (sl A2 b.length c2) (.n 13 (I 0) .z)) (qp (0 ≤ out ∧ out ≤ ((c2 : Nat) : Int)) (by omega) <| qo (.v (.slice A2 b.length c2)) <| qp (Value.slice (slA A2 0 c2 1) (Int.toNat out - 0) (c2 - 0) = .slice A2 b.length c2) (slx0 _ _ _ _ _ (by omega)) <| qe) (by kernel_rfl) ?_
     refine WL_nil <| At_go <| W_ret ?_
     have k_27 := k_26.pre 0 rfl b.length c2 b (by omega) (by omega) (by omega) (slc_pre h_b rfl)
     obtain rfl := Option.some.inj hm
     refine At_rt [sl A2 b.length c2, I 0] qe (by kernel_rfl) ?_
     exact ⟨A2, b.length, c2, k_27.len 0 rfl, rfl, k_27⟩

-- quern/quernref06.Make
noncomputable def m_r06_Make (kind : Int) (n : Int) (key : List UInt8) (salt : List UInt8) (personal : List UInt8) (data : List UInt8) : Option (List UInt8 × Int) :=
  (m_r02_Check kind n ((key.length : Nat) : Int) (1 : Int) (1 : Int) (0 : UInt32) (0 : UInt64) (0 : UInt32) (0 : Int) (0 : Int) salt personal).bind fun r_ => if r_ ≠ 0 then (some (([] : List UInt8), r_)) else ((m_r05_Hash kind n ((key.length : Nat) : Int) (1 : Int) (1 : Int) (0 : UInt32) (0 : UInt64) (0 : UInt32) (0 : Int) (0 : Int) salt personal key false n data).bind fun r_1 => some (r_1.1, r_1.2))
theorem c_r06_Make {F O : Nat → Prop} {w : World} (kind : Int) (n : Int) (key : List UInt8) (salt : List UInt8) (personal : List UInt8) (data : List UInt8) (A_key : Option Addr) (n_key : Nat) (c_key : Nat) (A_salt : Option Addr) (n_salt : Nat) (c_salt : Nat) (A_personal : Option Addr) (n_personal : Nat) (c_personal : Nat) (A_data : Option Addr) (n_data : Nat) (c_data : Nat) (h_key : Ro F w A_key (e8.all key)) (hn_key : key.length = n_key) (hc_key : n_key ≤ c_key) (h_salt : Ro F w A_salt (e8.all salt)) (hn_salt : salt.length = n_salt) (hc_salt : n_salt ≤ c_salt) (h_personal : Ro F w A_personal (e8.all personal)) (hn_personal : personal.length = n_personal) (hc_personal : n_personal ≤ c_personal) (h_data : Ro F w A_data (e8.all data)) (hn_data : data.length = n_data) (hc_data : n_data ≤ c_data) (k : Cx F O w w []) (r : (List UInt8 × Int)) (hm : m_r06_Make kind n key salt personal data = some r) :
    Calls Tryz.prog 12 (vals [I kind, I n, sl A_key n_key c_key, sl A_salt n_salt c_salt, sl A_personal n_personal c_personal, sl A_data n_data c_data]) w (fun e w' => ∃ A n1 c, r.1.length = n1 ∧ e = .returned (SV.val (.tup [sl A n1 c, I r.2])) ∧ Cx F O w w' [Ow e8 A n1 c r.1]) := by
 unfold m_r06_Make at hm
 subst hn_key
 subst hn_salt
 subst hn_personal
 subst hn_data
 refine calls [I kind, I n, sl A_key key.length c_key, sl A_salt salt.length c_salt, sl A_personal personal.length c_personal, sl A_data data.length c_data] Tryz.func12 rfl (of_decide_eq_true (by kernel_rfl)) ?_
 refine W_seq <| W_q [] .a qe (by kernel_rfl) ?_
 refine At_go <| W_seq <| W_reg <| WLs 6 [] (.n 21 (.agg [I n, I ((key.length : Nat) : Int), I 1, I 1, .u32 0, .u64 0, .u32 0, I 0, I 0, sl A_salt salt.length c_salt, sl A_personal personal.length c_personal]) (.kkk (.ss .a))) qe (by kernel_rfl) ?_
 refine WL_op <| Op_alloc [] 14 [I 0, I 0, I 0, I 0, .u32 0, .u64 0, .u32 0, I 0, I 0, sl none 0 0, sl none 0 0] (by kernel_rfl) k ?_
 intro g w_ k_
 refine WL_op <| Op_b [] 0 (.agg [I n, I ((key.length : Nat) : Int), I 1, I 1, .u32 0, .u64 0, .u32 0, I 0, I 0, sl A_salt salt.length c_salt, sl A_personal personal.length c_personal]) [I n, I ((key.length : Nat) : Int), I 1, I 1, .u32 0, .u64 0, .u32 0, I 0, I 0, sl A_salt salt.length c_salt, sl A_personal personal.length c_personal] (Pt.at g 0) k_ rfl .all (by kernel_rfl) (by kernel_rfl) ?_
 intro w_1 k_1
 refine WL_nil <| At_go <| W_seq <| W_reg <| WLs 2 [] (.n 22 (I kind) (.n 23 (.agg [I n, I ((key.length : Nat) : Int), I 1, I 1, .u32 0, .u64 0, .u32 0, I 0, I 0, sl A_salt salt.length c_salt, sl A_personal personal.length c_personal]) (.k (.s .a)))) (qT k_1 0 rfl 0 11 [I n, I ((key.length : Nat) : Int), I 1, I 1, .u32 0, .u64 0, .u32 0, I 0, I 0, sl A_salt salt.length c_salt, sl A_personal personal.length c_personal] (by kernel_rfl) (by decide) <| qe) (by kernel_rfl) ?_
 refine WL_op ?_
 obtain ⟨r_, h_r_, hm⟩ := ob hm
 refine Op_call [] 24 _ yz_go42 (by kernel_rfl) (c_r02_Check (F := N0) (O := N0) _ _ _ _ _ _ _ _ _ _ _ _ _ _ _ _ _ _ (Ro.n0 (h_salt.cx k_1)) rfl hc_salt (Ro.n0 (h_personal.cx k_1)) rfl hc_personal (Cx.refl _) _ h_r_) ?_
 rintro e_ w_2 ⟨rfl, k_2⟩
 have k_3 := k_1.call k_2
 refine ⟨I r_, rfl, ?_⟩
 refine WLs 1 [] (.n 15 (I r_) (.sss .a)) qe (by kernel_rfl) ?_
 refine WL_nil <| At_go <| W_seq <| W_seq <| W_q [] (.n 26 (.b (decide (r_ ≠ 0))) .a) qe (by kernel_rfl) ?_
 refine At_go <| W_condp (r_ ≠ 0) (by kernel_rfl) (fun hc => ?_) (fun hc => ?_)
 · rw [if_pos hc] at hm
   refine W_seq <| W_q [] (.n 12 (sl none 0 0) (.n 13 (I r_) .z)) qe (by kernel_rfl) ?_
   refine At_go <| W_ret (At_tr ?_)
   have k_4 := k_3.nil e8
   obtain rfl := Option.some.inj hm
   refine At_rt [sl none 0 0, I r_] qe (by kernel_rfl) ?_
   have k_5 := k_4.sel (.s (.k .e))
   exact ⟨none, 0, 0, k_5.len 0 rfl, rfl, k_5⟩
 rw [if_neg hc] at hm
 refine W_skip <| At_go <| W_seq <| W_reg <| WLs 5 [] (.n 28 (I kind) (.n 29 (.agg [I n, I ((key.length : Nat) : Int), I 1, I 1, .u32 0, .u64 0, .u32 0, I 0, I 0, sl A_salt salt.length c_salt, sl A_personal personal.length c_personal]) (.n 30 (sl A_key key.length c_key) (.n 31 (I n) (.n 32 (sl A_data data.length c_data) .z))))) (qT k_3 0 rfl 0 11 [I n, I ((key.length : Nat) : Int), I 1, I 1, .u32 0, .u64 0, .u32 0, I 0, I 0, sl A_salt salt.length c_salt, sl A_personal personal.length c_personal] (by kernel_rfl) (by decide) <| qe) (by kernel_rfl) ?_
 refine WL_op ?_
 obtain ⟨r_1, h_r_1, hm⟩ := ob hm
 refine Op_call [] 33 _ yz_go43 (by kernel_rfl) (c_r05_Hash (F := N0) (O := N0) _ _ _ _ _ _ _ _ _ _ _ _ _ _ _ _ _ _ _ _ _ _ _ _ _ _ _ _ (Ro.n0 (h_salt.cx k_3)) rfl hc_salt (Ro.n0 (h_personal.cx k_3)) rfl hc_personal (Ro.n0 (h_key.cx k_3)) rfl hc_key (Ro.n0 (h_data.cx k_3)) rfl hc_data (Cx.refl _) _ h_r_1) ?_
 rintro e_ w_3 ⟨A0, _, c0, rfl, rfl, k_6⟩
 have k_7 := k_3.call k_6
 refine ⟨.tup [sl A0 r_1.1.length c0, I r_1.2], rfl, ?_⟩
 have k_8 := k_7.sel (.s (.k .e))
 refine WLs 4 [] (.n 12 (sl A0 r_1.1.length c0) (.n 13 (I r_1.2) .z)) qe (by kernel_rfl) ?_
 refine WL_nil <| At_go <| W_ret ?_
 obtain rfl := Option.some.inj hm
 refine At_rt [sl A0 r_1.1.length c0, I r_1.2] qe (by kernel_rfl) ?_
 exact ⟨A0, r_1.1.length, c0, k_8.len 0 rfl, rfl, k_8⟩

-- quern/quernref01.Same
noncomputable def m_r01_Same_l0 (a_ : List UInt8) (b : List UInt8) : Int → Option (Int ⊕ Bool)
  | i => if i < ((a_.length : Nat) : Int) then ((geti a_ i).bind fun x_0 => (geti b i).bind fun x_1 => if x_0 ≠ x_1 then (Option.map Sum.inr (some false)) else (some (.inl (w64 (i + 1))))) else (Option.map Sum.inr (some true))
noncomputable def m_r01_Same (a_ : List UInt8) (b : List UInt8) : Option Bool :=
  if ((a_.length : Nat) : Int) ≠ ((b.length : Nat) : Int) then (some false) else (whileO (m_r01_Same_l0 a_ b) (0 : Int))
theorem c_r01_Same {F O : Nat → Prop} {w : World} (a_ : List UInt8) (b : List UInt8) (A_a_ : Option Addr) (n_a_ : Nat) (c_a_ : Nat) (A_b : Option Addr) (n_b : Nat) (c_b : Nat) (h_a_ : Ro F w A_a_ (e8.all a_)) (hn_a_ : a_.length = n_a_) (hc_a_ : n_a_ ≤ c_a_) (h_b : Ro F w A_b (e8.all b)) (hn_b : b.length = n_b) (hc_b : n_b ≤ c_b) (k : Cx F O w w []) (r : Bool) (hm : m_r01_Same a_ b = some r) :
    Calls Tryz.prog 46 (vals [sl A_a_ n_a_ c_a_, sl A_b n_b c_b]) w (fun e w' => e = .returned (SV.val (.b r)) ∧ Cx F O w w' []) := by
 unfold m_r01_Same at hm
 subst hn_a_
 subst hn_b
 refine calls [sl A_a_ a_.length c_a_, sl A_b b.length c_b] Tryz.func46 rfl (of_decide_eq_true (by kernel_rfl)) ?_
 refine W_seq <| W_q [] .a qe (by kernel_rfl) ?_
 refine At_go <| W_seq <| W_seq <| W_q [] (.n 10 (.b (decide (((a_.length : Nat) : Int) ≠ ((b.length : Nat) : Int)))) .a) qe (by kernel_rfl) ?_
 refine At_go <| W_condp (((a_.length : Nat) : Int) ≠ ((b.length : Nat) : Int)) (by kernel_rfl) (fun hc => ?_) (fun hc => ?_)
 · rw [if_pos hc] at hm
   refine W_seq <| W_q [] (.n 4 (.b false) .z) qe (by kernel_rfl) ?_
   refine At_go <| W_ret (At_tr ?_)
   obtain rfl := Option.some.inj hm
   refine At_rt [.b false] qe (by kernel_rfl) ?_
   exact ⟨rfl, k⟩
 rw [if_neg hc] at hm
 refine W_skip <| At_go <| W_seq <| W_seq <| W_q [] (.n 5 (I 0) (.s .a)) qe (by kernel_rfl) ?_
 refine At_go <| W_block <| W_lp (m_r01_Same_l0 a_ b) (fun s L wr => ∃ (i : Int), i = s ∧ L = [(0, sl A_a_ a_.length c_a_), (1, sl A_b b.length c_b), (5, I i)] ∧ Cx F O w wr []) (0 : Int) r hm ⟨(0 : Int), rfl, rfl, k⟩ (by kernel_rfl) ?_
 intro s0_ L_ w_ y0 hrel hstep hr0
 obtain ⟨i, rfl, rfl, k_⟩ := hrel
 have hm := hstep; simp only [m_r01_Same_l0] at hm
 clear hstep
 refine W_seq <| W_seq <| W_q [] (.n 14 (.b (decide (i < ((a_.length : Nat) : Int)))) .a) qe (by kernel_rfl) ?_
 refine At_go <| W_condp (i < ((a_.length : Nat) : Int)) (by kernel_rfl) (fun hc1 => ?_) (fun hc1 => ?_)
 · rw [if_pos hc1] at hm
   refine W_skip <| At_go <| W_seq <| W_block <| W_seq ?_
   obtain ⟨x_0, h_x_0, hm⟩ := ob hm
   obtain ⟨x_1, h_x_1, hm⟩ := ob hm
   refine W_d yz_mixed (by kernel_rfl) (.n 25 (.b (decide (x_0 ≠ x_1))) (.s .a)) (fun m => qW (h_a_.cx (k_.drew m)) h_x_0 rfl (.u8 x_0) rfl <| qW (h_b.cx (k_.drew m)) h_x_1 rfl (.u8 x_1) rfl <| qe) (by kernel_rfl) (fun m_ => ?_)
   have k_1 := k_.drew m_
   refine At_go <| W_condp (x_0 ≠ x_1) (by kernel_rfl) (fun hc2 => ?_) (fun hc2 => ?_)
   · rw [if_pos hc2] at hm
     refine W_seq <| W_q [] (.n 4 (.b false) .z) qe (by kernel_rfl) ?_
     refine At_go <| W_ret (At_ir (At_tr (At_tr (At_ir (At_tr ?_)))))
     have hm := exit_of hm hr0
     obtain rfl := Option.some.inj hm
     refine At_rt [.b false] qe (by kernel_rfl) ?_
     exact ⟨rfl, k_1⟩
   rw [if_neg hc2] at hm
   refine W_skip <| At_in <| At_go <| W_q [] (.n 5 (I (w64 (i + 1))) (.s (.kk .z))) qe (by kernel_rfl) ?_
   exact At_rd (w64 (i + 1)) (Option.some.inj hm).symm ⟨w64 (i + 1), rfl, rfl, k_1⟩ (by kernel_rfl)
 rw [if_neg hc1] at hm
 refine W_exit (At_te (At_te (At_ie ?_)))
 have hm := exit_of hm hr0
 refine At_go <| W_seq <| W_q [] (.n 4 (.b true) .z) qe (by kernel_rfl) ?_
 refine At_go <| W_ret ?_
 obtain rfl := Option.some.inj hm
 refine At_rt [.b true] qe (by kernel_rfl) ?_
 exact ⟨rfl, k_⟩

-- quern/quernref06.Check
noncomputable def m_r06_Check (kind : Int) (tag : List UInt8) (key : List UInt8) (salt : List UInt8) (personal : List UInt8) (data : List UInt8) : Option (Bool × Int) :=
  (m_r02_Most kind).bind fun r_ => if r_ = 0 then (some (false, (1 : Int))) else (if ((tag.length : Nat) : Int) < 1 then (some (false, (60 : Int))) else ((m_r02_Most kind).bind fun r_1 => if r_1 < ((tag.length : Nat) : Int) then (some (false, (60 : Int))) else (if ((key.length : Nat) : Int) = 0 then (some (false, (8 : Int))) else ((m_r06_Make kind ((tag.length : Nat) : Int) key salt personal data).bind fun r_2 => if r_2.2 ≠ 0 then (some (false, r_2.2)) else ((m_r01_Same r_2.1 tag).bind fun r_3 => some (r_3, (0 : Int)))))))
theorem c_r06_Check {F O : Nat → Prop} {w : World} (kind : Int) (tag : List UInt8) (key : List UInt8) (salt : List UInt8) (personal : List UInt8) (data : List UInt8) (A_tag : Option Addr) (n_tag : Nat) (c_tag : Nat) (A_key : Option Addr) (n_key : Nat) (c_key : Nat) (A_salt : Option Addr) (n_salt : Nat) (c_salt : Nat) (A_personal : Option Addr) (n_personal : Nat) (c_personal : Nat) (A_data : Option Addr) (n_data : Nat) (c_data : Nat) (h_tag : Ro F w A_tag (e8.all tag)) (hn_tag : tag.length = n_tag) (hc_tag : n_tag ≤ c_tag) (h_key : Ro F w A_key (e8.all key)) (hn_key : key.length = n_key) (hc_key : n_key ≤ c_key) (h_salt : Ro F w A_salt (e8.all salt)) (hn_salt : salt.length = n_salt) (hc_salt : n_salt ≤ c_salt) (h_personal : Ro F w A_personal (e8.all personal)) (hn_personal : personal.length = n_personal) (hc_personal : n_personal ≤ c_personal) (h_data : Ro F w A_data (e8.all data)) (hn_data : data.length = n_data) (hc_data : n_data ≤ c_data) (k : Cx F O w w []) (r : (Bool × Int)) (hm : m_r06_Check kind tag key salt personal data = some r) :
    Calls Tryz.prog 14 (vals [I kind, sl A_tag n_tag c_tag, sl A_key n_key c_key, sl A_salt n_salt c_salt, sl A_personal n_personal c_personal, sl A_data n_data c_data]) w (fun e w' => e = .returned (SV.val (.tup [.b r.1, I r.2])) ∧ Cx F O w w' []) := by
 unfold m_r06_Check at hm
 subst hn_tag
 subst hn_key
 subst hn_salt
 subst hn_personal
 subst hn_data
 refine calls [I kind, sl A_tag tag.length c_tag, sl A_key key.length c_key, sl A_salt salt.length c_salt, sl A_personal personal.length c_personal, sl A_data data.length c_data] Tryz.func14 rfl (of_decide_eq_true (by kernel_rfl)) ?_
 refine W_seq <| W_q [] .a qe (by kernel_rfl) ?_
 refine At_go <| W_seq <| W_block <| W_seq <| W_reg <| WLs 1 [] (.n 17 (I kind) .a) qe (by kernel_rfl) ?_
 refine WL_op ?_
 obtain ⟨r_, h_r_, hm⟩ := ob hm
 refine Op_call [] 18 _ yz_go45 (by kernel_rfl) (c_r02_Most (F := N0) (O := N0) _ (Cx.refl _) _ h_r_) ?_
 rintro e_ w_ ⟨rfl, k_⟩
 have k_1 := k.call k_
 refine ⟨I r_, rfl, ?_⟩
 refine WLs 2 [] (.n 16 (.b (decide (r_ = 0))) (.ss .a)) qe (by kernel_rfl) ?_
 refine WL_nil <| At_go <| W_condp (r_ = 0) (by kernel_rfl) (fun hc => ?_) (fun hc => ?_)
 · rw [if_pos hc] at hm
   refine W_seq <| W_q [] (.n 12 (.b false) (.n 13 (I 1) .z)) qe (by kernel_rfl) ?_
   refine At_go <| W_ret (At_ir (At_tr ?_))
   obtain rfl := Option.some.inj hm
   refine At_rt [.b false, I 1] qe (by kernel_rfl) ?_
   exact ⟨rfl, k_1⟩
 rw [if_neg hc] at hm
 refine W_seq <| W_reg <| WLs 4 [] (.n 24 (.b (decide (((tag.length : Nat) : Int) < 1))) (.s .a)) qe (by kernel_rfl) ?_
 refine WL_sp 24 (decide (((tag.length : Nat) : Int) < 1)) (.s .a) (by kernel_rfl) (fun hg => ?_) (fun hg => ?_)
 · rw [if_pos (of_decide_eq_true hg)] at hm
   refine WLs 7 [24] (.n 20 (.b true) (.s .a)) qe (by kernel_rfl) ?_
   refine WL_nil <| At_go <| W_cond true (by kernel_rfl) (fun _ => ?_) (fun h => by cases h)
   refine W_seq <| W_q [] (.n 12 (.b false) (.n 13 (I 60) .z)) qe (by kernel_rfl) ?_
   refine At_go <| W_ret (At_ir (At_tr ?_))
   obtain rfl := Option.some.inj hm
   refine At_rt [.b false, I 60] qe (by kernel_rfl) ?_
   exact ⟨rfl, k_1⟩
 · rw [if_neg (of_decide_eq_false hg)] at hm
   refine WLs 3 [24] (.n 26 (I ((tag.length : Nat) : Int)) (.n 27 (I kind) .a)) qe (by kernel_rfl) ?_
   refine WL_op ?_
   obtain ⟨r_1, h_r_1, hm⟩ := ob hm
   refine Op_call [24] 28 _ yz_go45 (by kernel_rfl) (c_r02_Most (F := N0) (O := N0) _ (Cx.refl _) _ h_r_1) ?_
   rintro e_ w_1 ⟨rfl, k_2⟩
   have k_3 := k_1.call k_2
   refine ⟨I r_1, rfl, ?_⟩
   refine WLs 3 [24] (.n 20 (.b (decide (r_1 < ((tag.length : Nat) : Int)))) (.ssss .a)) qe (by kernel_rfl) ?_
   refine WL_nil <| At_go <| W_condp (r_1 < ((tag.length : Nat) : Int)) (by kernel_rfl) (fun hc1 => ?_) (fun hc1 => ?_)
   · rw [if_pos hc1] at hm
     refine W_seq <| W_q [] (.n 12 (.b false) (.n 13 (I 60) .z)) qe (by kernel_rfl) ?_
     refine At_go <| W_ret (At_ir (At_tr ?_))
     obtain rfl := Option.some.inj hm
     refine At_rt [.b false, I 60] qe (by kernel_rfl) ?_
     exact ⟨rfl, k_3⟩
   rw [if_neg hc1] at hm
   refine W_seq <| W_q [] (.n 31 (.b (decide (((key.length : Nat) : Int) = 0))) (.s .a)) qe (by kernel_rfl) ?_
   refine At_go <| W_condp (((key.length : Nat) : Int) = 0) (by kernel_rfl) (fun hc2 => ?_) (fun hc2 => ?_)
   · rw [if_pos hc2] at hm
     refine W_seq <| W_q [] (.n 12 (.b false) (.n 13 (I 8) .z)) qe (by kernel_rfl) ?_
     refine At_go <| W_ret (At_ir (At_tr ?_))
     obtain rfl := Option.some.inj hm
     refine At_rt [.b false, I 8] qe (by kernel_rfl) ?_
     exact ⟨rfl, k_3⟩
   rw [if_neg hc2] at hm
   refine W_skip <| At_in <| At_go <| W_seq <| W_reg <| WLs 7 [] (.n 36 (I kind) (.n 38 (I ((tag.length : Nat) : Int)) (.n 39 (sl A_key key.length c_key) (.n 40 (sl A_salt salt.length c_salt) (.n 41 (sl A_personal personal.length c_personal) (.n 42 (sl A_data data.length c_data) (.ss (.k .z)))))))) qe (by kernel_rfl) ?_
   refine WL_op ?_
   obtain ⟨r_2, h_r_2, hm⟩ := ob hm
   refine Op_call [] 43 _ yz_go12 (by kernel_rfl) (c_r06_Make (F := N0) (O := N0) _ _ _ _ _ _ _ _ _ _ _ _ _ _ _ _ _ _ (Ro.n0 (h_key.cx k_3)) rfl hc_key (Ro.n0 (h_salt.cx k_3)) rfl hc_salt (Ro.n0 (h_personal.cx k_3)) rfl hc_personal (Ro.n0 (h_data.cx k_3)) rfl hc_data (Cx.refl _) _ h_r_2) ?_
   rintro e_ w_2 ⟨A, _, c, rfl, rfl, k_4⟩
   have k_5 := k_3.call k_4
   refine ⟨.tup [sl A r_2.1.length c, I r_2.2], rfl, ?_⟩
   refine WLs 5 [] (.n 14 (sl A r_2.1.length c) (.n 15 (I r_2.2) (.ssss (.sss .a)))) qe (by kernel_rfl) ?_
   refine WL_nil <| At_go <| W_seq <| W_seq <| W_q [] (.n 47 (.b (decide (r_2.2 ≠ 0))) .a) qe (by kernel_rfl) ?_
   refine At_go <| W_condp (r_2.2 ≠ 0) (by kernel_rfl) (fun hc3 => ?_) (fun hc3 => ?_)
   · rw [if_pos hc3] at hm
     refine W_seq <| W_q [] (.n 12 (.b false) (.n 13 (I r_2.2) .z)) qe (by kernel_rfl) ?_
     refine At_go <| W_ret (At_tr ?_)
     obtain rfl := Option.some.inj hm
     refine At_rt [.b false, I r_2.2] qe (by kernel_rfl) ?_
     have k_6 := k_5.sel .z
     exact ⟨rfl, k_6⟩
   rw [if_neg hc3] at hm
   refine W_skip <| At_go <| W_seq <| W_reg <| WLs 2 [] (.n 49 (sl A r_2.1.length c) (.n 50 (sl A_tag tag.length c_tag) .z)) qe (by kernel_rfl) ?_
   refine WL_op ?_
   obtain ⟨r_3, h_r_3, hm⟩ := ob hm
   refine Op_call [] 51 _ yz_go46 (by kernel_rfl) (c_r01_Same (F := N0) (O := N0) _ _ _ _ _ _ _ _ (Ro.n0 (k_5.rd 0 rfl)) (k_5.len 0 rfl) (k_5.lec 0 rfl) (Ro.n0 (h_tag.cx k_5)) rfl hc_tag (Cx.refl _) _ h_r_3) ?_
   rintro e_ w_3 ⟨rfl, k_7⟩
   have k_8 := k_5.call k_7
   refine ⟨.b r_3, rfl, ?_⟩
   have k_9 := k_8.sel .z
   refine WLs 2 [] (.n 12 (.b r_3) (.n 13 (I 0) .z)) qe (by kernel_rfl) ?_
   refine WL_nil <| At_go <| W_ret ?_
   obtain rfl := Option.some.inj hm
   refine At_rt [.b r_3, I 0] qe (by kernel_rfl) ?_
   exact ⟨rfl, k_9⟩

-- quern/quernlaw06.same
noncomputable def m_l06_same_l0 (a_ : List UInt8) (b : List UInt8) : Int → Option (Int ⊕ Bool)
  | i => if i < ((a_.length : Nat) : Int) then ((geti a_ i).bind fun x_0 => (geti b i).bind fun x_1 => if x_0 ≠ x_1 then (Option.map Sum.inr (some false)) else (some (.inl (w64 (i + 1))))) else (Option.map Sum.inr (some true))
noncomputable def m_l06_same (a_ : List UInt8) (b : List UInt8) : Option Bool :=
  if ((a_.length : Nat) : Int) ≠ ((b.length : Nat) : Int) then (some false) else (whileO (m_l06_same_l0 a_ b) (0 : Int))
theorem c_l06_same {F O : Nat → Prop} {w : World} (a_ : List UInt8) (b : List UInt8) (A_a_ : Option Addr) (n_a_ : Nat) (c_a_ : Nat) (A_b : Option Addr) (n_b : Nat) (c_b : Nat) (h_a_ : Ro F w A_a_ (e8.all a_)) (hn_a_ : a_.length = n_a_) (hc_a_ : n_a_ ≤ c_a_) (h_b : Ro F w A_b (e8.all b)) (hn_b : b.length = n_b) (hc_b : n_b ≤ c_b) (k : Cx F O w w []) (r : Bool) (hm : m_l06_same a_ b = some r) :
    Calls Tryz.prog 10 (vals [sl A_a_ n_a_ c_a_, sl A_b n_b c_b]) w (fun e w' => e = .returned (SV.val (.b r)) ∧ Cx F O w w' []) := by
 unfold m_l06_same at hm
 subst hn_a_
 subst hn_b
 refine calls [sl A_a_ a_.length c_a_, sl A_b b.length c_b] Tryz.func10 rfl (of_decide_eq_true (by kernel_rfl)) ?_
 refine W_seq <| W_q [] .a qe (by kernel_rfl) ?_
 refine At_go <| W_seq <| W_seq <| W_q [] (.n 10 (.b (decide (((a_.length : Nat) : Int) ≠ ((b.length : Nat) : Int)))) .a) qe (by kernel_rfl) ?_
 refine At_go <| W_condp (((a_.length : Nat) : Int) ≠ ((b.length : Nat) : Int)) (by kernel_rfl) (fun hc => ?_) (fun hc => ?_)
 · rw [if_pos hc] at hm
   refine W_seq <| W_q [] (.n 4 (.b false) .z) qe (by kernel_rfl) ?_
   refine At_go <| W_ret (At_tr ?_)
   obtain rfl := Option.some.inj hm
   refine At_rt [.b false] qe (by kernel_rfl) ?_
   exact ⟨rfl, k⟩
 rw [if_neg hc] at hm
 refine W_skip <| At_go <| W_seq <| W_seq <| W_q [] (.n 5 (I 0) (.s .a)) qe (by kernel_rfl) ?_
 refine At_go <| W_block <| W_lp (m_l06_same_l0 a_ b) (fun s L wr => ∃ (i : Int), i = s ∧ L = [(0, sl A_a_ a_.length c_a_), (1, sl A_b b.length c_b), (5, I i)] ∧ Cx F O w wr []) (0 : Int) r hm ⟨(0 : Int), rfl, rfl, k⟩ (by kernel_rfl) ?_
 intro s0_ L_ w_ y0 hrel hstep hr0
 obtain ⟨i, rfl, rfl, k_⟩ := hrel
 have hm := hstep; simp only [m_l06_same_l0] at hm
 clear hstep
 refine W_seq <| W_seq <| W_q [] (.n 14 (.b (decide (i < ((a_.length : Nat) : Int)))) .a) qe (by kernel_rfl) ?_
 refine At_go <| W_condp (i < ((a_.length : Nat) : Int)) (by kernel_rfl) (fun hc1 => ?_) (fun hc1 => ?_)
 · rw [if_pos hc1] at hm
   refine W_skip <| At_go <| W_seq <| W_block <| W_seq ?_
   obtain ⟨x_0, h_x_0, hm⟩ := ob hm
   obtain ⟨x_1, h_x_1, hm⟩ := ob hm
   refine W_d yz_mixed (by kernel_rfl) (.n 25 (.b (decide (x_0 ≠ x_1))) (.s .a)) (fun m => qW (h_a_.cx (k_.drew m)) h_x_0 rfl (.u8 x_0) rfl <| qW (h_b.cx (k_.drew m)) h_x_1 rfl (.u8 x_1) rfl <| qe) (by kernel_rfl) (fun m_ => ?_)
   have k_1 := k_.drew m_
   refine At_go <| W_condp (x_0 ≠ x_1) (by kernel_rfl) (fun hc2 => ?_) (fun hc2 => ?_)
   · rw [if_pos hc2] at hm
     refine W_seq <| W_q [] (.n 4 (.b false) .z) qe (by kernel_rfl) ?_
     refine At_go <| W_ret (At_ir (At_tr (At_tr (At_ir (At_tr ?_)))))
     have hm := exit_of hm hr0
     obtain rfl := Option.some.inj hm
     refine At_rt [.b false] qe (by kernel_rfl) ?_
     exact ⟨rfl, k_1⟩
   rw [if_neg hc2] at hm
   refine W_skip <| At_in <| At_go <| W_q [] (.n 5 (I (w64 (i + 1))) (.s (.kk .z))) qe (by kernel_rfl) ?_
   exact At_rd (w64 (i + 1)) (Option.some.inj hm).symm ⟨w64 (i + 1), rfl, rfl, k_1⟩ (by kernel_rfl)
 rw [if_neg hc1] at hm
 refine W_exit (At_te (At_te (At_ie ?_)))
 have hm := exit_of hm hr0
 refine At_go <| W_seq <| W_q [] (.n 4 (.b true) .z) qe (by kernel_rfl) ?_
 refine At_go <| W_ret ?_
 obtain rfl := Option.some.inj hm
 refine At_rt [.b true] qe (by kernel_rfl) ?_
 exact ⟨rfl, k_⟩

-- quern/quernlaw06.MacChecks
noncomputable def m_l06_MacChecks (a_K : Int) (a_N : Int) (a_Key : List UInt8) (a_Salt : List UInt8) (a_Personal : List UInt8) (a_Data : List UInt8) (a_Tag : List UInt8) : Option Bool :=
  (m_mac_Check a_K a_Tag a_Key a_Salt a_Personal a_Data).bind fun r_ => (m_r06_Check a_K a_Tag a_Key a_Salt a_Personal a_Data).bind fun r_1 => if ((decide (r_.2 ≠ r_1.2)) || (decide (r_.1 ≠ r_1.1))) = true then (some false) else ((m_mac_Equal a_Tag a_Key).bind fun r_2 => (m_l06_same a_Tag a_Key).bind fun r_3 => if r_2 = r_3 then ((m_mac_Equal a_Data a_Data).bind fun r_4 => if r_4 = true then ((m_mac_Equal a_Tag a_Data).bind fun r_5 => (m_l06_same a_Tag a_Data).bind fun r_6 => some (decide (r_5 = r_6))) else (some false)) else (some false))
theorem c_l06_MacChecks {F O : Nat → Prop} {w : World} (a_K : Int) (a_N : Int) (a_Key : List UInt8) (a_Salt : List UInt8) (a_Personal : List UInt8) (a_Data : List UInt8) (a_Tag : List UInt8) (A_a_Key : Option Addr) (n_a_Key : Nat) (c_a_Key : Nat) (A_a_Salt : Option Addr) (n_a_Salt : Nat) (c_a_Salt : Nat) (A_a_Personal : Option Addr) (n_a_Personal : Nat) (c_a_Personal : Nat) (A_a_Data : Option Addr) (n_a_Data : Nat) (c_a_Data : Nat) (A_a_Tag : Option Addr) (n_a_Tag : Nat) (c_a_Tag : Nat) (h_a_Key : Ro F w A_a_Key (e8.all a_Key)) (hn_a_Key : a_Key.length = n_a_Key) (hc_a_Key : n_a_Key ≤ c_a_Key) (h_a_Salt : Ro F w A_a_Salt (e8.all a_Salt)) (hn_a_Salt : a_Salt.length = n_a_Salt) (hc_a_Salt : n_a_Salt ≤ c_a_Salt) (h_a_Personal : Ro F w A_a_Personal (e8.all a_Personal)) (hn_a_Personal : a_Personal.length = n_a_Personal) (hc_a_Personal : n_a_Personal ≤ c_a_Personal) (h_a_Data : Ro F w A_a_Data (e8.all a_Data)) (hn_a_Data : a_Data.length = n_a_Data) (hc_a_Data : n_a_Data ≤ c_a_Data) (h_a_Tag : Ro F w A_a_Tag (e8.all a_Tag)) (hn_a_Tag : a_Tag.length = n_a_Tag) (hc_a_Tag : n_a_Tag ≤ c_a_Tag) (k : Cx F O w w []) (r : Bool) (hm : m_l06_MacChecks a_K a_N a_Key a_Salt a_Personal a_Data a_Tag = some r) :
    Calls Tryz.prog 4 (vals [.agg [I a_K, I a_N, sl A_a_Key n_a_Key c_a_Key, sl A_a_Salt n_a_Salt c_a_Salt, sl A_a_Personal n_a_Personal c_a_Personal, sl A_a_Data n_a_Data c_a_Data, sl A_a_Tag n_a_Tag c_a_Tag]]) w (fun e w' => e = .returned (SV.val (.b r)) ∧ Cx F O w w' []) := by
 unfold m_l06_MacChecks at hm
 subst hn_a_Key
 subst hn_a_Salt
 subst hn_a_Personal
 subst hn_a_Data
 subst hn_a_Tag
 refine calls [.agg [I a_K, I a_N, sl A_a_Key a_Key.length c_a_Key, sl A_a_Salt a_Salt.length c_a_Salt, sl A_a_Personal a_Personal.length c_a_Personal, sl A_a_Data a_Data.length c_a_Data, sl A_a_Tag a_Tag.length c_a_Tag]] Tryz.func4 rfl (of_decide_eq_true (by kernel_rfl)) ?_
 refine W_seq <| W_reg <| WL_op <| Op_box [] 1 (.agg [I a_K, I a_N, sl A_a_Key a_Key.length c_a_Key, sl A_a_Salt a_Salt.length c_a_Salt, sl A_a_Personal a_Personal.length c_a_Personal, sl A_a_Data a_Data.length c_a_Data, sl A_a_Tag a_Tag.length c_a_Tag]) [I a_K, I a_N, sl A_a_Key a_Key.length c_a_Key, sl A_a_Salt a_Salt.length c_a_Salt, sl A_a_Personal a_Personal.length c_a_Personal, sl A_a_Data a_Data.length c_a_Data, sl A_a_Tag a_Tag.length c_a_Tag] (by kernel_rfl) k ?_
 intro g w_ k_
 refine WLs 1 [] (.k .z) qe (by kernel_rfl) ?_
 refine WL_nil <| At_go <| W_seq <| W_reg <| WLs 12 [] (.n 9 (I a_K) (.n 11 (sl A_a_Tag a_Tag.length c_a_Tag) (.n 13 (sl A_a_Key a_Key.length c_a_Key) (.n 15 (sl A_a_Salt a_Salt.length c_a_Salt) (.n 17 (sl A_a_Personal a_Personal.length c_a_Personal) (.n 19 (sl A_a_Data a_Data.length c_a_Data) .a)))))) (qs g 0 <| qB k_ 0 rfl 0 (I a_K) (by kernel_rfl) <| qs g 0 <| qB k_ 0 rfl 6 (sl A_a_Tag a_Tag.length c_a_Tag) (by kernel_rfl) <| qs g 0 <| qB k_ 0 rfl 2 (sl A_a_Key a_Key.length c_a_Key) (by kernel_rfl) <| qs g 0 <| qB k_ 0 rfl 3 (sl A_a_Salt a_Salt.length c_a_Salt) (by kernel_rfl) <| qs g 0 <| qB k_ 0 rfl 4 (sl A_a_Personal a_Personal.length c_a_Personal) (by kernel_rfl) <| qs g 0 <| qB k_ 0 rfl 5 (sl A_a_Data a_Data.length c_a_Data) (by kernel_rfl) <| qe) (by kernel_rfl) ?_
 refine WL_op ?_
 obtain ⟨r_, h_r_, hm⟩ := ob hm
 refine Op_call [] 20 _ yz_go13 (by kernel_rfl) (c_mac_Check (F := N0) (O := N0) _ _ _ _ _ _ _ _ _ _ _ _ _ _ _ _ _ _ _ _ _ (Ro.n0 (h_a_Tag.cx k_)) rfl hc_a_Tag (Ro.n0 (h_a_Key.cx k_)) rfl hc_a_Key (Ro.n0 (h_a_Salt.cx k_)) rfl hc_a_Salt (Ro.n0 (h_a_Personal.cx k_)) rfl hc_a_Personal (Ro.n0 (h_a_Data.cx k_)) rfl hc_a_Data (Cx.refl _) _ h_r_) ?_
 rintro e_ w_1 ⟨rfl, k_1⟩
 have k_2 := k_.call k_1
 refine ⟨.tup [.b r_.1, I r_.2], rfl, ?_⟩
 refine WLs 5 [] (.n 3 (.b r_.1) (.n 4 (I r_.2) (.ssss (.sss .a)))) qe (by kernel_rfl) ?_
 refine WL_nil <| At_go <| W_seq <| W_reg <| WLs 12 [] (.n 25 (I a_K) (.n 27 (sl A_a_Tag a_Tag.length c_a_Tag) (.n 29 (sl A_a_Key a_Key.length c_a_Key) (.n 31 (sl A_a_Salt a_Salt.length c_a_Salt) (.n 33 (sl A_a_Personal a_Personal.length c_a_Personal) (.n 35 (sl A_a_Data a_Data.length c_a_Data) .a)))))) (qs g 0 <| qB k_2 0 rfl 0 (I a_K) (by kernel_rfl) <| qs g 0 <| qB k_2 0 rfl 6 (sl A_a_Tag a_Tag.length c_a_Tag) (by kernel_rfl) <| qs g 0 <| qB k_2 0 rfl 2 (sl A_a_Key a_Key.length c_a_Key) (by kernel_rfl) <| qs g 0 <| qB k_2 0 rfl 3 (sl A_a_Salt a_Salt.length c_a_Salt) (by kernel_rfl) <| qs g 0 <| qB k_2 0 rfl 4 (sl A_a_Personal a_Personal.length c_a_Personal) (by kernel_rfl) <| qs g 0 <| qB k_2 0 rfl 5 (sl A_a_Data a_Data.length c_a_Data) (by kernel_rfl) <| qe) (by kernel_rfl) ?_
 refine WL_op ?_
 obtain ⟨r_1, h_r_1, hm⟩ := ob hm
 refine Op_call [] 36 _ yz_go14 (by kernel_rfl) (c_r06_Check (F := N0) (O := N0) _ _ _ _ _ _ _ _ _ _ _ _ _ _ _ _ _ _ _ _ _ (Ro.n0 (h_a_Tag.cx k_2)) rfl hc_a_Tag (Ro.n0 (h_a_Key.cx k_2)) rfl hc_a_Key (Ro.n0 (h_a_Salt.cx k_2)) rfl hc_a_Salt (Ro.n0 (h_a_Personal.cx k_2)) rfl hc_a_Personal (Ro.n0 (h_a_Data.cx k_2)) rfl hc_a_Data (Cx.refl _) _ h_r_1) ?_
 rintro e_ w_2 ⟨rfl, k_3⟩
 have k_4 := k_2.call k_3
 refine ⟨.tup [.b r_1.1, I r_1.2], rfl, ?_⟩
 refine WLs 5 [] (.n 5 (.b r_1.1) (.n 6 (I r_1.2) (.ssss (.sss .a)))) qe (by kernel_rfl) ?_
 refine WL_nil <| At_go <| W_seq <| W_seq <| W_q [] (.n 46 (.b ((decide (r_.2 ≠ r_1.2)) || (decide (r_.1 ≠ r_1.1)))) (.ssss .a)) qe (by kernel_rfl) ?_
 refine At_go <| W_cond ((decide (r_.2 ≠ r_1.2)) || (decide (r_.1 ≠ r_1.1))) (by kernel_rfl) (fun hc => ?_) (fun hc => ?_)
 · rw [if_pos hc] at hm
   refine W_seq <| W_q [] (.n 2 (.b false) .z) qe (by kernel_rfl) ?_
   refine At_go <| W_ret (At_tr ?_)
   obtain rfl := Option.some.inj hm
   refine At_rt [.b false] qe (by kernel_rfl) ?_
   have k_5 := k_4.sel .z
   exact ⟨rfl, k_5⟩
 rw [if_neg (by rw [hc]; decide)] at hm
 refine W_skip <| At_go <| W_seq ?_
 have k_6 := k_4.drew 1
 refine W_m yz_mixed (.q 0 5 (.q 1 4 (.q 2 5 (.q 3 4 (.q 5 5 (.q 6 4 (.q 7 5 (.q 8 4 (.op 4 (.op 9 (.q 10 5 (.q 11 4 (.q 12 5 (.q 13 4 (.q 14 5 (.q 15 4 (.op 16 (.q 17 5 (.q 18 3 (.q 19 5 (.q 20 4 (.q 21 5 (.q 22 4 (.q 24 5 (.q 25 4 (.q 26 5 (.q 27 4 (.op 23 (.op 28 (.q 29 5 (.q 30 5 (.q 31 5 .nil)))))))))))))))))))))))))))))))) [4, 9, 16, 23, 28] k_6 (.c (.k .e) (.c (.k .e) (.c (.k .e) (.c (.k .e) (.c (.k .e) .l))))) (by kernel_rfl) (fun _ => ?_)
 refine MXq 1 5 [] (.n 47 (pt g 6) (.s .a)) (fun x hx => qs g 0 <| qe) (by kernel_rfl) (fun _ => ?_)
 refine MXq 1 4 [] (.n 48 (sl A_a_Tag a_Tag.length c_a_Tag) (.s .a)) (fun x hx => qB hx 0 rfl 6 (sl A_a_Tag a_Tag.length c_a_Tag) (by kernel_rfl) <| qe) (by kernel_rfl) (fun _ => ?_)
 refine MXq 1 5 [] (.n 49 (pt g 2) .a) (fun x hx => qs g 0 <| qe) (by kernel_rfl) (fun _ => ?_)
 refine MXq 1 4 [] (.n 50 (sl A_a_Key a_Key.length c_a_Key) (.s .a)) (fun x hx => qB hx 0 rfl 2 (sl A_a_Key a_Key.length c_a_Key) (by kernel_rfl) <| qe) (by kernel_rfl) (fun _ => ?_)
 refine MXq 1 5 [] (.n 52 (pt g 6) .a) (fun x hx => qs g 0 <| qe) (by kernel_rfl) (fun _ => ?_)
 refine MXq 1 4 [] (.n 53 (sl A_a_Tag a_Tag.length c_a_Tag) (.s .a)) (fun x hx => qB hx 0 rfl 6 (sl A_a_Tag a_Tag.length c_a_Tag) (by kernel_rfl) <| qe) (by kernel_rfl) (fun _ => ?_)
 refine MXq 1 5 [] (.n 54 (pt g 2) .a) (fun x hx => qs g 0 <| qe) (by kernel_rfl) (fun _ => ?_)
 refine MXq 1 4 [] (.n 55 (sl A_a_Key a_Key.length c_a_Key) (.s .a)) (fun x hx => qB hx 0 rfl 2 (sl A_a_Key a_Key.length c_a_Key) (by kernel_rfl) <| qe) (by kernel_rfl) (fun _ => ?_)
 refine MX_op (by kernel_rfl) rfl ?_
 obtain ⟨r_2, h_r_2, hm⟩ := ob hm
 refine Op_call [] 51 _ yz_go15 (by kernel_rfl) (c_mac_Equal (F := N0) (O := N0) _ _ _ _ _ _ _ _ (Ro.n0 (h_a_Tag.cx k_6)) rfl hc_a_Tag (Ro.n0 (h_a_Key.cx k_6)) rfl hc_a_Key (Cx.refl _) _ h_r_2) ?_
 rintro e_ w_3 ⟨rfl, k_7⟩
 have k_8 := k_6.call k_7
 refine ⟨.b r_2, rfl, ?_⟩
 refine ⟨k_8, fun _ => ?_⟩
 refine MX_op (by kernel_rfl) rfl ?_
 have k_9 := k_8.sel (.k .e)
 obtain ⟨r_3, h_r_3, hm⟩ := ob hm
 refine Op_call [] 56 _ yz_go10 (by kernel_rfl) (c_l06_same (F := N0) (O := N0) _ _ _ _ _ _ _ _ (Ro.n0 (h_a_Tag.cx k_9)) rfl hc_a_Tag (Ro.n0 (h_a_Key.cx k_9)) rfl hc_a_Key (Cx.refl _) _ h_r_3) ?_
 rintro e_ w_4 ⟨rfl, k_10⟩
 have k_11 := k_9.call k_10
 refine ⟨.b r_3, rfl, ?_⟩
 refine ⟨k_11, fun _ => ?_⟩
 refine MXq 1 5 [] (.n 57 (.b (decide (r_2 = r_3))) (.ssss (.ss .a))) (fun x hx => qe) (by kernel_rfl) (fun _ => ?_)
 refine MXq 1 4 [] (.n 58 (.b (decide (r_2 = r_3))) (.s .a)) (fun x hx => qe) (by kernel_rfl) (fun _ => ?_)
 refine MX_sp 58 (decide (r_2 = r_3)) (.s .a) (by kernel_rfl) (fun hg _ => ?_) (fun hg _ => ?_)
 · rw [if_pos (of_decide_eq_true hg)] at hm
   refine MXq 1 5 [58] (.n 59 (pt g 5) .a) (fun x hx => qs g 0 <| qe) (by kernel_rfl) (fun _ => ?_)
   refine MXq 1 4 [58] (.n 60 (sl A_a_Data a_Data.length c_a_Data) (.s .a)) (fun x hx => qB hx 0 rfl 5 (sl A_a_Data a_Data.length c_a_Data) (by kernel_rfl) <| qe) (by kernel_rfl) (fun _ => ?_)
   refine MXq 1 5 [58] (.n 61 (pt g 5) .a) (fun x hx => qs g 0 <| qe) (by kernel_rfl) (fun _ => ?_)
   refine MXq 1 4 [58] (.n 62 (sl A_a_Data a_Data.length c_a_Data) (.s .a)) (fun x hx => qB hx 0 rfl 5 (sl A_a_Data a_Data.length c_a_Data) (by kernel_rfl) <| qe) (by kernel_rfl) (fun _ => ?_)
   refine MX_op (by kernel_rfl) rfl ?_
   obtain ⟨r_4, h_r_4, hm⟩ := ob hm
   refine Op_call [58] 63 _ yz_go15 (by kernel_rfl) (c_mac_Equal (F := N0) (O := N0) _ _ _ _ _ _ _ _ (Ro.n0 (h_a_Data.cx k_11)) rfl hc_a_Data (Ro.n0 (h_a_Data.cx k_11)) rfl hc_a_Data (Cx.refl _) _ h_r_4) ?_
   rintro e_ w_5 ⟨rfl, k_12⟩
   have k_13 := k_11.call k_12
   refine ⟨.b r_4, rfl, ?_⟩
   refine ⟨k_13, fun _ => ?_⟩
   refine MXq 1 5 [58] (.n 64 (.b r_4) (.ssss .a)) (fun x hx => qe) (by kernel_rfl) (fun _ => ?_)
   refine MXq 1 3 [] (.n 65 (.b r_4) (.s .a)) (fun x hx => qe) (by kernel_rfl) (fun _ => ?_)
   refine MX_sp 65 r_4 (.s .a) (by kernel_rfl) (fun hg1 _ => ?_) (fun hg1 _ => ?_)
   · rw [if_pos hg1] at hm
     refine MXq 1 5 [65] (.n 66 (pt g 6) .a) (fun x hx => qs g 0 <| qe) (by kernel_rfl) (fun _ => ?_)
     refine MXq 1 4 [65] (.n 67 (sl A_a_Tag a_Tag.length c_a_Tag) (.s .a)) (fun x hx => qB hx 0 rfl 6 (sl A_a_Tag a_Tag.length c_a_Tag) (by kernel_rfl) <| qe) (by kernel_rfl) (fun _ => ?_)
     refine MXq 1 5 [65] (.n 68 (pt g 5) .a) (fun x hx => qs g 0 <| qe) (by kernel_rfl) (fun _ => ?_)
     refine MXq 1 4 [65] (.n 69 (sl A_a_Data a_Data.length c_a_Data) (.s .a)) (fun x hx => qB hx 0 rfl 5 (sl A_a_Data a_Data.length c_a_Data) (by kernel_rfl) <| qe) (by kernel_rfl) (fun _ => ?_)
     refine MXq 1 5 [65] (.n 71 (pt g 6) .a) (fun x hx => qs g 0 <| qe) (by kernel_rfl) (fun _ => ?_)
     refine MXq 1 4 [65] (.n 72 (sl A_a_Tag a_Tag.length c_a_Tag) (.s .a)) (fun x hx => qB hx 0 rfl 6 (sl A_a_Tag a_Tag.length c_a_Tag) (by kernel_rfl) <| qe) (by kernel_rfl) (fun _ => ?_)
     refine MXq 1 5 [65] (.n 73 (pt g 5) (.kkkk .z)) (fun x hx => qs g 0 <| qe) (by kernel_rfl) (fun _ => ?_)
     refine MXq 1 4 [65] (.n 74 (sl A_a_Data a_Data.length c_a_Data) (.s .a)) (fun x hx => qB hx 0 rfl 5 (sl A_a_Data a_Data.length c_a_Data) (by kernel_rfl) <| qe) (by kernel_rfl) (fun _ => ?_)
     refine MX_op (by kernel_rfl) rfl ?_
     obtain ⟨r_5, h_r_5, hm⟩ := ob hm
     refine Op_call [65] 70 _ yz_go15 (by kernel_rfl) (c_mac_Equal (F := N0) (O := N0) _ _ _ _ _ _ _ _ (Ro.n0 (h_a_Tag.cx k_13)) rfl hc_a_Tag (Ro.n0 (h_a_Data.cx k_13)) rfl hc_a_Data (Cx.refl _) _ h_r_5) ?_
     rintro e_ w_6 ⟨rfl, k_14⟩
     have k_15 := k_13.call k_14
     refine ⟨.b r_5, rfl, ?_⟩
     refine ⟨k_15, fun _ => ?_⟩
     refine MX_op (by kernel_rfl) rfl ?_
     obtain ⟨r_6, h_r_6, hm⟩ := ob hm
     refine Op_call [65] 75 _ yz_go10 (by kernel_rfl) (c_l06_same (F := N0) (O := N0) _ _ _ _ _ _ _ _ (Ro.n0 (h_a_Tag.cx k_15)) rfl hc_a_Tag (Ro.n0 (h_a_Data.cx k_15)) rfl hc_a_Data (Cx.refl _) _ h_r_6) ?_
     rintro e_ w_7 ⟨rfl, k_16⟩
     have k_17 := k_15.call k_16
     refine ⟨.b r_6, rfl, ?_⟩
     refine ⟨k_17, fun _ => ?_⟩
     refine MXq 3 5 [65] (.n 2 (.b (decide (r_5 = r_6))) .z) (fun x hx => qe) (by kernel_rfl) (fun _ => ?_)
     refine MX_nil <| At_go <| W_ret ?_
     obtain rfl := Option.some.inj hm
     refine At_rt [.b (decide (r_5 = r_6))] qe (by kernel_rfl) ?_
     have k_18 := k_17.sel .z
     exact ⟨rfl, k_18⟩
   · rw [if_neg (by rw [hg1]; decide)] at hm
     refine MXq 1 5 [65] (.n 66 (.tup []) .a) (fun x hx => qe) (by kernel_rfl) (fun _ => ?_)
     refine MXq 1 4 [65] (.n 67 (.tup []) (.s .a)) (fun x hx => qe) (by kernel_rfl) (fun _ => ?_)
     refine MXq 1 5 [65] (.n 68 (.tup []) .a) (fun x hx => qe) (by kernel_rfl) (fun _ => ?_)
     refine MXq 1 4 [65] (.n 69 (.tup []) (.s .a)) (fun x hx => qe) (by kernel_rfl) (fun _ => ?_)
     refine MXq 1 5 [65] (.n 71 (.tup []) .a) (fun x hx => qe) (by kernel_rfl) (fun _ => ?_)
     refine MXq 1 4 [65] (.n 72 (.tup []) (.s .a)) (fun x hx => qe) (by kernel_rfl) (fun _ => ?_)
     refine MXq 1 5 [65] (.n 73 (.tup []) (.kkkk .z)) (fun x hx => qe) (by kernel_rfl) (fun _ => ?_)
     refine MXq 1 4 [65] (.n 74 (.tup []) (.s .a)) (fun x hx => qe) (by kernel_rfl) (fun _ => ?_)
     refine MX_off 70 [65] (by kernel_rfl) rfl (by kernel_rfl) (fun _ => ?_)
     refine MX_off 75 [65] (by kernel_rfl) rfl (by kernel_rfl) (fun _ => ?_)
     refine MXq 3 5 [65] (.n 2 (.b false) .z) (fun x hx => qe) (by kernel_rfl) (fun _ => ?_)
     refine MX_nil <| At_go <| W_ret ?_
     obtain rfl := Option.some.inj hm
     refine At_rt [.b false] qe (by kernel_rfl) ?_
     have k_19 := k_13.sel .z
     exact ⟨rfl, k_19⟩
 · rw [if_neg (of_decide_eq_false hg)] at hm
   refine MXq 1 5 [58] (.n 59 (.tup []) .a) (fun x hx => qe) (by kernel_rfl) (fun _ => ?_)
   refine MXq 1 4 [58] (.n 60 (.tup []) (.s .a)) (fun x hx => qe) (by kernel_rfl) (fun _ => ?_)
   refine MXq 1 5 [58] (.n 61 (.tup []) .a) (fun x hx => qe) (by kernel_rfl) (fun _ => ?_)
   refine MXq 1 4 [58] (.n 62 (.tup []) (.s .a)) (fun x hx => qe) (by kernel_rfl) (fun _ => ?_)
   refine MX_off 63 [58] (by kernel_rfl) rfl (by kernel_rfl) (fun _ => ?_)
   refine MXq 1 5 [58] (.n 64 (.b false) (.ssss .a)) (fun x hx => qe) (by kernel_rfl) (fun _ => ?_)
   refine MXq 1 3 [] (.n 65 (.b false) (.s .a)) (fun x hx => qe) (by kernel_rfl) (fun _ => ?_)
   refine MXq 1 5 [65] (.n 66 (.tup []) .a) (fun x hx => qe) (by kernel_rfl) (fun _ => ?_)
   refine MXq 1 4 [65] (.n 67 (.tup []) (.s .a)) (fun x hx => qe) (by kernel_rfl) (fun _ => ?_)
   refine MXq 1 5 [65] (.n 68 (.tup []) .a) (fun x hx => qe) (by kernel_rfl) (fun _ => ?_)
   refine MXq 1 4 [65] (.n 69 (.tup []) (.s .a)) (fun x hx => qe) (by kernel_rfl) (fun _ => ?_)
   refine MXq 1 5 [65] (.n 71 (.tup []) .a) (fun x hx => qe) (by kernel_rfl) (fun _ => ?_)
   refine MXq 1 4 [65] (.n 72 (.tup []) (.s .a)) (fun x hx => qe) (by kernel_rfl) (fun _ => ?_)
   refine MXq 1 5 [65] (.n 73 (.tup []) (.kkkk .z)) (fun x hx => qe) (by kernel_rfl) (fun _ => ?_)
   refine MXq 1 4 [65] (.n 74 (.tup []) (.s .a)) (fun x hx => qe) (by kernel_rfl) (fun _ => ?_)
   refine MX_off 70 [65] (by kernel_rfl) rfl (by kernel_rfl) (fun _ => ?_)
   refine MX_off 75 [65] (by kernel_rfl) rfl (by kernel_rfl) (fun _ => ?_)
   refine MXq 3 5 [65] (.n 2 (.b false) .z) (fun x hx => qe) (by kernel_rfl) (fun _ => ?_)
   refine MX_nil <| At_go <| W_ret ?_
   obtain rfl := Option.some.inj hm
   refine At_rt [.b false] qe (by kernel_rfl) ?_
   have k_20 := k_11.sel .z
   exact ⟨rfl, k_20⟩

-- quern/mac.Subkey
noncomputable def m_mac_Subkey (k_ : Int) (n : Int) (master : List UInt8) (id : UInt64) (context : List UInt8) : Option (List UInt8 × Int) :=
  (m_mac_most k_).bind fun r_ => if r_ = 0 then (some (([] : List UInt8), (1 : Int))) else (if ((master.length : Nat) : Int) = 0 then (some (([] : List UInt8), (8 : Int))) else (if (w64 (Int.tdiv r_ 4)) < (context.length : Int) then (some (([] : List UInt8), (61 : Int))) else ((m_word_Store64 id).bind fun r_1 => (need (context.length ≤ 140737488355328)).bind fun u => (m_mac_digest k_ n master r_1 context ([] : List UInt8)).bind fun r_2 => some (r_2.1, r_2.2))))
theorem c_mac_Subkey {F O : Nat → Prop} {w : World} (k_ : Int) (n : Int) (master : List UInt8) (id : UInt64) (context : List UInt8) (A_master : Option Addr) (n_master : Nat) (c_master : Nat) (h_master : Ro F w A_master (e8.all master)) (hn_master : master.length = n_master) (hc_master : n_master ≤ c_master) (k : Cx F O w w []) (r : (List UInt8 × Int)) (hm : m_mac_Subkey k_ n master id context = some r) :
    Calls Tryz.prog 16 (vals [I k_, I n, sl A_master n_master c_master, .u64 id, .s context]) w (fun e w' => ∃ A n1 c, r.1.length = n1 ∧ e = .returned (SV.val (.tup [sl A n1 c, I r.2])) ∧ Cx F O w w' [Ow e8 A n1 c r.1]) := by
 unfold m_mac_Subkey at hm
 subst hn_master
 refine calls [I k_, I n, sl A_master master.length c_master, .u64 id, .s context] Tryz.func16 rfl (of_decide_eq_true (by kernel_rfl)) ?_
 refine W_seq <| W_q [] .a qe (by kernel_rfl) ?_
 refine At_go <| W_seq <| W_reg <| WLs 1 [] (.n 13 (I k_) .a) qe (by kernel_rfl) ?_
 refine WL_op ?_
 obtain ⟨r_, h_r_, hm⟩ := ob hm
 refine Op_call [] 14 _ yz_go44 (by kernel_rfl) (c_mac_most (F := N0) (O := N0) _ (Cx.refl _) _ h_r_) ?_
 rintro e_ w_ ⟨rfl, k_1⟩
 have k_2 := k.call k_1
 refine ⟨I r_, rfl, ?_⟩
 refine WLs 1 [] (.n 12 (I r_) (.ss .a)) qe (by kernel_rfl) ?_
 refine WL_nil <| At_go <| W_seq <| W_block <| W_seq <| W_q [] (.n 15 (.b (decide (r_ = 0))) .a) qe (by kernel_rfl) ?_
 refine At_go <| W_condp (r_ = 0) (by kernel_rfl) (fun hc => ?_) (fun hc => ?_)
 · rw [if_pos hc] at hm
   refine W_seq <| W_q [] (.n 10 (sl none 0 0) (.n 11 (I 1) .z)) qe (by kernel_rfl) ?_
   refine At_go <| W_ret (At_ir (At_tr ?_))
   have k_3 := k_2.nil e8
   obtain rfl := Option.some.inj hm
   refine At_rt [sl none 0 0, I 1] qe (by kernel_rfl) ?_
   exact ⟨none, 0, 0, k_3.len 0 rfl, rfl, k_3⟩
 rw [if_neg hc] at hm
 refine W_seq <| W_q [] (.n 18 (.b (decide (((master.length : Nat) : Int) = 0))) (.s .a)) qe (by kernel_rfl) ?_
 refine At_go <| W_condp (((master.length : Nat) : Int) = 0) (by kernel_rfl) (fun hc1 => ?_) (fun hc1 => ?_)
 · rw [if_pos hc1] at hm
   refine W_seq <| W_q [] (.n 10 (sl none 0 0) (.n 11 (I 8) .z)) qe (by kernel_rfl) ?_
   refine At_go <| W_ret (At_ir (At_tr ?_))
   have k_4 := k_2.nil e8
   obtain rfl := Option.some.inj hm
   refine At_rt [sl none 0 0, I 8] qe (by kernel_rfl) ?_
   exact ⟨none, 0, 0, k_4.len 0 rfl, rfl, k_4⟩
 rw [if_neg hc1] at hm
 refine W_seq <| W_q [] (.n 22 (.b (decide ((w64 (Int.tdiv r_ 4)) < (context.length : Int)))) (.ss .a)) (qp ((4 : Int) ≠ (0 : Int)) (by omega) <| qe) (by kernel_rfl) ?_
 refine At_go <| W_condp ((w64 (Int.tdiv r_ 4)) < (context.length : Int)) (by kernel_rfl) (fun hc2 => ?_) (fun hc2 => ?_)
 · rw [if_pos hc2] at hm
   refine W_seq <| W_q [] (.n 10 (sl none 0 0) (.n 11 (I 61) .z)) qe (by kernel_rfl) ?_
   refine At_go <| W_ret (At_ir (At_tr ?_))
   have k_5 := k_2.nil e8
   obtain rfl := Option.some.inj hm
   refine At_rt [sl none 0 0, I 61] qe (by kernel_rfl) ?_
   exact ⟨none, 0, 0, k_5.len 0 rfl, rfl, k_5⟩
 rw [if_neg hc2] at hm
 refine W_skip <| At_in <| At_go <| W_seq <| W_reg <| WLs 4 [] (.n 28 (I k_) (.n 29 (I n) (.n 30 (sl A_master master.length c_master) (.n 31 (.u64 id) (.ssss (.s .a)))))) qe (by kernel_rfl) ?_
 refine WL_op ?_
 obtain ⟨r_1, h_r_1, hm⟩ := ob hm
 refine Op_call [] 32 _ yz_go47 (by kernel_rfl) (c_word_Store64 (F := N0) (O := N0) _ (Cx.refl _) _ h_r_1) ?_
 rintro e_ w_1 ⟨A0, _, c0, rfl, rfl, k_6⟩
 have k_7 := k_2.call k_6
 refine ⟨sl A0 r_1.length c0, rfl, ?_⟩
 refine WLs 1 [] (.n 33 (.s context) (.kkkk .z)) qe (by kernel_rfl) ?_
 refine WL_op ?_
 obtain ⟨u, h_u, hm⟩ := ob hm
 refine Op_bytes (e := 5) [] 34 context (by kernel_rfl) (need_some h_u) k_7 ?_
 intro A1 c1 w_2 k_8
 refine WL_op ?_
 obtain ⟨r_2, h_r_2, hm⟩ := ob hm
 refine Op_call [] 35 _ yz_go41 (by kernel_rfl) (c_mac_digest (F := N0) (O := N0) _ _ _ _ _ _ _ _ _ _ _ _ _ _ _ _ _ _ (Ro.n0 (h_master.cx k_8)) rfl hc_master (Ro.n0 (k_8.rd 0 rfl)) (k_8.len 0 rfl) (k_8.lec 0 rfl) (Ro.n0 (k_8.rd 1 rfl)) (k_8.len 1 rfl) (k_8.lec 1 rfl) (Ro.nilE e8) rfl (Nat.le_refl 0) (Cx.refl _) _ h_r_2) ?_
 rintro e_ w_3 ⟨A2, _, c2, rfl, rfl, k_9⟩
 have k_10 := k_8.call k_9
 refine ⟨.tup [sl A2 r_2.1.length c2, I r_2.2], rfl, ?_⟩
 have k_11 := k_10.sel (.ss (.k .e))
 refine WLs 4 [] (.n 10 (sl A2 r_2.1.length c2) (.n 11 (I r_2.2) .z)) qe (by kernel_rfl) ?_
 refine WL_nil <| At_go <| W_ret ?_
 obtain rfl := Option.some.inj hm
 refine At_rt [sl A2 r_2.1.length c2, I r_2.2] qe (by kernel_rfl) ?_
 exact ⟨A2, r_2.1.length, c2, k_11.len 0 rfl, rfl, k_11⟩

-- quern/quernref06.Subkey
noncomputable def m_r06_Subkey_l0 (kind : Int) (n : Int) (master : List UInt8) (context : List UInt8) (r_1 : (List UInt8)) : (List UInt8 × Int) → Option ((List UInt8 × Int) ⊕ (List UInt8 × Int))
  | (personal, i) => if i < (context.length : Int) then ((geti context i).bind fun c2 => (app personal ([c2] : List UInt8) 1).bind fun personal1 => some (.inl (personal1, w64 (i + 1)))) else (Option.map Sum.inr ((m_r06_Make kind n master r_1 personal ([] : List UInt8)).bind fun r_2 => some (r_2.1, r_2.2)))
noncomputable def m_r06_Subkey (kind : Int) (n : Int) (master : List UInt8) (id : UInt64) (context : List UInt8) : Option (List UInt8 × Int) :=
  (m_r02_Most kind).bind fun r_ => if r_ = 0 then (some (([] : List UInt8), (1 : Int))) else (if ((master.length : Nat) : Int) = 0 then (some (([] : List UInt8), (8 : Int))) else (if (w64 (Int.tdiv r_ 4)) < (context.length : Int) then (some (([] : List UInt8), (61 : Int))) else ((m_r01_Store id (8 : Int)).bind fun r_1 => whileO (m_r06_Subkey_l0 kind n master context r_1) (List.replicate (Int.toNat (0 : Int)) (0 : UInt8), (0 : Int)))))
theorem c_r06_Subkey {F O : Nat → Prop} {w : World} (kind : Int) (n : Int) (master : List UInt8) (id : UInt64) (context : List UInt8) (A_master : Option Addr) (n_master : Nat) (c_master : Nat) (h_master : Ro F w A_master (e8.all master)) (hn_master : master.length = n_master) (hc_master : n_master ≤ c_master) (k : Cx F O w w []) (r : (List UInt8 × Int)) (hm : m_r06_Subkey kind n master id context = some r) :
    Calls Tryz.prog 17 (vals [I kind, I n, sl A_master n_master c_master, .u64 id, .s context]) w (fun e w' => ∃ A n1 c, r.1.length = n1 ∧ e = .returned (SV.val (.tup [sl A n1 c, I r.2])) ∧ Cx F O w w' [Ow e8 A n1 c r.1]) := by
 unfold m_r06_Subkey at hm
 subst hn_master
 refine calls [I kind, I n, sl A_master master.length c_master, .u64 id, .s context] Tryz.func17 rfl (of_decide_eq_true (by kernel_rfl)) ?_
 refine W_seq <| W_q [] .a qe (by kernel_rfl) ?_
 refine At_go <| W_seq <| W_reg <| WLs 1 [] (.n 16 (I kind) .a) qe (by kernel_rfl) ?_
 refine WL_op ?_
 obtain ⟨r_, h_r_, hm⟩ := ob hm
 refine Op_call [] 17 _ yz_go45 (by kernel_rfl) (c_r02_Most (F := N0) (O := N0) _ (Cx.refl _) _ h_r_) ?_
 rintro e_ w_ ⟨rfl, k_⟩
 have k_1 := k.call k_
 refine ⟨I r_, rfl, ?_⟩
 refine WLs 1 [] (.n 12 (I r_) (.ss .a)) qe (by kernel_rfl) ?_
 refine WL_nil <| At_go <| W_seq <| W_block <| W_seq <| W_q [] (.n 18 (.b (decide (r_ = 0))) .a) qe (by kernel_rfl) ?_
 refine At_go <| W_condp (r_ = 0) (by kernel_rfl) (fun hc => ?_) (fun hc => ?_)
 · rw [if_pos hc] at hm
   refine W_seq <| W_q [] (.n 10 (sl none 0 0) (.n 11 (I 1) .z)) qe (by kernel_rfl) ?_
   refine At_go <| W_ret (At_ir (At_tr ?_))
   have k_2 := k_1.nil e8
   obtain rfl := Option.some.inj hm
   refine At_rt [sl none 0 0, I 1] qe (by kernel_rfl) ?_
   exact ⟨none, 0, 0, k_2.len 0 rfl, rfl, k_2⟩
 rw [if_neg hc] at hm
 refine W_seq <| W_q [] (.n 21 (.b (decide (((master.length : Nat) : Int) = 0))) (.s .a)) qe (by kernel_rfl) ?_
 refine At_go <| W_condp (((master.length : Nat) : Int) = 0) (by kernel_rfl) (fun hc1 => ?_) (fun hc1 => ?_)
 · rw [if_pos hc1] at hm
   refine W_seq <| W_q [] (.n 10 (sl none 0 0) (.n 11 (I 8) .z)) qe (by kernel_rfl) ?_
   refine At_go <| W_ret (At_ir (At_tr ?_))
   have k_3 := k_1.nil e8
   obtain rfl := Option.some.inj hm
   refine At_rt [sl none 0 0, I 8] qe (by kernel_rfl) ?_
   exact ⟨none, 0, 0, k_3.len 0 rfl, rfl, k_3⟩
 rw [if_neg hc1] at hm
 refine W_seq <| W_q [] (.n 25 (.b (decide ((w64 (Int.tdiv r_ 4)) < (context.length : Int)))) (.ss .a)) (qp ((4 : Int) ≠ (0 : Int)) (by omega) <| qe) (by kernel_rfl) ?_
 refine At_go <| W_condp ((w64 (Int.tdiv r_ 4)) < (context.length : Int)) (by kernel_rfl) (fun hc2 => ?_) (fun hc2 => ?_)
 · rw [if_pos hc2] at hm
   refine W_seq <| W_q [] (.n 10 (sl none 0 0) (.n 11 (I 61) .z)) qe (by kernel_rfl) ?_
   refine At_go <| W_ret (At_ir (At_tr ?_))
   have k_4 := k_1.nil e8
   obtain rfl := Option.some.inj hm
   refine At_rt [sl none 0 0, I 61] qe (by kernel_rfl) ?_
   exact ⟨none, 0, 0, k_4.len 0 rfl, rfl, k_4⟩
 rw [if_neg hc2] at hm
 refine W_skip <| At_in <| At_go <| W_seq <| W_reg <| WLs 1 [] (.n 31 (.u64 id) (.s (.kkk (.s .a)))) qe (by kernel_rfl) ?_
 refine WL_op ?_
 obtain ⟨r_1, h_r_1, hm⟩ := ob hm
 refine Op_call [] 32 _ yz_go48 (by kernel_rfl) (c_r01_Store (F := N0) (O := N0) _ _ (Cx.refl _) _ h_r_1) ?_
 rintro e_ w_1 ⟨A0, _, c0, rfl, rfl, k_5⟩
 have k_6 := k_1.call k_5
 refine ⟨sl A0 r_1.length c0, rfl, ?_⟩
 refine WLs 1 [] (.n 13 (sl A0 r_1.length c0) (.ss .a)) qe (by kernel_rfl) ?_
 refine WL_nil <| At_go <| W_seq <| W_reg <| WL_op <| Op_make yz_tf22 e8 (0 : UInt8) rfl [] 33 (I 0) (I 0) (0 : Int) (0 : Int) (by kernel_rfl) (by omega) (by omega) (by omega) k_6 ?_
 intro A1 w_2 k_7
 refine WLs 1 [] (.n 14 (sl A1 (Int.toNat (0 : Int)) (Int.toNat (0 : Int))) (.s .a)) qe (by kernel_rfl) ?_
 refine WL_nil <| At_go <| W_seq <| W_seq <| W_q [] (.n 15 (I 0) .a) qe (by kernel_rfl) ?_
 refine At_go <| W_block <| W_lp (m_r06_Subkey_l0 kind n master context r_1) (fun s L wr => ∃ (personal : List UInt8) (i : Int) (A2 : Option Addr) (n2 : Nat) (c1 : Nat), (personal, i) = s ∧ L = [(0, I kind), (1, I n), (2, sl A_master master.length c_master), (4, .s context), (13, sl A0 r_1.length c0), (14, sl A2 n2 c1), (15, I i)] ∧ personal.length = n2 ∧ Cx F O w wr [Ow e8 A0 r_1.length c0 r_1, Ow e8 A2 n2 c1 personal]) (List.replicate (Int.toNat (0 : Int)) (0 : UInt8), (0 : Int)) r hm ⟨List.replicate (Int.toNat (0 : Int)) (0 : UInt8), (0 : Int), A1, Int.toNat (0 : Int), Int.toNat (0 : Int), rfl, rfl, k_7.len 1 rfl, k_7⟩ (by kernel_rfl) ?_
 intro s0_ L_ w_3 y0 hrel hstep hr0
 obtain ⟨personal, i, A2, _, c1, rfl, rfl, rfl, k_8⟩ := hrel
 have hm := hstep; simp only [m_r06_Subkey_l0] at hm
 clear hstep
 refine W_seq <| W_seq <| W_q [] (.n 37 (.b (decide (i < (context.length : Int)))) .a) qe (by kernel_rfl) ?_
 refine At_go <| W_condp (i < (context.length : Int)) (by kernel_rfl) (fun hc3 => ?_) (fun hc3 => ?_)
 · rw [if_pos hc3] at hm
   refine W_skip <| At_go <| W_seq <| W_block <| W_reg ?_
   obtain ⟨c2, h_c2, hm⟩ := ob hm
   refine WLs 4 [] (.n 40 (sl A2 personal.length c1) (.n 43 (.u8 c2) (.s .a))) (qX h_c2 <| qe) (by kernel_rfl) ?_
   refine WL_op <| Op_mk yz_tf22 e8 [] 44 ([c2] : List UInt8) [(0, .u8 c2)] [.u8 c2] (by kernel_rfl) (by kernel_rfl) (by kernel_rfl) k_8 ?_
   intro A3 w_4 k_9
   refine WL_op ?_
   obtain ⟨personal1, h_personal1, hm⟩ := ob hm
   obtain ⟨hz, hl⟩ := app_some h_personal1
   refine Op_append (E := e8) (v := sl A3 1 1) (ys := ([c2] : List UInt8)) yz_tf22 [] 45 1 (by kernel_rfl) k_9 rfl (Src.sl (k_9.rd 2 rfl) (k_9.len 2 rfl) (by rfl)) (k_9.len 2 rfl) (by have := k_9.len 1 rfl; have := (k_9.len 2 rfl); omega) ?_
   intro A4 c3 w_5 k_10
   rw [← hl] at k_10
   have k_11 := k_10.sel (.kk .z)
   refine WLs 1 [] (.n 14 (sl A4 (personal.length + 1) c3) (.ssss (.kkkk (.k (.s .a))))) qe (by kernel_rfl) ?_
   refine WL_nil <| At_in <| At_go <| W_q [] (.n 15 (I (w64 (i + 1))) (.kkkk (.kk .z))) qe (by kernel_rfl) ?_
   exact At_rd (personal1, w64 (i + 1)) (Option.some.inj hm).symm ⟨personal1, w64 (i + 1), A4, personal.length + 1, c3, rfl, rfl, k_11.len 1 rfl, k_11⟩ (by kernel_rfl)
 rw [if_neg hc3] at hm
 refine W_exit (At_te (At_te (At_ie ?_)))
 have hm := exit_of hm hr0
 refine At_go <| W_seq <| W_reg <| WLs 5 [] (.n 46 (I kind) (.n 47 (I n) (.n 48 (sl A_master master.length c_master) (.n 49 (sl A0 r_1.length c0) (.n 50 (sl A2 personal.length c1) .z))))) qe (by kernel_rfl) ?_
 refine WL_op ?_
 obtain ⟨r_2, h_r_2, hm⟩ := ob hm
 refine Op_call [] 51 _ yz_go12 (by kernel_rfl) (c_r06_Make (F := N0) (O := N0) _ _ _ _ _ _ _ _ _ _ _ _ _ _ _ _ _ _ (Ro.n0 (h_master.cx k_8)) rfl hc_master (Ro.n0 (k_8.rd 0 rfl)) (k_8.len 0 rfl) (k_8.lec 0 rfl) (Ro.n0 (k_8.rd 1 rfl)) (k_8.len 1 rfl) (k_8.lec 1 rfl) (Ro.nilE e8) rfl (Nat.le_refl 0) (Cx.refl _) _ h_r_2) ?_
 rintro e_ w_6 ⟨A5, _, c4, rfl, rfl, k_12⟩
 have k_13 := k_8.call k_12
 refine ⟨.tup [sl A5 r_2.1.length c4, I r_2.2], rfl, ?_⟩
 have k_14 := k_13.sel (.ss (.k .e))
 refine WLs 4 [] (.n 10 (sl A5 r_2.1.length c4) (.n 11 (I r_2.2) .z)) qe (by kernel_rfl) ?_
 refine WL_nil <| At_go <| W_ret ?_
 obtain rfl := Option.some.inj hm
 refine At_rt [sl A5 r_2.1.length c4, I r_2.2] qe (by kernel_rfl) ?_
 exact ⟨A5, r_2.1.length, c4, k_14.len 0 rfl, rfl, k_14⟩

-- slices.Clone[[]byte,byte]
noncomputable def m_slices_Clone_byte_byte (s_ : List UInt8) : Option (List UInt8) :=
  (app ([] : List UInt8) s_ 1).bind fun b => some b
theorem c_slices_Clone_byte_byte {F O : Nat → Prop} {w : World} (s_ : List UInt8) (A_s_ : Option Addr) (n_s_ : Nat) (c_s_ : Nat) (h_s_ : Ro F w A_s_ (e8.all s_)) (hn_s_ : s_.length = n_s_) (hc_s_ : n_s_ ≤ c_s_) (k : Cx F O w w []) (r : (List UInt8)) (hm : m_slices_Clone_byte_byte s_ = some r) :
    Calls Tryz.prog 49 (vals [sl A_s_ n_s_ c_s_]) w (fun e w' => ∃ A n c, r.length = n ∧ e = .returned (SV.val (sl A n c)) ∧ Cx F O w w' [Ow e8 A n c r]) := by
 unfold m_slices_Clone_byte_byte at hm
 subst hn_s_
 refine calls [sl A_s_ s_.length c_s_] Tryz.func49 rfl (of_decide_eq_true (by kernel_rfl)) ?_
 refine W_seq <| W_q [] .a qe (by kernel_rfl) ?_
 refine At_go <| W_seq <| W_seq <| W_q [] (.n 4 (.b A_s_.isNone) .a) qe (by kernel_rfl) ?_
 refine At_go <| W_cond A_s_.isNone (by kernel_rfl) (fun hc => ?_) (fun hc => ?_)
 ·
   have en : s_ = [] := all_nil (E := e8) (Rd.nilA (h_s_.cx k) hc)
   have hm := Eq.trans (show (some ([] : List UInt8)) = ((app ([] : List UInt8) s_ 1).bind fun b => some b) from by rw [en] <;> rfl) hm
   refine W_seq <| W_q [] (.n 2 (sl none 0 0) .z) qe (by kernel_rfl) ?_
   refine At_go <| W_ret (At_tr ?_)
   have k_ := k.nil e8
   obtain rfl := Option.some.inj hm
   refine At_rt [sl none 0 0] qe (by kernel_rfl) ?_
   exact ⟨none, 0, 0, k_.len 0 rfl, rfl, k_⟩
 refine W_skip <| At_go <| W_seq <| W_reg <| WL_op <| Op_mk yz_tf22 e8 [] 5 ([] : List UInt8) [] [] (by kernel_rfl) (by kernel_rfl) (by kernel_rfl) k ?_
 intro A0 w_ k_1
 refine WLs 1 [] (.n 6 (sl A_s_ s_.length c_s_) (.k .z)) qe (by kernel_rfl) ?_
 refine WL_op ?_
 obtain ⟨b, h_b, hm⟩ := ob hm
 obtain ⟨hz, hl⟩ := app_some h_b
 refine Op_append (E := e8) (v := sl A_s_ s_.length c_s_) (ys := s_) yz_tf22 [] 7 0 (by kernel_rfl) k_1 rfl (Src.sl (h_s_.cx k_1) rfl (by rfl)) rfl (by have := k_1.len 0 rfl; have := hm; omega) ?_
 intro A1 c0 w_1 k_2
 rw [← hl] at k_2
 refine WLs 1 [] (.n 2 (sl A1 (0 + s_.length) c0) .z) qe (by kernel_rfl) ?_
 refine WL_nil <| At_go <| W_ret ?_
 obtain rfl := Option.some.inj hm
 refine At_rt [sl A1 (0 + s_.length) c0] qe (by kernel_rfl) ?_
 exact ⟨A1, 0 + s_.length, c0, k_2.len 0 rfl, rfl, k_2⟩

-- quern/mac.Derive
noncomputable def m_mac_Derive_l0 (k_ : Int) (context : List UInt8) (ids : List UInt64) (r_ : Int) : (List UInt8 × Int) → Option ((List UInt8 × Int) ⊕ (List UInt8 × Int))
  | (key, x_0) => if x_0 < ((ids.length : Nat) : Int) then ((geti ids x_0).bind fun x_2 => (m_mac_Subkey k_ r_ key x_2 context).bind fun r_3 => some (.inl (r_3.1, w64 (x_0 + 1)))) else (Option.map Sum.inr (some (key, (0 : Int))))
noncomputable def m_mac_Derive (k_ : Int) (master : List UInt8) (context : List UInt8) (ids : List UInt64) : Option (List UInt8 × Int) :=
  (m_mac_most k_).bind fun r_ => (m_mac_Subkey k_ r_ master (0 : UInt64) context).bind fun r_1 => if r_1.2 ≠ 0 then (some (([] : List UInt8), r_1.2)) else ((m_slices_Clone_byte_byte master).bind fun r_2 => whileO (m_mac_Derive_l0 k_ context ids r_) (r_2, (0 : Int)))
theorem c_mac_Derive {F O : Nat → Prop} {w : World} (k_ : Int) (master : List UInt8) (context : List UInt8) (ids : List UInt64) (A_master : Option Addr) (n_master : Nat) (c_master : Nat) (A_ids : Option Addr) (n_ids : Nat) (c_ids : Nat) (h_master : Ro F w A_master (e8.all master)) (hn_master : master.length = n_master) (hc_master : n_master ≤ c_master) (h_ids : Ro F w A_ids (e64.all ids)) (hn_ids : ids.length = n_ids) (hc_ids : n_ids ≤ c_ids) (k : Cx F O w w []) (r : (List UInt8 × Int)) (hm : m_mac_Derive k_ master context ids = some r) :
    Calls Tryz.prog 18 (vals [I k_, sl A_master n_master c_master, .s context, sl A_ids n_ids c_ids]) w (fun e w' => ∃ A n c, r.1.length = n ∧ e = .returned (SV.val (.tup [sl A n c, I r.2])) ∧ Cx F O w w' [Ow e8 A n c r.1]) := by
 unfold m_mac_Derive at hm
 subst hn_master
 subst hn_ids
 refine calls [I k_, sl A_master master.length c_master, .s context, sl A_ids ids.length c_ids] Tryz.func18 rfl (of_decide_eq_true (by kernel_rfl)) ?_
 refine W_seq <| W_q [] .a qe (by kernel_rfl) ?_
 refine At_go <| W_seq <| W_reg <| WLs 1 [] (.n 16 (I k_) .a) qe (by kernel_rfl) ?_
 refine WL_op ?_
 obtain ⟨r_, h_r_, hm⟩ := ob hm
 refine Op_call [] 17 _ yz_go44 (by kernel_rfl) (c_mac_most (F := N0) (O := N0) _ (Cx.refl _) _ h_r_) ?_
 rintro e_ w_ ⟨rfl, k_1⟩
 have k_2 := k.call k_1
 refine ⟨I r_, rfl, ?_⟩
 refine WLs 1 [] (.n 10 (I r_) (.ss .a)) qe (by kernel_rfl) ?_
 refine WL_nil <| At_go <| W_seq <| W_seq <| W_reg <| WLs 4 [] (.n 19 (I k_) (.n 20 (I r_) (.n 21 (sl A_master master.length c_master) (.n 22 (.s context) .a)))) qe (by kernel_rfl) ?_
 refine WL_op ?_
 obtain ⟨r_1, h_r_1, hm⟩ := ob hm
 refine Op_call [] 23 _ yz_go16 (by kernel_rfl) (c_mac_Subkey (F := N0) (O := N0) _ _ _ _ _ _ _ _ (Ro.n0 (h_master.cx k_2)) rfl hc_master (Cx.refl _) _ h_r_1) ?_
 rintro e_ w_1 ⟨A0, _, c0, rfl, rfl, k_3⟩
 have k_4 := k_2.call k_3
 refine ⟨.tup [sl A0 r_1.1.length c0, I r_1.2], rfl, ?_⟩
 refine WLs 5 [] (.n 12 (I r_1.2) (.ssss (.s .a))) qe (by kernel_rfl) ?_
 refine WL_nil <| At_go <| W_seq <| W_q [] (.n 27 (.b (decide (r_1.2 ≠ 0))) .a) qe (by kernel_rfl) ?_
 refine At_go <| W_condp (r_1.2 ≠ 0) (by kernel_rfl) (fun hc => ?_) (fun hc => ?_)
 · rw [if_pos hc] at hm
   refine W_seq <| W_q [] (.n 8 (sl none 0 0) (.n 9 (I r_1.2) .z)) qe (by kernel_rfl) ?_
   refine At_go <| W_ret (At_tr ?_)
   have k_5 := k_4.nil e8
   obtain rfl := Option.some.inj hm
   refine At_rt [sl none 0 0, I r_1.2] qe (by kernel_rfl) ?_
   have k_6 := k_5.sel (.s (.k .e))
   exact ⟨none, 0, 0, k_6.len 0 rfl, rfl, k_6⟩
 rw [if_neg hc] at hm
 refine W_skip <| At_go <| W_seq <| W_reg <| WLs 1 [] (.n 29 (sl A_master master.length c_master) (.ss (.kk (.s .a)))) qe (by kernel_rfl) ?_
 refine WL_op ?_
 obtain ⟨r_2, h_r_2, hm⟩ := ob hm
 refine Op_call [] 30 _ yz_go49 (by kernel_rfl) (c_slices_Clone_byte_byte (F := N0) (O := N0) _ _ _ _ (Ro.n0 (h_master.cx k_4)) rfl hc_master (Cx.refl _) _ h_r_2) ?_
 rintro e_ w_2 ⟨A1, _, c1, rfl, rfl, k_7⟩
 have k_8 := k_4.call k_7
 refine ⟨sl A1 r_2.length c1, rfl, ?_⟩
 have k_9 := k_8.sel (.s (.k .e))
 refine WLs 1 [] (.n 13 (sl A1 r_2.length c1) (.ss .a)) qe (by kernel_rfl) ?_
 refine WL_nil <| At_go <| W_seq <| W_seq <| W_q [] (.n 31 (sl A_ids ids.length c_ids) (.n 32 (I ((ids.length : Nat) : Int)) (.n 33 (I 0) (.kkkk .z)))) qe (by kernel_rfl) ?_
 refine At_go <| W_block <| W_lp (m_mac_Derive_l0 k_ context ids r_) (fun s L wr => ∃ (key : List UInt8) (x_0 : Int) (A2 : Option Addr) (n0 : Nat) (c2 : Nat), (key, x_0) = s ∧ L = [(0, I k_), (2, .s context), (10, I r_), (13, sl A2 n0 c2), (31, sl A_ids ids.length c_ids), (32, I ((ids.length : Nat) : Int)), (33, I x_0)] ∧ key.length = n0 ∧ Cx F O w wr [Ow e8 A2 n0 c2 key]) (r_2, (0 : Int)) r hm ⟨r_2, (0 : Int), A1, r_2.length, c1, rfl, rfl, k_9.len 0 rfl, k_9⟩ (by kernel_rfl) ?_
 intro s0_ L_ w_3 y0 hrel hstep hr0
 obtain ⟨key, x_0, A2, _, c2, rfl, rfl, rfl, k_10⟩ := hrel
 have hm := hstep; simp only [m_mac_Derive_l0] at hm
 clear hstep
 refine W_seq <| W_q [] (.n 34 (.b (decide (x_0 < ((ids.length : Nat) : Int)))) .a) qe (by kernel_rfl) ?_
 refine At_go <| W_seq <| W_condp (x_0 < ((ids.length : Nat) : Int)) (by kernel_rfl) (fun hc1 => ?_) (fun hc1 => ?_)
 · rw [if_pos hc1] at hm
   refine W_skip <| At_go <| W_seq <| W_block <| W_seq ?_
   obtain ⟨x_2, h_x_2, hm⟩ := ob hm
   refine W_q [] (.n 15 (.u64 x_2) (.s .a)) (qW (h_ids.cx k_10) h_x_2 rfl (.u64 x_2) rfl <| qe) (by kernel_rfl) ?_
   refine At_go <| W_reg <| WLs 5 [] (.n 38 (I k_) (.n 39 (I r_) (.n 40 (sl A2 key.length c2) (.n 41 (.u64 x_2) (.n 42 (.s context) (.s .a)))))) qe (by kernel_rfl) ?_
   refine WL_op ?_
   obtain ⟨r_3, h_r_3, hm⟩ := ob hm
   refine Op_call [] 43 _ yz_go16 (by kernel_rfl) (c_mac_Subkey (F := N0) (O := N0) _ _ _ _ _ _ _ _ (Ro.n0 (k_10.rd 0 rfl)) (k_10.len 0 rfl) (k_10.lec 0 rfl) (Cx.refl _) _ h_r_3) ?_
   rintro e_ w_4 ⟨A3, _, c3, rfl, rfl, k_11⟩
   have k_12 := k_10.call k_11
   refine ⟨.tup [sl A3 r_3.1.length c3, I r_3.2], rfl, ?_⟩
   refine WLs 4 [] (.n 13 (sl A3 r_3.1.length c3) (.ssss (.ss (.kkk (.s .a))))) qe (by kernel_rfl) ?_
   refine WL_nil <| At_in <| At_go <| W_q [] (.n 33 (I (w64 (x_0 + 1))) (.kkkk (.kk .z))) qe (by kernel_rfl) ?_
   have k_13 := k_12.sel (.s (.k .e))
   exact At_rd (r_3.1, w64 (x_0 + 1)) (Option.some.inj hm).symm ⟨r_3.1, w64 (x_0 + 1), A3, r_3.1.length, c3, rfl, rfl, k_13.len 0 rfl, k_13⟩ (by kernel_rfl)
 rw [if_neg hc1] at hm
 refine W_exit (At_te (At_te (At_ie ?_)))
 have hm := exit_of hm hr0
 refine At_go <| W_seq <| W_q [] (.n 8 (sl A2 key.length c2) (.n 9 (I 0) .z)) qe (by kernel_rfl) ?_
 refine At_go <| W_ret ?_
 obtain rfl := Option.some.inj hm
 refine At_rt [sl A2 key.length c2, I 0] qe (by kernel_rfl) ?_
 exact ⟨A2, key.length, c2, k_10.len 0 rfl, rfl, k_10⟩

-- quern/quernref06.Derive
noncomputable def m_r06_Derive_l0 (kind : Int) (context : List UInt8) (ids : List UInt64) (r_ : Int) : (List UInt8 × Int) → Option ((List UInt8 × Int) ⊕ (List UInt8 × Int))
  | (key1, i) => if i < ((ids.length : Nat) : Int) then ((geti ids i).bind fun x_0 => (m_r06_Subkey kind r_ key1 x_0 context).bind fun r_2 => some (.inl (r_2.1, w64 (i + 1)))) else (Option.map Sum.inr (some (key1, (0 : Int))))
noncomputable def m_r06_Derive (kind : Int) (master : List UInt8) (context : List UInt8) (ids : List UInt64) : Option (List UInt8 × Int) :=
  (m_r02_Most kind).bind fun r_ => (m_r06_Subkey kind r_ master (0 : UInt64) context).bind fun r_1 => if r_1.2 ≠ 0 then (some (([] : List UInt8), r_1.2)) else ((app ([] : List UInt8) master 1).bind fun key => whileO (m_r06_Derive_l0 kind context ids r_) (key, (0 : Int)))
theorem c_r06_Derive {F O : Nat → Prop} {w : World} (kind : Int) (master : List UInt8) (context : List UInt8) (ids : List UInt64) (A_master : Option Addr) (n_master : Nat) (c_master : Nat) (A_ids : Option Addr) (n_ids : Nat) (c_ids : Nat) (h_master : Ro F w A_master (e8.all master)) (hn_master : master.length = n_master) (hc_master : n_master ≤ c_master) (h_ids : Ro F w A_ids (e64.all ids)) (hn_ids : ids.length = n_ids) (hc_ids : n_ids ≤ c_ids) (k : Cx F O w w []) (r : (List UInt8 × Int)) (hm : m_r06_Derive kind master context ids = some r) :
    Calls Tryz.prog 19 (vals [I kind, sl A_master n_master c_master, .s context, sl A_ids n_ids c_ids]) w (fun e w' => ∃ A n c, r.1.length = n ∧ e = .returned (SV.val (.tup [sl A n c, I r.2])) ∧ Cx F O w w' [Ow e8 A n c r.1]) := by
 unfold m_r06_Derive at hm
 subst hn_master
 subst hn_ids
 refine calls [I kind, sl A_master master.length c_master, .s context, sl A_ids ids.length c_ids] Tryz.func19 rfl (of_decide_eq_true (by kernel_rfl)) ?_
 refine W_seq <| W_q [] .a qe (by kernel_rfl) ?_
 refine At_go <| W_seq <| W_reg <| WLs 1 [] (.n 15 (I kind) .a) qe (by kernel_rfl) ?_
 refine WL_op ?_
 obtain ⟨r_, h_r_, hm⟩ := ob hm
 refine Op_call [] 16 _ yz_go45 (by kernel_rfl) (c_r02_Most (F := N0) (O := N0) _ (Cx.refl _) _ h_r_) ?_
 rintro e_ w_ ⟨rfl, k_⟩
 have k_1 := k.call k_
 refine ⟨I r_, rfl, ?_⟩
 refine WLs 1 [] (.n 10 (I r_) (.ss .a)) qe (by kernel_rfl) ?_
 refine WL_nil <| At_go <| W_seq <| W_reg <| WLs 4 [] (.n 18 (I kind) (.n 19 (I r_) (.n 20 (sl A_master master.length c_master) (.n 21 (.s context) .a)))) qe (by kernel_rfl) ?_
 refine WL_op ?_
 obtain ⟨r_1, h_r_1, hm⟩ := ob hm
 refine Op_call [] 22 _ yz_go17 (by kernel_rfl) (c_r06_Subkey (F := N0) (O := N0) _ _ _ _ _ _ _ _ (Ro.n0 (h_master.cx k_1)) rfl hc_master (Cx.refl _) _ h_r_1) ?_
 rintro e_ w_1 ⟨A0, _, c0, rfl, rfl, k_2⟩
 have k_3 := k_1.call k_2
 refine ⟨.tup [sl A0 r_1.1.length c0, I r_1.2], rfl, ?_⟩
 refine WLs 5 [] (.n 12 (I r_1.2) (.ssss (.s .a))) qe (by kernel_rfl) ?_
 refine WL_nil <| At_go <| W_seq <| W_seq <| W_q [] (.n 26 (.b (decide (r_1.2 ≠ 0))) .a) qe (by kernel_rfl) ?_
 refine At_go <| W_condp (r_1.2 ≠ 0) (by kernel_rfl) (fun hc => ?_) (fun hc => ?_)
 · rw [if_pos hc] at hm
   refine W_seq <| W_q [] (.n 8 (sl none 0 0) (.n 9 (I r_1.2) .z)) qe (by kernel_rfl) ?_
   refine At_go <| W_ret (At_tr ?_)
   have k_4 := k_3.nil e8
   obtain rfl := Option.some.inj hm
   refine At_rt [sl none 0 0, I r_1.2] qe (by kernel_rfl) ?_
   have k_5 := k_4.sel (.s (.k .e))
   exact ⟨none, 0, 0, k_5.len 0 rfl, rfl, k_5⟩
 rw [if_neg hc] at hm
 refine W_skip <| At_go <| W_seq <| W_q [] (.n 13 (sl none 0 0) (.ss .a)) qe (by kernel_rfl) ?_
 refine At_go <| W_seq <| W_reg <| WLs 2 [] (.n 28 (sl none 0 0) (.n 29 (sl A_master master.length c_master) (.kkk (.s .a)))) qe (by kernel_rfl) ?_
 refine WL_op ?_
 have k_6 := k_3.nil e8
 obtain ⟨key, h_key, hm⟩ := ob hm
 obtain ⟨hz, hl⟩ := app_some h_key
 refine Op_append (E := e8) (v := sl A_master master.length c_master) (ys := master) yz_tf22 [] 30 1 (by kernel_rfl) k_6 rfl (Src.sl (h_master.cx k_6) rfl (by rfl)) rfl (by have := k_6.len 1 rfl; have := hm; omega) ?_
 intro A1 c1 w_2 k_7
 rw [← hl] at k_7
 have k_8 := k_7.sel (.s (.k .e))
 refine WLs 1 [] (.n 13 (sl A1 (0 + master.length) c1) (.ssss .a)) qe (by kernel_rfl) ?_
 refine WL_nil <| At_go <| W_seq <| W_seq <| W_q [] (.n 14 (I 0) .a) qe (by kernel_rfl) ?_
 refine At_go <| W_block <| W_lp (m_r06_Derive_l0 kind context ids r_) (fun s L wr => ∃ (key1 : List UInt8) (i : Int) (A2 : Option Addr) (n0 : Nat) (c2 : Nat), (key1, i) = s ∧ L = [(0, I kind), (2, .s context), (3, sl A_ids ids.length c_ids), (10, I r_), (13, sl A2 n0 c2), (14, I i)] ∧ key1.length = n0 ∧ Cx F O w wr [Ow e8 A2 n0 c2 key1]) (key, (0 : Int)) r hm ⟨key, (0 : Int), A1, 0 + master.length, c1, rfl, rfl, k_8.len 0 rfl, k_8⟩ (by kernel_rfl) ?_
 intro s0_ L_ w_3 y0 hrel hstep hr0
 obtain ⟨key1, i, A2, _, c2, rfl, rfl, rfl, k_9⟩ := hrel
 have hm := hstep; simp only [m_r06_Derive_l0] at hm
 clear hstep
 refine W_seq <| W_seq <| W_q [] (.n 34 (.b (decide (i < ((ids.length : Nat) : Int)))) .a) qe (by kernel_rfl) ?_
 refine At_go <| W_condp (i < ((ids.length : Nat) : Int)) (by kernel_rfl) (fun hc1 => ?_) (fun hc1 => ?_)
 · rw [if_pos hc1] at hm
   refine W_skip <| At_go <| W_seq <| W_block <| W_reg ?_
   obtain ⟨x_0, h_x_0, hm⟩ := ob hm
   refine WLs 8 [] (.n 38 (I kind) (.n 39 (I r_) (.n 40 (sl A2 key1.length c2) (.n 44 (.u64 x_0) (.n 45 (.s context) (.s .a)))))) (qW (h_ids.cx k_9) h_x_0 rfl (.u64 x_0) rfl <| qe) (by kernel_rfl) ?_
   refine WL_op ?_
   obtain ⟨r_2, h_r_2, hm⟩ := ob hm
   refine Op_call [] 46 _ yz_go17 (by kernel_rfl) (c_r06_Subkey (F := N0) (O := N0) _ _ _ _ _ _ _ _ (Ro.n0 (k_9.rd 0 rfl)) (k_9.len 0 rfl) (k_9.lec 0 rfl) (Cx.refl _) _ h_r_2) ?_
   rintro e_ w_4 ⟨A3, _, c3, rfl, rfl, k_10⟩
   have k_11 := k_9.call k_10
   refine ⟨.tup [sl A3 r_2.1.length c3, I r_2.2], rfl, ?_⟩
   refine WLs 4 [] (.n 13 (sl A3 r_2.1.length c3) (.ssss (.ss (.kkkk (.s .a))))) qe (by kernel_rfl) ?_
   refine WL_nil <| At_in <| At_go <| W_q [] (.n 14 (I (w64 (i + 1))) (.kkkk (.k .z))) qe (by kernel_rfl) ?_
   have k_12 := k_11.sel (.s (.k .e))
   exact At_rd (r_2.1, w64 (i + 1)) (Option.some.inj hm).symm ⟨r_2.1, w64 (i + 1), A3, r_2.1.length, c3, rfl, rfl, k_12.len 0 rfl, k_12⟩ (by kernel_rfl)
 rw [if_neg hc1] at hm
 refine W_exit (At_te (At_te (At_ie ?_)))
 have hm := exit_of hm hr0
 refine At_go <| W_seq <| W_q [] (.n 8 (sl A2 key1.length c2) (.n 9 (I 0) .z)) qe (by kernel_rfl) ?_
 refine At_go <| W_ret ?_
 obtain rfl := Option.some.inj hm
 refine At_rt [sl A2 key1.length c2, I 0] qe (by kernel_rfl) ?_
 exact ⟨A2, key1.length, c2, k_9.len 0 rfl, rfl, k_9⟩

-- quern/quernlaw06.MacSubkeys
noncomputable def m_l06_MacSubkeys_j0 (w_K : Int) (w_N : Int) (w_Master : List UInt8) (w_Context : List UInt8) (w_Ids : List UInt64) (id : UInt64) : Option Bool :=
  (m_mac_Subkey w_K w_N w_Master id w_Context).bind fun r_ => (m_r06_Subkey w_K w_N w_Master id w_Context).bind fun r_1 => if r_.2 ≠ r_1.2 then (some false) else ((m_l06_same r_.1 r_1.1).bind fun r_2 => if (!r_2) = true then (some false) else ((m_mac_Derive w_K w_Master w_Context w_Ids).bind fun r_3 => (m_r06_Derive w_K w_Master w_Context w_Ids).bind fun r_4 => if r_3.2 = r_4.2 then ((m_l06_same r_3.1 r_4.1).bind fun r_5 => some r_5) else (some false)))
noncomputable def m_l06_MacSubkeys (w_K : Int) (w_N : Int) (w_Master : List UInt8) (w_Context : List UInt8) (w_Ids : List UInt64) (w_Cut : Int) : Option Bool :=
  if 0 < ((w_Ids.length : Nat) : Int) then ((geti w_Ids (0 : Int)).bind fun x_0 => m_l06_MacSubkeys_j0 w_K w_N w_Master w_Context w_Ids x_0) else (m_l06_MacSubkeys_j0 w_K w_N w_Master w_Context w_Ids (0 : UInt64))
theorem c_l06_MacSubkeys {F O : Nat → Prop} {w : World} (w_K : Int) (w_N : Int) (w_Master : List UInt8) (w_Context : List UInt8) (w_Ids : List UInt64) (w_Cut : Int) (A_w_Master : Option Addr) (n_w_Master : Nat) (c_w_Master : Nat) (A_w_Ids : Option Addr) (n_w_Ids : Nat) (c_w_Ids : Nat) (h_w_Master : Ro F w A_w_Master (e8.all w_Master)) (hn_w_Master : w_Master.length = n_w_Master) (hc_w_Master : n_w_Master ≤ c_w_Master) (h_w_Ids : Ro F w A_w_Ids (e64.all w_Ids)) (hn_w_Ids : w_Ids.length = n_w_Ids) (hc_w_Ids : n_w_Ids ≤ c_w_Ids) (k : Cx F O w w []) (r : Bool) (hm : m_l06_MacSubkeys w_K w_N w_Master w_Context w_Ids w_Cut = some r) :
    Calls Tryz.prog 5 (vals [.agg [I w_K, I w_N, sl A_w_Master n_w_Master c_w_Master, .s w_Context, sl A_w_Ids n_w_Ids c_w_Ids, I w_Cut]]) w (fun e w' => e = .returned (SV.val (.b r)) ∧ Cx F O w w' []) := by
 unfold m_l06_MacSubkeys at hm
 subst hn_w_Master
 subst hn_w_Ids
 refine calls [.agg [I w_K, I w_N, sl A_w_Master w_Master.length c_w_Master, .s w_Context, sl A_w_Ids w_Ids.length c_w_Ids, I w_Cut]] Tryz.func5 rfl (of_decide_eq_true (by kernel_rfl)) ?_
 refine W_seq <| W_reg <| WL_op <| Op_box [] 1 (.agg [I w_K, I w_N, sl A_w_Master w_Master.length c_w_Master, .s w_Context, sl A_w_Ids w_Ids.length c_w_Ids, I w_Cut]) [I w_K, I w_N, sl A_w_Master w_Master.length c_w_Master, .s w_Context, sl A_w_Ids w_Ids.length c_w_Ids, I w_Cut] (by kernel_rfl) k ?_
 intro g w_ k_
 refine WLs 1 [] (.k .z) qe (by kernel_rfl) ?_
 refine WL_nil <| At_go <| W_seq <| W_q [] (.n 3 (.u64 0) .a) qe (by kernel_rfl) ?_
 refine At_go <| W_cut (fun L wr => ∃ (id : UInt64), m_l06_MacSubkeys_j0 w_K w_N w_Master w_Context w_Ids id = some r ∧ L = [(1, pt g 0), (3, .u64 id)] ∧ Cx F O w wr [Bx 41 g [I w_K, I w_N, sl A_w_Master w_Master.length c_w_Master, .s w_Context, sl A_w_Ids w_Ids.length c_w_Ids, I w_Cut]]) ?_ ?_
 ·
  refine W_seq <| W_q [] (.n 11 (.b (decide (0 < ((w_Ids.length : Nat) : Int)))) .a) (qs g 0 <| qB k_ 0 rfl 4 (sl A_w_Ids w_Ids.length c_w_Ids) (by kernel_rfl) <| qe) (by kernel_rfl) ?_
  refine At_go <| W_condp (0 < ((w_Ids.length : Nat) : Int)) (by kernel_rfl) (fun hc => ?_) (fun hc => ?_)
  · rw [if_pos hc] at hm
    obtain ⟨x_0, h_x_0, hm⟩ := ob hm
    refine W_q [] (.n 3 (.u64 x_0) (.ss .a)) (qs g 0 <| qB k_ 0 rfl 4 (sl A_w_Ids w_Ids.length c_w_Ids) (by kernel_rfl) <| qW (h_w_Ids.cx k_) h_x_0 rfl (.u64 x_0) rfl <| qe) (by kernel_rfl) ?_
    exact At_c ⟨x_0, hm, rfl, k_⟩ (by kernel_rfl)
  rw [if_neg hc] at hm
  refine W_skip ?_
  exact At_c ⟨(0 : UInt64), hm, rfl, k_⟩ (by kernel_rfl)
 rintro L_ w_1 ⟨id, hm, rfl, k_1⟩
 simp only [m_l06_MacSubkeys_j0] at hm
 refine W_seq <| W_reg <| WLs 9 [] (.n 18 (I w_K) (.n 20 (I w_N) (.n 22 (sl A_w_Master w_Master.length c_w_Master) (.n 23 (.u64 id) (.n 25 (.s w_Context) .a))))) (qs g 0 <| qB k_1 0 rfl 0 (I w_K) (by kernel_rfl) <| qs g 0 <| qB k_1 0 rfl 1 (I w_N) (by kernel_rfl) <| qs g 0 <| qB k_1 0 rfl 2 (sl A_w_Master w_Master.length c_w_Master) (by kernel_rfl) <| qs g 0 <| qB k_1 0 rfl 3 (.s w_Context) (by kernel_rfl) <| qe) (by kernel_rfl) ?_
 refine WL_op ?_
 obtain ⟨r_, h_r_, hm⟩ := ob hm
 refine Op_call [] 26 _ yz_go16 (by kernel_rfl) (c_mac_Subkey (F := N0) (O := N0) _ _ _ _ _ _ _ _ (Ro.n0 (h_w_Master.cx k_1)) rfl hc_w_Master (Cx.refl _) _ h_r_) ?_
 rintro e_ w_2 ⟨A, _, c, rfl, rfl, k_2⟩
 have k_3 := k_1.call k_2
 refine ⟨.tup [sl A r_.1.length c, I r_.2], rfl, ?_⟩
 refine WLs 5 [] (.n 4 (sl A r_.1.length c) (.n 5 (I r_.2) (.ssss (.ss .a)))) qe (by kernel_rfl) ?_
 refine WL_nil <| At_go <| W_seq <| W_reg <| WLs 9 [] (.n 31 (I w_K) (.n 33 (I w_N) (.n 35 (sl A_w_Master w_Master.length c_w_Master) (.n 36 (.u64 id) (.n 38 (.s w_Context) (.kkk .z)))))) (qs g 0 <| qB k_3 0 rfl 0 (I w_K) (by kernel_rfl) <| qs g 0 <| qB k_3 0 rfl 1 (I w_N) (by kernel_rfl) <| qs g 0 <| qB k_3 0 rfl 2 (sl A_w_Master w_Master.length c_w_Master) (by kernel_rfl) <| qs g 0 <| qB k_3 0 rfl 3 (.s w_Context) (by kernel_rfl) <| qe) (by kernel_rfl) ?_
 refine WL_op ?_
 obtain ⟨r_1, h_r_1, hm⟩ := ob hm
 refine Op_call [] 39 _ yz_go17 (by kernel_rfl) (c_r06_Subkey (F := N0) (O := N0) _ _ _ _ _ _ _ _ (Ro.n0 (h_w_Master.cx k_3)) rfl hc_w_Master (Cx.refl _) _ h_r_1) ?_
 rintro e_ w_3 ⟨A1, _, c1, rfl, rfl, k_4⟩
 have k_5 := k_3.call k_4
 refine ⟨.tup [sl A1 r_1.1.length c1, I r_1.2], rfl, ?_⟩
 refine WLs 5 [] (.n 6 (sl A1 r_1.1.length c1) (.n 7 (I r_1.2) (.ssss (.ss .a)))) qe (by kernel_rfl) ?_
 refine WL_nil <| At_go <| W_seq <| W_seq <| W_reg <| WLs 4 [] (.n 45 (.b (decide (r_.2 ≠ r_1.2))) (.k (.s (.k (.s .a))))) qe (by kernel_rfl) ?_
 refine WL_sp 45 (decide (r_.2 ≠ r_1.2)) (.s .a) (by kernel_rfl) (fun hg => ?_) (fun hg => ?_)
 · rw [if_pos (of_decide_eq_true hg)] at hm
   refine WLs 5 [45] (.n 50 (.b true) (.sss .a)) qe (by kernel_rfl) ?_
   refine WL_nil <| At_go <| W_cond true (by kernel_rfl) (fun _ => ?_) (fun h => by cases h)
   refine W_seq <| W_q [] (.n 2 (.b false) .z) qe (by kernel_rfl) ?_
   refine At_go <| W_ret (At_tr ?_)
   obtain rfl := Option.some.inj hm
   refine At_rt [.b false] qe (by kernel_rfl) ?_
   have k_6 := k_5.sel .z
   exact ⟨rfl, k_6⟩
 · rw [if_neg (of_decide_eq_false hg)] at hm
   refine WLs 2 [45] (.n 46 (sl A r_.1.length c) (.n 47 (sl A1 r_1.1.length c1) (.k (.ss .a)))) qe (by kernel_rfl) ?_
   refine WL_op ?_
   obtain ⟨r_2, h_r_2, hm⟩ := ob hm
   refine Op_call [45] 48 _ yz_go10 (by kernel_rfl) (c_l06_same (F := N0) (O := N0) _ _ _ _ _ _ _ _ (Ro.n0 (k_5.rd 1 rfl)) (k_5.len 1 rfl) (k_5.lec 1 rfl) (Ro.n0 (k_5.rd 2 rfl)) (k_5.len 2 rfl) (k_5.lec 2 rfl) (Cx.refl _) _ h_r_2) ?_
   rintro e_ w_4 ⟨rfl, k_7⟩
   have k_8 := k_5.call k_7
   refine ⟨.b r_2, rfl, ?_⟩
   have k_9 := k_8.sel (.k .z)
   refine WLs 2 [45] (.n 50 (.b (!r_2)) (.ssss .a)) qe (by kernel_rfl) ?_
   refine WL_nil <| At_go <| W_cond (!r_2) (by kernel_rfl) (fun hc1 => ?_) (fun hc1 => ?_)
   · rw [if_pos hc1] at hm
     refine W_seq <| W_q [] (.n 2 (.b false) .z) qe (by kernel_rfl) ?_
     refine At_go <| W_ret (At_tr ?_)
     obtain rfl := Option.some.inj hm
     refine At_rt [.b false] qe (by kernel_rfl) ?_
     have k_10 := k_9.sel .z
     exact ⟨rfl, k_10⟩
   rw [if_neg (by rw [hc1]; decide)] at hm
   refine W_skip <| At_go <| W_seq <| W_reg <| WLs 8 [] (.n 53 (I w_K) (.n 55 (sl A_w_Master w_Master.length c_w_Master) (.n 57 (.s w_Context) (.n 59 (sl A_w_Ids w_Ids.length c_w_Ids) (.s .a))))) (qs g 0 <| qB k_9 0 rfl 0 (I w_K) (by kernel_rfl) <| qs g 0 <| qB k_9 0 rfl 2 (sl A_w_Master w_Master.length c_w_Master) (by kernel_rfl) <| qs g 0 <| qB k_9 0 rfl 3 (.s w_Context) (by kernel_rfl) <| qs g 0 <| qB k_9 0 rfl 4 (sl A_w_Ids w_Ids.length c_w_Ids) (by kernel_rfl) <| qe) (by kernel_rfl) ?_
   refine WL_op ?_
   obtain ⟨r_3, h_r_3, hm⟩ := ob hm
   refine Op_call [] 60 _ yz_go18 (by kernel_rfl) (c_mac_Derive (F := N0) (O := N0) _ _ _ _ _ _ _ _ _ _ (Ro.n0 (h_w_Master.cx k_9)) rfl hc_w_Master (Ro.n0 (h_w_Ids.cx k_9)) rfl hc_w_Ids (Cx.refl _) _ h_r_3) ?_
   rintro e_ w_5 ⟨A2, _, c2, rfl, rfl, k_11⟩
   have k_12 := k_9.call k_11
   refine ⟨.tup [sl A2 r_3.1.length c2, I r_3.2], rfl, ?_⟩
   refine WLs 5 [] (.n 4 (sl A2 r_3.1.length c2) (.n 5 (I r_3.2) (.ssss (.s .a)))) qe (by kernel_rfl) ?_
   refine WL_nil <| At_go <| W_seq <| W_reg <| WLs 8 [] (.n 65 (I w_K) (.n 67 (sl A_w_Master w_Master.length c_w_Master) (.n 69 (.s w_Context) (.n 71 (sl A_w_Ids w_Ids.length c_w_Ids) (.kk .z))))) (qs g 0 <| qB k_12 0 rfl 0 (I w_K) (by kernel_rfl) <| qs g 0 <| qB k_12 0 rfl 2 (sl A_w_Master w_Master.length c_w_Master) (by kernel_rfl) <| qs g 0 <| qB k_12 0 rfl 3 (.s w_Context) (by kernel_rfl) <| qs g 0 <| qB k_12 0 rfl 4 (sl A_w_Ids w_Ids.length c_w_Ids) (by kernel_rfl) <| qe) (by kernel_rfl) ?_
   refine WL_op ?_
   have k_13 := k_12.sel (.kk .e)
   obtain ⟨r_4, h_r_4, hm⟩ := ob hm
   refine Op_call [] 72 _ yz_go19 (by kernel_rfl) (c_r06_Derive (F := N0) (O := N0) _ _ _ _ _ _ _ _ _ _ (Ro.n0 (h_w_Master.cx k_13)) rfl hc_w_Master (Ro.n0 (h_w_Ids.cx k_13)) rfl hc_w_Ids (Cx.refl _) _ h_r_4) ?_
   rintro e_ w_6 ⟨A3, _, c3, rfl, rfl, k_14⟩
   have k_15 := k_13.call k_14
   refine ⟨.tup [sl A3 r_4.1.length c3, I r_4.2], rfl, ?_⟩
   have k_16 := k_15.sel (.s (.kk .e))
   refine WLs 5 [] (.n 6 (sl A3 r_4.1.length c3) (.n 7 (I r_4.2) (.ssss (.s .a)))) qe (by kernel_rfl) ?_
   refine WL_nil <| At_go <| W_seq <| W_reg <| WLs 4 [] (.n 78 (.b (decide (r_3.2 = r_4.2))) (.k (.s (.k .z)))) qe (by kernel_rfl) ?_
   refine WL_sp 78 (decide (r_3.2 = r_4.2)) (.s .a) (by kernel_rfl) (fun hg1 => ?_) (fun hg1 => ?_)
   · rw [if_pos (of_decide_eq_true hg1)] at hm
     refine WLs 2 [78] (.n 79 (sl A2 r_3.1.length c2) (.n 80 (sl A3 r_4.1.length c3) (.k .z))) qe (by kernel_rfl) ?_
     refine WL_op ?_
     obtain ⟨r_5, h_r_5, hm⟩ := ob hm
     refine Op_call [78] 81 _ yz_go10 (by kernel_rfl) (c_l06_same (F := N0) (O := N0) _ _ _ _ _ _ _ _ (Ro.n0 (k_16.rd 0 rfl)) (k_16.len 0 rfl) (k_16.lec 0 rfl) (Ro.n0 (k_16.rd 1 rfl)) (k_16.len 1 rfl) (k_16.lec 1 rfl) (Cx.refl _) _ h_r_5) ?_
     rintro e_ w_7 ⟨rfl, k_17⟩
     have k_18 := k_16.call k_17
     refine ⟨.b r_5, rfl, ?_⟩
     have k_19 := k_18.sel .z
     refine WLs 2 [78] (.n 2 (.b r_5) .z) qe (by kernel_rfl) ?_
     refine WL_nil <| At_go <| W_ret ?_
     obtain rfl := Option.some.inj hm
     refine At_rt [.b r_5] qe (by kernel_rfl) ?_
     exact ⟨rfl, k_19⟩
   · rw [if_neg (of_decide_eq_false hg1)] at hm
     refine WLs 5 [78] (.n 2 (.b false) .z) qe (by kernel_rfl) ?_
     refine WL_nil <| At_go <| W_ret ?_
     obtain rfl := Option.some.inj hm
     refine At_rt [.b false] qe (by kernel_rfl) ?_
     have k_20 := k_16.sel .z
     exact ⟨rfl, k_20⟩
end Go.Sx
