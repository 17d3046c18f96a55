import Derived.Test.YtmknbdnofogmdaaGreatW11
namespace Go.Sx
open Go.RowKit Go.Proofs
set_option linter.unusedVariables false
set_option linter.unusedSimpArgs false
set_option maxRecDepth 20000

-- quern/quernref04.places
noncomputable def m_r04_places_l1 (a_ : Int) (b : Int) (c : Int) (d : Int) (i : Int) : Int → Option (Int ⊕ (Int ⊕ Bool))
  | j => if j < i then ((geti ([a_, b, c, d] : List Int) i).bind fun x_2 => (geti ([a_, b, c, d] : List Int) j).bind fun x_3 => if x_2 = x_3 then (Option.map Sum.inr (Option.map Sum.inr (some false))) else (some (.inl (w64 (j + 1))))) else (Option.map Sum.inr (some (.inl (w64 (i + 1)))))
noncomputable def m_r04_places_l0 (a_ : Int) (b : Int) (c : Int) (d : Int) : Int → Option (Int ⊕ Bool)
  | i => if i < 4 then ((geti ([a_, b, c, d] : List Int) i).bind fun x_0 => (gif (!(decide (x_0 < 0))) (geti ([a_, b, c, d] : List Int) i)).bind fun x_1 => if ((decide (x_0 < 0)) || (decide (15 < x_1))) = true then (Option.map Sum.inr (some false)) else (whileO (m_r04_places_l1 a_ b c d i) (0 : Int))) else (Option.map Sum.inr (some true))
noncomputable def m_r04_places (a_ : Int) (b : Int) (c : Int) (d : Int) : Option Bool :=
  whileO (m_r04_places_l0 a_ b c d) (0 : Int)
theorem c_r04_places {F O : Nat → Prop} {w : World} (a_ : Int) (b : Int) (c : Int) (d : Int) (k : Cx F O w w []) (r : Bool) (hm : m_r04_places a_ b c d = some r) :
    Calls Tryz.prog 141 (vals [I a_, I b, I c, I d]) w (fun e w' => e = .returned (SV.val (.b r)) ∧ Cx F O w w' []) := by
 unfold m_r04_places at hm
 refine calls [I a_, I b, I c, I d] Tryz.func141 rfl (of_decide_eq_true (by kernel_rfl)) ?_
 refine W_seq <| W_q [] .a qe (by kernel_rfl) ?_
 refine At_go <| W_seq <| W_reg <| WLs 4 [] (.n 12 (I a_) (.n 13 (I b) (.n 14 (I c) (.n 15 (I d) .z)))) qe (by kernel_rfl) ?_
 refine WL_op <| Op_mk yz_tf231 eI [] 16 ([a_, b, c, d] : List Int) [(0, I a_), (1, I b), (2, I c), (3, I d)] [I a_, I b, I c, I d] (by kernel_rfl) (by kernel_rfl) (by kernel_rfl) k ?_
 intro A w_ k_
 refine WLs 1 [] (.n 9 (sl A 4 4) .z) qe (by kernel_rfl) ?_
 refine WL_nil <| At_go <| W_seq <| W_seq <| W_q [] (.n 10 (I 0) .a) qe (by kernel_rfl) ?_
 refine At_go <| W_block <| W_lp (m_r04_places_l0 a_ b c d) (fun s L wr => ∃ (i : Int), i = s ∧ L = [(9, sl A 4 4), (10, I i)] ∧ Cx F O w wr [Ow eI A 4 4 ([a_, b, c, d] : List Int)]) (0 : Int) r hm ⟨(0 : Int), rfl, rfl, k_⟩ (by kernel_rfl) ?_
 intro s0_ L_ w_1 y0 hrel hstep hr0
 obtain ⟨i, rfl, rfl, k_1⟩ := hrel
 have hm := hstep; simp only [m_r04_places_l0] at hm
 clear hstep
 refine W_seq <| W_seq <| W_q [] (.n 18 (.b (decide (i < 4))) .a) qe (by kernel_rfl) ?_
 refine At_go <| W_condp (i < 4) (by kernel_rfl) (fun hc => ?_) (fun hc => ?_)
 · rw [if_pos hc] at hm
   refine W_skip <| At_go <| W_seq <| W_block <| W_seq <| W_seq ?_
   obtain ⟨x_0, h_x_0, hm⟩ := ob hm
   obtain ⟨x_1, h_x_1, hm⟩ := ob hm
   refine W_q [] (.n 32 (.b ((decide (x_0 < 0)) || (decide (15 < x_1)))) (.s .a)) (qW (k_1.rd 0 rfl) h_x_0 (k_1.len 0 rfl) (I x_0) rfl <| qp ((decide (x_0 < 0)) = false → 0 ≤ i ∧ i < ((4 : Nat) : Int) ∧ A.isSome = true) (fun hg0 => Rd.ix (E := eI) (k_1.rd 0 rfl) (gif_not h_x_1 hg0) (k_1.len 0 rfl) (by decide)) <| qo (I x_1) <| qc (fun w => (decide (x_0 < 0)) = false → ∃ a, ixA A i 1 = some a ∧ w.cell? a = some (SV.val (I x_1))) (fun hg0 => Rd.el (k := 0) (k_1.rd 0 rfl) (gif_not h_x_1 hg0) (Pt.ix1 A i 1) rfl) <| qe) (by kernel_rfl) ?_
   refine At_go <| W_cond ((decide (x_0 < 0)) || (decide (15 < x_1))) (by kernel_rfl) (fun hc1 => ?_) (fun hc1 => ?_)
   · rw [if_pos hc1] at hm
     refine W_seq <| W_q [] (.n 8 (.b false) .z) qe (by kernel_rfl) ?_
     refine At_go <| W_ret (At_tr (At_ir (At_tr (At_tr (At_ir (At_tr ?_))))))
     have hm := exit_of hm hr0
     obtain rfl := Option.some.inj hm
     refine At_rt [.b false] qe (by kernel_rfl) ?_
     have k_2 := k_1.sel .z
     exact ⟨rfl, k_2⟩
   rw [if_neg (by rw [hc1]; decide)] at hm
   refine W_skip <| At_go <| W_seq <| W_q [] (.n 11 (I 0) (.s .a)) qe (by kernel_rfl) ?_
   refine At_go <| W_block <| W_lp (m_r04_places_l1 a_ b c d i) (fun s L wr => ∃ (j : Int), j = s ∧ L = [(9, sl A 4 4), (10, I i), (11, I j)] ∧ Cx F O w wr [Ow eI A 4 4 ([a_, b, c, d] : List Int)]) (0 : Int) y0 hm ⟨(0 : Int), rfl, rfl, k_1⟩ (by kernel_rfl) ?_
   intro s1_ L_ w_2 y1 hrel hstep hr1
   obtain ⟨j, rfl, rfl, k_3⟩ := hrel
   have hm := hstep; simp only [m_r04_places_l1] at hm
   clear hstep
   refine W_seq <| W_seq <| W_q [] (.n 35 (.b (decide (j < i))) .a) qe (by kernel_rfl) ?_
   refine At_go <| W_condp (j < i) (by kernel_rfl) (fun hc2 => ?_) (fun hc2 => ?_)
   · rw [if_pos hc2] at hm
     refine W_skip <| At_go <| W_seq <| W_block <| W_seq ?_
     obtain ⟨x_2, h_x_2, hm⟩ := ob hm
     obtain ⟨x_3, h_x_3, hm⟩ := ob hm
     refine W_d yz_mixed (by kernel_rfl) (.n 46 (.b (decide (x_2 = x_3))) (.s .a)) (fun m => qW ((k_3.drew m).rd 0 rfl) h_x_2 (k_3.len 0 rfl) (I x_2) rfl <| qW ((k_3.drew m).rd 0 rfl) h_x_3 (k_3.len 0 rfl) (I x_3) rfl <| qe) (by kernel_rfl) (fun m_ => ?_)
     have k_4 := k_3.drew m_
     refine At_go <| W_condp (x_2 = x_3) (by kernel_rfl) (fun hc3 => ?_) (fun hc3 => ?_)
     · rw [if_pos hc3] at hm
       refine W_seq <| W_q [] (.n 8 (.b false) .z) qe (by kernel_rfl) ?_
       refine At_go <| W_ret (At_ir (At_tr (At_tr (At_ir (At_ir (At_tr (At_tr (At_ir (At_tr ?_)))))))))
       have hm := exit_of hm hr1
       have hm := exit_of hm hr0
       obtain rfl := Option.some.inj hm
       refine At_rt [.b false] qe (by kernel_rfl) ?_
       have k_5 := k_4.sel .z
       exact ⟨rfl, k_5⟩
     rw [if_neg hc3] at hm
     refine W_skip <| At_in <| At_go <| W_q [] (.n 11 (I (w64 (j + 1))) (.s (.kk .z))) qe (by kernel_rfl) ?_
     exact At_rd (w64 (j + 1)) (Option.some.inj hm).symm ⟨w64 (j + 1), rfl, rfl, k_4⟩ (by kernel_rfl)
   rw [if_neg hc2] at hm
   refine W_exit (At_te (At_te (At_ie ?_)))
   have hm := exit_of hm hr1
   refine At_in <| At_go <| W_q [] (.n 10 (I (w64 (i + 1))) (.s (.k .z))) qe (by kernel_rfl) ?_
   exact At_rd (w64 (i + 1)) (Option.some.inj hm).symm ⟨w64 (i + 1), rfl, rfl, k_3⟩ (by kernel_rfl)
 rw [if_neg hc] at hm
 refine W_exit (At_te (At_te (At_ie ?_)))
 have hm := exit_of hm hr0
 refine At_go <| W_seq <| W_q [] (.n 8 (.b true) .z) qe (by kernel_rfl) ?_
 refine At_go <| W_ret ?_
 obtain rfl := Option.some.inj hm
 refine At_rt [.b true] qe (by kernel_rfl) ?_
 have k_6 := k_1.sel .z
 exact ⟨rfl, k_6⟩

-- quern/quernref04.turn
noncomputable def m_r04_turn (x_ : UInt32) (r_ : Int) : Option UInt32 :=
  some ((shr32 x_ ((UInt64.ofInt r_).toNat)) ||| (shl32 x_ ((UInt64.ofInt (w64 (32 - r_))).toNat)))
theorem c_r04_turn {F O : Nat → Prop} {w : World} (x_ : UInt32) (r_ : Int) (k : Cx F O w w []) (r : UInt32) (hm : m_r04_turn x_ r_ = some r) :
    Calls Tryz.prog 142 (vals [.u32 x_, I r_]) w (fun e w' => e = .returned (SV.val (.u32 r)) ∧ Cx F O w w' []) := by
 unfold m_r04_turn at hm
 refine calls [.u32 x_, I r_] Tryz.func142 rfl (of_decide_eq_true (by kernel_rfl)) ?_
 refine W_seq <| W_q [] .a qe (by kernel_rfl) ?_
 refine At_go <| W_seq <| W_q [] (.n 4 (.u32 ((shr32 x_ ((UInt64.ofInt r_).toNat)) ||| (shl32 x_ ((UInt64.ofInt (w64 (32 - r_))).toNat)))) .z) qe (by kernel_rfl) ?_
 refine At_go <| W_ret ?_
 obtain rfl := Option.some.inj hm
 refine At_rt [.u32 ((shr32 x_ ((UInt64.ofInt r_).toNat)) ||| (shl32 x_ ((UInt64.ofInt (w64 (32 - r_))).toNat)))] qe (by kernel_rfl) ?_
 exact ⟨rfl, k⟩

-- quern/quernref04.G
noncomputable def m_r04_G (v : Vec UInt32 16) (a_ : Int) (b : Int) (c : Int) (d : Int) (x_ : UInt32) (y_ : UInt32) : Option (Vec UInt32 16 × Int) :=
  (m_r04_places a_ b c d).bind fun r_ => if (!r_) = true then (some ((Vec.rep 16 ((0 : UInt32) : UInt32)), (1 : Int))) else ((geti v.l a_).bind fun x_3 => (geti v.l b).bind fun x_4 => (geti v.l a_).bind fun x_5 => (some (vst v a_ ((x_3 + x_4) + x_))).bind fun v1 => (geti v1.l d).bind fun x_6 => (geti v1.l a_).bind fun x_7 => (m_r04_turn (x_6 ^^^ x_7) (16 : Int)).bind fun r_1 => (geti v1.l d).bind fun x_8 => (some (vst v1 d r_1)).bind fun v2 => (geti v2.l c).bind fun x_9 => (geti v2.l d).bind fun x_10 => (geti v2.l c).bind fun x_11 => (some (vst v2 c (x_9 + x_10))).bind fun v3 => (geti v3.l b).bind fun x_12 => (geti v3.l c).bind fun x_13 => (m_r04_turn (x_12 ^^^ x_13) (12 : Int)).bind fun r_2 => (geti v3.l b).bind fun x_14 => (some (vst v3 b r_2)).bind fun v4 => (geti v4.l a_).bind fun x_15 => (geti v4.l b).bind fun x_16 => (geti v4.l a_).bind fun x_17 => (some (vst v4 a_ ((x_15 + x_16) + y_))).bind fun v5 => (geti v5.l d).bind fun x_18 => (geti v5.l a_).bind fun x_19 => (m_r04_turn (x_18 ^^^ x_19) (8 : Int)).bind fun r_3 => (geti v5.l d).bind fun x_20 => (some (vst v5 d r_3)).bind fun v6 => (geti v6.l c).bind fun x_21 => (geti v6.l d).bind fun x_22 => (geti v6.l c).bind fun x_23 => (some (vst v6 c (x_21 + x_22))).bind fun v7 => (geti v7.l b).bind fun x_24 => (geti v7.l c).bind fun x_25 => (m_r04_turn (x_24 ^^^ x_25) (7 : Int)).bind fun r_4 => (geti v7.l b).bind fun x_26 => (some (vst v7 b r_4)).bind fun v8 => some (v8, (0 : Int)))
theorem c_r04_G {F O : Nat → Prop} {w : World} (v : Vec UInt32 16) (a_ : Int) (b : Int) (c : Int) (d : Int) (x_ : UInt32) (y_ : UInt32) (k : Cx F O w w []) (r : (Vec UInt32 16 × Int)) (hm : m_r04_G v a_ b c d x_ y_ = some r) :
    Calls Tryz.prog 130 (vals [.agg [.ar e32 v], I a_, I b, I c, I d, .u32 x_, .u32 y_]) w (fun e w' => e = .returned (SV.val (.tup [.agg [.ar e32 r.1], I r.2])) ∧ Cx F O w w' []) := by
 unfold m_r04_G at hm
 refine calls [.agg [.ar e32 v], I a_, I b, I c, I d, .u32 x_, .u32 y_] Tryz.func130 rfl (of_decide_eq_true (by kernel_rfl)) ?_
 refine W_seq <| W_reg <| WL_op <| Op_box [] 7 (.agg [.ar e32 v]) [.ar e32 v] (by kernel_rfl) k ?_
 intro g w_ k_
 refine WL_op <| Op_alloc [] 14 [.ar e32 (Vec.rep 16 (0 : UInt32))] (by kernel_rfl) k_ ?_
 intro g1 w_1 k_1
 refine WLs 1 [] (.kk (.s .a)) qe (by kernel_rfl) ?_
 refine WL_nil <| At_go <| W_seq <| W_seq <| W_reg <| WLs 4 [] (.n 16 (I a_) (.n 17 (I b) (.n 18 (I c) (.n 19 (I d) .a)))) qe (by kernel_rfl) ?_
 refine WL_op ?_
 obtain ⟨r_, h_r_, hm⟩ := ob hm
 refine Op_call [] 20 _ yz_go141 (by kernel_rfl) (c_r04_places (F := N0) (O := N0) _ _ _ _ (Cx.refl _) _ h_r_) ?_
 rintro e_ w_2 ⟨rfl, k_2⟩
 have k_3 := k_1.call k_2
 refine ⟨.b r_, rfl, ?_⟩
 refine WLs 1 [] (.n 21 (.b (!r_)) (.ssss (.s .a))) qe (by kernel_rfl) ?_
 refine WL_nil <| At_go <| W_cond (!r_) (by kernel_rfl) (fun hc => ?_) (fun hc => ?_)
 · rw [if_pos hc] at hm
   refine W_seq <| W_reg <| WLs 1 [] (.n 22 (.agg [.ar e32 (Vec.rep 16 ((0 : UInt32) : UInt32))]) (.s (.k .z))) qe (by kernel_rfl) ?_
   refine WL_op <| Op_b [] 1 (.agg [.ar e32 (Vec.rep 16 ((0 : UInt32) : UInt32))]) [.ar e32 (Vec.rep 16 ((0 : UInt32) : UInt32))] (Pt.at g1 0) k_3 rfl .all (by kernel_rfl) (by kernel_rfl) ?_
   intro w_3 k_4
   have k_5 := k_4.sel (.s (.k .e))
   refine WLs 1 [] (.n 15 (I 1) (.s .a)) qe (by kernel_rfl) ?_
   refine WL_nil <| At_go <| W_ret (At_tr ?_)
   obtain rfl := Option.some.inj hm
   refine At_rt [.agg [.ar e32 (Vec.rep 16 ((0 : UInt32) : UInt32))], I 1] (qo (.agg [.ar e32 (Vec.rep 16 ((0 : UInt32) : UInt32))]) <| qc (fun w => Rd w (some ⟨g1, 0, none⟩) (SV.cl [.ar e32 (Vec.rep 16 ((0 : UInt32) : UInt32))])) (k_5.brd 0 rfl) <| qe) (by kernel_rfl) ?_
   have k_6 := k_5.sel .z
   exact ⟨rfl, k_6⟩
 rw [if_neg (by rw [hc]; decide)] at hm
 refine W_skip <| At_go <| W_seq ?_
 have k_7 := k_3.drew 1
 refine W_m yz_mixed (.q 0 0 (.q 1 0 (.q 2 0 (.q 3 0 (.q 4 0 (.q 5 0 (.q 6 0 (.q 7 0 (.q 8 0 (.q 9 0 (.q 10 0 (.op 11 .nil)))))))))))) [11] k_7 (.c (.s (.k .e)) .l) (by kernel_rfl) (fun _ => ?_)
 obtain ⟨x_3, h_x_3, hm⟩ := ob hm
 obtain ⟨x_4, h_x_4, hm⟩ := ob hm
 obtain ⟨x_5, h_x_5, hm⟩ := ob hm
 refine MXq 11 0 [] (.n 32 (.u32 ((x_3 + x_4) + x_)) (.n 33 (.v (.pointer (ixA (some ⟨g, 0, none⟩) a_ 1))) (.s (.kkkk (.kk (.s .a)))))) (fun x hx => qV (hx.vrd 0 rfl e32 v 0 (by kernel_rfl)) h_x_3 rfl (.u32 x_3) rfl <| qV (hx.vrd 0 rfl e32 v 0 (by kernel_rfl)) h_x_4 rfl (.u32 x_4) rfl <| qI g 0 h_x_5 <| qe) (by kernel_rfl) (fun _ => ?_)
 refine MX_op (by kernel_rfl) rfl ?_
 obtain ⟨v1, h_v1, hm⟩ := nm hm
 refine Op_vs (E := e32) (kk := 0) [] 0 (.u32 ((x_3 + x_4) + x_)) [.u32 ((x_3 + x_4) + x_)] h_v1 h_x_5 (Pt.ix0 (Pt.at g 0) a_ 1) k_7 rfl .h rfl (by kernel_rfl) (by kernel_rfl) ?_
 intro w_4 k_8
 refine ⟨(k_8.sel (.s (.k .e))), fun _ => ?_⟩
 refine MX_nil <| At_go <| W_seq ?_
 have k_9 := k_8.drew 1
 refine W_m yz_mixed (.q 0 1 (.q 1 1 (.q 2 1 (.q 3 1 (.q 4 1 (.q 5 1 (.q 6 1 (.q 7 0 (.op 8 (.q 9 1 (.op 10 .nil))))))))))) [8, 10] k_9 (.c (.kk .e) (.c (.s (.k .e)) .l)) (by kernel_rfl) (fun _ => ?_)
 obtain ⟨x_6, h_x_6, hm⟩ := ob hm
 obtain ⟨x_7, h_x_7, hm⟩ := ob hm
 refine MXq 7 1 [] (.n 34 (I d) (.n 37 (.u32 x_6) (.n 40 (.u32 x_7) (.ss .a)))) (fun x hx => qV (hx.vrd 0 rfl e32 v1 0 (by kernel_rfl)) h_x_6 rfl (.u32 x_6) rfl <| qV (hx.vrd 0 rfl e32 v1 0 (by kernel_rfl)) h_x_7 rfl (.u32 x_7) rfl <| qe) (by kernel_rfl) (fun _ => ?_)
 refine MXq 1 0 [] (.n 41 (.u32 (x_6 ^^^ x_7)) (.k (.ss .a))) (fun x hx => qe) (by kernel_rfl) (fun _ => ?_)
 refine MX_op (by kernel_rfl) rfl ?_
 have k_10 := k_9.sel (.kk .e)
 obtain ⟨r_1, h_r_1, hm⟩ := ob hm
 refine Op_call [] 42 _ yz_go142 (by kernel_rfl) (c_r04_turn (F := N0) (O := N0) _ _ (Cx.refl _) _ h_r_1) ?_
 rintro e_ w_5 ⟨rfl, k_11⟩
 have k_12 := k_10.call k_11
 refine ⟨.u32 r_1, rfl, ?_⟩
 refine ⟨k_12, fun _ => ?_⟩
 obtain ⟨x_8, h_x_8, hm⟩ := ob hm
 refine MXq 1 1 [] (.n 43 (.v (.pointer (ixA (some ⟨g, 0, none⟩) d 1))) (.k (.ss .a))) (fun x hx => qI g 0 h_x_8 <| qe) (by kernel_rfl) (fun _ => ?_)
 refine MX_op (by kernel_rfl) rfl ?_
 obtain ⟨v2, h_v2, hm⟩ := nm hm
 refine Op_vs (E := e32) (kk := 0) [] 0 (.u32 r_1) [.u32 r_1] h_v2 h_x_8 (Pt.ix0 (Pt.at g 0) d 1) k_12 rfl .h rfl (by kernel_rfl) (by kernel_rfl) ?_
 intro w_6 k_13
 refine ⟨(k_13.sel (.s (.k .e))), fun _ => ?_⟩
 refine MX_nil <| At_go <| W_seq ?_
 have k_14 := k_13.drew 1
 refine W_m yz_mixed (.q 0 0 (.q 1 0 (.q 2 0 (.q 3 0 (.q 4 0 (.q 5 0 (.q 6 0 (.q 7 0 (.q 8 0 (.op 9 .nil)))))))))) [9] k_14 (.c (.s (.k .e)) .l) (by kernel_rfl) (fun _ => ?_)
 obtain ⟨x_9, h_x_9, hm⟩ := ob hm
 obtain ⟨x_10, h_x_10, hm⟩ := ob hm
 obtain ⟨x_11, h_x_11, hm⟩ := ob hm
 refine MXq 9 0 [] (.n 51 (.u32 (x_9 + x_10)) (.n 52 (.v (.pointer (ixA (some ⟨g, 0, none⟩) c 1))) (.ss .a))) (fun x hx => qV (hx.vrd 0 rfl e32 v2 0 (by kernel_rfl)) h_x_9 rfl (.u32 x_9) rfl <| qV (hx.vrd 0 rfl e32 v2 0 (by kernel_rfl)) h_x_10 rfl (.u32 x_10) rfl <| qI g 0 h_x_11 <| qe) (by kernel_rfl) (fun _ => ?_)
 refine MX_op (by kernel_rfl) rfl ?_
 obtain ⟨v3, h_v3, hm⟩ := nm hm
 refine Op_vs (E := e32) (kk := 0) [] 0 (.u32 (x_9 + x_10)) [.u32 (x_9 + x_10)] h_v3 h_x_11 (Pt.ix0 (Pt.at g 0) c 1) k_14 rfl .h rfl (by kernel_rfl) (by kernel_rfl) ?_
 intro w_7 k_15
 refine ⟨(k_15.sel (.s (.k .e))), fun _ => ?_⟩
 refine MX_nil <| At_go <| W_seq ?_
 have k_16 := k_15.drew 1
 refine W_m yz_mixed (.q 0 1 (.q 1 1 (.q 2 1 (.q 3 1 (.q 4 1 (.q 5 1 (.q 6 1 (.q 7 0 (.op 8 (.q 9 1 (.op 10 .nil))))))))))) [8, 10] k_16 (.c (.kk .e) (.c (.s (.k .e)) .l)) (by kernel_rfl) (fun _ => ?_)
 obtain ⟨x_12, h_x_12, hm⟩ := ob hm
 obtain ⟨x_13, h_x_13, hm⟩ := ob hm
 refine MXq 7 1 [] (.n 53 (I b) (.n 56 (.u32 x_12) (.n 59 (.u32 x_13) (.ss .a)))) (fun x hx => qV (hx.vrd 0 rfl e32 v3 0 (by kernel_rfl)) h_x_12 rfl (.u32 x_12) rfl <| qV (hx.vrd 0 rfl e32 v3 0 (by kernel_rfl)) h_x_13 rfl (.u32 x_13) rfl <| qe) (by kernel_rfl) (fun _ => ?_)
 refine MXq 1 0 [] (.n 60 (.u32 (x_12 ^^^ x_13)) (.k (.ss .a))) (fun x hx => qe) (by kernel_rfl) (fun _ => ?_)
 refine MX_op (by kernel_rfl) rfl ?_
 obtain ⟨r_2, h_r_2, hm⟩ := ob hm
 refine Op_call [] 61 _ yz_go142 (by kernel_rfl) (c_r04_turn (F := N0) (O := N0) _ _ (Cx.refl _) _ h_r_2) ?_
 rintro e_ w_8 ⟨rfl, k_17⟩
 have k_18 := k_16.call k_17
 refine ⟨.u32 r_2, rfl, ?_⟩
 refine ⟨k_18, fun _ => ?_⟩
 obtain ⟨x_14, h_x_14, hm⟩ := ob hm
 refine MXq 1 1 [] (.n 62 (.v (.pointer (ixA (some ⟨g, 0, none⟩) b 1))) (.k (.ss .a))) (fun x hx => qI g 0 h_x_14 <| qe) (by kernel_rfl) (fun _ => ?_)
 refine MX_op (by kernel_rfl) rfl ?_
 have k_19 := k_18.sel (.kk .e)
 obtain ⟨v4, h_v4, hm⟩ := nm hm
 refine Op_vs (E := e32) (kk := 0) [] 0 (.u32 r_2) [.u32 r_2] h_v4 h_x_14 (Pt.ix0 (Pt.at g 0) b 1) k_19 rfl .h rfl (by kernel_rfl) (by kernel_rfl) ?_
 intro w_9 k_20
 refine ⟨(k_20.sel (.s (.k .e))), fun _ => ?_⟩
 refine MX_nil <| At_go <| W_seq ?_
 have k_21 := k_20.drew 1
 refine W_m yz_mixed (.q 0 0 (.q 1 0 (.q 2 0 (.q 3 0 (.q 4 0 (.q 5 0 (.q 6 0 (.q 7 0 (.q 8 0 (.q 9 0 (.q 10 0 (.op 11 .nil)))))))))))) [11] k_21 (.c (.s (.k .e)) .l) (by kernel_rfl) (fun _ => ?_)
 obtain ⟨x_15, h_x_15, hm⟩ := ob hm
 obtain ⟨x_16, h_x_16, hm⟩ := ob hm
 obtain ⟨x_17, h_x_17, hm⟩ := ob hm
 refine MXq 11 0 [] (.n 72 (.u32 ((x_15 + x_16) + y_)) (.n 73 (.v (.pointer (ixA (some ⟨g, 0, none⟩) a_ 1))) (.ss (.kkkk (.kk .z))))) (fun x hx => qV (hx.vrd 0 rfl e32 v4 0 (by kernel_rfl)) h_x_15 rfl (.u32 x_15) rfl <| qV (hx.vrd 0 rfl e32 v4 0 (by kernel_rfl)) h_x_16 rfl (.u32 x_16) rfl <| qI g 0 h_x_17 <| qe) (by kernel_rfl) (fun _ => ?_)
 refine MX_op (by kernel_rfl) rfl ?_
 obtain ⟨v5, h_v5, hm⟩ := nm hm
 refine Op_vs (E := e32) (kk := 0) [] 0 (.u32 ((x_15 + x_16) + y_)) [.u32 ((x_15 + x_16) + y_)] h_v5 h_x_17 (Pt.ix0 (Pt.at g 0) a_ 1) k_21 rfl .h rfl (by kernel_rfl) (by kernel_rfl) ?_
 intro w_10 k_22
 refine ⟨(k_22.sel (.s (.k .e))), fun _ => ?_⟩
 refine MX_nil <| At_go <| W_seq ?_
 have k_23 := k_22.drew 1
 refine W_m yz_mixed (.q 0 1 (.q 1 1 (.q 2 1 (.q 3 1 (.q 4 1 (.q 5 1 (.q 6 1 (.q 7 0 (.op 8 (.q 9 1 (.op 10 .nil))))))))))) [8, 10] k_23 (.c (.kk .e) (.c (.s (.k .e)) .l)) (by kernel_rfl) (fun _ => ?_)
 obtain ⟨x_18, h_x_18, hm⟩ := ob hm
 obtain ⟨x_19, h_x_19, hm⟩ := ob hm
 refine MXq 7 1 [] (.n 74 (I d) (.n 77 (.u32 x_18) (.n 80 (.u32 x_19) (.ss (.kk (.s .a)))))) (fun x hx => qV (hx.vrd 0 rfl e32 v5 0 (by kernel_rfl)) h_x_18 rfl (.u32 x_18) rfl <| qV (hx.vrd 0 rfl e32 v5 0 (by kernel_rfl)) h_x_19 rfl (.u32 x_19) rfl <| qe) (by kernel_rfl) (fun _ => ?_)
 refine MXq 1 0 [] (.n 81 (.u32 (x_18 ^^^ x_19)) (.k (.ss .a))) (fun x hx => qe) (by kernel_rfl) (fun _ => ?_)
 refine MX_op (by kernel_rfl) rfl ?_
 obtain ⟨r_3, h_r_3, hm⟩ := ob hm
 refine Op_call [] 82 _ yz_go142 (by kernel_rfl) (c_r04_turn (F := N0) (O := N0) _ _ (Cx.refl _) _ h_r_3) ?_
 rintro e_ w_11 ⟨rfl, k_24⟩
 have k_25 := k_23.call k_24
 refine ⟨.u32 r_3, rfl, ?_⟩
 refine ⟨k_25, fun _ => ?_⟩
 obtain ⟨x_20, h_x_20, hm⟩ := ob hm
 refine MXq 1 1 [] (.n 83 (.v (.pointer (ixA (some ⟨g, 0, none⟩) d 1))) (.k (.ss .a))) (fun x hx => qI g 0 h_x_20 <| qe) (by kernel_rfl) (fun _ => ?_)
 refine MX_op (by kernel_rfl) rfl ?_
 obtain ⟨v6, h_v6, hm⟩ := nm hm
 refine Op_vs (E := e32) (kk := 0) [] 0 (.u32 r_3) [.u32 r_3] h_v6 h_x_20 (Pt.ix0 (Pt.at g 0) d 1) k_25 rfl .h rfl (by kernel_rfl) (by kernel_rfl) ?_
 intro w_12 k_26
 refine ⟨(k_26.sel (.s (.k .e))), fun _ => ?_⟩
 refine MX_nil <| At_go <| W_seq ?_
 have k_27 := k_26.drew 1
 refine W_m yz_mixed (.q 0 0 (.q 1 0 (.q 2 0 (.q 3 0 (.q 4 0 (.q 5 0 (.q 6 0 (.q 7 0 (.q 8 0 (.op 9 .nil)))))))))) [9] k_27 (.c (.s (.k .e)) .l) (by kernel_rfl) (fun _ => ?_)
 obtain ⟨x_21, h_x_21, hm⟩ := ob hm
 obtain ⟨x_22, h_x_22, hm⟩ := ob hm
 obtain ⟨x_23, h_x_23, hm⟩ := ob hm
 refine MXq 9 0 [] (.n 91 (.u32 (x_21 + x_22)) (.n 92 (.v (.pointer (ixA (some ⟨g, 0, none⟩) c 1))) (.ss (.kkkk .z)))) (fun x hx => qV (hx.vrd 0 rfl e32 v6 0 (by kernel_rfl)) h_x_21 rfl (.u32 x_21) rfl <| qV (hx.vrd 0 rfl e32 v6 0 (by kernel_rfl)) h_x_22 rfl (.u32 x_22) rfl <| qI g 0 h_x_23 <| qe) (by kernel_rfl) (fun _ => ?_)
 refine MX_op (by kernel_rfl) rfl ?_
 have k_28 := k_27.sel (.kk .e)
 obtain ⟨v7, h_v7, hm⟩ := nm hm
 refine Op_vs (E := e32) (kk := 0) [] 0 (.u32 (x_21 + x_22)) [.u32 (x_21 + x_22)] h_v7 h_x_23 (Pt.ix0 (Pt.at g 0) c 1) k_28 rfl .h rfl (by kernel_rfl) (by kernel_rfl) ?_
 intro w_13 k_29
 refine ⟨(k_29.sel (.s (.k .e))), fun _ => ?_⟩
 refine MX_nil <| At_go <| W_seq ?_
 have k_30 := k_29.drew 1
 refine W_m yz_mixed (.q 0 1 (.q 1 1 (.q 2 1 (.q 3 1 (.q 4 1 (.q 5 1 (.q 6 1 (.q 7 0 (.op 8 (.q 9 1 (.op 10 .nil))))))))))) [8, 10] k_30 (.c (.kk .e) (.c (.s (.k .e)) .l)) (by kernel_rfl) (fun _ => ?_)
 obtain ⟨x_24, h_x_24, hm⟩ := ob hm
 obtain ⟨x_25, h_x_25, hm⟩ := ob hm
 refine MXq 7 1 [] (.n 93 (I b) (.n 96 (.u32 x_24) (.n 99 (.u32 x_25) (.ss (.kk .z))))) (fun x hx => qV (hx.vrd 0 rfl e32 v7 0 (by kernel_rfl)) h_x_24 rfl (.u32 x_24) rfl <| qV (hx.vrd 0 rfl e32 v7 0 (by kernel_rfl)) h_x_25 rfl (.u32 x_25) rfl <| qe) (by kernel_rfl) (fun _ => ?_)
 refine MXq 1 0 [] (.n 100 (.u32 (x_24 ^^^ x_25)) (.k (.ss .a))) (fun x hx => qe) (by kernel_rfl) (fun _ => ?_)
 refine MX_op (by kernel_rfl) rfl ?_
 obtain ⟨r_4, h_r_4, hm⟩ := ob hm
 refine Op_call [] 101 _ yz_go142 (by kernel_rfl) (c_r04_turn (F := N0) (O := N0) _ _ (Cx.refl _) _ h_r_4) ?_
 rintro e_ w_14 ⟨rfl, k_31⟩
 have k_32 := k_30.call k_31
 refine ⟨.u32 r_4, rfl, ?_⟩
 refine ⟨k_32, fun _ => ?_⟩
 obtain ⟨x_26, h_x_26, hm⟩ := ob hm
 refine MXq 1 1 [] (.n 102 (.v (.pointer (ixA (some ⟨g, 0, none⟩) b 1))) (.k (.ss .a))) (fun x hx => qI g 0 h_x_26 <| qe) (by kernel_rfl) (fun _ => ?_)
 refine MX_op (by kernel_rfl) rfl ?_
 obtain ⟨v8, h_v8, hm⟩ := nm hm
 refine Op_vs (E := e32) (kk := 0) [] 0 (.u32 r_4) [.u32 r_4] h_v8 h_x_26 (Pt.ix0 (Pt.at g 0) b 1) k_32 rfl .h rfl (by kernel_rfl) (by kernel_rfl) ?_
 intro w_15 k_33
 refine ⟨(k_33.sel (.s (.k .e))), fun _ => ?_⟩
 refine MX_nil <| At_go <| W_seq <| W_reg <| WLs 1 [] (.n 103 (.agg [.ar e32 v8]) (.ss (.k .z))) (qT k_33 0 rfl 0 16 [.ar e32 v8] (by kernel_rfl) (by decide) <| qe) (by kernel_rfl) ?_
 refine WL_op <| Op_b [] 1 (.agg [.ar e32 v8]) [.ar e32 v8] (Pt.at g1 0) k_33 rfl .all (by kernel_rfl) (by kernel_rfl) ?_
 intro w_16 k_34
 have k_35 := k_34.sel (.s (.k .e))
 refine WLs 1 [] (.n 15 (I 0) (.s .a)) qe (by kernel_rfl) ?_
 refine WL_nil <| At_go <| W_ret ?_
 obtain rfl := Option.some.inj hm
 refine At_rt [.agg [.ar e32 v8], I 0] (qo (.agg [.ar e32 v8]) <| qc (fun w => Rd w (some ⟨g1, 0, none⟩) (SV.cl [.ar e32 v8])) (k_35.brd 0 rfl) <| qe) (by kernel_rfl) ?_
 have k_36 := k_35.sel .z
 exact ⟨rfl, k_36⟩

-- quern/quernref04.Round
noncomputable def m_r04_Round_l0 (m_ : Vec UInt32 16) (r_ : Int) : (Vec UInt32 16 × Int) → Option ((Vec UInt32 16 × Int) ⊕ (Vec UInt32 16 × Int))
  | (v1, i) => if i < 8 then ((m_r04_four i).bind fun r_1 => (m_r03_Sigma r_ (w64 (2 * i))).bind fun r_2 => (geti m_.l r_2).bind fun x_0 => (m_r03_Sigma r_ (w64 ((w64 (2 * i)) + 1))).bind fun r_3 => (geti m_.l r_3).bind fun x_2 => (m_r04_G v1 r_1.1 r_1.2.1 r_1.2.2.1 r_1.2.2.2 x_0 x_2).bind fun r_4 => some (.inl (r_4.1, w64 (i + 1)))) else (Option.map Sum.inr (some (v1, (0 : Int))))
noncomputable def m_r04_Round (v : Vec UInt32 16) (m_ : Vec UInt32 16) (r_ : Int) : Option (Vec UInt32 16 × Int) :=
  if ((decide (r_ < 0)) || (decide (9 < r_))) = true then (some ((Vec.rep 16 ((0 : UInt32) : UInt32)), (1 : Int))) else (whileO (m_r04_Round_l0 m_ r_) (v, (0 : Int)))
theorem c_r04_Round {F O : Nat → Prop} {w : World} (v : Vec UInt32 16) (m_ : Vec UInt32 16) (r_ : Int) (k : Cx F O w w []) (r : (Vec UInt32 16 × Int)) (hm : m_r04_Round v m_ r_ = some r) :
    Calls Tryz.prog 116 (vals [.agg [.ar e32 v], .agg [.ar e32 m_], I r_]) w (fun e w' => e = .returned (SV.val (.tup [.agg [.ar e32 r.1], I r.2])) ∧ Cx F O w w' []) := by
 unfold m_r04_Round at hm
 refine calls [.agg [.ar e32 v], .agg [.ar e32 m_], I r_] Tryz.func116 rfl (of_decide_eq_true (by kernel_rfl)) ?_
 refine W_seq <| W_reg <| WL_op <| Op_box [] 3 (.agg [.ar e32 v]) [.ar e32 v] (by kernel_rfl) k ?_
 intro g w_ k_
 refine WL_op <| Op_box [] 4 (.agg [.ar e32 m_]) [.ar e32 m_] (by kernel_rfl) k_ ?_
 intro g1 w_1 k_1
 refine WL_op <| Op_alloc [] 6 [.ar e32 (Vec.rep 16 (0 : UInt32))] (by kernel_rfl) k_1 ?_
 intro g2 w_2 k_2
 refine WLs 1 [] (.kkk (.ss .a)) qe (by kernel_rfl) ?_
 refine WL_nil <| At_go <| W_seq <| W_seq <| W_q [] (.n 18 (.b ((decide (r_ < 0)) || (decide (9 < r_)))) .a) qe (by kernel_rfl) ?_
 refine At_go <| W_cond ((decide (r_ < 0)) || (decide (9 < r_))) (by kernel_rfl) (fun hc => ?_) (fun hc => ?_)
 · rw [if_pos hc] at hm
   refine W_seq <| W_reg <| WLs 1 [] (.n 19 (.agg [.ar e32 (Vec.rep 16 ((0 : UInt32) : UInt32))]) (.s (.k .z))) qe (by kernel_rfl) ?_
   refine WL_op <| Op_b [] 2 (.agg [.ar e32 (Vec.rep 16 ((0 : UInt32) : UInt32))]) [.ar e32 (Vec.rep 16 ((0 : UInt32) : UInt32))] (Pt.at g2 0) k_2 rfl .all (by kernel_rfl) (by kernel_rfl) ?_
   intro w_3 k_3
   have k_4 := k_3.sel (.ss (.k .e))
   refine WLs 1 [] (.n 7 (I 1) (.s .a)) qe (by kernel_rfl) ?_
   refine WL_nil <| At_go <| W_ret (At_tr ?_)
   obtain rfl := Option.some.inj hm
   refine At_rt [.agg [.ar e32 (Vec.rep 16 ((0 : UInt32) : UInt32))], I 1] (qo (.agg [.ar e32 (Vec.rep 16 ((0 : UInt32) : UInt32))]) <| qc (fun w => Rd w (some ⟨g2, 0, none⟩) (SV.cl [.ar e32 (Vec.rep 16 ((0 : UInt32) : UInt32))])) (k_4.brd 0 rfl) <| qe) (by kernel_rfl) ?_
   have k_5 := k_4.sel .z
   exact ⟨rfl, k_5⟩
 rw [if_neg (by rw [hc]; decide)] at hm
 refine W_skip <| At_go <| W_seq <| W_seq <| W_q [] (.n 8 (I 0) (.s .a)) qe (by kernel_rfl) ?_
 refine At_go <| W_block <| W_lp (m_r04_Round_l0 m_ r_) (fun s L wr => ∃ (v1 : Vec UInt32 16) (i : Int), (v1, i) = s ∧ L = [(2, I r_), (3, pt g 0), (4, pt g1 0), (6, pt g2 0), (8, I i)] ∧ Cx F O w wr [Bx 155 g [.ar e32 v1], Bx 155 g1 [.ar e32 m_], Bx 155 g2 [.ar e32 (Vec.rep 16 (0 : UInt32))]]) (v, (0 : Int)) r hm ⟨v, (0 : Int), rfl, rfl, k_2⟩ (by kernel_rfl) ?_
 intro s0_ L_ w_4 y0 hrel hstep hr0
 obtain ⟨v1, i, rfl, rfl, k_6⟩ := hrel
 have hm := hstep; simp only [m_r04_Round_l0] at hm
 clear hstep
 refine W_seq <| W_seq <| W_q [] (.n 21 (.b (decide (i < 8))) .a) qe (by kernel_rfl) ?_
 refine At_go <| W_condp (i < 8) (by kernel_rfl) (fun hc1 => ?_) (fun hc1 => ?_)
 · rw [if_pos hc1] at hm
   refine W_skip <| At_go <| W_seq <| W_block <| W_seq <| W_reg <| WLs 1 [] (.n 25 (I i) (.s .a)) qe (by kernel_rfl) ?_
   refine WL_op ?_
   obtain ⟨r_1, h_r_1, hm⟩ := ob hm
   refine Op_call [] 26 _ yz_go129 (by kernel_rfl) (c_r04_four (F := N0) (O := N0) _ (Cx.refl _) _ h_r_1) ?_
   rintro e_ w_5 ⟨rfl, k_7⟩
   have k_8 := k_6.call k_7
   refine ⟨.tup [I r_1.1, I r_1.2.1, I r_1.2.2.1, I r_1.2.2.2], rfl, ?_⟩
   refine WLs 9 [] (.n 9 (I r_1.1) (.n 10 (I r_1.2.1) (.n 11 (I r_1.2.2.1) (.n 12 (I r_1.2.2.2) (.ss .a))))) qe (by kernel_rfl) ?_
   refine WL_nil <| At_go ?_
   have k_9 := k_8.drew 1
   refine W_m yz_mixed (.q 0 2 (.q 1 2 (.q 2 2 (.q 3 2 (.q 4 2 (.q 5 2 (.q 11 2 (.q 6 3 (.q 7 2 (.q 12 3 (.q 13 3 (.q 14 2 (.op 8 (.q 9 3 (.q 10 2 (.op 15 (.q 16 3 (.q 17 2 (.op 18 (.q 19 3 (.q 20 3 (.q 21 4 (.op 22 .nil))))))))))))))))))))))) [8, 15, 18, 22] k_9 (.c (.kk (.k .e)) (.c (.kk (.k .e)) (.c (.kk (.k .e)) (.c (.s (.kk .e)) .l)))) (by kernel_rfl) (fun _ => ?_)
   refine MXq 7 2 [] (.n 32 (.agg [.ar e32 v1]) (.n 33 (I r_1.1) (.n 34 (I r_1.2.1) (.n 35 (I r_1.2.2.1) (.n 36 (I r_1.2.2.2) (.n 37 (I r_) (.n 43 (I r_) (.ssss .a)))))))) (fun x hx => qT hx 0 rfl 0 16 [.ar e32 v1] (by kernel_rfl) (by decide) <| qe) (by kernel_rfl) (fun _ => ?_)
   refine MXq 1 3 [] (.n 38 (I i) .a) (fun x hx => qe) (by kernel_rfl) (fun _ => ?_)
   refine MXq 1 2 [] (.n 39 (I (w64 (2 * i))) (.s .a)) (fun x hx => qe) (by kernel_rfl) (fun _ => ?_)
   refine MXq 2 3 [] (.n 45 (I (w64 (2 * i))) .a) (fun x hx => qe) (by kernel_rfl) (fun _ => ?_)
   refine MXq 1 2 [] (.n 46 (I (w64 ((w64 (2 * i)) + 1))) (.s .a)) (fun x hx => qe) (by kernel_rfl) (fun _ => ?_)
   refine MX_op (by kernel_rfl) rfl ?_
   obtain ⟨r_2, h_r_2, hm⟩ := ob hm
   refine Op_call [] 40 _ yz_go128 (by kernel_rfl) (c_r03_Sigma (F := N0) (O := N0) _ _ (Cx.refl _) _ h_r_2) ?_
   rintro e_ w_6 ⟨rfl, k_10⟩
   have k_11 := k_9.call k_10
   refine ⟨I r_2, rfl, ?_⟩
   refine ⟨k_11, fun _ => ?_⟩
   obtain ⟨x_0, h_x_0, hm⟩ := ob hm
   refine MXq 1 3 [] (.n 41 (.v (.pointer (ixA (some ⟨g1, 0, none⟩) r_2 1))) (.s (.k (.s (.kkkk (.k (.s .a))))))) (fun x hx => qI g1 0 h_x_0 <| qe) (by kernel_rfl) (fun _ => ?_)
   refine MXq 1 2 [] (.n 42 (.u32 x_0) (.s .a)) (fun x hx => qC (.u32 x_0) (Rd.el (k := 0) (hx.vrd 1 rfl e32 m_ 0 (by kernel_rfl)) h_x_0 (Pt.ix1 (some ⟨g1, 0, none⟩) r_2 1) rfl) <| qe) (by kernel_rfl) (fun _ => ?_)
   refine MX_op (by kernel_rfl) rfl ?_
   obtain ⟨r_3, h_r_3, hm⟩ := ob hm
   refine Op_call [] 47 _ yz_go128 (by kernel_rfl) (c_r03_Sigma (F := N0) (O := N0) _ _ (Cx.refl _) _ h_r_3) ?_
   rintro e_ w_7 ⟨rfl, k_12⟩
   have k_13 := k_11.call k_12
   refine ⟨I r_3, rfl, ?_⟩
   refine ⟨k_13, fun _ => ?_⟩
   obtain ⟨x_2, h_x_2, hm⟩ := ob hm
   refine MXq 1 3 [] (.n 48 (.v (.pointer (ixA (some ⟨g1, 0, none⟩) r_3 1))) (.s (.k (.s (.kkkk (.k (.s .a))))))) (fun x hx => qI g1 0 h_x_2 <| qe) (by kernel_rfl) (fun _ => ?_)
   refine MXq 1 2 [] (.n 49 (.u32 x_2) (.s .a)) (fun x hx => qC (.u32 x_2) (Rd.el (k := 0) (hx.vrd 1 rfl e32 m_ 0 (by kernel_rfl)) h_x_2 (Pt.ix1 (some ⟨g1, 0, none⟩) r_3 1) rfl) <| qe) (by kernel_rfl) (fun _ => ?_)
   refine MX_op (by kernel_rfl) rfl ?_
   obtain ⟨r_4, h_r_4, hm⟩ := ob hm
   refine Op_call [] 50 _ yz_go130 (by kernel_rfl) (c_r04_G (F := N0) (O := N0) _ _ _ _ _ _ _ (Cx.refl _) _ h_r_4) ?_
   rintro e_ w_8 ⟨rfl, k_14⟩
   have k_15 := k_13.call k_14
   refine ⟨.tup [.agg [.ar e32 r_4.1], I r_4.2], rfl, ?_⟩
   refine ⟨k_15, fun _ => ?_⟩
   refine MXq 2 3 [] (.n 31 (.tup [.agg [.ar e32 r_4.1], I r_4.2]) (.n 51 (.agg [.ar e32 r_4.1]) (.ssss (.ssss .a)))) (fun x hx => qe) (by kernel_rfl) (fun _ => ?_)
   refine MXq 1 4 [] (.s .a) (fun x hx => qe) (by kernel_rfl) (fun _ => ?_)
   refine MX_op (by kernel_rfl) rfl ?_
   have k_16 := k_15.sel (.kk (.k .e))
   refine Op_b [] 0 (.agg [.ar e32 r_4.1]) [.ar e32 r_4.1] (Pt.at g 0) k_16 rfl .all (by kernel_rfl) (by kernel_rfl) ?_
   intro w_9 k_17
   refine ⟨(k_17.sel (.s (.kk .e))), fun _ => ?_⟩
   refine MX_nil <| At_in <| At_go <| W_q [] (.n 8 (I (w64 (i + 1))) (.s (.kkkk .z))) qe (by kernel_rfl) ?_
   exact At_rd (r_4.1, w64 (i + 1)) (Option.some.inj hm).symm ⟨r_4.1, w64 (i + 1), rfl, rfl, k_17⟩ (by kernel_rfl)
 rw [if_neg hc1] at hm
 refine W_exit (At_te (At_te (At_ie ?_)))
 have hm := exit_of hm hr0
 refine At_go <| W_seq <| W_reg <| WLs 1 [] (.n 53 (.agg [.ar e32 v1]) (.ssss (.k .z))) (qT k_6 0 rfl 0 16 [.ar e32 v1] (by kernel_rfl) (by decide) <| qe) (by kernel_rfl) ?_
 refine WL_op <| Op_b [] 2 (.agg [.ar e32 v1]) [.ar e32 v1] (Pt.at g2 0) k_6 rfl .all (by kernel_rfl) (by kernel_rfl) ?_
 intro w_10 k_18
 have k_19 := k_18.sel (.ss (.k .e))
 refine WLs 1 [] (.n 7 (I 0) (.s .a)) qe (by kernel_rfl) ?_
 refine WL_nil <| At_go <| W_ret ?_
 obtain rfl := Option.some.inj hm
 refine At_rt [.agg [.ar e32 v1], I 0] (qo (.agg [.ar e32 v1]) <| qc (fun w => Rd w (some ⟨g2, 0, none⟩) (SV.cl [.ar e32 v1])) (k_19.brd 0 rfl) <| qe) (by kernel_rfl) ?_
 have k_20 := k_19.sel .z
 exact ⟨rfl, k_20⟩

-- quern/quernref04.End
noncomputable def m_r04_End_l0 (v : Vec UInt32 16) : (Vec UInt32 8 × Int) → Option ((Vec UInt32 8 × Int) ⊕ (Vec UInt32 8))
  | (h1, i) => if i < 8 then ((geti h1.l i).bind fun x_0 => (geti v.l i).bind fun x_1 => (geti v.l (w64 (i + 8))).bind fun x_2 => (geti h1.l i).bind fun x_3 => (some (vst h1 i ((x_0 ^^^ x_1) ^^^ x_2))).bind fun v1 => some (.inl (v1, w64 (i + 1)))) else (Option.map Sum.inr (some h1))
noncomputable def m_r04_End (h : Vec UInt32 8) (v : Vec UInt32 16) : Option (Vec UInt32 8) :=
  whileO (m_r04_End_l0 v) (h, (0 : Int))
theorem c_r04_End {F O : Nat → Prop} {w : World} (h : Vec UInt32 8) (v : Vec UInt32 16) (k : Cx F O w w []) (r : (Vec UInt32 8)) (hm : m_r04_End h v = some r) :
    Calls Tryz.prog 117 (vals [.agg [.ar e32 h], .agg [.ar e32 v]]) w (fun e w' => e = .returned (SV.val (.agg [.ar e32 r])) ∧ Cx F O w w' []) := by
 unfold m_r04_End at hm
 refine calls [.agg [.ar e32 h], .agg [.ar e32 v]] Tryz.func117 rfl (of_decide_eq_true (by kernel_rfl)) ?_
 refine W_seq <| W_reg <| WL_op <| Op_box [] 2 (.agg [.ar e32 h]) [.ar e32 h] (by kernel_rfl) k ?_
 intro g w_ k_
 refine WL_op <| Op_box [] 3 (.agg [.ar e32 v]) [.ar e32 v] (by kernel_rfl) k_ ?_
 intro g1 w_1 k_1
 refine WL_op <| Op_alloc [] 4 [.ar e32 (Vec.rep 8 (0 : UInt32))] (by kernel_rfl) k_1 ?_
 intro g2 w_2 k_2
 refine WL_nil <| At_go <| W_seq <| W_seq <| W_q [] (.n 5 (I 0) (.kkk .z)) qe (by kernel_rfl) ?_
 refine At_go <| W_block <| W_lp (m_r04_End_l0 v) (fun s L wr => ∃ (h1 : Vec UInt32 8) (i : Int), (h1, i) = s ∧ L = [(2, pt g 0), (3, pt g1 0), (4, pt g2 0), (5, I i)] ∧ Cx F O w wr [Bx 154 g [.ar e32 h1], Bx 155 g1 [.ar e32 v], Bx 154 g2 [.ar e32 (Vec.rep 8 (0 : UInt32))]]) (h, (0 : Int)) r hm ⟨h, (0 : Int), rfl, rfl, k_2⟩ (by kernel_rfl) ?_
 intro s0_ L_ w_3 y0 hrel hstep hr0
 obtain ⟨h1, i, rfl, rfl, k_3⟩ := hrel
 have hm := hstep; simp only [m_r04_End_l0] at hm
 clear hstep
 refine W_seq <| W_seq <| W_q [] (.n 7 (.b (decide (i < 8))) .a) qe (by kernel_rfl) ?_
 refine At_go <| W_condp (i < 8) (by kernel_rfl) (fun hc => ?_) (fun hc => ?_)
 · rw [if_pos hc] at hm
   refine W_skip <| At_go <| W_seq <| W_block ?_
   have k_4 := k_3.drew 1
   refine W_m yz_mixed (.q 0 0 (.q 1 0 (.q 2 0 (.q 3 0 (.q 4 0 (.q 5 0 (.q 6 0 (.q 7 0 (.q 8 0 (.q 9 0 (.q 10 0 (.q 11 0 (.q 12 0 (.q 13 0 (.op 14 .nil))))))))))))))) [14] k_4 (.c (.s (.kk .e)) .l) (by kernel_rfl) (fun _ => ?_)
   obtain ⟨x_0, h_x_0, hm⟩ := ob hm
   obtain ⟨x_1, h_x_1, hm⟩ := ob hm
   obtain ⟨x_2, h_x_2, hm⟩ := ob hm
   obtain ⟨x_3, h_x_3, hm⟩ := ob hm
   refine MXq 14 0 [] (.n 22 (.u32 ((x_0 ^^^ x_1) ^^^ x_2)) (.n 23 (.v (.pointer (ixA (some ⟨g, 0, none⟩) i 1))) (.s .a))) (fun x hx => qV (hx.vrd 0 rfl e32 h1 0 (by kernel_rfl)) h_x_0 rfl (.u32 x_0) rfl <| qV (hx.vrd 1 rfl e32 v 0 (by kernel_rfl)) h_x_1 rfl (.u32 x_1) rfl <| qV (hx.vrd 1 rfl e32 v 0 (by kernel_rfl)) h_x_2 rfl (.u32 x_2) rfl <| qI g 0 h_x_3 <| qe) (by kernel_rfl) (fun _ => ?_)
   refine MX_op (by kernel_rfl) rfl ?_
   obtain ⟨v1, h_v1, hm⟩ := nm hm
   refine Op_vs (E := e32) (kk := 0) [] 0 (.u32 ((x_0 ^^^ x_1) ^^^ x_2)) [.u32 ((x_0 ^^^ x_1) ^^^ x_2)] h_v1 h_x_3 (Pt.ix0 (Pt.at g 0) i 1) k_4 rfl .h rfl (by kernel_rfl) (by kernel_rfl) ?_
   intro w_4 k_5
   refine ⟨(k_5.sel (.s (.kk .e))), fun _ => ?_⟩
   refine MX_nil <| At_in <| At_go <| W_q [] (.n 5 (I (w64 (i + 1))) (.ss (.kkk .z))) qe (by kernel_rfl) ?_
   exact At_rd (v1, w64 (i + 1)) (Option.some.inj hm).symm ⟨v1, w64 (i + 1), rfl, rfl, k_5⟩ (by kernel_rfl)
 rw [if_neg hc] at hm
 refine W_exit (At_te (At_te (At_ie ?_)))
 have hm := exit_of hm hr0
 refine At_go <| W_seq <| W_reg <| WLs 1 [] (.n 24 (.agg [.ar e32 h1]) (.sss (.k .z))) (qT k_3 0 rfl 0 8 [.ar e32 h1] (by kernel_rfl) (by decide) <| qe) (by kernel_rfl) ?_
 refine WL_op <| Op_b [] 2 (.agg [.ar e32 h1]) [.ar e32 h1] (Pt.at g2 0) k_3 rfl .all (by kernel_rfl) (by kernel_rfl) ?_
 intro w_5 k_6
 have k_7 := k_6.sel (.ss (.k .e))
 refine WL_nil <| At_go <| W_ret ?_
 obtain rfl := Option.some.inj hm
 refine At_rt [.agg [.ar e32 h1]] (qo (.agg [.ar e32 h1]) <| qc (fun w => Rd w (some ⟨g2, 0, none⟩) (SV.cl [.ar e32 h1])) (k_7.brd 0 rfl) <| qe) (by kernel_rfl) ?_
 have k_8 := k_7.sel .z
 exact ⟨rfl, k_8⟩

-- quern/quernref04.F
noncomputable def m_r04_F_l0 (h : Vec UInt32 8) (m_ : Vec UInt32 16) : (Vec UInt32 16 × Int) → Option ((Vec UInt32 16 × Int) ⊕ (Vec UInt32 8))
  | (v, r_1) => if r_1 < 10 then ((m_r04_Round v m_ r_1).bind fun r_2 => some (.inl (r_2.1, w64 (r_1 + 1)))) else (Option.map Sum.inr ((m_r04_End h v).bind fun r_3 => some r_3))
noncomputable def m_r04_F (h : Vec UInt32 8) (m_ : Vec UInt32 16) (count : UInt64) (last : Bool) (node : Bool) : Option (Vec UInt32 8) :=
  (m_r04_Begin h count last node).bind fun r_ => whileO (m_r04_F_l0 h m_) (r_, (0 : Int))
theorem c_r04_F {F O : Nat → Prop} {w : World} (h : Vec UInt32 8) (m_ : Vec UInt32 16) (count : UInt64) (last : Bool) (node : Bool) (k : Cx F O w w []) (r : (Vec UInt32 8)) (hm : m_r04_F h m_ count last node = some r) :
    Calls Tryz.prog 97 (vals [.agg [.ar e32 h], .agg [.ar e32 m_], .u64 count, .b last, .b node]) w (fun e w' => e = .returned (SV.val (.agg [.ar e32 r])) ∧ Cx F O w w' []) := by
 unfold m_r04_F at hm
 refine calls [.agg [.ar e32 h], .agg [.ar e32 m_], .u64 count, .b last, .b node] Tryz.func97 rfl (of_decide_eq_true (by kernel_rfl)) ?_
 refine W_seq <| W_reg <| WL_op <| Op_box [] 5 (.agg [.ar e32 h]) [.ar e32 h] (by kernel_rfl) k ?_
 intro g w_ k_
 refine WL_op <| Op_box [] 6 (.agg [.ar e32 m_]) [.ar e32 m_] (by kernel_rfl) k_ ?_
 intro g1 w_1 k_1
 refine WL_op <| Op_alloc [] 10 [.ar e32 (Vec.rep 8 (0 : UInt32))] (by kernel_rfl) k_1 ?_
 intro g2 w_2 k_2
 refine WL_nil <| At_go <| W_seq <| W_reg <| WLs 4 [] (.n 13 (.agg [.ar e32 h]) (.n 14 (.u64 count) (.n 15 (.b last) (.n 16 (.b node) (.kkk .z))))) (qT k_2 0 rfl 0 8 [.ar e32 h] (by kernel_rfl) (by decide) <| qe) (by kernel_rfl) ?_
 refine WL_op ?_
 obtain ⟨r_, h_r_, hm⟩ := ob hm
 refine Op_call [] 17 _ yz_go115 (by kernel_rfl) (c_r04_Begin (F := N0) (O := N0) _ _ _ _ (Cx.refl _) _ h_r_) ?_
 rintro e_ w_3 ⟨rfl, k_3⟩
 have k_4 := k_2.call k_3
 refine ⟨.agg [.ar e32 r_], rfl, ?_⟩
 refine WL_op ?_
 have k_5 := k_4.sel (.kk (.k .e))
 refine Op_alloc [] 11 [.ar e32 (Vec.rep 16 (0 : UInt32))] (by kernel_rfl) k_5 ?_
 intro g3 w_4 k_6
 refine WL_op <| Op_b [] 3 (.agg [.ar e32 r_]) [.ar e32 r_] (Pt.at g3 0) k_6 rfl .all (by kernel_rfl) (by kernel_rfl) ?_
 intro w_5 k_7
 refine WL_nil <| At_go <| W_seq <| W_seq <| W_q [] (.n 12 (I 0) (.k (.ssss (.s .a)))) qe (by kernel_rfl) ?_
 refine At_go <| W_block <| W_lp (m_r04_F_l0 h m_) (fun s L wr => ∃ (v : Vec UInt32 16) (r_1 : Int), (v, r_1) = s ∧ L = [(5, pt g 0), (6, pt g1 0), (10, pt g2 0), (11, pt g3 0), (12, I r_1)] ∧ Cx F O w wr [Bx 154 g [.ar e32 h], Bx 155 g1 [.ar e32 m_], Bx 154 g2 [.ar e32 (Vec.rep 8 (0 : UInt32))], Bx 155 g3 [.ar e32 v]]) (r_, (0 : Int)) r hm ⟨r_, (0 : Int), rfl, rfl, k_7⟩ (by kernel_rfl) ?_
 intro s0_ L_ w_6 y0 hrel hstep hr0
 obtain ⟨v, r_1, rfl, rfl, k_8⟩ := hrel
 have hm := hstep; simp only [m_r04_F_l0] at hm
 clear hstep
 refine W_seq <| W_seq <| W_q [] (.n 19 (.b (decide (r_1 < 10))) .a) qe (by kernel_rfl) ?_
 refine At_go <| W_condp (r_1 < 10) (by kernel_rfl) (fun hc => ?_) (fun hc => ?_)
 · rw [if_pos hc] at hm
   refine W_skip <| At_go <| W_seq <| W_block <| W_reg <| WLs 3 [] (.n 23 (.agg [.ar e32 v]) (.n 24 (.agg [.ar e32 m_]) (.n 25 (I r_1) (.s .a)))) (qT k_8 3 rfl 0 16 [.ar e32 v] (by kernel_rfl) (by decide) <| qT k_8 1 rfl 0 16 [.ar e32 m_] (by kernel_rfl) (by decide) <| qe) (by kernel_rfl) ?_
   refine WL_op ?_
   obtain ⟨r_2, h_r_2, hm⟩ := ob hm
   refine Op_call [] 26 _ yz_go116 (by kernel_rfl) (c_r04_Round (F := N0) (O := N0) _ _ _ (Cx.refl _) _ h_r_2) ?_
   rintro e_ w_7 ⟨rfl, k_9⟩
   have k_10 := k_8.call k_9
   refine ⟨.tup [.agg [.ar e32 r_2.1], I r_2.2], rfl, ?_⟩
   refine WLs 3 [] (.n 27 (.agg [.ar e32 r_2.1]) (.ssss .a)) qe (by kernel_rfl) ?_
   refine WL_op <| Op_b [] 3 (.agg [.ar e32 r_2.1]) [.ar e32 r_2.1] (Pt.at g3 0) k_10 rfl .all (by kernel_rfl) (by kernel_rfl) ?_
   intro w_8 k_11
   refine WL_nil <| At_in <| At_go <| W_q [] (.n 12 (I (w64 (r_1 + 1))) (.s (.kkkk .z))) qe (by kernel_rfl) ?_
   exact At_rd (r_2.1, w64 (r_1 + 1)) (Option.some.inj hm).symm ⟨r_2.1, w64 (r_1 + 1), rfl, rfl, k_11⟩ (by kernel_rfl)
 rw [if_neg hc] at hm
 refine W_exit (At_te (At_te (At_ie ?_)))
 have hm := exit_of hm hr0
 refine At_go <| W_seq <| W_reg <| WLs 2 [] (.n 29 (.agg [.ar e32 h]) (.n 30 (.agg [.ar e32 v]) (.sss (.k .z)))) (qT k_8 0 rfl 0 8 [.ar e32 h] (by kernel_rfl) (by decide) <| qT k_8 3 rfl 0 16 [.ar e32 v] (by kernel_rfl) (by decide) <| qe) (by kernel_rfl) ?_
 refine WL_op ?_
 obtain ⟨r_3, h_r_3, hm⟩ := ob hm
 refine Op_call [] 31 _ yz_go117 (by kernel_rfl) (c_r04_End (F := N0) (O := N0) _ _ (Cx.refl _) _ h_r_3) ?_
 rintro e_ w_9 ⟨rfl, k_12⟩
 have k_13 := k_8.call k_12
 refine ⟨.agg [.ar e32 r_3], rfl, ?_⟩
 have k_14 := k_13.sel (.ss (.k .z))
 refine WL_op <| Op_b [] 0 (.agg [.ar e32 r_3]) [.ar e32 r_3] (Pt.at g2 0) k_14 rfl .all (by kernel_rfl) (by kernel_rfl) ?_
 intro w_10 k_15
 refine WL_nil <| At_go <| W_ret ?_
 obtain rfl := Option.some.inj hm
 refine At_rt [.agg [.ar e32 r_3]] (qo (.agg [.ar e32 r_3]) <| qc (fun w => Rd w (some ⟨g2, 0, none⟩) (SV.cl [.ar e32 r_3])) (k_15.brd 0 rfl) <| qe) (by kernel_rfl) ?_
 have k_16 := k_15.sel .z
 exact ⟨rfl, k_16⟩

-- quern/quernref05.in
noncomputable def m_r05_in_l1 (r_1 : (Vec UInt64 8)) : (Vec UInt64 16 × Int) → Option ((Vec UInt64 16 × Int) ⊕ (Vec UInt64 16))
  | (h1, i1) => if i1 < 8 then ((geti r_1.l i1).bind fun x_2 => (geti h1.l i1).bind fun x_3 => (some (vst h1 i1 x_2)).bind fun v1 => some (.inl (v1, w64 (i1 + 1)))) else (Option.map Sum.inr (some h1))
noncomputable def m_r05_in_l0 (h : Vec UInt64 16) (b : List UInt8) (lo : UInt64) (hi : UInt64) (last : Bool) (node : Bool) : (Vec UInt64 8 × Int) → Option ((Vec UInt64 8 × Int) ⊕ (Vec UInt64 16))
  | (s_, i) => if i < 8 then ((geti h.l i).bind fun x_0 => (geti s_.l i).bind fun x_1 => (some (vst s_ i x_0)).bind fun v => some (.inl (v, w64 (i + 1)))) else (Option.map Sum.inr ((m_r03_Words b).bind fun r_ => (m_r03_F s_ r_.1 lo hi last node).bind fun r_1 => whileO (m_r05_in_l1 r_1) (h, (0 : Int))))
noncomputable def m_r05_in_l3 (r_3 : (Vec UInt32 8)) : (Vec UInt64 16 × Int) → Option ((Vec UInt64 16 × Int) ⊕ (Vec UInt64 16))
  | (h2, i3) => if i3 < 8 then ((geti r_3.l i3).bind fun x_6 => (geti h2.l i3).bind fun x_7 => (some (vst h2 i3 (UInt64.ofNat x_6.toNat))).bind fun v3 => some (.inl (v3, w64 (i3 + 1)))) else (Option.map Sum.inr (some h2))
noncomputable def m_r05_in_l2 (h : Vec UInt64 16) (b : List UInt8) (lo : UInt64) (last : Bool) (node : Bool) : (Vec UInt32 8 × Int) → Option ((Vec UInt32 8 × Int) ⊕ (Vec UInt64 16))
  | (s_1, i2) => if i2 < 8 then ((geti h.l i2).bind fun x_4 => (geti s_1.l i2).bind fun x_5 => (some (vst s_1 i2 (UInt32.ofNat x_4.toNat))).bind fun v2 => some (.inl (v2, w64 (i2 + 1)))) else (Option.map Sum.inr ((m_r04_Words b).bind fun r_2 => (m_r04_F s_1 r_2.1 lo last node).bind fun r_3 => whileO (m_r05_in_l3 r_3) (h, (0 : Int))))
noncomputable def m_r05_in (kind : Int) (h : Vec UInt64 16) (b : List UInt8) (lo : UInt64) (hi : UInt64) (last : Bool) (node : Bool) : Option (Vec UInt64 16) :=
  if kind = 1 then (whileO (m_r05_in_l0 h b lo hi last node) ((Vec.rep 8 (0 : UInt64)), (0 : Int))) else (whileO (m_r05_in_l2 h b lo last node) ((Vec.rep 8 (0 : UInt32)), (0 : Int)))
theorem c_r05_in {F O : Nat → Prop} {w : World} (kind : Int) (h : Vec UInt64 16) (b : List UInt8) (lo : UInt64) (hi : UInt64) (last : Bool) (node : Bool) (A_b : Option Addr) (n_b : Nat) (c_b : Nat) (h_b : Ro F w A_b (e8.all b)) (hn_b : b.length = n_b) (hc_b : n_b ≤ c_b) (k : Cx F O w w []) (r : (Vec UInt64 16)) (hm : m_r05_in kind h b lo hi last node = some r) :
    Calls Tryz.prog 75 (vals [I kind, .agg [.ar e64 h], sl A_b n_b c_b, .u64 lo, .u64 hi, .b last, .b node]) w (fun e w' => e = .returned (SV.val (.agg [.ar e64 r])) ∧ Cx F O w w' []) := by
 unfold m_r05_in at hm
 subst hn_b
 refine calls [I kind, .agg [.ar e64 h], sl A_b b.length c_b, .u64 lo, .u64 hi, .b last, .b node] Tryz.func75 rfl (of_decide_eq_true (by kernel_rfl)) ?_
 refine W_seq <| W_reg <| WL_op <| Op_box [] 8 (.agg [.ar e64 h]) [.ar e64 h] (by kernel_rfl) k ?_
 intro g w_ k_
 refine WL_op <| Op_alloc [] 14 [.ar e64 (Vec.rep 16 (0 : UInt64))] (by kernel_rfl) k_ ?_
 intro g1 w_1 k_1
 refine WL_nil <| At_go <| W_seq <| W_seq <| W_q [] (.n 26 (.b (decide (kind = 1))) (.kk (.ss .a))) qe (by kernel_rfl) ?_
 refine At_go <| W_condp (kind = 1) (by kernel_rfl) (fun hc => ?_) (fun hc => ?_)
 · rw [if_pos hc] at hm
   refine W_seq <| W_reg <| WL_op <| Op_alloc [] 15 [.ar e64 (Vec.rep 8 (0 : UInt64))] (by kernel_rfl) k_1 ?_
   intro g2 w_2 k_2
   refine WL_nil <| At_go <| W_seq <| W_seq <| W_q [] (.n 16 (I 0) (.k (.s .a))) qe (by kernel_rfl) ?_
   refine At_go <| W_block <| W_lp (m_r05_in_l0 h b lo hi last node) (fun s L wr => ∃ (s_ : Vec UInt64 8) (i : Int), (s_, i) = s ∧ L = [(2, sl A_b b.length c_b), (3, .u64 lo), (4, .u64 hi), (5, .b last), (6, .b node), (8, pt g 0), (14, pt g1 0), (15, pt g2 0), (16, I i)] ∧ Cx F O w wr [Bx 108 g [.ar e64 h], Bx 108 g1 [.ar e64 (Vec.rep 16 (0 : UInt64))], Bx 150 g2 [.ar e64 s_]]) ((Vec.rep 8 (0 : UInt64)), (0 : Int)) r hm ⟨(Vec.rep 8 (0 : UInt64)), (0 : Int), rfl, rfl, k_2⟩ (by kernel_rfl) ?_
   intro s0_ L_ w_3 y0 hrel hstep hr0
   obtain ⟨s_, i, rfl, rfl, k_3⟩ := hrel
   have hm := hstep; simp only [m_r05_in_l0] at hm
   clear hstep
   refine W_seq <| W_seq <| W_q [] (.n 28 (.b (decide (i < 8))) .a) qe (by kernel_rfl) ?_
   refine At_go <| W_condp (i < 8) (by kernel_rfl) (fun hc1 => ?_) (fun hc1 => ?_)
   · rw [if_pos hc1] at hm
     refine W_skip <| At_go <| W_seq <| W_block <| W_reg ?_
     obtain ⟨x_0, h_x_0, hm⟩ := ob hm
     obtain ⟨x_1, h_x_1, hm⟩ := ob hm
     refine WLs 5 [] (.n 34 (.u64 x_0) (.n 35 (.v (.pointer (ixA (some ⟨g2, 0, none⟩) i 1))) (.s .a))) (qV (k_3.vrd 0 rfl e64 h 0 (by kernel_rfl)) h_x_0 rfl (.u64 x_0) rfl <| qI g2 0 h_x_1 <| qe) (by kernel_rfl) ?_
     refine WL_op ?_
     obtain ⟨v, h_v, hm⟩ := nm hm
     refine Op_vs (E := e64) (kk := 0) [] 2 (.u64 x_0) [.u64 x_0] h_v h_x_1 (Pt.ix0 (Pt.at g2 0) i 1) k_3 rfl .h rfl (by kernel_rfl) (by kernel_rfl) ?_
     intro w_4 k_4
     refine WL_nil <| At_in <| At_go <| W_q [] (.n 16 (I (w64 (i + 1))) (.ss (.kkkk (.kkkk .z)))) qe (by kernel_rfl) ?_
     exact At_rd (v, w64 (i + 1)) (Option.some.inj hm).symm ⟨v, w64 (i + 1), rfl, rfl, k_4⟩ (by kernel_rfl)
   rw [if_neg hc1] at hm
   refine W_exit (At_te (At_te (At_ie ?_)))
   have hm := exit_of hm hr0
   refine At_go <| W_seq <| W_reg <| WLs 1 [] (.n 37 (sl A_b b.length c_b) (.ss (.kkkk (.kkk .z)))) qe (by kernel_rfl) ?_
   refine WL_op ?_
   obtain ⟨r_, h_r_, hm⟩ := ob hm
   refine Op_call [] 38 _ yz_go94 (by kernel_rfl) (c_r03_Words (F := N0) (O := N0) _ _ _ _ (Ro.n0 (h_b.cx k_3)) rfl hc_b (Cx.refl _) _ h_r_) ?_
   rintro e_ w_5 ⟨rfl, k_5⟩
   have k_6 := k_3.call k_5
   refine ⟨.tup [.agg [.ar e64 r_.1], I r_.2], rfl, ?_⟩
   refine WLs 3 [] (.n 39 (.agg [.ar e64 r_.1]) (.n 40 (I r_.2) (.ss .a))) qe (by kernel_rfl) ?_
   refine WL_op <| Op_alloc [] 17 [.ar e64 (Vec.rep 16 (0 : UInt64))] (by kernel_rfl) k_6 ?_
   intro g3 w_6 k_7
   refine WL_op <| Op_b [] 3 (.agg [.ar e64 r_.1]) [.ar e64 r_.1] (Pt.at g3 0) k_7 rfl .all (by kernel_rfl) (by kernel_rfl) ?_
   intro w_7 k_8
   refine WLs 1 [] (.k (.ss .a)) qe (by kernel_rfl) ?_
   refine WL_nil <| At_go <| W_seq <| W_reg <| WLs 6 [] (.n 41 (.agg [.ar e64 s_]) (.n 42 (.agg [.ar e64 r_.1]) (.n 43 (.u64 lo) (.n 44 (.u64 hi) (.n 45 (.b last) (.n 46 (.b node) (.ssss (.s .a)))))))) (qT k_8 2 rfl 0 8 [.ar e64 s_] (by kernel_rfl) (by decide) <| qT k_8 3 rfl 0 16 [.ar e64 r_.1] (by kernel_rfl) (by decide) <| qe) (by kernel_rfl) ?_
   refine WL_op ?_
   obtain ⟨r_1, h_r_1, hm⟩ := ob hm
   refine Op_call [] 47 _ yz_go95 (by kernel_rfl) (c_r03_F (F := N0) (O := N0) _ _ _ _ _ _ (Cx.refl _) _ h_r_1) ?_
   rintro e_ w_8 ⟨rfl, k_9⟩
   have k_10 := k_8.call k_9
   refine ⟨.agg [.ar e64 r_1], rfl, ?_⟩
   have k_11 := k_10.sel (.kk (.k .z))
   refine WL_op ?_
   have k_12 := k_11.sel (.kk (.k .e))
   refine Op_b [] 2 (.agg [.ar e64 r_1]) [.ar e64 r_1] (Pt.at g2 0) k_12 rfl .all (by kernel_rfl) (by kernel_rfl) ?_
   intro w_9 k_13
   refine WL_nil <| At_go <| W_seq <| W_seq <| W_q [] (.n 19 (I 0) (.ssss (.sss .a))) qe (by kernel_rfl) ?_
   refine At_go <| W_block <| W_lp (m_r05_in_l1 r_1) (fun s L wr => ∃ (h1 : Vec UInt64 16) (i1 : Int), (h1, i1) = s ∧ L = [(8, pt g 0), (14, pt g1 0), (15, pt g2 0), (19, I i1)] ∧ Cx F O w wr [Bx 108 g [.ar e64 h1], Bx 108 g1 [.ar e64 (Vec.rep 16 (0 : UInt64))], Bx 150 g2 [.ar e64 r_1]]) (h, (0 : Int)) r hm ⟨h, (0 : Int), rfl, rfl, k_13⟩ (by kernel_rfl) ?_
   intro s0_ L_ w_10 y0 hrel hstep hr0
   obtain ⟨h1, i1, rfl, rfl, k_14⟩ := hrel
   have hm := hstep; simp only [m_r05_in_l1] at hm
   clear hstep
   refine W_seq <| W_seq <| W_q [] (.n 49 (.b (decide (i1 < 8))) .a) qe (by kernel_rfl) ?_
   refine At_go <| W_condp (i1 < 8) (by kernel_rfl) (fun hc2 => ?_) (fun hc2 => ?_)
   · rw [if_pos hc2] at hm
     refine W_skip <| At_go <| W_seq <| W_block <| W_reg ?_
     obtain ⟨x_2, h_x_2, hm⟩ := ob hm
     obtain ⟨x_3, h_x_3, hm⟩ := ob hm
     refine WLs 5 [] (.n 55 (.u64 x_2) (.n 56 (.v (.pointer (ixA (some ⟨g, 0, none⟩) i1 1))) (.s .a))) (qV (k_14.vrd 2 rfl e64 r_1 0 (by kernel_rfl)) h_x_2 rfl (.u64 x_2) rfl <| qI g 0 h_x_3 <| qe) (by kernel_rfl) ?_
     refine WL_op ?_
     obtain ⟨v1, h_v1, hm⟩ := nm hm
     refine Op_vs (E := e64) (kk := 0) [] 0 (.u64 x_2) [.u64 x_2] h_v1 h_x_3 (Pt.ix0 (Pt.at g 0) i1 1) k_14 rfl .h rfl (by kernel_rfl) (by kernel_rfl) ?_
     intro w_11 k_15
     refine WL_nil <| At_in <| At_go <| W_q [] (.n 19 (I (w64 (i1 + 1))) (.ss (.kkk .z))) qe (by kernel_rfl) ?_
     exact At_rd (v1, w64 (i1 + 1)) (Option.some.inj hm).symm ⟨v1, w64 (i1 + 1), rfl, rfl, k_15⟩ (by kernel_rfl)
   rw [if_neg hc2] at hm
   refine W_exit (At_te (At_te (At_ie ?_)))
   have hm := exit_of hm hr0
   refine At_go <| W_seq <| W_reg <| WLs 1 [] (.n 57 (.agg [.ar e64 h1]) (.ss (.k .z))) (qT k_14 0 rfl 0 16 [.ar e64 h1] (by kernel_rfl) (by decide) <| qe) (by kernel_rfl) ?_
   refine WL_op <| Op_b [] 1 (.agg [.ar e64 h1]) [.ar e64 h1] (Pt.at g1 0) k_14 rfl .all (by kernel_rfl) (by kernel_rfl) ?_
   intro w_12 k_16
   have k_17 := k_16.sel (.s (.k .z))
   refine WL_nil <| At_go <| W_ret (At_tr ?_)
   obtain rfl := Option.some.inj hm
   refine At_rt [.agg [.ar e64 h1]] (qo (.agg [.ar e64 h1]) <| qc (fun w => Rd w (some ⟨g1, 0, none⟩) (SV.cl [.ar e64 h1])) (k_17.brd 0 rfl) <| qe) (by kernel_rfl) ?_
   have k_18 := k_17.sel .z
   exact ⟨rfl, k_18⟩
 rw [if_neg hc] at hm
 refine W_skip <| At_go <| W_seq <| W_reg <| WL_op <| Op_alloc [] 20 [.ar e32 (Vec.rep 8 (0 : UInt32))] (by kernel_rfl) k_1 ?_
 intro g4 w_13 k_19
 refine WL_nil <| At_go <| W_seq <| W_seq <| W_q [] (.n 21 (I 0) (.k (.s (.kkkk (.s .a))))) qe (by kernel_rfl) ?_
 refine At_go <| W_block <| W_lp (m_r05_in_l2 h b lo last node) (fun s L wr => ∃ (s_1 : Vec UInt32 8) (i2 : Int), (s_1, i2) = s ∧ L = [(2, sl A_b b.length c_b), (3, .u64 lo), (5, .b last), (6, .b node), (8, pt g 0), (14, pt g1 0), (20, pt g4 0), (21, I i2)] ∧ Cx F O w wr [Bx 108 g [.ar e64 h], Bx 108 g1 [.ar e64 (Vec.rep 16 (0 : UInt64))], Bx 154 g4 [.ar e32 s_1]]) ((Vec.rep 8 (0 : UInt32)), (0 : Int)) r hm ⟨(Vec.rep 8 (0 : UInt32)), (0 : Int), rfl, rfl, k_19⟩ (by kernel_rfl) ?_
 intro s0_ L_ w_14 y0 hrel hstep hr0
 obtain ⟨s_1, i2, rfl, rfl, k_20⟩ := hrel
 have hm := hstep; simp only [m_r05_in_l2] at hm
 clear hstep
 refine W_seq <| W_seq <| W_q [] (.n 59 (.b (decide (i2 < 8))) .a) qe (by kernel_rfl) ?_
 refine At_go <| W_condp (i2 < 8) (by kernel_rfl) (fun hc3 => ?_) (fun hc3 => ?_)
 · rw [if_pos hc3] at hm
   refine W_skip <| At_go <| W_seq <| W_block <| W_reg ?_
   obtain ⟨x_4, h_x_4, hm⟩ := ob hm
   obtain ⟨x_5, h_x_5, hm⟩ := ob hm
   refine WLs 6 [] (.n 66 (.u32 (UInt32.ofNat x_4.toNat)) (.n 67 (.v (.pointer (ixA (some ⟨g4, 0, none⟩) i2 1))) (.s .a))) (qV (k_20.vrd 0 rfl e64 h 0 (by kernel_rfl)) h_x_4 rfl (.u64 x_4) rfl <| qI g4 0 h_x_5 <| qe) (by kernel_rfl) ?_
   refine WL_op ?_
   obtain ⟨v2, h_v2, hm⟩ := nm hm
   refine Op_vs (E := e32) (kk := 0) [] 2 (.u32 (UInt32.ofNat x_4.toNat)) [.u32 (UInt32.ofNat x_4.toNat)] h_v2 h_x_5 (Pt.ix0 (Pt.at g4 0) i2 1) k_20 rfl .h rfl (by kernel_rfl) (by kernel_rfl) ?_
   intro w_15 k_21
   refine WL_nil <| At_in <| At_go <| W_q [] (.n 21 (I (w64 (i2 + 1))) (.ss (.kkkk (.kkk .z)))) qe (by kernel_rfl) ?_
   exact At_rd (v2, w64 (i2 + 1)) (Option.some.inj hm).symm ⟨v2, w64 (i2 + 1), rfl, rfl, k_21⟩ (by kernel_rfl)
 rw [if_neg hc3] at hm
 refine W_exit (At_te (At_te (At_ie ?_)))
 have hm := exit_of hm hr0
 refine At_go <| W_seq <| W_reg <| WLs 1 [] (.n 69 (sl A_b b.length c_b) (.ss (.kkkk (.kk .z)))) qe (by kernel_rfl) ?_
 refine WL_op ?_
 obtain ⟨r_2, h_r_2, hm⟩ := ob hm
 refine Op_call [] 70 _ yz_go96 (by kernel_rfl) (c_r04_Words (F := N0) (O := N0) _ _ _ _ (Ro.n0 (h_b.cx k_20)) rfl hc_b (Cx.refl _) _ h_r_2) ?_
 rintro e_ w_16 ⟨rfl, k_22⟩
 have k_23 := k_20.call k_22
 refine ⟨.tup [.agg [.ar e32 r_2.1], I r_2.2], rfl, ?_⟩
 refine WLs 3 [] (.n 71 (.agg [.ar e32 r_2.1]) (.n 72 (I r_2.2) (.ss .a))) qe (by kernel_rfl) ?_
 refine WL_op <| Op_alloc [] 22 [.ar e32 (Vec.rep 16 (0 : UInt32))] (by kernel_rfl) k_23 ?_
 intro g5 w_17 k_24
 refine WL_op <| Op_b [] 3 (.agg [.ar e32 r_2.1]) [.ar e32 r_2.1] (Pt.at g5 0) k_24 rfl .all (by kernel_rfl) (by kernel_rfl) ?_
 intro w_18 k_25
 refine WLs 1 [] (.k (.ss .a)) qe (by kernel_rfl) ?_
 refine WL_nil <| At_go <| W_seq <| W_reg <| WLs 5 [] (.n 73 (.agg [.ar e32 s_1]) (.n 74 (.agg [.ar e32 r_2.1]) (.n 75 (.u64 lo) (.n 76 (.b last) (.n 77 (.b node) (.ssss .a)))))) (qT k_25 2 rfl 0 8 [.ar e32 s_1] (by kernel_rfl) (by decide) <| qT k_25 3 rfl 0 16 [.ar e32 r_2.1] (by kernel_rfl) (by decide) <| qe) (by kernel_rfl) ?_
 refine WL_op ?_
 obtain ⟨r_3, h_r_3, hm⟩ := ob hm
 refine Op_call [] 78 _ yz_go97 (by kernel_rfl) (c_r04_F (F := N0) (O := N0) _ _ _ _ _ (Cx.refl _) _ h_r_3) ?_
 rintro e_ w_19 ⟨rfl, k_26⟩
 have k_27 := k_25.call k_26
 refine ⟨.agg [.ar e32 r_3], rfl, ?_⟩
 have k_28 := k_27.sel (.kk (.k .z))
 refine WL_op ?_
 have k_29 := k_28.sel (.kk (.k .e))
 refine Op_b [] 2 (.agg [.ar e32 r_3]) [.ar e32 r_3] (Pt.at g4 0) k_29 rfl .all (by kernel_rfl) (by kernel_rfl) ?_
 intro w_20 k_30
 refine WL_nil <| At_go <| W_seq <| W_seq <| W_q [] (.n 24 (I 0) (.ssss (.ss .a))) qe (by kernel_rfl) ?_
 refine At_go <| W_block <| W_lp (m_r05_in_l3 r_3) (fun s L wr => ∃ (h2 : Vec UInt64 16) (i3 : Int), (h2, i3) = s ∧ L = [(8, pt g 0), (14, pt g1 0), (20, pt g4 0), (24, I i3)] ∧ Cx F O w wr [Bx 108 g [.ar e64 h2], Bx 108 g1 [.ar e64 (Vec.rep 16 (0 : UInt64))], Bx 154 g4 [.ar e32 r_3]]) (h, (0 : Int)) r hm ⟨h, (0 : Int), rfl, rfl, k_30⟩ (by kernel_rfl) ?_
 intro s0_ L_ w_21 y0 hrel hstep hr0
 obtain ⟨h2, i3, rfl, rfl, k_31⟩ := hrel
 have hm := hstep; simp only [m_r05_in_l3] at hm
 clear hstep
 refine W_seq <| W_seq <| W_q [] (.n 80 (.b (decide (i3 < 8))) .a) qe (by kernel_rfl) ?_
 refine At_go <| W_condp (i3 < 8) (by kernel_rfl) (fun hc4 => ?_) (fun hc4 => ?_)
 · rw [if_pos hc4] at hm
   refine W_skip <| At_go <| W_seq <| W_block <| W_reg ?_
   obtain ⟨x_6, h_x_6, hm⟩ := ob hm
   obtain ⟨x_7, h_x_7, hm⟩ := ob hm
   refine WLs 6 [] (.n 87 (.u64 (UInt64.ofNat x_6.toNat)) (.n 88 (.v (.pointer (ixA (some ⟨g, 0, none⟩) i3 1))) (.s .a))) (qV (k_31.vrd 2 rfl e32 r_3 0 (by kernel_rfl)) h_x_6 rfl (.u32 x_6) rfl <| qI g 0 h_x_7 <| qe) (by kernel_rfl) ?_
   refine WL_op ?_
   obtain ⟨v3, h_v3, hm⟩ := nm hm
   refine Op_vs (E := e64) (kk := 0) [] 0 (.u64 (UInt64.ofNat x_6.toNat)) [.u64 (UInt64.ofNat x_6.toNat)] h_v3 h_x_7 (Pt.ix0 (Pt.at g 0) i3 1) k_31 rfl .h rfl (by kernel_rfl) (by kernel_rfl) ?_
   intro w_22 k_32
   refine WL_nil <| At_in <| At_go <| W_q [] (.n 24 (I (w64 (i3 + 1))) (.ss (.kkk .z))) qe (by kernel_rfl) ?_
   exact At_rd (v3, w64 (i3 + 1)) (Option.some.inj hm).symm ⟨v3, w64 (i3 + 1), rfl, rfl, k_32⟩ (by kernel_rfl)
 rw [if_neg hc4] at hm
 refine W_exit (At_te (At_te (At_ie ?_)))
 have hm := exit_of hm hr0
 refine At_go <| W_seq <| W_reg <| WLs 1 [] (.n 89 (.agg [.ar e64 h2]) (.ss (.k .z))) (qT k_31 0 rfl 0 16 [.ar e64 h2] (by kernel_rfl) (by decide) <| qe) (by kernel_rfl) ?_
 refine WL_op <| Op_b [] 1 (.agg [.ar e64 h2]) [.ar e64 h2] (Pt.at g1 0) k_31 rfl .all (by kernel_rfl) (by kernel_rfl) ?_
 intro w_23 k_33
 have k_34 := k_33.sel (.s (.k .z))
 refine WL_nil <| At_go <| W_ret ?_
 obtain rfl := Option.some.inj hm
 refine At_rt [.agg [.ar e64 h2]] (qo (.agg [.ar e64 h2]) <| qc (fun w => Rd w (some ⟨g1, 0, none⟩) (SV.cl [.ar e64 h2])) (k_34.brd 0 rfl) <| qe) (by kernel_rfl) ?_
 have k_35 := k_34.sel .z
 exact ⟨rfl, k_35⟩
end Go.Sx
