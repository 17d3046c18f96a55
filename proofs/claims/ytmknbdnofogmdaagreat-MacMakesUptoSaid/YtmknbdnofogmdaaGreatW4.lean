import Derived.Test.YtmknbdnofogmdaaGreatW3
namespace Go.Sx
open Go.RowKit Go.Proofs
set_option linter.unusedVariables false
set_option linter.unusedSimpArgs false
set_option maxRecDepth 20000

-- quern/mixb.turn
noncomputable def m_mixb_turn_l0 (m_ : Vec UInt64 16) (r_ : (Vec Int 16)) (r_1 : (Vec (Vec Int 4) 8)) : (Vec UInt64 16 × Int) → Option ((Vec UInt64 16 × Int) ⊕ (Vec UInt64 16 × Vec UInt64 16))
  | (v1, x_0) => if x_0 < 8 then ((geti r_1.l x_0).bind fun x_2 => (geti r_.l (w64 (2 * x_0))).bind fun x_3 => (geti m_.l x_3).bind fun x_4 => (geti r_.l (w64 ((w64 (2 * x_0)) + 1))).bind fun x_5 => (geti m_.l x_5).bind fun x_6 => (m_mixb_step v1 x_2 x_4 x_6).bind fun r_2 => some (.inl (r_2, w64 (x_0 + 1)))) else (Option.map Sum.inr (some (v1, m_)))
noncomputable def m_mixb_turn (v : Vec UInt64 16) (m_ : Vec UInt64 16) (round : Int) : Option (Vec UInt64 16 × Vec UInt64 16) :=
  (m_mixb_Sigma round).bind fun r_ => (m_mixb_places).bind fun r_1 => whileO (m_mixb_turn_l0 m_ r_ r_1) (v, (0 : Int))
theorem c_mixb_turn {F O : Nat → Prop} {w : World} (v : Vec UInt64 16) (m_ : Vec UInt64 16) (round : Int) (g_v : Nat) (g_m : Nat) (k : Cx F O w w [Bx 108 g_v [.ar e64 v], Bx 108 g_m [.ar e64 m_]]) (r : (Vec UInt64 16 × Vec UInt64 16)) (hm : m_mixb_turn v m_ round = some r) :
    Calls Tryz.prog 154 (vals [pt g_v 0, pt g_m 0, I round]) w (fun e w' => e = .returned (SV.val (.tup [])) ∧ Cx F O w w' [Bx 108 g_v [.ar e64 r.1], Bx 108 g_m [.ar e64 r.2]]) := by
 unfold m_mixb_turn at hm
 refine calls [pt g_v 0, pt g_m 0, I round] Tryz.func154 rfl (of_decide_eq_true (by kernel_rfl)) ?_
 refine W_seq <| W_reg <| WLs 1 [] (.n 9 (I round) (.kk .z)) qe (by kernel_rfl) ?_
 refine WL_op ?_
 obtain ⟨r_, h_r_, hm⟩ := ob hm
 refine Op_call [] 10 _ yz_go159 (by kernel_rfl) (c_mixb_Sigma (F := N0) (O := N0) _ (Cx.refl _) _ h_r_) ?_
 rintro e_ w_ ⟨rfl, k_⟩
 have k_1 := k.call k_
 refine ⟨.agg [.ar eI r_], rfl, ?_⟩
 refine WL_op <| Op_alloc [] 6 [.ar eI (Vec.rep 16 (0 : Int))] (by kernel_rfl) k_1 ?_
 intro g w_1 k_2
 refine WL_op <| Op_b [] 2 (.agg [.ar eI r_]) [.ar eI r_] (Pt.at g 0) k_2 rfl .all (by kernel_rfl) (by kernel_rfl) ?_
 intro w_2 k_3
 refine WL_nil <| At_go <| W_seq <| W_reg <| WL_op ?_
 obtain ⟨r_1, h_r_1, hm⟩ := ob hm
 refine Op_call [] 11 _ yz_go160 (by kernel_rfl) (c_mixb_places (F := N0) (O := N0)  (Cx.refl _) _ h_r_1) ?_
 rintro e_ w_3 ⟨rfl, k_4⟩
 have k_5 := k_3.call k_4
 refine ⟨.agg [.ar (eV eI 4) r_1], rfl, ?_⟩
 refine WLs 1 [] (.n 12 (I 0) (.kk (.ss .a))) qe (by kernel_rfl) ?_
 refine WL_nil <| At_go <| W_block <| W_lp (m_mixb_turn_l0 m_ r_ r_1) (fun s L wr => ∃ (v1 : Vec UInt64 16) (x_0 : Int), (v1, x_0) = s ∧ L = [(0, pt g_v 0), (1, pt g_m 0), (6, pt g 0), (11, .agg [.ar (eV eI 4) r_1]), (12, I x_0)] ∧ Cx F O w wr [Bx 108 g_v [.ar e64 v1], Bx 108 g_m [.ar e64 m_], Bx 240 g [.ar eI r_]]) (v, (0 : Int)) r hm ⟨v, (0 : Int), rfl, rfl, k_5⟩ (by kernel_rfl) ?_
 intro s0_ L_ w_4 y0 hrel hstep hr0
 obtain ⟨v1, x_0, rfl, rfl, k_6⟩ := hrel
 have hm := hstep; simp only [m_mixb_turn_l0] at hm
 clear hstep
 refine W_seq <| W_q [] (.n 13 (.b (decide (x_0 < 8))) .a) qe (by kernel_rfl) ?_
 refine At_go <| W_seq <| W_condp (x_0 < 8) (by kernel_rfl) (fun hc => ?_) (fun hc => ?_)
 · rw [if_pos hc] at hm
   refine W_skip <| At_go <| W_seq <| W_block <| W_seq <| W_reg ?_
   obtain ⟨x_2, h_x_2, hm⟩ := ob hm
   refine WLs 2 [] (.n 14 (I x_0) (.n 15 (.agg [.ar eI x_2]) (.s .a))) (qo (.agg [.ar eI x_2]) <| qp ((0 ≤ x_0 ∧ x_0 < ((8 : Nat) : Int)) ∧ ((SV.cl [.ar (eV eI 4) r_1]).drop (Int.toNat x_0 * 4)).take 4 = SV.cl [.ar eI x_2]) (ar_ixV (E := eI) h_x_2) <| qe) (by kernel_rfl) ?_
   refine WL_op <| Op_alloc [] 8 [.ar eI (Vec.rep 4 (0 : Int))] (by kernel_rfl) k_6 ?_
   intro g1 w_5 k_7
   refine WLs 1 [] (.n 7 (I x_0) (.k (.s .a))) qe (by kernel_rfl) ?_
   refine WL_op <| Op_b [] 3 (.agg [.ar eI x_2]) [.ar eI x_2] (Pt.at g1 0) k_7 rfl .all (by kernel_rfl) (by kernel_rfl) ?_
   intro w_6 k_8
   refine WL_nil <| At_go ?_
   have k_9 := k_8.drew 1
   refine W_m yz_mixed (.q 0 0 (.q 1 0 (.q 2 1 (.q 3 1 (.q 4 1 (.q 5 1 (.q 6 1 (.q 7 1 (.q 8 1 (.q 9 0 (.q 10 1 (.q 11 1 (.q 12 1 (.q 13 1 (.q 14 1 (.q 15 1 (.q 16 1 (.q 17 1 (.q 18 0 (.op 19 .nil)))))))))))))))))))) [19] k_9 (.c (.s (.kk (.k .e))) .l) (by kernel_rfl) (fun _ => ?_)
   refine MXq 2 0 [] (.n 16 (pt g_v 0) (.n 17 (.agg [.ar eI x_2]) (.k (.ss .a)))) (fun x hx => qT hx 3 rfl 0 4 [.ar eI x_2] (by kernel_rfl) (by decide) <| qe) (by kernel_rfl) (fun _ => ?_)
   obtain ⟨x_3, h_x_3, hm⟩ := ob hm
   obtain ⟨x_4, h_x_4, hm⟩ := ob hm
   refine MXq 7 1 [] (.n 24 (.v (.pointer (ixA (some ⟨g_m, 0, none⟩) x_3 1))) .a) (fun x hx => qV (hx.vrd 1 rfl eI r_ 0 (by kernel_rfl)) h_x_3 rfl (I x_3) rfl <| qs g_m 0 <| qI g_m 0 h_x_4 <| qe) (by kernel_rfl) (fun _ => ?_)
   refine MXq 1 0 [] (.n 25 (.u64 x_4) (.s .a)) (fun x hx => qC (.u64 x_4) (Rd.el (k := 0) (hx.vrd 1 rfl e64 m_ 0 (by kernel_rfl)) h_x_4 (Pt.ix1 (some ⟨g_m, 0, none⟩) x_3 1) rfl) <| qe) (by kernel_rfl) (fun _ => ?_)
   obtain ⟨x_5, h_x_5, hm⟩ := ob hm
   obtain ⟨x_6, h_x_6, hm⟩ := ob hm
   refine MXq 8 1 [] (.n 33 (.v (.pointer (ixA (some ⟨g_m, 0, none⟩) x_5 1))) (.kkk (.s .a))) (fun x hx => qV (hx.vrd 1 rfl eI r_ 0 (by kernel_rfl)) h_x_5 rfl (I x_5) rfl <| qs g_m 0 <| qI g_m 0 h_x_6 <| qe) (by kernel_rfl) (fun _ => ?_)
   refine MXq 1 0 [] (.n 34 (.u64 x_6) (.s .a)) (fun x hx => qC (.u64 x_6) (Rd.el (k := 0) (hx.vrd 1 rfl e64 m_ 0 (by kernel_rfl)) h_x_6 (Pt.ix1 (some ⟨g_m, 0, none⟩) x_5 1) rfl) <| qe) (by kernel_rfl) (fun _ => ?_)
   refine MX_op (by kernel_rfl) rfl ?_
   obtain ⟨r_2, h_r_2, hm⟩ := ob hm
   obtain ⟨F1, O1, kin, hO, hre, hF, hb⟩ := k_9.go (.i (.r (.r (.r .e))))
   refine Op_call [] 35 _ yz_go161 (by kernel_rfl) (c_mixb_step (F := F1) (O := O1) _ _ _ _ _ kin _ h_r_2) ?_
   rintro e_ w_7 ⟨rfl, k_10⟩
   have k_11 := hb w_7 _ _ k_10 (.c .n)
   refine ⟨.tup [], rfl, ?_⟩
   refine ⟨(k_11.sel (.s (.kk (.k .e)))), fun _ => ?_⟩
   refine MX_nil <| At_in <| At_go <| W_q [] (.n 12 (I (w64 (x_0 + 1))) (.ssss (.s (.kkkk .z)))) qe (by kernel_rfl) ?_
   have k_12 := k_11.sel (.kk (.k .z))
   exact At_rd (r_2, w64 (x_0 + 1)) (Option.some.inj hm).symm ⟨r_2, w64 (x_0 + 1), rfl, rfl, k_12⟩ (by kernel_rfl)
 rw [if_neg hc] at hm
 refine W_exit (At_te (At_te (At_ie ?_)))
 have hm := exit_of hm hr0
 obtain rfl := Option.some.inj hm
 refine At_en [] qe (by kernel_rfl) ?_
 have k_13 := k_6.sel (.kk .z)
 exact ⟨rfl, k_13⟩

-- quern/mixb.F
noncomputable def m_mixb_F_l1 (v : Vec UInt64 16) : (Vec UInt64 8 × Int) → Option ((Vec UInt64 8 × Int) ⊕ (Vec UInt64 8))
  | (h1, x_1) => if x_1 < 8 then ((geti h1.l x_1).bind fun x_2 => (geti v.l x_1).bind fun x_3 => (geti v.l (w64 (x_1 + 8))).bind fun x_4 => (geti h1.l x_1).bind fun x_5 => (some (vst h1 x_1 (x_2 ^^^ (x_3 ^^^ x_4)))).bind fun v1 => some (.inl (v1, w64 (x_1 + 1)))) else (Option.map Sum.inr (some h1))
noncomputable def m_mixb_F_l0 (h : Vec UInt64 8) : (Vec UInt64 16 × Vec UInt64 16 × Int) → Option ((Vec UInt64 16 × Vec UInt64 16 × Int) ⊕ (Vec UInt64 8))
  | (m_1, v, x_0) => if x_0 < 12 then ((m_mixb_turn v m_1 x_0).bind fun r_1 => some (.inl (r_1.2, r_1.1, w64 (x_0 + 1)))) else (Option.map Sum.inr (whileO (m_mixb_F_l1 v) (h, (0 : Int))))
noncomputable def m_mixb_F (h : Vec UInt64 8) (m_ : Vec UInt64 16) (count_Lo : UInt64) (count_Hi : UInt64) (last : Bool) (node : Bool) : Option (Vec UInt64 8) :=
  (m_mixb_Init h count_Lo count_Hi last node).bind fun r_ => whileO (m_mixb_F_l0 h) (m_, r_, (0 : Int))
theorem c_mixb_F {F O : Nat → Prop} {w : World} (h : Vec UInt64 8) (m_ : Vec UInt64 16) (count_Lo : UInt64) (count_Hi : UInt64) (last : Bool) (node : Bool) (k : Cx F O w w []) (r : (Vec UInt64 8)) (hm : m_mixb_F h m_ count_Lo count_Hi last node = some r) :
    Calls Tryz.prog 146 (vals [.agg [.ar e64 h], .agg [.ar e64 m_], .agg [.u64 count_Lo, .u64 count_Hi], .b last, .b node]) w (fun e w' => e = .returned (SV.val (.agg [.ar e64 r])) ∧ Cx F O w w' []) := by
 unfold m_mixb_F at hm
 refine calls [.agg [.ar e64 h], .agg [.ar e64 m_], .agg [.u64 count_Lo, .u64 count_Hi], .b last, .b node] Tryz.func146 rfl (of_decide_eq_true (by kernel_rfl)) ?_
 refine W_seq <| W_reg <| WL_op <| Op_box [] 5 (.agg [.ar e64 h]) [.ar e64 h] (by kernel_rfl) k ?_
 intro g w_ k_
 refine WL_op <| Op_box [] 6 (.agg [.ar e64 m_]) [.ar e64 m_] (by kernel_rfl) k_ ?_
 intro g1 w_1 k_1
 refine WL_op <| Op_box [] 7 (.agg [.u64 count_Lo, .u64 count_Hi]) [.u64 count_Lo, .u64 count_Hi] (by kernel_rfl) k_1 ?_
 intro g2 w_2 k_2
 refine WL_op <| Op_alloc [] 10 [.ar e64 (Vec.rep 8 (0 : UInt64))] (by kernel_rfl) k_2 ?_
 intro g3 w_3 k_3
 refine WL_nil <| At_go <| W_seq <| W_reg <| WLs 4 [] (.n 14 (.agg [.ar e64 h]) (.n 15 (.agg [.u64 count_Lo, .u64 count_Hi]) (.n 16 (.b last) (.n 17 (.b node) (.k (.s (.kk .z))))))) (qT k_3 0 rfl 0 8 [.ar e64 h] (by kernel_rfl) (by decide) <| qT k_3 2 rfl 0 2 [.u64 count_Lo, .u64 count_Hi] (by kernel_rfl) (by decide) <| qe) (by kernel_rfl) ?_
 refine WL_op ?_
 have k_4 := k_3.sel (.kkkk .e)
 obtain ⟨r_, h_r_, hm⟩ := ob hm
 refine Op_call [] 18 _ yz_go153 (by kernel_rfl) (c_mixb_Init (F := N0) (O := N0) _ _ _ _ _ (Cx.refl _) _ h_r_) ?_
 rintro e_ w_4 ⟨rfl, k_5⟩
 have k_6 := k_4.call k_5
 refine ⟨.agg [.ar e64 r_], rfl, ?_⟩
 have k_7 := k_6.sel (.kk (.s (.k .e)))
 refine WL_op <| Op_alloc [] 11 [.ar e64 (Vec.rep 16 (0 : UInt64))] (by kernel_rfl) k_7 ?_
 intro g4 w_5 k_8
 refine WL_op <| Op_b [] 3 (.agg [.ar e64 r_]) [.ar e64 r_] (Pt.at g4 0) k_8 rfl .all (by kernel_rfl) (by kernel_rfl) ?_
 intro w_6 k_9
 refine WL_nil <| At_go <| W_seq <| W_seq <| W_q [] (.n 19 (I 0) (.k (.ssss (.s .a)))) qe (by kernel_rfl) ?_
 refine At_go <| W_block <| W_lp (m_mixb_F_l0 h) (fun s L wr => ∃ (m_1 : Vec UInt64 16) (v : Vec UInt64 16) (x_0 : Int), (m_1, v, x_0) = s ∧ L = [(5, pt g 0), (6, pt g1 0), (10, pt g3 0), (11, pt g4 0), (19, I x_0)] ∧ Cx F O w wr [Bx 150 g [.ar e64 h], Bx 108 g1 [.ar e64 m_1], Bx 150 g3 [.ar e64 (Vec.rep 8 (0 : UInt64))], Bx 108 g4 [.ar e64 v]]) (m_, r_, (0 : Int)) r hm ⟨m_, r_, (0 : Int), rfl, rfl, k_9⟩ (by kernel_rfl) ?_
 intro s0_ L_ w_7 y0 hrel hstep hr0
 obtain ⟨m_1, v, x_0, rfl, rfl, k_10⟩ := hrel
 have hm := hstep; simp only [m_mixb_F_l0] at hm
 clear hstep
 refine W_seq <| W_q [] (.n 20 (.b (decide (x_0 < 12))) .a) qe (by kernel_rfl) ?_
 refine At_go <| W_seq <| W_condp (x_0 < 12) (by kernel_rfl) (fun hc => ?_) (fun hc => ?_)
 · rw [if_pos hc] at hm
   refine W_skip <| At_go <| W_seq <| W_block <| W_seq <| W_q [] (.n 12 (I x_0) (.s .a)) qe (by kernel_rfl) ?_
   refine At_go <| W_reg <| WLs 1 [] (.n 22 (I x_0) (.s .a)) qe (by kernel_rfl) ?_
   refine WL_op ?_
   obtain ⟨r_1, h_r_1, hm⟩ := ob hm
   have k_11 := (((k_10.pk (.t (.t .h))).pk (.t .h)).pk (.t (.t .h))).pk (.t (.t (.t .h)))
   obtain ⟨F1, O1, kin, hO, hre, hF, hb⟩ := k_11.go (.i (.i (.r (.r .e))))
   refine Op_call [] 23 _ yz_go154 (by kernel_rfl) (c_mixb_turn (F := F1) (O := O1) _ _ _ _ _ kin _ h_r_1) ?_
   rintro e_ w_8 ⟨rfl, k_12⟩
   have k_13 := hb w_8 _ _ k_12 (.c (.c .n))
   refine ⟨.tup [], rfl, ?_⟩
   refine WL_nil <| At_in <| At_go <| W_q [] (.n 19 (I (w64 (x_0 + 1))) (.ss (.kkkk .z))) qe (by kernel_rfl) ?_
   have k_14 := (((k_13.pk .h).pk (.t (.t (.t .h)))).pk (.t (.t .h))).pk (.t (.t (.t .h)))
   exact At_rd (r_1.2, r_1.1, w64 (x_0 + 1)) (Option.some.inj hm).symm ⟨r_1.2, r_1.1, w64 (x_0 + 1), rfl, rfl, k_14⟩ (by kernel_rfl)
 rw [if_neg hc] at hm
 refine W_exit (At_te (At_te (At_ie ?_)))
 have hm := exit_of hm hr0
 refine At_go <| W_seq <| W_seq <| W_q [] (.n 25 (I 0) (.s (.k (.s (.kk .z))))) qe (by kernel_rfl) ?_
 refine At_go <| W_block ?_
 have k_16 := k_10.sel (.k (.s (.kk .e)))
 refine W_lp (m_mixb_F_l1 v) (fun s L wr => ∃ (h1 : Vec UInt64 8) (x_1 : Int), (h1, x_1) = s ∧ L = [(5, pt g 0), (10, pt g3 0), (11, pt g4 0), (25, I x_1)] ∧ Cx F O w wr [Bx 150 g [.ar e64 h1], Bx 150 g3 [.ar e64 (Vec.rep 8 (0 : UInt64))], Bx 108 g4 [.ar e64 v]]) (h, (0 : Int)) r hm ⟨h, (0 : Int), rfl, rfl, k_16⟩ (by kernel_rfl) ?_
 intro s0_ L_ w_9 y0 hrel hstep hr0
 obtain ⟨h1, x_1, rfl, rfl, k_15⟩ := hrel
 have hm := hstep; simp only [m_mixb_F_l1] at hm
 clear hstep
 refine W_seq <| W_q [] (.n 26 (.b (decide (x_1 < 8))) .a) qe (by kernel_rfl) ?_
 refine At_go <| W_seq <| W_condp (x_1 < 8) (by kernel_rfl) (fun hc1 => ?_) (fun hc1 => ?_)
 · rw [if_pos hc1] at hm
   refine W_skip <| At_go <| W_seq <| W_block <| W_seq <| W_q [] (.n 13 (I x_1) (.s .a)) qe (by kernel_rfl) ?_
   refine At_go ?_
   have k_17 := k_15.drew 1
   refine W_m yz_mixed (.q 0 0 (.q 1 0 (.q 2 0 (.q 3 0 (.q 4 0 (.q 5 0 (.q 6 0 (.q 7 0 (.q 8 0 (.q 9 0 (.q 10 0 (.q 11 0 (.q 12 0 (.op 13 .nil)))))))))))))) [13] k_17 (.c (.s (.kk .e)) .l) (by kernel_rfl) (fun _ => ?_)
   obtain ⟨x_2, h_x_2, hm⟩ := ob hm
   obtain ⟨x_3, h_x_3, hm⟩ := ob hm
   obtain ⟨x_4, h_x_4, hm⟩ := ob hm
   obtain ⟨x_5, h_x_5, hm⟩ := ob hm
   refine MXq 13 0 [] (.n 39 (.u64 (x_2 ^^^ (x_3 ^^^ x_4))) (.n 40 (.v (.pointer (ixA (some ⟨g, 0, none⟩) x_1 1))) (.s .a))) (fun x hx => qV (hx.vrd 0 rfl e64 h1 0 (by kernel_rfl)) h_x_2 rfl (.u64 x_2) rfl <| qV (hx.vrd 2 rfl e64 v 0 (by kernel_rfl)) h_x_3 rfl (.u64 x_3) rfl <| qV (hx.vrd 2 rfl e64 v 0 (by kernel_rfl)) h_x_4 rfl (.u64 x_4) rfl <| qI g 0 h_x_5 <| qe) (by kernel_rfl) (fun _ => ?_)
   refine MX_op (by kernel_rfl) rfl ?_
   obtain ⟨v1, h_v1, hm⟩ := nm hm
   refine Op_vs (E := e64) (kk := 0) [] 0 (.u64 (x_2 ^^^ (x_3 ^^^ x_4))) [.u64 (x_2 ^^^ (x_3 ^^^ x_4))] h_v1 h_x_5 (Pt.ix0 (Pt.at g 0) x_1 1) k_17 rfl .h rfl (by kernel_rfl) (by kernel_rfl) ?_
   intro w_10 k_18
   refine ⟨(k_18.sel (.s (.kk .e))), fun _ => ?_⟩
   refine MX_nil <| At_in <| At_go <| W_q [] (.n 25 (I (w64 (x_1 + 1))) (.ss (.kkk .z))) qe (by kernel_rfl) ?_
   exact At_rd (v1, w64 (x_1 + 1)) (Option.some.inj hm).symm ⟨v1, w64 (x_1 + 1), rfl, rfl, k_18⟩ (by kernel_rfl)
 rw [if_neg hc1] at hm
 refine W_exit (At_te (At_te (At_ie ?_)))
 have hm := exit_of hm hr0
 refine At_go <| W_seq <| W_reg <| WLs 1 [] (.n 42 (.agg [.ar e64 h1]) (.ss (.k .z))) (qT k_15 0 rfl 0 8 [.ar e64 h1] (by kernel_rfl) (by decide) <| qe) (by kernel_rfl) ?_
 refine WL_op <| Op_b [] 1 (.agg [.ar e64 h1]) [.ar e64 h1] (Pt.at g3 0) k_15 rfl .all (by kernel_rfl) (by kernel_rfl) ?_
 intro w_11 k_19
 have k_20 := k_19.sel (.s (.k .z))
 refine WL_nil <| At_go <| W_ret ?_
 obtain rfl := Option.some.inj hm
 refine At_rt [.agg [.ar e64 h1]] (qo (.agg [.ar e64 h1]) <| qc (fun w => Rd w (some ⟨g3, 0, none⟩) (SV.cl [.ar e64 h1])) (k_20.brd 0 rfl) <| qe) (by kernel_rfl) ?_
 have k_21 := k_20.sel .z
 exact ⟨rfl, k_21⟩

-- quern/node.mixBig
noncomputable def m_node_mixBig (h : Vec UInt64 8) (b : List UInt8) (c_Lo : UInt64) (c_Hi : UInt64) (last : Bool) (node : Bool) : Option (Vec UInt64 8) :=
  (m_mixb_Words b).bind fun r_ => (m_mixb_F h r_.1 c_Lo c_Hi last node).bind fun r_1 => some r_1
theorem c_node_mixBig {F O : Nat → Prop} {w : World} (h : Vec UInt64 8) (b : List UInt8) (c_Lo : UInt64) (c_Hi : UInt64) (last : Bool) (node : Bool) (A_b : Option Addr) (n_b : Nat) (c_b : Nat) (h_b : Ro F w A_b (e8.all b)) (hn_b : b.length = n_b) (hc_b : n_b ≤ c_b) (k : Cx F O w w []) (r : (Vec UInt64 8)) (hm : m_node_mixBig h b c_Lo c_Hi last node = some r) :
    Calls Tryz.prog 132 (vals [.agg [.ar e64 h], sl A_b n_b c_b, .agg [.u64 c_Lo, .u64 c_Hi], .b last, .b node]) w (fun e w' => e = .returned (SV.val (.agg [.ar e64 r])) ∧ Cx F O w w' []) := by
 unfold m_node_mixBig at hm
 subst hn_b
 refine calls [.agg [.ar e64 h], sl A_b b.length c_b, .agg [.u64 c_Lo, .u64 c_Hi], .b last, .b node] Tryz.func132 rfl (of_decide_eq_true (by kernel_rfl)) ?_
 refine W_seq <| W_reg <| WL_op <| Op_box [] 5 (.agg [.ar e64 h]) [.ar e64 h] (by kernel_rfl) k ?_
 intro g w_ k_
 refine WL_op <| Op_box [] 7 (.agg [.u64 c_Lo, .u64 c_Hi]) [.u64 c_Lo, .u64 c_Hi] (by kernel_rfl) k_ ?_
 intro g1 w_1 k_1
 refine WL_op <| Op_alloc [] 10 [.ar e64 (Vec.rep 8 (0 : UInt64))] (by kernel_rfl) k_1 ?_
 intro g2 w_2 k_2
 refine WL_nil <| At_go <| W_seq <| W_reg <| WLs 1 [] (.n 14 (sl A_b b.length c_b) (.kkk (.sss .a))) qe (by kernel_rfl) ?_
 refine WL_op ?_
 obtain ⟨r_, h_r_, hm⟩ := ob hm
 refine Op_call [] 15 _ yz_go145 (by kernel_rfl) (c_mixb_Words (F := N0) (O := N0) _ _ _ _ (Ro.n0 (h_b.cx k_2)) rfl hc_b (Cx.refl _) _ h_r_) ?_
 rintro e_ w_3 ⟨rfl, k_3⟩
 have k_4 := k_2.call k_3
 refine ⟨.tup [.agg [.ar e64 r_.1], I r_.2], rfl, ?_⟩
 refine WLs 3 [] (.n 16 (.agg [.ar e64 r_.1]) (.n 17 (I r_.2) (.ss .a))) qe (by kernel_rfl) ?_
 refine WL_op ?_
 have k_5 := k_4.sel (.kk (.k .e))
 refine Op_alloc [] 11 [.ar e64 (Vec.rep 16 (0 : UInt64))] (by kernel_rfl) k_5 ?_
 intro g3 w_4 k_6
 refine WL_op <| Op_b [] 3 (.agg [.ar e64 r_.1]) [.ar e64 r_.1] (Pt.at g3 0) k_6 rfl .all (by kernel_rfl) (by kernel_rfl) ?_
 intro w_5 k_7
 refine WLs 1 [] (.k (.ss .a)) qe (by kernel_rfl) ?_
 refine WL_nil <| At_go <| W_seq <| W_reg <| WLs 5 [] (.n 18 (.agg [.ar e64 h]) (.n 19 (.agg [.ar e64 r_.1]) (.n 20 (.agg [.u64 c_Lo, .u64 c_Hi]) (.n 21 (.b last) (.n 22 (.b node) (.s (.k .z))))))) (qT k_7 0 rfl 0 8 [.ar e64 h] (by kernel_rfl) (by decide) <| qT k_7 3 rfl 0 16 [.ar e64 r_.1] (by kernel_rfl) (by decide) <| qT k_7 1 rfl 0 2 [.u64 c_Lo, .u64 c_Hi] (by kernel_rfl) (by decide) <| qe) (by kernel_rfl) ?_
 refine WL_op ?_
 obtain ⟨r_1, h_r_1, hm⟩ := ob hm
 refine Op_call [] 23 _ yz_go146 (by kernel_rfl) (c_mixb_F (F := N0) (O := N0) _ _ _ _ _ _ (Cx.refl _) _ h_r_1) ?_
 rintro e_ w_6 ⟨rfl, k_8⟩
 have k_9 := k_7.call k_8
 refine ⟨.agg [.ar e64 r_1], rfl, ?_⟩
 have k_10 := k_9.sel (.ss (.k .z))
 refine WL_op <| Op_b [] 0 (.agg [.ar e64 r_1]) [.ar e64 r_1] (Pt.at g2 0) k_10 rfl .all (by kernel_rfl) (by kernel_rfl) ?_
 intro w_7 k_11
 refine WL_nil <| At_go <| W_ret ?_
 obtain rfl := Option.some.inj hm
 refine At_rt [.agg [.ar e64 r_1]] (qo (.agg [.ar e64 r_1]) <| qc (fun w => Rd w (some ⟨g2, 0, none⟩) (SV.cl [.ar e64 r_1])) (k_11.brd 0 rfl) <| qe) (by kernel_rfl) ?_
 have k_12 := k_11.sel .z
 exact ⟨rfl, k_12⟩

-- (*quern/node.half[uint64]).write
noncomputable def m_node_half_uint64_write_j0 (x_block : Int) (b1 : List UInt8) (x_8 : Vec UInt64 8) (x_9 : UInt64) (x_10 : UInt64) (x_11 : List UInt8) : Option ((Vec UInt64 8 × UInt64 × UInt64 × List UInt8 × List UInt8) ⊕ (Vec UInt64 8 × UInt64 × UInt64 × List UInt8 × Int)) :=
  (slc b1 0 (if w64 (x_block - ((x_11.length : Nat) : Int)) < ((b1.length : Nat) : Int) then w64 (x_block - ((x_11.length : Nat) : Int)) else ((b1.length : Nat) : Int))).bind fun b3 => (app x_11 b3 1).bind fun b4 => (slc b1 (if w64 (x_block - ((x_11.length : Nat) : Int)) < ((b1.length : Nat) : Int) then w64 (x_block - ((x_11.length : Nat) : Int)) else ((b1.length : Nat) : Int)) ((b1.length : Nat) : Int)).bind fun b5 => some (.inl (x_8, x_9, x_10, b4, b5))
noncomputable def m_node_half_uint64_write_l0 (x_block : Int) : (Vec UInt64 8 × UInt64 × UInt64 × List UInt8 × List UInt8) → Option ((Vec UInt64 8 × UInt64 × UInt64 × List UInt8 × List UInt8) ⊕ (Vec UInt64 8 × UInt64 × UInt64 × List UInt8 × Int))
  | (x_0, x_5, x_6, x_7, b1) => if 0 < ((b1.length : Nat) : Int) then (if ((x_7.length : Nat) : Int) = x_block then ((m_word_Add x_5 x_6 (UInt64.ofInt x_block)).bind fun r_ => (m_node_mixBig x_0 x_7 r_.1 r_.2.1 false false).bind fun r_1 => (slc x_7 0 (0 : Int)).bind fun b2 => m_node_half_uint64_write_j0 x_block b1 r_1 r_.1 r_.2.1 b2) else (m_node_half_uint64_write_j0 x_block b1 x_0 x_5 x_6 x_7)) else (Option.map Sum.inr (some (x_0, x_5, x_6, x_7, x_block)))
noncomputable def m_node_half_uint64_write (x_h : Vec UInt64 8) (x_count_Lo : UInt64) (x_count_Hi : UInt64) (x_held : List UInt8) (x_block : Int) (b : List UInt8) : Option (Vec UInt64 8 × UInt64 × UInt64 × List UInt8 × Int) :=
  whileO (m_node_half_uint64_write_l0 x_block) (x_h, x_count_Lo, x_count_Hi, x_held, b)
theorem c_node_half_uint64_write {F O : Nat → Prop} {w : World} (x_h : Vec UInt64 8) (x_count_Lo : UInt64) (x_count_Hi : UInt64) (x_held : List UInt8) (x_block : Int) (b : List UInt8) (g_x : Nat) (A_x_held : Option Addr) (n_x_held : Nat) (c_x_held : Nat) (A_b : Option Addr) (n_b : Nat) (c_b : Nat) (h_b : Ro F w A_b (e8.all b)) (hn_b : b.length = n_b) (hc_b : n_b ≤ c_b) (k : Cx F O w w [Bx 206 g_x [.ar e64 x_h, .u64 x_count_Lo, .u64 x_count_Hi, sl A_x_held n_x_held c_x_held, I x_block, .v (.func (.func 132) ⟨SV.vals []⟩ ⟨SV.vals []⟩), .v (.func (.func 133) ⟨SV.vals []⟩ ⟨SV.vals []⟩)], Ow e8 A_x_held n_x_held c_x_held x_held]) (r : (Vec UInt64 8 × UInt64 × UInt64 × List UInt8 × Int)) (hm : m_node_half_uint64_write x_h x_count_Lo x_count_Hi x_held x_block b = some r) :
    Calls Tryz.prog 186 (vals [pt g_x 0, sl A_b n_b c_b]) w (fun e w' => ∃ A n c, r.2.2.2.1.length = n ∧ e = .returned (SV.val (.tup [])) ∧ Cx F O w w' [Bx 206 g_x [.ar e64 r.1, .u64 r.2.1, .u64 r.2.2.1, sl A n c, I r.2.2.2.2, .v (.func (.func 132) ⟨SV.vals []⟩ ⟨SV.vals []⟩), .v (.func (.func 133) ⟨SV.vals []⟩ ⟨SV.vals []⟩)], Ow e8 A n c r.2.2.2.1]) := by
 unfold m_node_half_uint64_write at hm
 obtain rfl := k.len 1 rfl
 subst hn_b
 refine calls [pt g_x 0, sl A_b b.length c_b] Tryz.func186 rfl (of_decide_eq_true (by kernel_rfl)) ?_
 refine W_block <| W_lp (m_node_half_uint64_write_l0 x_block) (fun s L wr => ∃ (x_0 : Vec UInt64 8) (x_5 : UInt64) (x_6 : UInt64) (x_7 : List UInt8) (b1 : List UInt8) (A0 : Option Addr) (n0 : Nat) (c0 : Nat) (A1 : Option Addr) (c1 : Nat), (x_0, x_5, x_6, x_7, b1) = s ∧ L = [(0, pt g_x 0), (1, sl A1 b1.length c1)] ∧ x_7.length = n0 ∧ Ro F w A1 (e8.all b1) ∧ b1.length ≤ c1 ∧ Cx F O w wr [Bx 206 g_x [.ar e64 x_0, .u64 x_5, .u64 x_6, sl A0 n0 c0, I x_block, .v (.func (.func 132) ⟨SV.vals []⟩ ⟨SV.vals []⟩), .v (.func (.func 133) ⟨SV.vals []⟩ ⟨SV.vals []⟩)], Ow e8 A0 n0 c0 x_7]) (x_h, x_count_Lo, x_count_Hi, x_held, b) r hm ⟨x_h, x_count_Lo, x_count_Hi, x_held, b, A_x_held, x_held.length, c_x_held, A_b, c_b, rfl, rfl, k.len 1 rfl, h_b, hc_b, k⟩ (by kernel_rfl) ?_
 intro s0_ L_ w_ y0 hrel hstep hr0
 obtain ⟨x_0, x_5, x_6, x_7, b1, A0, _, c0, A1, c1, rfl, rfl, rfl, h, hc, k_⟩ := hrel
 have hm := hstep; simp only [m_node_half_uint64_write_l0] at hm
 clear hstep
 refine W_seq <| W_seq <| W_q [] (.n 7 (.b (decide (0 < ((b1.length : Nat) : Int)))) .a) qe (by kernel_rfl) ?_
 refine At_go <| W_condp (0 < ((b1.length : Nat) : Int)) (by kernel_rfl) (fun hc1 => ?_) (fun hc1 => ?_)
 · rw [if_pos hc1] at hm
   refine W_skip <| At_go <| W_block <| W_cut (fun L wr => ∃ (x_8 : Vec UInt64 8) (x_9 : UInt64) (x_10 : UInt64) (x_11 : List UInt8) (A2 : Option Addr) (n1 : Nat) (c2 : Nat), m_node_half_uint64_write_j0 x_block b1 x_8 x_9 x_10 x_11 = some y0 ∧ L = [(0, pt g_x 0), (1, sl A1 b1.length c1)] ∧ x_11.length = n1 ∧ Cx F O w wr [Bx 206 g_x [.ar e64 x_8, .u64 x_9, .u64 x_10, sl A2 n1 c2, I x_block, .v (.func (.func 132) ⟨SV.vals []⟩ ⟨SV.vals []⟩), .v (.func (.func 133) ⟨SV.vals []⟩ ⟨SV.vals []⟩)], Ow e8 A2 n1 c2 x_11]) ?_ ?_
   ·
    refine W_seq <| W_d yz_mixed (by kernel_rfl) (.n 17 (.b (decide (((x_7.length : Nat) : Int) = x_block))) (.s .a)) (fun m => qs g_x 0 <| qs g_x 0 <| qB (k_.drew m) 0 rfl 10 (sl A0 x_7.length c0) (by kernel_rfl) <| qs g_x 0 <| qs g_x 0 <| qB (k_.drew m) 0 rfl 11 (I x_block) (by kernel_rfl) <| qe) (by kernel_rfl) (fun m_ => ?_)
    have k_1 := k_.drew m_
    refine At_go <| W_condp (((x_7.length : Nat) : Int) = x_block) (by kernel_rfl) (fun hc2 => ?_) (fun hc2 => ?_)
    · rw [if_pos hc2] at hm
      refine W_seq ?_
      have k_2 := k_1.drew 1
      refine W_m yz_mixed (.q 0 1 (.q 1 1 (.q 2 1 (.q 3 1 (.q 4 0 (.q 5 1 (.q 6 1 (.q 7 1 (.q 8 1 (.q 9 0 (.op 10 (.q 11 1 (.q 12 1 (.q 13 2 (.q 14 2 (.q 15 1 (.op 16 .nil))))))))))))))))) [10, 16] k_2 (.c (.kk .e) (.c (.s (.k .e)) .l)) (by kernel_rfl) (fun _ => ?_)
      refine MXq 4 1 [] (.n 19 (pt g_x 0) (.n 22 (pt g_x 8) (.s .a))) (fun x hx => qs g_x 0 <| qs g_x 0 <| qe) (by kernel_rfl) (fun _ => ?_)
      refine MXq 1 0 [] (.n 23 (.agg [.u64 x_5, .u64 x_6]) (.k (.s .a))) (fun x hx => qT hx 0 rfl 8 2 [.u64 x_5, .u64 x_6] (by kernel_rfl) (by decide) <| qe) (by kernel_rfl) (fun _ => ?_)
      refine MXq 4 1 [] (.n 27 (I x_block) .a) (fun x hx => qs g_x 0 <| qs g_x 0 <| qB hx 0 rfl 11 (I x_block) (by kernel_rfl) <| qe) (by kernel_rfl) (fun _ => ?_)
      refine MXq 1 0 [] (.n 28 (.u64 (UInt64.ofInt x_block)) (.s .a)) (fun x hx => qe) (by kernel_rfl) (fun _ => ?_)
      refine MX_op (by kernel_rfl) rfl ?_
      obtain ⟨r_, h_r_, hm⟩ := ob hm
      refine Op_call [] 29 _ yz_go187 (by kernel_rfl) (c_word_Add (F := N0) (O := N0) _ _ _ (Cx.refl _) _ h_r_) ?_
      rintro e_ w_1 ⟨rfl, k_3⟩
      have k_4 := k_2.call k_3
      refine ⟨.tup [.agg [.u64 r_.1, .u64 r_.2.1], .b r_.2.2], rfl, ?_⟩
      refine ⟨k_4, fun _ => ?_⟩
      refine MXq 2 1 [] (.n 18 (.tup [.agg [.u64 r_.1, .u64 r_.2.1], .b r_.2.2]) (.n 30 (.agg [.u64 r_.1, .u64 r_.2.1]) (.sss .a))) (fun x hx => qe) (by kernel_rfl) (fun _ => ?_)
      refine MXq 2 2 [] (.n 32 (pt g_x 0) (.s (.k (.s .a)))) (fun x hx => qs g_x 0 <| qe) (by kernel_rfl) (fun _ => ?_)
      refine MXq 1 1 [] (.n 33 (pt g_x 8) (.s .a)) (fun x hx => qs g_x 0 <| qe) (by kernel_rfl) (fun _ => ?_)
      refine MX_op (by kernel_rfl) rfl <| Op_b [] 0 (.agg [.u64 r_.1, .u64 r_.2.1]) [.u64 r_.1, .u64 r_.2.1] (Pt.at g_x 8) k_4 rfl (.k .h2) (by kernel_rfl) (by kernel_rfl) ?_
      intro w_2 k_5
      refine ⟨(k_5.sel (.s (.k .e))), fun _ => ?_⟩
      refine MX_nil <| At_go <| W_seq ?_
      have k_6 := k_5.drew 1
      refine W_m yz_mixed (.q 0 1 (.q 1 1 (.q 2 1 (.q 3 1 (.q 4 0 (.q 5 1 (.q 6 1 (.q 7 1 (.q 8 0 (.q 9 1 (.q 10 1 (.q 11 1 (.q 12 0 (.q 13 1 (.q 14 1 (.q 15 1 (.q 16 0 (.op 17 (.q 18 2 (.q 19 1 (.op 20 .nil))))))))))))))))))))) [17, 20] k_6 (.c (.kk .e) (.c (.s (.k .e)) .l)) (by kernel_rfl) (fun _ => ?_)
      refine MXq 4 1 [] (.n 34 (pt g_x 0) (.n 37 (pt g_x 12) (.ss .a))) (fun x hx => qs g_x 0 <| qs g_x 0 <| qe) (by kernel_rfl) (fun _ => ?_)
      refine MXq 1 0 [] (.n 38 (.v (.func (.func 132) ⟨SV.vals []⟩ ⟨SV.vals []⟩)) (.k (.s .a))) (fun x hx => qB hx 0 rfl 12 (.v (.func (.func 132) ⟨SV.vals []⟩ ⟨SV.vals []⟩)) (by kernel_rfl) <| qe) (by kernel_rfl) (fun _ => ?_)
      refine MXq 3 1 [] (.n 41 (pt g_x 0) .a) (fun x hx => qs g_x 0 <| qs g_x 0 <| qe) (by kernel_rfl) (fun _ => ?_)
      refine MXq 1 0 [] (.n 42 (.agg [.ar e64 x_0]) (.s .a)) (fun x hx => qT hx 0 rfl 0 8 [.ar e64 x_0] (by kernel_rfl) (by decide) <| qe) (by kernel_rfl) (fun _ => ?_)
      refine MXq 3 1 [] (.n 45 (pt g_x 10) .a) (fun x hx => qs g_x 0 <| qs g_x 0 <| qe) (by kernel_rfl) (fun _ => ?_)
      refine MXq 1 0 [] (.n 46 (sl A0 x_7.length c0) (.s .a)) (fun x hx => qB hx 0 rfl 10 (sl A0 x_7.length c0) (by kernel_rfl) <| qe) (by kernel_rfl) (fun _ => ?_)
      refine MXq 3 1 [] (.n 49 (pt g_x 8) .a) (fun x hx => qs g_x 0 <| qs g_x 0 <| qe) (by kernel_rfl) (fun _ => ?_)
      refine MXq 1 0 [] (.n 50 (.agg [.u64 r_.1, .u64 r_.2.1]) (.s .a)) (fun x hx => qT hx 0 rfl 8 2 [.u64 r_.1, .u64 r_.2.1] (by kernel_rfl) (by decide) <| qe) (by kernel_rfl) (fun _ => ?_)
      refine MX_op (by kernel_rfl) rfl ?_
      obtain ⟨r_1, h_r_1, hm⟩ := ob hm
      refine Op_callv [] 51 [] [.agg [.ar e64 x_0], sl A0 x_7.length c0, .agg [.u64 r_.1, .u64 r_.2.1], .b false, .b false] [] yz_go132 (by kernel_rfl) (c_node_mixBig (F := N0) (O := N0) _ _ _ _ _ _ _ _ _ (Ro.n0 (k_6.rd 1 rfl)) (k_6.len 1 rfl) (k_6.lec 1 rfl) (Cx.refl _) _ h_r_1) ?_
      rintro e_ w_3 ⟨rfl, k_7⟩
      have k_8 := k_6.call k_7
      refine ⟨.agg [.ar e64 r_1], rfl, ?_⟩
      refine ⟨k_8, fun _ => ?_⟩
      refine MXq 1 2 [] (.n 52 (pt g_x 0) (.k (.ssss (.s .a)))) (fun x hx => qs g_x 0 <| qe) (by kernel_rfl) (fun _ => ?_)
      refine MXq 1 1 [] (.n 53 (pt g_x 0) (.s .a)) (fun x hx => qs g_x 0 <| qe) (by kernel_rfl) (fun _ => ?_)
      refine MX_op (by kernel_rfl) rfl <| Op_b [] 0 (.agg [.ar e64 r_1]) [.ar e64 r_1] (Pt.at g_x 0) k_8 rfl .h (by kernel_rfl) (by kernel_rfl) ?_
      intro w_4 k_9
      refine ⟨(k_9.sel (.s (.k .e))), fun _ => ?_⟩
      refine MX_nil <| At_go <| W_reg ?_
      obtain ⟨b2, h_b2, hm⟩ := ob hm
      have hs := slc_some h_b2
      have hl := slc_len h_b2
      have hn : x_7.length = x_7.length := (k_9.len 1 rfl)
      have hc3 : x_7.length ≤ c0 := (k_9.lec 1 rfl)
      have hc4 : b2.length ≤ c0 := by omega
      refine WLs 8 [] (.n 59 (sl A0 b2.length c0) (.n 61 (pt g_x 10) (.ss .a))) (qs g_x 0 <| qs g_x 0 <| qB k_9 0 rfl 10 (sl A0 x_7.length c0) (by kernel_rfl) <| qp (0 ≤ (0 : Int) ∧ (0 : Int) ≤ ((c0 : Nat) : Int)) (by omega) <| qo (.v (.slice A0 b2.length c0)) <| qp (Value.slice (slA A0 0 c0 1) (Int.toNat (0 : Int) - 0) (c0 - 0) = .slice A0 b2.length c0) (slx0 _ _ _ _ _ (by omega)) <| qs g_x 0 <| qs g_x 0 <| qe) (by kernel_rfl) ?_
      refine WL_op ?_
      have k_10 := k_9.sel (.kk .e)
      refine Op_b [] 0 (sl A0 b2.length c0) [sl A0 b2.length c0] (Pt.at g_x 10) k_10 rfl (.kk (.k .h)) (by kernel_rfl) (by kernel_rfl) ?_
      intro w_5 k_11
      refine WL_nil ?_
      have k_12 := k_11.pre 1 rfl b2.length c0 b2 (by omega) (by omega) (by omega) (slc_pre h_b2 rfl)
      exact At_c ⟨r_1, r_.1, r_.2.1, b2, A0, b2.length, c0, hm, rfl, k_12.len 1 rfl, k_12⟩ (by kernel_rfl)
    rw [if_neg hc2] at hm
    refine W_skip ?_
    exact At_c ⟨x_0, x_5, x_6, x_7, A0, x_7.length, c0, hm, rfl, k_1.len 1 rfl, k_1⟩ (by kernel_rfl)
   rintro L_ w_6 ⟨x_8, x_9, x_10, x_11, A2, _, c2, hm, rfl, rfl, k_13⟩
   simp only [m_node_half_uint64_write_j0] at hm
   refine W_seq <| W_d yz_mixed (by kernel_rfl) (.n 4 (I (if w64 (x_block - ((x_11.length : Nat) : Int)) < ((b1.length : Nat) : Int) then w64 (x_block - ((x_11.length : Nat) : Int)) else ((b1.length : Nat) : Int))) .a) (fun m => qs g_x 0 <| qs g_x 0 <| qB (k_13.drew m) 0 rfl 11 (I x_block) (by kernel_rfl) <| qs g_x 0 <| qs g_x 0 <| qB (k_13.drew m) 0 rfl 10 (sl A2 x_11.length c2) (by kernel_rfl) <| qe) (by kernel_rfl) (fun m_1 => ?_)
   have k_14 := k_13.drew m_1
   refine At_go <| W_seq ?_
   have k_15 := k_14.drew 1
   refine W_m yz_mixed (.q 0 1 (.q 1 1 (.q 2 1 (.q 3 1 (.q 4 0 (.q 5 1 (.q 6 1 (.q 7 0 (.op 8 (.q 9 2 (.q 10 1 (.op 11 .nil)))))))))))) [8, 11] k_15 (.c (.k .z) (.c (.z) .l)) (by kernel_rfl) (fun _ => ?_)
   refine MXq 4 1 [] (.n 75 (pt g_x 0) (.n 78 (pt g_x 10) .a)) (fun x hx => qs g_x 0 <| qs g_x 0 <| qe) (by kernel_rfl) (fun _ => ?_)
   refine MXq 1 0 [] (.n 79 (sl A2 x_11.length c2) (.k (.s .a))) (fun x hx => qB hx 0 rfl 10 (sl A2 x_11.length c2) (by kernel_rfl) <| qe) (by kernel_rfl) (fun _ => ?_)
   refine MXq 2 1 [] (.n 80 (sl A1 b1.length c1) (.n 81 (I (if w64 (x_block - ((x_11.length : Nat) : Int)) < ((b1.length : Nat) : Int) then w64 (x_block - ((x_11.length : Nat) : Int)) else ((b1.length : Nat) : Int))) .a)) (fun x hx => qe) (by kernel_rfl) (fun _ => ?_)
   obtain ⟨b3, h_b3, hm⟩ := ob hm
   have hs1 := slc_some h_b3
   have hl1 := slc_len h_b3
   have hn1 : b1.length = b1.length := rfl
   have hc5 : b1.length ≤ c1 := hc
   have hc6 : b3.length ≤ c1 := by omega
   refine MXq 1 0 [] (.n 82 (sl A1 b3.length c1) (.ss .a)) (fun x hx => qp (0 ≤ (if w64 (x_block - ((x_11.length : Nat) : Int)) < ((b1.length : Nat) : Int) then w64 (x_block - ((x_11.length : Nat) : Int)) else ((b1.length : Nat) : Int)) ∧ (if w64 (x_block - ((x_11.length : Nat) : Int)) < ((b1.length : Nat) : Int) then w64 (x_block - ((x_11.length : Nat) : Int)) else ((b1.length : Nat) : Int)) ≤ ((c1 : Nat) : Int)) (by omega) <| qo (.v (.slice A1 b3.length c1)) <| qp (Value.slice (slA A1 0 c1 1) (Int.toNat (if w64 (x_block - ((x_11.length : Nat) : Int)) < ((b1.length : Nat) : Int) then w64 (x_block - ((x_11.length : Nat) : Int)) else ((b1.length : Nat) : Int)) - 0) (c1 - 0) = .slice A1 b3.length c1) (slx0 _ _ _ _ _ (by omega)) <| qe) (by kernel_rfl) (fun _ => ?_)
   refine MX_op (by kernel_rfl) rfl ?_
   obtain ⟨b4, h_b4, hm⟩ := ob hm
   obtain ⟨hz, hl2⟩ := app_some h_b4
   refine Op_append (E := e8) (v := sl A1 b3.length c1) (ys := b3) yz_tf22 [] 83 1 (by kernel_rfl) k_15 rfl (Src.sl (Rd.pre (h.cx k_15) h_b3 rfl) rfl (by rfl)) rfl (by have := k_15.len 1 rfl; have := hm; omega) ?_
   intro A3 c3 w_7 k_16
   rw [← hl2] at k_16
   refine ⟨(k_16.sel (.k .z)), fun _ => ?_⟩
   refine MXq 1 2 [] (.n 84 (pt g_x 0) (.k (.sss .a))) (fun x hx => qs g_x 0 <| qe) (by kernel_rfl) (fun _ => ?_)
   refine MXq 1 1 [] (.n 85 (pt g_x 10) (.s .a)) (fun x hx => qs g_x 0 <| qe) (by kernel_rfl) (fun _ => ?_)
   refine MX_op (by kernel_rfl) rfl <| Op_b [] 0 (sl A3 (x_11.length + b3.length) c3) [sl A3 (x_11.length + b3.length) c3] (Pt.at g_x 10) k_16 rfl (.kk (.k .h)) (by kernel_rfl) (by kernel_rfl) ?_
   intro w_8 k_17
   refine ⟨(k_17.sel .z), fun _ => ?_⟩
   refine MX_nil <| At_go ?_
   obtain ⟨b5, h_b5, hm⟩ := ob hm
   have hs2 := slc_some h_b5
   have hl3 := slc_len h_b5
   have hn2 : b1.length = b1.length := rfl
   have hc7 : b1.length ≤ c1 := hc
   obtain ⟨A4, c4, e_, hc8, hA, hc9⟩ := slx A1 (Int.toNat (if w64 (x_block - ((x_11.length : Nat) : Int)) < ((b1.length : Nat) : Int) then w64 (x_block - ((x_11.length : Nat) : Int)) else ((b1.length : Nat) : Int))) c1 1 (b1.length - Int.toNat (if w64 (x_block - ((x_11.length : Nat) : Int)) < ((b1.length : Nat) : Int) then w64 (x_block - ((x_11.length : Nat) : Int)) else ((b1.length : Nat) : Int))) b5.length (by omega) (by omega)
   refine W_q [] (.n 1 (sl A4 b5.length c4) (.sss (.k .z))) (qp (0 ≤ (if w64 (x_block - ((x_11.length : Nat) : Int)) < ((b1.length : Nat) : Int) then w64 (x_block - ((x_11.length : Nat) : Int)) else ((b1.length : Nat) : Int)) ∧ (if w64 (x_block - ((x_11.length : Nat) : Int)) < ((b1.length : Nat) : Int) then w64 (x_block - ((x_11.length : Nat) : Int)) else ((b1.length : Nat) : Int)) ≤ ((b1.length : Nat) : Int)) (by omega) <| qo (.v (.slice A4 b5.length c4)) <| qp (Value.slice (slA A1 (Int.toNat (if w64 (x_block - ((x_11.length : Nat) : Int)) < ((b1.length : Nat) : Int) then w64 (x_block - ((x_11.length : Nat) : Int)) else ((b1.length : Nat) : Int))) c1 1) (b1.length - Int.toNat (if w64 (x_block - ((x_11.length : Nat) : Int)) < ((b1.length : Nat) : Int) then w64 (x_block - ((x_11.length : Nat) : Int)) else ((b1.length : Nat) : Int))) (c1 - Int.toNat (if w64 (x_block - ((x_11.length : Nat) : Int)) < ((b1.length : Nat) : Int) then w64 (x_block - ((x_11.length : Nat) : Int)) else ((b1.length : Nat) : Int))) = .slice A4 b5.length c4) e_ <| qe) (by kernel_rfl) ?_
   refine At_in ?_
   exact At_rd (x_8, x_9, x_10, b4, b5) (Option.some.inj hm).symm ⟨x_8, x_9, x_10, b4, b5, A3, x_11.length + b3.length, c3, A4, c4, rfl, rfl, k_17.len 1 rfl, (Ro.cut h h_b5 rfl (by rfl) hA (by omega)), hc8, k_17⟩ (by kernel_rfl)
 rw [if_neg hc1] at hm
 refine W_exit (At_te (At_te (At_ie ?_)))
 have hm := exit_of hm hr0
 obtain rfl := Option.some.inj hm
 refine At_en [] qe (by kernel_rfl) ?_
 exact ⟨A0, x_7.length, c0, k_.len 1 rfl, rfl, k_⟩

-- quern/mixs.Words
noncomputable def m_mixs_Words (b : List UInt8) : Option (Vec UInt32 16 × Int) :=
  (m_mixs_right b (64 : Int)).bind fun r_ => if r_ ≠ 0 then (some ((Vec.rep 16 (0 : UInt32)), r_)) else ((m_mixs_words ((Vec.rep 16 (0 : UInt32)).l) b).bind fun r_1 => some ((Vec.of 16 r_1), (0 : Int)))
theorem c_mixs_Words {F O : Nat → Prop} {w : World} (b : List UInt8) (A_b : Option Addr) (n_b : Nat) (c_b : Nat) (h_b : Ro F w A_b (e8.all b)) (hn_b : b.length = n_b) (hc_b : n_b ≤ c_b) (k : Cx F O w w []) (r : (Vec UInt32 16 × Int)) (hm : m_mixs_Words b = some r) :
    Calls Tryz.prog 150 (vals [sl A_b n_b c_b]) w (fun e w' => e = .returned (SV.val (.tup [.agg [.ar e32 r.1], I r.2])) ∧ Cx F O w w' []) := by
 unfold m_mixs_Words at hm
 subst hn_b
 refine calls [sl A_b b.length c_b] Tryz.func150 rfl (of_decide_eq_true (by kernel_rfl)) ?_
 refine W_seq <| W_reg <| WL_op <| Op_alloc [] 2 [.ar e32 (Vec.rep 16 (0 : UInt32))] (by kernel_rfl) k ?_
 intro g w_ k_
 refine WLs 1 [] .a qe (by kernel_rfl) ?_
 refine WL_nil <| At_go <| W_seq <| W_reg <| WL_op <| Op_alloc [] 4 [.ar e32 (Vec.rep 16 (0 : UInt32))] (by kernel_rfl) k_ ?_
 intro g1 w_1 k_1
 refine WL_nil <| At_go <| W_seq <| W_seq <| W_reg <| WLs 1 [] (.n 6 (sl A_b b.length c_b) .a) qe (by kernel_rfl) ?_
 refine WL_op ?_
 obtain ⟨r_, h_r_, hm⟩ := ob hm
 refine Op_call [] 7 _ yz_go147 (by kernel_rfl) (c_mixs_right (F := N0) (O := N0) _ _ _ _ _ (Ro.n0 (h_b.cx k_1)) rfl hc_b (Cx.refl _) _ h_r_) ?_
 rintro e_ w_2 ⟨rfl, k_2⟩
 have k_3 := k_1.call k_2
 refine ⟨I r_, rfl, ?_⟩
 refine WLs 1 [] (.n 5 (I r_) (.ss .a)) qe (by kernel_rfl) ?_
 refine WL_nil <| At_go <| W_seq <| W_q [] (.n 9 (.b (decide (r_ ≠ 0))) .a) qe (by kernel_rfl) ?_
 refine At_go <| W_condp (r_ ≠ 0) (by kernel_rfl) (fun hc => ?_) (fun hc => ?_)
 · rw [if_pos hc] at hm
   refine W_seq <| W_reg <| WLs 2 [] (.n 10 (.agg [.ar e32 (Vec.rep 16 (0 : UInt32))]) (.n 11 (I r_) (.sss (.k .z)))) (qT k_3 1 rfl 0 16 [.ar e32 (Vec.rep 16 (0 : UInt32))] (by kernel_rfl) (by decide) <| qe) (by kernel_rfl) ?_
   refine WL_op <| Op_b [] 0 (.agg [.ar e32 (Vec.rep 16 (0 : UInt32))]) [.ar e32 (Vec.rep 16 (0 : UInt32))] (Pt.at g 0) k_3 rfl .all (by kernel_rfl) (by kernel_rfl) ?_
   intro w_3 k_4
   have k_5 := k_4.sel (.k .z)
   refine WLs 1 [] (.n 3 (I r_) (.ss .a)) qe (by kernel_rfl) ?_
   refine WL_nil <| At_go <| W_ret (At_tr ?_)
   obtain rfl := Option.some.inj hm
   refine At_rt [.agg [.ar e32 (Vec.rep 16 (0 : UInt32))], I r_] (qo (.agg [.ar e32 (Vec.rep 16 (0 : UInt32))]) <| qc (fun w => Rd w (some ⟨g, 0, none⟩) (SV.cl [.ar e32 (Vec.rep 16 (0 : UInt32))])) (k_5.brd 0 rfl) <| qe) (by kernel_rfl) ?_
   have k_6 := k_5.sel .z
   exact ⟨rfl, k_6⟩
 rw [if_neg hc] at hm
 refine W_skip <| At_go <| W_seq <| W_reg <| WLs 2 [] (.n 12 (sl (some ⟨g1, 0, none⟩) 16 16) (.n 13 (sl A_b b.length c_b) (.ss (.kk .z)))) (qo (.v (.slice (some ⟨g1, 0, none⟩) 16 16)) <| qp (((some ⟨g1, 0, none⟩) : Option Addr).isSome = true ∧ Value.slice (slA (some ⟨g1, 0, none⟩) 0 16 1) (16 - 0) (16 - 0) = .slice (some ⟨g1, 0, none⟩) 16 16) ⟨rfl, slx0 _ _ _ _ _ rfl⟩ <| qe) (by kernel_rfl) ?_
 refine WL_op ?_
 have k_7 := k_3.openV [] [] 1 rfl
 obtain ⟨r_1, h_r_1, hm⟩ := ob hm
 obtain ⟨F1, O1, kin, hO, hre, hF, hb⟩ := k_7.go (.r (.i .e))
 refine Op_call [] 14 _ yz_go148 (by kernel_rfl) (c_mixs_words (F := F1) (O := O1) _ _ _ _ _ _ _ _ _ (Nat.le_refl _) (Ro.of_old h_b k_7 hF) rfl hc_b kin _ h_r_1) ?_
 rintro e_ w_4 ⟨rfl, k_8⟩
 have k_9 := hb w_4 _ _ k_8 (.c .n)
 refine ⟨.tup [], rfl, ?_⟩
 have k_10 := k_9.shutV [] [] 0 rfl (Vec.of 16 r_1) (Vec.of_l (k_9.mlen 0 rfl))
 refine WL_nil <| At_go <| W_seq <| W_reg <| WLs 1 [] (.n 15 (.agg [.ar e32 (Vec.of 16 r_1)]) (.ssss .a)) (qT k_10 0 rfl 0 16 [.ar e32 (Vec.of 16 r_1)] (by kernel_rfl) (by decide) <| qe) (by kernel_rfl) ?_
 refine WL_op ?_
 have k_11 := k_10.sel (.kk .e)
 refine Op_b [] 1 (.agg [.ar e32 (Vec.of 16 r_1)]) [.ar e32 (Vec.of 16 r_1)] (Pt.at g 0) k_11 rfl .all (by kernel_rfl) (by kernel_rfl) ?_
 intro w_5 k_12
 have k_13 := k_12.sel (.s (.k .e))
 refine WLs 1 [] (.n 3 (I 0) (.s .a)) qe (by kernel_rfl) ?_
 refine WL_nil <| At_go <| W_ret ?_
 obtain rfl := Option.some.inj hm
 refine At_rt [.agg [.ar e32 (Vec.of 16 r_1)], I 0] (qo (.agg [.ar e32 (Vec.of 16 r_1)]) <| qc (fun w => Rd w (some ⟨g, 0, none⟩) (SV.cl [.ar e32 (Vec.of 16 r_1)])) (k_13.brd 0 rfl) <| qe) (by kernel_rfl) ?_
 have k_14 := k_13.sel .z
 exact ⟨rfl, k_14⟩

-- quern/mixs.Begin
noncomputable def m_mixs_Begin_j1 (v4 : Vec UInt32 16) : Option (Vec UInt32 16) :=
  some v4
noncomputable def m_mixs_Begin_j0 (node : Bool) (v2 : Vec UInt32 16) : Option (Vec UInt32 16) :=
  if node = true then ((geti v2.l (15 : Int)).bind fun x_6 => (geti v2.l (15 : Int)).bind fun x_7 => (some (vst v2 (15 : Int) (4294967295 ^^^ x_6))).bind fun v5 => m_mixs_Begin_j1 v5) else (m_mixs_Begin_j1 v2)
noncomputable def m_mixs_Begin (h : Vec UInt32 8) (count : UInt64) (last : Bool) (node : Bool) : Option (Vec UInt32 16) :=
  (m_mixs_IV).bind fun r_ => (slc ((Vec.rep 16 (0 : UInt32)).l) 0 (8 : Int)).bind fun b => (slc ((vcp (Vec.rep 16 (0 : UInt32)) 0 b.length h.l).l) (8 : Int) ((16 : Nat) : Int)).bind fun b1 => (geti (vcp (vcp (Vec.rep 16 (0 : UInt32)) 0 b.length h.l) (Int.toNat (8 : Int)) b1.length r_.l).l (12 : Int)).bind fun x_0 => (geti (vcp (vcp (Vec.rep 16 (0 : UInt32)) 0 b.length h.l) (Int.toNat (8 : Int)) b1.length r_.l).l (12 : Int)).bind fun x_1 => (some (vst (vcp (vcp (Vec.rep 16 (0 : UInt32)) 0 b.length h.l) (Int.toNat (8 : Int)) b1.length r_.l) (12 : Int) (x_0 ^^^ (UInt32.ofNat count.toNat)))).bind fun v => (geti v.l (13 : Int)).bind fun x_2 => (geti v.l (13 : Int)).bind fun x_3 => (some (vst v (13 : Int) (x_2 ^^^ (UInt32.ofNat (shr64 count ((32 : UInt64).toNat)).toNat)))).bind fun v1 => if last = true then ((geti v1.l (14 : Int)).bind fun x_4 => (geti v1.l (14 : Int)).bind fun x_5 => (some (vst v1 (14 : Int) (4294967295 ^^^ x_4))).bind fun v3 => m_mixs_Begin_j0 node v3) else (m_mixs_Begin_j0 node v1)
theorem c_mixs_Begin {F O : Nat → Prop} {w : World} (h : Vec UInt32 8) (count : UInt64) (last : Bool) (node : Bool) (k : Cx F O w w []) (r : (Vec UInt32 16)) (hm : m_mixs_Begin h count last node = some r) :
    Calls Tryz.prog 156 (vals [.agg [.ar e32 h], .u64 count, .b last, .b node]) w (fun e w' => e = .returned (SV.val (.agg [.ar e32 r])) ∧ Cx F O w w' []) := by
 unfold m_mixs_Begin at hm
 refine calls [.agg [.ar e32 h], .u64 count, .b last, .b node] Tryz.func156 rfl (of_decide_eq_true (by kernel_rfl)) ?_
 refine W_seq <| W_reg <| WL_op <| Op_box [] 4 (.agg [.ar e32 h]) [.ar e32 h] (by kernel_rfl) k ?_
 intro g w_ k_
 refine WL_op <| Op_alloc [] 8 [.ar e32 (Vec.rep 16 (0 : UInt32))] (by kernel_rfl) k_ ?_
 intro g1 w_1 k_1
 refine WL_nil <| At_go <| W_seq <| W_reg <| WL_op <| Op_alloc [] 9 [.ar e32 (Vec.rep 16 (0 : UInt32))] (by kernel_rfl) k_1 ?_
 intro g2 w_2 k_2
 refine WL_nil <| At_go <| W_seq <| W_reg <| WL_op ?_
 obtain ⟨r_, h_r_, hm⟩ := ob hm
 refine Op_call [] 11 _ yz_go149 (by kernel_rfl) (c_mixs_IV (F := N0) (O := N0)  (Cx.refl _) _ h_r_) ?_
 rintro e_ w_3 ⟨rfl, k_3⟩
 have k_4 := k_2.call k_3
 refine ⟨.agg [.ar e32 r_], rfl, ?_⟩
 refine WL_op ?_
 have k_5 := k_4.sel (.kk (.k .e))
 refine Op_alloc [] 10 [.ar e32 (Vec.rep 8 (0 : UInt32))] (by kernel_rfl) k_5 ?_
 intro g3 w_4 k_6
 refine WL_op <| Op_b [] 3 (.agg [.ar e32 r_]) [.ar e32 r_] (Pt.at g3 0) k_6 rfl .all (by kernel_rfl) (by kernel_rfl) ?_
 intro w_5 k_7
 refine WL_nil <| At_go <| W_seq ?_
 have k_8 := k_7.drew 1
 refine W_m yz_mixed (.q 0 0 (.q 1 0 (.op 2 .nil))) [2] k_8 (.c (.kk (.s (.k .e))) .l) (by kernel_rfl) (fun _ => ?_)
 obtain ⟨b, h_b, hm⟩ := ob hm
 have hs := slc_some h_b
 have hl := slc_len h_b
 have hn : ((Vec.rep 16 (0 : UInt32)).l).length = 16 := (Vec.rep 16 (0 : UInt32)).h
 have hc : 16 ≤ 16 := (Nat.le_refl _)
 have hc1 : b.length ≤ 16 := by omega
 refine MXq 2 0 [] (.n 12 (sl (some ⟨g2, 0, none⟩) b.length 16) (.n 13 (sl (some ⟨g, 0, none⟩) 8 8) (.k (.s (.kk (.ss .a)))))) (fun x hx => qp (0 ≤ (8 : Int) ∧ (8 : Int) ≤ ((16 : Nat) : Int)) (by omega) <| qo (.v (.slice (some ⟨g2, 0, none⟩) b.length 16)) <| qp (((some ⟨g2, 0, none⟩) : Option Addr).isSome = true ∧ Value.slice (slA (some ⟨g2, 0, none⟩) 0 16 1) (Int.toNat (8 : Int) - 0) (16 - 0) = .slice (some ⟨g2, 0, none⟩) b.length 16) ⟨rfl, slx0 _ _ _ _ _ (by omega)⟩ <| qo (.v (.slice (some ⟨g, 0, none⟩) 8 8)) <| qp (((some ⟨g, 0, none⟩) : Option Addr).isSome = true ∧ Value.slice (slA (some ⟨g, 0, none⟩) 0 8 1) (8 - 0) (8 - 0) = .slice (some ⟨g, 0, none⟩) 8 8) ⟨rfl, slx0 _ _ _ _ _ rfl⟩ <| qe) (by kernel_rfl) (fun _ => ?_)
 refine MX_op (by kernel_rfl) rfl <| Op_vcp (E := e32) (dn := b.length) (dc := 16) (v := sl (some ⟨g, 0, none⟩) 8 8) (src := h.l) (lo := 0) (m' := 16) yz_tf228 [] 14 2 [] [] (Vec.rep 16 (0 : UInt32)) (by kernel_rfl) (slA_zero _ _ _).symm k_8 rfl (Src.sl (Rd.vec (k_8.brd 0 rfl) (c := Enc.all e32 h.l) (off := 0) (by kernel_rfl)) h.h (by rfl)) h.h (by have := (Vec.rep 16 (0 : UInt32)).h; omega) (by omega) (by omega) ?_
 intro w_6 k_9
 refine ⟨(k_9.sel (.kk (.s (.k .e)))), fun _ => ?_⟩
 refine MX_nil <| At_go <| W_seq ?_
 have k_10 := k_9.drew 1
 refine W_m yz_mixed (.q 0 0 (.q 1 0 (.op 2 .nil))) [2] k_10 (.c (.kk (.s (.k .e))) .l) (by kernel_rfl) (fun _ => ?_)
 obtain ⟨b1, h_b1, hm⟩ := ob hm
 have hs1 := slc_some h_b1
 have hl1 := slc_len h_b1
 have hn1 : ((vcp (Vec.rep 16 (0 : UInt32)) 0 b.length h.l).l).length = 16 := (vcp (Vec.rep 16 (0 : UInt32)) 0 b.length h.l).h
 have hc2 : 16 ≤ 16 := (Nat.le_refl _)
 obtain ⟨A, c, e_, hc3, hA, hc4⟩ := slx (some ⟨g2, 0, none⟩) (Int.toNat (8 : Int)) 16 1 (16 - Int.toNat (8 : Int)) b1.length (by omega) (by omega)
 refine MXq 2 0 [] (.n 15 (sl A b1.length c) (.n 16 (sl (some ⟨g3, 0, none⟩) 8 8) (.ssss .a))) (fun x hx => qp (0 ≤ (8 : Int) ∧ (8 : Int) ≤ ((16 : Nat) : Int)) (by omega) <| qo (.v (.slice A b1.length c)) <| qp (((some ⟨g2, 0, none⟩) : Option Addr).isSome = true ∧ Value.slice (slA (some ⟨g2, 0, none⟩) (Int.toNat (8 : Int)) 16 1) (16 - Int.toNat (8 : Int)) (16 - Int.toNat (8 : Int)) = .slice A b1.length c) ⟨rfl, e_⟩ <| qo (.v (.slice (some ⟨g3, 0, none⟩) 8 8)) <| qp (((some ⟨g3, 0, none⟩) : Option Addr).isSome = true ∧ Value.slice (slA (some ⟨g3, 0, none⟩) 0 8 1) (8 - 0) (8 - 0) = .slice (some ⟨g3, 0, none⟩) 8 8) ⟨rfl, slx0 _ _ _ _ _ rfl⟩ <| qe) (by kernel_rfl) (fun _ => ?_)
 refine MX_op (by kernel_rfl) rfl <| Op_vcp (E := e32) (dn := b1.length) (dc := c) (v := sl (some ⟨g3, 0, none⟩) 8 8) (src := r_.l) (lo := Int.toNat (8 : Int)) (m' := 16) yz_tf228 [] 17 2 [] [] (vcp (Vec.rep 16 (0 : UInt32)) 0 b.length h.l) (by kernel_rfl) hA k_10 rfl (Src.sl (Rd.vec (k_10.brd 3 rfl) (c := Enc.all e32 r_.l) (off := 0) (by kernel_rfl)) r_.h (by rfl)) r_.h (by have := (vcp (Vec.rep 16 (0 : UInt32)) 0 b.length h.l).h; omega) (by omega) (by omega) ?_
 intro w_7 k_11
 refine ⟨(k_11.sel (.kk (.s (.k .e)))), fun _ => ?_⟩
 refine MX_nil <| At_go <| W_seq <| W_reg ?_
 obtain ⟨x_0, h_x_0, hm⟩ := ob hm
 obtain ⟨x_1, h_x_1, hm⟩ := ob hm
 refine WLs 6 [] (.n 22 (.u32 (x_0 ^^^ (UInt32.ofNat count.toNat))) (.n 23 (.v (.pointer (ixA (some ⟨g2, 0, none⟩) (12 : Int) 1))) (.sss .a))) (qV (k_11.vrd 2 rfl e32 (vcp (vcp (Vec.rep 16 (0 : UInt32)) 0 b.length h.l) (Int.toNat (8 : Int)) b1.length r_.l) 0 (by kernel_rfl)) h_x_0 rfl (.u32 x_0) rfl <| qI g2 0 h_x_1 <| qe) (by kernel_rfl) ?_
 refine WL_op ?_
 have k_12 := k_11.sel (.kkkk .e)
 obtain ⟨v, h_v, hm⟩ := nm hm
 refine Op_vs (E := e32) (kk := 0) [] 2 (.u32 (x_0 ^^^ (UInt32.ofNat count.toNat))) [.u32 (x_0 ^^^ (UInt32.ofNat count.toNat))] h_v h_x_1 (Pt.ix0 (Pt.at g2 0) (12 : Int) 1) k_12 rfl .h rfl (by kernel_rfl) (by kernel_rfl) ?_
 intro w_8 k_13
 refine WL_nil <| At_go <| W_seq <| W_reg ?_
 obtain ⟨x_2, h_x_2, hm⟩ := ob hm
 obtain ⟨x_3, h_x_3, hm⟩ := ob hm
 refine WLs 7 [] (.n 29 (.u32 (x_2 ^^^ (UInt32.ofNat (shr64 count ((32 : UInt64).toNat)).toNat))) (.n 30 (.v (.pointer (ixA (some ⟨g2, 0, none⟩) (13 : Int) 1))) (.ss (.kk (.s .a))))) (qV (k_13.vrd 2 rfl e32 v 0 (by kernel_rfl)) h_x_2 rfl (.u32 x_2) rfl <| qI g2 0 h_x_3 <| qe) (by kernel_rfl) ?_
 refine WL_op ?_
 obtain ⟨v1, h_v1, hm⟩ := nm hm
 refine Op_vs (E := e32) (kk := 0) [] 2 (.u32 (x_2 ^^^ (UInt32.ofNat (shr64 count ((32 : UInt64).toNat)).toNat))) [.u32 (x_2 ^^^ (UInt32.ofNat (shr64 count ((32 : UInt64).toNat)).toNat))] h_v1 h_x_3 (Pt.ix0 (Pt.at g2 0) (13 : Int) 1) k_13 rfl .h rfl (by kernel_rfl) (by kernel_rfl) ?_
 intro w_9 k_14
 refine WL_nil <| At_go <| W_cut (fun L wr => ∃ (v2 : Vec UInt32 16), m_mixs_Begin_j0 node v2 = some r ∧ L = [(3, .b node), (8, pt g1 0), (9, pt g2 0)] ∧ Cx F O w wr [Bx 155 g1 [.ar e32 (Vec.rep 16 (0 : UInt32))], Bx 155 g2 [.ar e32 v2]]) ?_ ?_
 ·
  refine W_seq <| W_q [] (.n 31 (.b last) (.ss (.kk (.s .a)))) qe (by kernel_rfl) ?_
  refine At_go <| W_cond last (by kernel_rfl) (fun hc5 => ?_) (fun hc5 => ?_)
  · rw [if_pos hc5] at hm
    refine W_reg ?_
    obtain ⟨x_4, h_x_4, hm⟩ := ob hm
    obtain ⟨x_5, h_x_5, hm⟩ := ob hm
    refine WLs 4 [] (.n 34 (.u32 (4294967295 ^^^ x_4)) (.n 35 (.v (.pointer (ixA (some ⟨g2, 0, none⟩) (14 : Int) 1))) (.s .a))) (qV (k_14.vrd 2 rfl e32 v1 0 (by kernel_rfl)) h_x_4 rfl (.u32 x_4) rfl <| qI g2 0 h_x_5 <| qe) (by kernel_rfl) ?_
    refine WL_op ?_
    obtain ⟨v3, h_v3, hm⟩ := nm hm
    refine Op_vs (E := e32) (kk := 0) [] 2 (.u32 (4294967295 ^^^ x_4)) [.u32 (4294967295 ^^^ x_4)] h_v3 h_x_5 (Pt.ix0 (Pt.at g2 0) (14 : Int) 1) k_14 rfl .h rfl (by kernel_rfl) (by kernel_rfl) ?_
    intro w_10 k_15
    refine WL_nil ?_
    have k_16 := k_15.sel (.s (.kk .z))
    exact At_c ⟨v3, hm, rfl, k_16⟩ (by kernel_rfl)
  rw [if_neg (by rw [hc5]; decide)] at hm
  refine W_skip ?_
  have k_17 := k_14.sel (.s (.kk .z))
  exact At_c ⟨v1, hm, rfl, k_17⟩ (by kernel_rfl)
 rintro L_ w_11 ⟨v2, hm, rfl, k_18⟩
 simp only [m_mixs_Begin_j0] at hm
 refine W_cut (fun L wr => ∃ (v4 : Vec UInt32 16), m_mixs_Begin_j1 v4 = some r ∧ L = [(8, pt g1 0), (9, pt g2 0)] ∧ Cx F O w wr [Bx 155 g1 [.ar e32 (Vec.rep 16 (0 : UInt32))], Bx 155 g2 [.ar e32 v4]]) ?_ ?_
 ·
  refine W_seq <| W_q [] (.n 36 (.b node) (.s .a)) qe (by kernel_rfl) ?_
  refine At_go <| W_cond node (by kernel_rfl) (fun hc6 => ?_) (fun hc6 => ?_)
  · rw [if_pos hc6] at hm
    refine W_reg ?_
    obtain ⟨x_6, h_x_6, hm⟩ := ob hm
    obtain ⟨x_7, h_x_7, hm⟩ := ob hm
    refine WLs 4 [] (.n 39 (.u32 (4294967295 ^^^ x_6)) (.n 40 (.v (.pointer (ixA (some ⟨g2, 0, none⟩) (15 : Int) 1))) (.s .a))) (qV (k_18.vrd 1 rfl e32 v2 0 (by kernel_rfl)) h_x_6 rfl (.u32 x_6) rfl <| qI g2 0 h_x_7 <| qe) (by kernel_rfl) ?_
    refine WL_op ?_
    obtain ⟨v5, h_v5, hm⟩ := nm hm
    refine Op_vs (E := e32) (kk := 0) [] 1 (.u32 (4294967295 ^^^ x_6)) [.u32 (4294967295 ^^^ x_6)] h_v5 h_x_7 (Pt.ix0 (Pt.at g2 0) (15 : Int) 1) k_18 rfl .h rfl (by kernel_rfl) (by kernel_rfl) ?_
    intro w_12 k_19
    refine WL_nil ?_
    exact At_c ⟨v5, hm, rfl, k_19⟩ (by kernel_rfl)
  rw [if_neg (by rw [hc6]; decide)] at hm
  refine W_skip ?_
  exact At_c ⟨v2, hm, rfl, k_18⟩ (by kernel_rfl)
 rintro L_ w_13 ⟨v4, hm, rfl, k_20⟩
 simp only [m_mixs_Begin_j1] at hm
 refine W_seq <| W_reg <| WLs 1 [] (.n 41 (.agg [.ar e32 v4]) (.k .z)) (qT k_20 1 rfl 0 16 [.ar e32 v4] (by kernel_rfl) (by decide) <| qe) (by kernel_rfl) ?_
 refine WL_op <| Op_b [] 0 (.agg [.ar e32 v4]) [.ar e32 v4] (Pt.at g1 0) k_20 rfl .all (by kernel_rfl) (by kernel_rfl) ?_
 intro w_14 k_21
 have k_22 := k_21.sel (.k .z)
 refine WL_nil <| At_go <| W_ret ?_
 obtain rfl := Option.some.inj hm
 refine At_rt [.agg [.ar e32 v4]] (qo (.agg [.ar e32 v4]) <| qc (fun w => Rd w (some ⟨g1, 0, none⟩) (SV.cl [.ar e32 v4])) (k_22.brd 0 rfl) <| qe) (by kernel_rfl) ?_
 have k_23 := k_22.sel .z
 exact ⟨rfl, k_23⟩

-- quern/mixs.places
noncomputable def m_mixs_places  : Option (Vec (Vec Int 4) 8) :=
  some (⟨[(⟨[(0 : Int), (4 : Int), (8 : Int), (12 : Int)], rfl⟩ : Vec Int 4), (⟨[(1 : Int), (5 : Int), (9 : Int), (13 : Int)], rfl⟩ : Vec Int 4), (⟨[(2 : Int), (6 : Int), (10 : Int), (14 : Int)], rfl⟩ : Vec Int 4), (⟨[(3 : Int), (7 : Int), (11 : Int), (15 : Int)], rfl⟩ : Vec Int 4), (⟨[(0 : Int), (5 : Int), (10 : Int), (15 : Int)], rfl⟩ : Vec Int 4), (⟨[(1 : Int), (6 : Int), (11 : Int), (12 : Int)], rfl⟩ : Vec Int 4), (⟨[(2 : Int), (7 : Int), (8 : Int), (13 : Int)], rfl⟩ : Vec Int 4), (⟨[(3 : Int), (4 : Int), (9 : Int), (14 : Int)], rfl⟩ : Vec Int 4)], rfl⟩ : Vec (Vec Int 4) 8)
theorem c_mixs_places {F O : Nat → Prop} {w : World} (k : Cx F O w w []) (r : (Vec (Vec Int 4) 8)) (hm : m_mixs_places = some r) :
    Calls Tryz.prog 162 (vals []) w (fun e w' => e = .returned (SV.val (.agg [.ar (eV eI 4) r])) ∧ Cx F O w w' []) := by
 unfold m_mixs_places at hm
 refine calls [] Tryz.func162 rfl (of_decide_eq_true (by kernel_rfl)) ?_
 refine W_seq <| W_reg <| WL_op <| Op_alloc [] 0 [.ar (eV eI 4) (Vec.rep 8 (Vec.rep 4 (0 : Int)))] (by kernel_rfl) k ?_
 intro g w_ k_
 refine WL_nil <| At_go <| W_seq <| W_reg <| WLs 9 [] (.n 9 (.agg [.ar (eV eI 4) (⟨[(⟨[(0 : Int), (4 : Int), (8 : Int), (12 : Int)], rfl⟩ : Vec Int 4), (⟨[(1 : Int), (5 : Int), (9 : Int), (13 : Int)], rfl⟩ : Vec Int 4), (⟨[(2 : Int), (6 : Int), (10 : Int), (14 : Int)], rfl⟩ : Vec Int 4), (⟨[(3 : Int), (7 : Int), (11 : Int), (15 : Int)], rfl⟩ : Vec Int 4), (⟨[(0 : Int), (5 : Int), (10 : Int), (15 : Int)], rfl⟩ : Vec Int 4), (⟨[(1 : Int), (6 : Int), (11 : Int), (12 : Int)], rfl⟩ : Vec Int 4), (⟨[(2 : Int), (7 : Int), (8 : Int), (13 : Int)], rfl⟩ : Vec Int 4), (⟨[(3 : Int), (4 : Int), (9 : Int), (14 : Int)], rfl⟩ : Vec Int 4)], rfl⟩ : Vec (Vec Int 4) 8)]) .a) qe (by kernel_rfl) ?_
 refine WL_op <| Op_b [] 0 (.agg [.ar (eV eI 4) (⟨[(⟨[(0 : Int), (4 : Int), (8 : Int), (12 : Int)], rfl⟩ : Vec Int 4), (⟨[(1 : Int), (5 : Int), (9 : Int), (13 : Int)], rfl⟩ : Vec Int 4), (⟨[(2 : Int), (6 : Int), (10 : Int), (14 : Int)], rfl⟩ : Vec Int 4), (⟨[(3 : Int), (7 : Int), (11 : Int), (15 : Int)], rfl⟩ : Vec Int 4), (⟨[(0 : Int), (5 : Int), (10 : Int), (15 : Int)], rfl⟩ : Vec Int 4), (⟨[(1 : Int), (6 : Int), (11 : Int), (12 : Int)], rfl⟩ : Vec Int 4), (⟨[(2 : Int), (7 : Int), (8 : Int), (13 : Int)], rfl⟩ : Vec Int 4), (⟨[(3 : Int), (4 : Int), (9 : Int), (14 : Int)], rfl⟩ : Vec Int 4)], rfl⟩ : Vec (Vec Int 4) 8)]) [.ar (eV eI 4) (⟨[(⟨[(0 : Int), (4 : Int), (8 : Int), (12 : Int)], rfl⟩ : Vec Int 4), (⟨[(1 : Int), (5 : Int), (9 : Int), (13 : Int)], rfl⟩ : Vec Int 4), (⟨[(2 : Int), (6 : Int), (10 : Int), (14 : Int)], rfl⟩ : Vec Int 4), (⟨[(3 : Int), (7 : Int), (11 : Int), (15 : Int)], rfl⟩ : Vec Int 4), (⟨[(0 : Int), (5 : Int), (10 : Int), (15 : Int)], rfl⟩ : Vec Int 4), (⟨[(1 : Int), (6 : Int), (11 : Int), (12 : Int)], rfl⟩ : Vec Int 4), (⟨[(2 : Int), (7 : Int), (8 : Int), (13 : Int)], rfl⟩ : Vec Int 4), (⟨[(3 : Int), (4 : Int), (9 : Int), (14 : Int)], rfl⟩ : Vec Int 4)], rfl⟩ : Vec (Vec Int 4) 8)] (Pt.at g 0) k_ rfl .all (by kernel_rfl) (by kernel_rfl) ?_
 intro w_1 k_1
 refine WL_nil <| At_go <| W_ret ?_
 obtain rfl := Option.some.inj hm
 refine At_rt [.agg [.ar (eV eI 4) (⟨[(⟨[(0 : Int), (4 : Int), (8 : Int), (12 : Int)], rfl⟩ : Vec Int 4), (⟨[(1 : Int), (5 : Int), (9 : Int), (13 : Int)], rfl⟩ : Vec Int 4), (⟨[(2 : Int), (6 : Int), (10 : Int), (14 : Int)], rfl⟩ : Vec Int 4), (⟨[(3 : Int), (7 : Int), (11 : Int), (15 : Int)], rfl⟩ : Vec Int 4), (⟨[(0 : Int), (5 : Int), (10 : Int), (15 : Int)], rfl⟩ : Vec Int 4), (⟨[(1 : Int), (6 : Int), (11 : Int), (12 : Int)], rfl⟩ : Vec Int 4), (⟨[(2 : Int), (7 : Int), (8 : Int), (13 : Int)], rfl⟩ : Vec Int 4), (⟨[(3 : Int), (4 : Int), (9 : Int), (14 : Int)], rfl⟩ : Vec Int 4)], rfl⟩ : Vec (Vec Int 4) 8)]] (qo (.agg [.ar (eV eI 4) (⟨[(⟨[(0 : Int), (4 : Int), (8 : Int), (12 : Int)], rfl⟩ : Vec Int 4), (⟨[(1 : Int), (5 : Int), (9 : Int), (13 : Int)], rfl⟩ : Vec Int 4), (⟨[(2 : Int), (6 : Int), (10 : Int), (14 : Int)], rfl⟩ : Vec Int 4), (⟨[(3 : Int), (7 : Int), (11 : Int), (15 : Int)], rfl⟩ : Vec Int 4), (⟨[(0 : Int), (5 : Int), (10 : Int), (15 : Int)], rfl⟩ : Vec Int 4), (⟨[(1 : Int), (6 : Int), (11 : Int), (12 : Int)], rfl⟩ : Vec Int 4), (⟨[(2 : Int), (7 : Int), (8 : Int), (13 : Int)], rfl⟩ : Vec Int 4), (⟨[(3 : Int), (4 : Int), (9 : Int), (14 : Int)], rfl⟩ : Vec Int 4)], rfl⟩ : Vec (Vec Int 4) 8)]) <| qc (fun w => Rd w (some ⟨g, 0, none⟩) (SV.cl [.ar (eV eI 4) (⟨[(⟨[(0 : Int), (4 : Int), (8 : Int), (12 : Int)], rfl⟩ : Vec Int 4), (⟨[(1 : Int), (5 : Int), (9 : Int), (13 : Int)], rfl⟩ : Vec Int 4), (⟨[(2 : Int), (6 : Int), (10 : Int), (14 : Int)], rfl⟩ : Vec Int 4), (⟨[(3 : Int), (7 : Int), (11 : Int), (15 : Int)], rfl⟩ : Vec Int 4), (⟨[(0 : Int), (5 : Int), (10 : Int), (15 : Int)], rfl⟩ : Vec Int 4), (⟨[(1 : Int), (6 : Int), (11 : Int), (12 : Int)], rfl⟩ : Vec Int 4), (⟨[(2 : Int), (7 : Int), (8 : Int), (13 : Int)], rfl⟩ : Vec Int 4), (⟨[(3 : Int), (4 : Int), (9 : Int), (14 : Int)], rfl⟩ : Vec Int 4)], rfl⟩ : Vec (Vec Int 4) 8)])) (k_1.brd 0 rfl) <| qe) (by kernel_rfl) ?_
 have k_2 := k_1.sel .z
 exact ⟨rfl, k_2⟩

-- math/bits.RotateLeft32
noncomputable def m_bits_RotateLeft32 (x_ : UInt32) (k_ : Int) : Option UInt32 :=
  some ((shl32 x_ (((UInt64.ofInt k_) &&& 31).toNat)) ||| (shr32 x_ (((32 : UInt64) - ((UInt64.ofInt k_) &&& 31)).toNat)))
theorem c_bits_RotateLeft32 {F O : Nat → Prop} {w : World} (x_ : UInt32) (k_ : Int) (k : Cx F O w w []) (r : UInt32) (hm : m_bits_RotateLeft32 x_ k_ = some r) :
    Calls Tryz.prog 165 (vals [.u32 x_, I k_]) w (fun e w' => e = .returned (SV.val (.u32 r)) ∧ Cx F O w w' []) := by
 unfold m_bits_RotateLeft32 at hm
 refine calls [.u32 x_, I k_] Tryz.func165 rfl (of_decide_eq_true (by kernel_rfl)) ?_
 refine W_seq <| W_q [] .a qe (by kernel_rfl) ?_
 refine At_go <| W_seq <| W_q [] (.n 5 (.u64 ((UInt64.ofInt k_) &&& 31)) (.k .z)) qe (by kernel_rfl) ?_
 refine At_go <| W_seq <| W_q [] (.n 4 (.u32 ((shl32 x_ (((UInt64.ofInt k_) &&& 31).toNat)) ||| (shr32 x_ (((32 : UInt64) - ((UInt64.ofInt k_) &&& 31)).toNat)))) .z) qe (by kernel_rfl) ?_
 refine At_go <| W_ret ?_
 obtain rfl := Option.some.inj hm
 refine At_rt [.u32 ((shl32 x_ (((UInt64.ofInt k_) &&& 31).toNat)) ||| (shr32 x_ (((32 : UInt64) - ((UInt64.ofInt k_) &&& 31)).toNat)))] qe (by kernel_rfl) ?_
 exact ⟨rfl, k⟩
end Go.Sx
