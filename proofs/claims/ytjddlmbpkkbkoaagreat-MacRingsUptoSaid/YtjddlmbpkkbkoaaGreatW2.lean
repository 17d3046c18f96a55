import Derived.Test.YtjddlmbpkkbkoaaGreatW1
namespace Go.Sx
open Go.RowKit Go.Proofs
set_option linter.unusedVariables false
set_option linter.unusedSimpArgs false
set_option maxRecDepth 20000
variable {F O : Nat → Prop} {w : World}
theorem c_r03_F (h : Vec UInt64 8) (m_ : Vec UInt64 16) (lo : UInt64) (hi : UInt64) (last : Bool) (node : Bool) (k : Cx F O w w []) (r : (Vec UInt64 8)) (hm : m_r03_F h m_ lo hi last node = some r) :
    Calls Tryz.prog 84 (vals [.agg [.ar e64 h], .agg [.ar e64 m_], .u64 lo, .u64 hi, .b last, .b node]) w (fun e w' => e = .returned (SV.val (.agg [.ar e64 r])) ∧ Cx F O w w' []) := by
 unfold m_r03_F at hm
 refine calz [.agg [.ar e64 h], .agg [.ar e64 m_], .u64 lo, .u64 hi, .b last, .b node] Tryz.func84 rfl ?_
 refine W_seq <| W_reg <| WL_op <| Op_box [] 6 (.agg [.ar e64 h]) [.ar e64 h] (by kernel_rfl) k ?_
 intro g w_ k_
 refine WL_op <| Op_box [] 7 (.agg [.ar e64 m_]) [.ar e64 m_] (by kernel_rfl) k_ ?_
 intro g1 w_1 k_1
 refine WL_op <| Op_alloc [] 12 [.ar e64 (Vec.rep 8 (0 : UInt64))] (by kernel_rfl) k_1 ?_
 intro g2 w_2 k_2
 refine Wn <| W_seq <| W_reg <| Wl 5 (.n 16 (.agg [.ar e64 h]) (.n 17 (.u64 lo) (.n 18 (.u64 hi) (.n 19 (.b last) (.n 20 (.b node) (.kkk .z)))))) (qT k_2 0 rfl 0 8 [.ar e64 h] (by kernel_rfl) (by decide) <| qe) ?_
 refine WL_op ?_
 obtain ⟨r_, h_r_, hm⟩ := ob hm
 refine Op_cz 21 mr_go93 (c_r03_Init (F := N0) (O := N0) _ _ _ _ _ (Cx.refl _) _ h_r_) ?_
 rintro e_ w_3 ⟨rfl, k_3⟩
 have k_4 := k_2.call k_3
 refine ⟨.agg [.ar e64 r_], rfl, ?_⟩
 refine WL_op ?_
 have k_5 := k_4.sel (.kk (.k .e))
 refine Op_alloc [] 13 [.ar e64 (Vec.rep 16 (0 : UInt64))] (by kernel_rfl) k_5 ?_
 intro g3 w_4 k_6
 refine WL_op <| Op_bz 3 (.agg [.ar e64 r_]) [.ar e64 r_] (Pt.at g3 0) k_6 rfl .all ?_
 intro w_5 k_7
 refine Wn <| W_seq <| Wz (.n 14 (I 0) (.k (.ssss (.ss .a)))) ?_
 refine W_block <| W_lp (m_r03_F_l0 h m_) (fun s L wr => ∃ (v : Vec UInt64 16) (r_1 : Int), (v, r_1) = s ∧ L = [(6, pt g 0), (7, pt g1 0), (12, pt g2 0), (13, pt g3 0), (14, I r_1)] ∧ Cx F O w wr [Bx 139 g [.ar e64 h], Bx 107 g1 [.ar e64 m_], Bx 139 g2 [.ar e64 (Vec.rep 8 (0 : UInt64))], Bx 107 g3 [.ar e64 v]]) (r_, (0 : Int)) r hm ⟨r_, (0 : Int), rfl, rfl, k_7⟩ (by kernel_rfl) ?_
 intro s0_ L_ w_6 y0 hrel hstep hr0
 obtain ⟨v, r_1, rfl, rfl, k_8⟩ := hrel
 have hm := hstep; simp only [m_r03_F_l0] at hm
 clear hstep
 refine W_seq <| Wz (.n 23 (.b (decide (r_1 < 12))) .a) ?_
 refine W_pz (r_1 < 12) (fun hc => ?_) fun hc => ?_
 · rw [if_pos hc] at hm
   refine W_skip <| At_go <| W_seq <| W_block <| W_reg <| Wl 3 (.n 27 (.agg [.ar e64 v]) (.n 28 (.agg [.ar e64 m_]) (.n 29 (I r_1) (.s .a)))) (qT k_8 3 rfl 0 16 [.ar e64 v] (by kernel_rfl) (by decide) <| qT k_8 1 rfl 0 16 [.ar e64 m_] (by kernel_rfl) (by decide) <| qe) ?_
   refine WL_op ?_
   obtain ⟨r_2, h_r_2, hm⟩ := ob hm
   refine Op_cz 30 mr_go94 (c_r03_Round (F := N0) (O := N0) _ _ _ (Cx.refl _) _ h_r_2) ?_
   rintro e_ w_7 ⟨rfl, k_9⟩
   have k_10 := k_8.call k_9
   refine ⟨.tup [.agg [.ar e64 r_2.1], I r_2.2], rfl, ?_⟩
   refine We 3 (.n 31 (.agg [.ar e64 r_2.1]) (.ssss .a)) ?_
   refine WL_op <| Op_bz 3 (.agg [.ar e64 r_2.1]) [.ar e64 r_2.1] (Pt.at g3 0) k_10 rfl .all ?_
   intro w_8 k_11
   refine WL_nil <| At_in <| At_go <| W_q [] (.n 14 (I (w64 (r_1 + 1))) (.s (.kkkk .z))) qe (by kernel_rfl) ?_
   exact At_rd (r_2.1, w64 (r_1 + 1)) (Option.some.inj hm).symm ⟨r_2.1, w64 (r_1 + 1), rfl, rfl, k_11⟩ (by kernel_rfl)
 rw [if_neg hc] at hm
 refine W_exit (At_te (At_te (At_ie ?_)))
 have hm := exit_of hm hr0
 refine At_go <| W_seq <| Wz (.n 15 (I 0) (.s (.k (.s (.kk .z))))) ?_
 refine W_block ?_
 have k_13 := k_8.sel (.k (.s (.kk .e)))
 refine W_lp (m_r03_F_l1 v) (fun s L wr => ∃ (h1 : Vec UInt64 8) (i : Int), (h1, i) = s ∧ L = [(6, pt g 0), (12, pt g2 0), (13, pt g3 0), (15, I i)] ∧ Cx F O w wr [Bx 139 g [.ar e64 h1], Bx 139 g2 [.ar e64 (Vec.rep 8 (0 : UInt64))], Bx 107 g3 [.ar e64 v]]) (h, (0 : Int)) r hm ⟨h, (0 : Int), rfl, rfl, k_13⟩ (by kernel_rfl) ?_
 intro s0_ L_ w_9 y0 hrel hstep hr0
 obtain ⟨h1, i, rfl, rfl, k_12⟩ := hrel
 have hm := hstep; simp only [m_r03_F_l1] at hm
 clear hstep
 refine W_seq <| Wz (.n 34 (.b (decide (i < 8))) .a) ?_
 refine W_pz (i < 8) (fun hc1 => ?_) fun hc1 => ?_
 · rw [if_pos hc1] at hm
   refine W_skip <| At_go <| W_seq <| W_block ?_
   have k_14 := k_12.drew 1
   refine W_m mr_mixed (.q 0 0 (.q 1 0 (.q 2 0 (.q 3 0 (.q 4 0 (.q 5 0 (.q 6 0 (.q 7 0 (.q 8 0 (.q 9 0 (.q 10 0 (.q 11 0 (.q 12 0 (.q 13 0 (.op 14 .nil))))))))))))))) [14] k_14 (.c (.s (.kk .e)) .l) (by kernel_rfl) (fun _ => ?_)
   obtain ⟨x_0, zh0, hm⟩ := ob hm
   obtain ⟨x_1, zh1, hm⟩ := ob hm
   obtain ⟨x_2, zh2, hm⟩ := ob hm
   obtain ⟨x_3, zh3, hm⟩ := ob hm
   refine MXz 14 0 (.n 49 (.u64 ((x_0 ^^^ x_1) ^^^ x_2)) (.n 50 (.v (.pointer (ixA (some ⟨g, 0, none⟩) i 1))) (.s .a))) (fun x hx => qV (hx.vrd 0 rfl e64 h1 0 (by kernel_rfl)) zh0 rfl (.u64 x_0) rfl <| qV (hx.vrd 2 rfl e64 v 0 (by kernel_rfl)) zh1 rfl (.u64 x_1) rfl <| qV (hx.vrd 2 rfl e64 v 0 (by kernel_rfl)) zh2 rfl (.u64 x_2) rfl <| qI g 0 zh3 <| qe) fun _ => ?_
   refine MX_op (by kernel_rfl) rfl ?_
   obtain ⟨v1, h_v1, hm⟩ := nm hm
   refine Op_vz 0 (.u64 ((x_0 ^^^ x_1) ^^^ x_2)) [.u64 ((x_0 ^^^ x_1) ^^^ x_2)] h_v1 zh3 (Pt.ix0 (Pt.at g 0) i 1) k_14 rfl .h rfl ?_
   intro w_10 k_15
   refine ⟨(k_15.sel (.s (.kk .e))), fun _ => ?_⟩
   refine MX_nil <| At_in <| At_go <| W_q [] (.n 15 (I (w64 (i + 1))) (.ss (.kkk .z))) qe (by kernel_rfl) ?_
   exact At_rd (v1, w64 (i + 1)) (Option.some.inj hm).symm ⟨v1, w64 (i + 1), rfl, rfl, k_15⟩ (by kernel_rfl)
 rw [if_neg hc1] at hm
 refine W_exit (At_te (At_te (At_ie ?_)))
 have hm := exit_of hm hr0
 refine At_go <| W_seq <| W_reg <| Wl 1 (.n 51 (.agg [.ar e64 h1]) (.ss (.k .z))) (qT k_12 0 rfl 0 8 [.ar e64 h1] (by kernel_rfl) (by decide) <| qe) ?_
 refine WL_op <| Op_bz 1 (.agg [.ar e64 h1]) [.ar e64 h1] (Pt.at g2 0) k_12 rfl .all ?_
 intro w_11 k_16
 have k_17 := k_16.sel (.s (.k .z))
 refine Wn <| W_ret ?_
 obtain rfl := si hm
 refine At_rz [.agg [.ar e64 h1]] (qo (.agg [.ar e64 h1]) <| qc (fun w => Rd w (some ⟨g2, 0, none⟩) (SV.cl [.ar e64 h1])) (k_17.brd 0 rfl) <| qe) ?_
 have k_18 := k_17.sel .z
 exact ⟨rfl, k_18⟩
theorem c_r04_Words (b : List UInt8) (A_b : Option Addr) (n_b : Nat) (c_b : Nat) (h_b : Ro F w A_b (e8.all b)) (hn_b : b.length = n_b) (hc_b : n_b ≤ c_b) (k : Cx F O w w []) (r : (Vec UInt32 16 × Int)) (hm : m_r04_Words b = some r) :
    Calls Tryz.prog 85 (vals [sl A_b n_b c_b]) w (fun e w' => e = .returned (SV.val (.tup [.agg [.ar e32 r.1], I r.2])) ∧ Cx F O w w' []) := by
 unfold m_r04_Words at hm
 subst hn_b
 refine calz [sl A_b b.length c_b] Tryz.func85 rfl ?_
 refine W_seq <| W_reg <| WL_op <| Op_alloc [] 2 [.ar e32 (Vec.rep 16 (0 : UInt32))] (by kernel_rfl) k ?_
 intro g w_ k_
 refine We 1 .a ?_
 refine Wn <| W_seq <| W_reg <| WL_op <| Op_alloc [] 4 [.ar e32 (Vec.rep 16 (0 : UInt32))] (by kernel_rfl) k_ ?_
 intro g1 w_1 k_1
 refine Wn <| W_seq <| W_block <| Wz (.n 6 (.b (decide ((b.length : Int) < 64))) .a) ?_
 refine W_pz ((b.length : Int) < 64) (fun hc => ?_) fun hc => ?_
 · rw [if_pos hc] at hm
   refine W_seq <| W_reg <| Wl 1 (.n 10 (.agg [.ar e32 (Vec.rep 16 (0 : UInt32))]) (.ss (.k .z))) (qT k_1 1 rfl 0 16 [.ar e32 (Vec.rep 16 (0 : UInt32))] (by kernel_rfl) (by decide) <| qe) ?_
   refine WL_op <| Op_bz 0 (.agg [.ar e32 (Vec.rep 16 (0 : UInt32))]) [.ar e32 (Vec.rep 16 (0 : UInt32))] (Pt.at g 0) k_1 rfl .all ?_
   intro w_2 k_2
   have k_3 := k_2.sel (.k .z)
   refine We 1 (.n 3 (I 3) (.s .a)) ?_
   refine Wn <| W_ret (At_ir (At_tr ?_))
   obtain rfl := si hm
   refine At_rz [.agg [.ar e32 (Vec.rep 16 (0 : UInt32))], I 3] (qo (.agg [.ar e32 (Vec.rep 16 (0 : UInt32))]) <| qc (fun w => Rd w (some ⟨g, 0, none⟩) (SV.cl [.ar e32 (Vec.rep 16 (0 : UInt32))])) (k_3.brd 0 rfl) <| qe) ?_
   have k_4 := k_3.sel .z
   exact ⟨rfl, k_4⟩
 rw [if_neg hc] at hm
 refine Wz (.n 11 (.b (decide (64 < (b.length : Int)))) (.s .a)) ?_
 refine W_pz (64 < (b.length : Int)) (fun hc1 => ?_) fun hc1 => ?_
 · rw [if_pos hc1] at hm
   refine W_seq <| W_reg <| Wl 1 (.n 15 (.agg [.ar e32 (Vec.rep 16 (0 : UInt32))]) (.ss (.k .z))) (qT k_1 1 rfl 0 16 [.ar e32 (Vec.rep 16 (0 : UInt32))] (by kernel_rfl) (by decide) <| qe) ?_
   refine WL_op <| Op_bz 0 (.agg [.ar e32 (Vec.rep 16 (0 : UInt32))]) [.ar e32 (Vec.rep 16 (0 : UInt32))] (Pt.at g 0) k_1 rfl .all ?_
   intro w_3 k_5
   have k_6 := k_5.sel (.k .z)
   refine We 1 (.n 3 (I 2) (.s .a)) ?_
   refine Wn <| W_ret (At_ir (At_tr ?_))
   obtain rfl := si hm
   refine At_rz [.agg [.ar e32 (Vec.rep 16 (0 : UInt32))], I 2] (qo (.agg [.ar e32 (Vec.rep 16 (0 : UInt32))]) <| qc (fun w => Rd w (some ⟨g, 0, none⟩) (SV.cl [.ar e32 (Vec.rep 16 (0 : UInt32))])) (k_6.brd 0 rfl) <| qe) ?_
   have k_7 := k_6.sel .z
   exact ⟨rfl, k_7⟩
 rw [if_neg hc1] at hm
 refine W_skip <| At_in <| At_go <| W_seq <| Wz (.n 5 (I 0) (.s .a)) ?_
 refine W_block <| W_lp (m_r04_Words_l0 b) (fun s L wr => ∃ (m_ : Vec UInt32 16) (i : Int), (m_, i) = s ∧ L = [(0, sl A_b b.length c_b), (2, pt g 0), (4, pt g1 0), (5, I i)] ∧ Cx F O w wr [Bx 144 g [.ar e32 (Vec.rep 16 (0 : UInt32))], Bx 144 g1 [.ar e32 m_]]) ((Vec.rep 16 (0 : UInt32)), (0 : Int)) r hm ⟨(Vec.rep 16 (0 : UInt32)), (0 : Int), rfl, rfl, k_1⟩ (by kernel_rfl) ?_
 intro s0_ L_ w_4 y0 hrel hstep hr0
 obtain ⟨m_, i, rfl, rfl, k_8⟩ := hrel
 have hm := hstep; simp only [m_r04_Words_l0] at hm
 clear hstep
 refine W_seq <| Wz (.n 17 (.b (decide (i < 16))) .a) ?_
 refine W_pz (i < 16) (fun hc2 => ?_) fun hc2 => ?_
 · rw [if_pos hc2] at hm
   refine W_skip <| At_go <| W_seq <| W_block <| W_reg <| We 4 (.n 20 (I i) (.n 21 (sl A_b b.length c_b) (.n 23 (I (w64 (4 * i))) (.s .a)))) ?_
   refine WL_op ?_
   obtain ⟨r_, h_r_, hm⟩ := ob hm
   refine Op_cz 24 mr_go95 (c_r04_load (F := N0) (O := N0) _ _ _ _ _ (Ro.n0 (h_b.cx k_8)) rfl hc_b (Cx.refl _) _ h_r_) ?_
   rintro e_ w_5 ⟨rfl, k_9⟩
   have k_10 := k_8.call k_9
   refine ⟨.u32 r_, rfl, ?_⟩
   obtain ⟨x_0, zh0, hm⟩ := ob hm
   refine Wl 1 (.n 25 (.v (.pointer (ixA (some ⟨g1, 0, none⟩) i 1))) (.k (.sss .a))) (qI g1 0 zh0 <| qe) ?_
   refine WL_op ?_
   obtain ⟨v, h_v, hm⟩ := nm hm
   refine Op_vz 1 (.u32 r_) [.u32 r_] h_v zh0 (Pt.ix0 (Pt.at g1 0) i 1) k_10 rfl .h rfl ?_
   intro w_6 k_11
   refine WL_nil <| At_in <| At_go <| W_q [] (.n 5 (I (w64 (i + 1))) (.ss (.kkk .z))) qe (by kernel_rfl) ?_
   exact At_rd (v, w64 (i + 1)) (Option.some.inj hm).symm ⟨v, w64 (i + 1), rfl, rfl, k_11⟩ (by kernel_rfl)
 rw [if_neg hc2] at hm
 refine W_exit (At_te (At_te (At_ie ?_)))
 have hm := exit_of hm hr0
 refine At_go <| W_seq <| W_reg <| Wl 1 (.n 26 (.agg [.ar e32 m_]) (.ss (.k .z))) (qT k_8 1 rfl 0 16 [.ar e32 m_] (by kernel_rfl) (by decide) <| qe) ?_
 refine WL_op <| Op_bz 0 (.agg [.ar e32 m_]) [.ar e32 m_] (Pt.at g 0) k_8 rfl .all ?_
 intro w_7 k_12
 have k_13 := k_12.sel (.k .z)
 refine We 1 (.n 3 (I 0) (.s .a)) ?_
 refine Wn <| W_ret ?_
 obtain rfl := si hm
 refine At_rz [.agg [.ar e32 m_], I 0] (qo (.agg [.ar e32 m_]) <| qc (fun w => Rd w (some ⟨g, 0, none⟩) (SV.cl [.ar e32 m_])) (k_13.brd 0 rfl) <| qe) ?_
 have k_14 := k_13.sel .z
 exact ⟨rfl, k_14⟩
theorem c_r04_Begin (h : Vec UInt32 8) (count : UInt64) (last : Bool) (node : Bool) (k : Cx F O w w []) (r : (Vec UInt32 16)) (hm : m_r04_Begin h count last node = some r) :
    Calls Tryz.prog 96 (vals [.agg [.ar e32 h], .u64 count, .b last, .b node]) w (fun e w' => e = .returned (SV.val (.agg [.ar e32 r])) ∧ Cx F O w w' []) := by
 unfold m_r04_Begin at hm
 refine calz [.agg [.ar e32 h], .u64 count, .b last, .b node] Tryz.func96 rfl ?_
 refine W_seq <| W_reg <| WL_op <| Op_box [] 4 (.agg [.ar e32 h]) [.ar e32 h] (by kernel_rfl) k ?_
 intro g w_ k_
 refine WL_op <| Op_alloc [] 8 [.ar e32 (Vec.rep 16 (0 : UInt32))] (by kernel_rfl) k_ ?_
 intro g1 w_1 k_1
 refine Wn <| W_seq <| W_reg <| WL_op <| Op_alloc [] 9 [.ar e32 (Vec.rep 16 (0 : UInt32))] (by kernel_rfl) k_1 ?_
 intro g2 w_2 k_2
 refine Wn <| W_seq <| W_reg <| WL_op ?_
 obtain ⟨r_, h_r_, hm⟩ := ob hm
 refine Op_cz 12 mr_go109 (c_r04_IV (F := N0) (O := N0)  (Cx.refl _) _ h_r_) ?_
 rintro e_ w_3 ⟨rfl, k_3⟩
 have k_4 := k_2.call k_3
 refine ⟨.agg [.ar e32 r_], rfl, ?_⟩
 refine WL_op ?_
 have k_5 := k_4.sel (.kk (.k .e))
 refine Op_alloc [] 10 [.ar e32 (Vec.rep 8 (0 : UInt32))] (by kernel_rfl) k_5 ?_
 intro g3 w_4 k_6
 refine WL_op <| Op_bz 3 (.agg [.ar e32 r_]) [.ar e32 r_] (Pt.at g3 0) k_6 rfl .all ?_
 intro w_5 k_7
 refine Wn <| W_seq <| Wz (.n 11 (I 0) (.k (.s (.kkk (.s .a))))) ?_
 refine W_block <| W_lp (m_r04_Begin_l0 h count last node r_) (fun s L wr => ∃ (v : Vec UInt32 16) (i : Int), (v, i) = s ∧ L = [(1, .u64 count), (2, .b last), (3, .b node), (4, pt g 0), (8, pt g1 0), (9, pt g2 0), (10, pt g3 0), (11, I i)] ∧ Cx F O w wr [Bx 143 g [.ar e32 h], Bx 144 g1 [.ar e32 (Vec.rep 16 (0 : UInt32))], Bx 144 g2 [.ar e32 v], Bx 143 g3 [.ar e32 r_]]) ((Vec.rep 16 (0 : UInt32)), (0 : Int)) r hm ⟨(Vec.rep 16 (0 : UInt32)), (0 : Int), rfl, rfl, k_7⟩ (by kernel_rfl) ?_
 intro s0_ L_ w_6 y0 hrel hstep hr0
 obtain ⟨v, i, rfl, rfl, k_8⟩ := hrel
 have hm := hstep; simp only [m_r04_Begin_l0] at hm
 clear hstep
 refine W_seq <| Wz (.n 14 (.b (decide (i < 8))) .a) ?_
 refine W_pz (i < 8) (fun hc => ?_) fun hc => ?_
 · rw [if_pos hc] at hm
   refine W_skip <| At_go <| W_seq <| W_block <| W_seq <| W_reg ?_
   obtain ⟨x_0, zh0, hm⟩ := ob hm
   obtain ⟨x_1, zh1, hm⟩ := ob hm
   refine Wl 5 (.n 20 (.u32 x_0) (.n 21 (.v (.pointer (ixA (some ⟨g2, 0, none⟩) i 1))) (.s .a))) (qV (k_8.vrd 0 rfl e32 h 0 (by kernel_rfl)) zh0 rfl (.u32 x_0) rfl <| qI g2 0 zh1 <| qe) ?_
   refine WL_op ?_
   obtain ⟨v1, h_v1, hm⟩ := nm hm
   refine Op_vz 2 (.u32 x_0) [.u32 x_0] h_v1 zh1 (Pt.ix0 (Pt.at g2 0) i 1) k_8 rfl .h rfl ?_
   intro w_7 k_9
   refine Wn <| W_reg ?_
   obtain ⟨x_2, zh2, hm⟩ := ob hm
   obtain ⟨x_3, zh3, hm⟩ := ob hm
   refine Wl 6 (.n 26 (.u32 x_2) (.n 27 (.v (.pointer (ixA (some ⟨g2, 0, none⟩) (w64 (i + 8)) 1))) (.ss .a))) (qV (k_9.vrd 3 rfl e32 r_ 0 (by kernel_rfl)) zh2 rfl (.u32 x_2) rfl <| qI g2 0 zh3 <| qe) ?_
   refine WL_op ?_
   obtain ⟨v2, h_v2, hm⟩ := nm hm
   refine Op_vz 2 (.u32 x_2) [.u32 x_2] h_v2 zh3 (Pt.ix0 (Pt.at g2 0) (w64 (i + 8)) 1) k_9 rfl .h rfl ?_
   intro w_8 k_10
   refine WL_nil <| At_in <| At_go <| W_q [] (.n 11 (I (w64 (i + 1))) (.ss (.kkkk (.kkk .z)))) qe (by kernel_rfl) ?_
   exact At_rd (v2, w64 (i + 1)) (Option.some.inj hm).symm ⟨v2, w64 (i + 1), rfl, rfl, k_10⟩ (by kernel_rfl)
 rw [if_neg hc] at hm
 refine W_exit (At_te (At_te (At_ie ?_)))
 have hm := exit_of hm hr0
 refine At_go <| W_seq <| W_reg ?_
 obtain ⟨x_4, zh4, hm⟩ := ob hm
 obtain ⟨x_5, zh5, hm⟩ := ob hm
 refine Wl 6 (.n 32 (.u32 (x_4 ^^^ (UInt32.ofNat count.toNat))) (.n 33 (.v (.pointer (ixA (some ⟨g2, 0, none⟩) (12 : Int) 1))) (.s (.kkk (.s (.kk .z)))))) (qV (k_8.vrd 2 rfl e32 v 0 (by kernel_rfl)) zh4 rfl (.u32 x_4) rfl <| qI g2 0 zh5 <| qe) ?_
 refine WL_op ?_
 obtain ⟨v3, h_v3, hm⟩ := nm hm
 refine Op_vz 2 (.u32 (x_4 ^^^ (UInt32.ofNat count.toNat))) [.u32 (x_4 ^^^ (UInt32.ofNat count.toNat))] h_v3 zh5 (Pt.ix0 (Pt.at g2 0) (12 : Int) 1) k_8 rfl .h rfl ?_
 intro w_9 k_11
 refine Wn <| W_seq <| W_reg ?_
 obtain ⟨x_6, zh6, hm⟩ := ob hm
 obtain ⟨x_7, zh7, hm⟩ := ob hm
 refine Wl 7 (.n 39 (.u32 (x_6 ^^^ (UInt32.ofNat (shr64 count ((32 : UInt64).toNat)).toNat))) (.n 40 (.v (.pointer (ixA (some ⟨g2, 0, none⟩) (13 : Int) 1))) (.sss .a))) (qV (k_11.vrd 2 rfl e32 v3 0 (by kernel_rfl)) zh6 rfl (.u32 x_6) rfl <| qI g2 0 zh7 <| qe) ?_
 refine WL_op ?_
 obtain ⟨v4, h_v4, hm⟩ := nm hm
 refine Op_vz 2 (.u32 (x_6 ^^^ (UInt32.ofNat (shr64 count ((32 : UInt64).toNat)).toNat))) [.u32 (x_6 ^^^ (UInt32.ofNat (shr64 count ((32 : UInt64).toNat)).toNat))] h_v4 zh7 (Pt.ix0 (Pt.at g2 0) (13 : Int) 1) k_11 rfl .h rfl ?_
 intro w_10 k_12
 refine Wn <| W_cut (fun L wr => ∃ (v5 : Vec UInt32 16), m_r04_Begin_j0 node v5 = some r ∧ L = [(3, .b node), (8, pt g1 0), (9, pt g2 0)] ∧ Cx F O w wr [Bx 144 g1 [.ar e32 (Vec.rep 16 (0 : UInt32))], Bx 144 g2 [.ar e32 v5]]) ?_ ?_
 ·
  refine Wz (.n 41 (.b last) (.sss .a)) ?_
  refine W_cz last (fun hc1 => ?_) fun hc1 => ?_
  · rw [if_pos hc1] at hm
    refine W_reg ?_
    obtain ⟨x_8, zh8, hm⟩ := ob hm
    obtain ⟨x_9, zh9, hm⟩ := ob hm
    refine Wl 4 (.n 44 (.u32 (x_8 ^^^ 4294967295)) (.n 45 (.v (.pointer (ixA (some ⟨g2, 0, none⟩) (14 : Int) 1))) (.s .a))) (qV (k_12.vrd 2 rfl e32 v4 0 (by kernel_rfl)) zh8 rfl (.u32 x_8) rfl <| qI g2 0 zh9 <| qe) ?_
    refine WL_op ?_
    obtain ⟨v6, h_v6, hm⟩ := nm hm
    refine Op_vz 2 (.u32 (x_8 ^^^ 4294967295)) [.u32 (x_8 ^^^ 4294967295)] h_v6 zh9 (Pt.ix0 (Pt.at g2 0) (14 : Int) 1) k_12 rfl .h rfl ?_
    intro w_11 k_13
    refine WL_nil ?_
    have k_14 := k_13.sel (.s (.kk .z))
    exact At_cz ⟨v6, hm, rfl, k_14⟩
  rw [if_neg (by rw [hc1]; decide)] at hm
  refine W_skip ?_
  have k_15 := k_12.sel (.s (.kk .z))
  exact At_cz ⟨v4, hm, rfl, k_15⟩
 rintro L_ w_12 ⟨v5, hm, rfl, k_16⟩
 simp only [m_r04_Begin_j0] at hm
 refine W_cut (fun L wr => ∃ (v7 : Vec UInt32 16), m_r04_Begin_j1 v7 = some r ∧ L = [(8, pt g1 0), (9, pt g2 0)] ∧ Cx F O w wr [Bx 144 g1 [.ar e32 (Vec.rep 16 (0 : UInt32))], Bx 144 g2 [.ar e32 v7]]) ?_ ?_
 ·
  refine Wz (.n 46 (.b node) (.s .a)) ?_
  refine W_cz node (fun hc2 => ?_) fun hc2 => ?_
  · rw [if_pos hc2] at hm
    refine W_reg ?_
    obtain ⟨x_10, zh10, hm⟩ := ob hm
    obtain ⟨x_11, zh11, hm⟩ := ob hm
    refine Wl 4 (.n 49 (.u32 (x_10 ^^^ 4294967295)) (.n 50 (.v (.pointer (ixA (some ⟨g2, 0, none⟩) (15 : Int) 1))) (.s .a))) (qV (k_16.vrd 1 rfl e32 v5 0 (by kernel_rfl)) zh10 rfl (.u32 x_10) rfl <| qI g2 0 zh11 <| qe) ?_
    refine WL_op ?_
    obtain ⟨v8, h_v8, hm⟩ := nm hm
    refine Op_vz 1 (.u32 (x_10 ^^^ 4294967295)) [.u32 (x_10 ^^^ 4294967295)] h_v8 zh11 (Pt.ix0 (Pt.at g2 0) (15 : Int) 1) k_16 rfl .h rfl ?_
    intro w_13 k_17
    refine WL_nil ?_
    exact At_cz ⟨v8, hm, rfl, k_17⟩
  rw [if_neg (by rw [hc2]; decide)] at hm
  refine W_skip ?_
  exact At_cz ⟨v5, hm, rfl, k_16⟩
 rintro L_ w_14 ⟨v7, hm, rfl, k_18⟩
 simp only [m_r04_Begin_j1] at hm
 refine W_seq <| W_reg <| Wl 1 (.n 51 (.agg [.ar e32 v7]) (.k .z)) (qT k_18 1 rfl 0 16 [.ar e32 v7] (by kernel_rfl) (by decide) <| qe) ?_
 refine WL_op <| Op_bz 0 (.agg [.ar e32 v7]) [.ar e32 v7] (Pt.at g1 0) k_18 rfl .all ?_
 intro w_15 k_19
 have k_20 := k_19.sel (.k .z)
 refine Wn <| W_ret ?_
 obtain rfl := si hm
 refine At_rz [.agg [.ar e32 v7]] (qo (.agg [.ar e32 v7]) <| qc (fun w => Rd w (some ⟨g1, 0, none⟩) (SV.cl [.ar e32 v7])) (k_20.brd 0 rfl) <| qe) ?_
 have k_21 := k_20.sel .z
 exact ⟨rfl, k_21⟩
theorem c_r04_four (i : Int) (k : Cx F O w w []) (r : (Int × Int × Int × Int)) (hm : m_r04_four i = some r) :
    Calls Tryz.prog 113 (vals [I i]) w (fun e w' => e = .returned (SV.val (.tup [I r.1, I r.2.1, I r.2.2.1, I r.2.2.2])) ∧ Cx F O w w' []) := by
 unfold m_r04_four at hm
 refine calz [I i] Tryz.func113 rfl ?_
 refine Wz .a ?_
 refine W_seq <| Wz (.n 8 (.b (decide (i < 4))) .a) ?_
 refine W_pz (i < 4) (fun hc => ?_) fun hc => ?_
 · rw [if_pos hc] at hm
   refine Wz (.n 2 (I i) (.n 3 (I (w64 (i + 4))) (.n 4 (I (w64 (i + 8))) (.n 5 (I (w64 (i + 12))) .z)))) ?_
   refine W_ret (At_tr ?_)
   obtain rfl := si hm
   refine At_rz [I i, I (w64 (i + 4)), I (w64 (i + 8)), I (w64 (i + 12))] qe ?_
   exact ⟨rfl, k⟩
 rw [if_neg hc] at hm
 refine W_skip <| At_go <| Wz (.n 6 (I (w64 (i - 4))) .z) ?_
 refine W_seq <| Wa (.n 2 (I (w64 (i - 4))) (.n 3 (I (w64 (4 + (Int.tmod (w64 ((w64 (i - 4)) + 1)) 4)))) (.n 4 (I (w64 (8 + (Int.tmod (w64 ((w64 (i - 4)) + 2)) 4)))) (.n 5 (I (w64 (12 + (Int.tmod (w64 ((w64 (i - 4)) + 3)) 4)))) .z)))) (qp ((4 : Int) ≠ (0 : Int)) (by omega) <| qp ((4 : Int) ≠ (0 : Int)) (by omega) <| qp ((4 : Int) ≠ (0 : Int)) (by omega) <| qe) ?_
 refine W_ret ?_
 obtain rfl := si hm
 refine At_rz [I (w64 (i - 4)), I (w64 (4 + (Int.tmod (w64 ((w64 (i - 4)) + 1)) 4))), I (w64 (8 + (Int.tmod (w64 ((w64 (i - 4)) + 2)) 4))), I (w64 (12 + (Int.tmod (w64 ((w64 (i - 4)) + 3)) 4)))] qe ?_
 exact ⟨rfl, k⟩
theorem c_r04_places (a_ : Int) (b : Int) (c : Int) (d : Int) (k : Cx F O w w []) (r : Bool) (hm : m_r04_places a_ b c d = some r) :
    Calls Tryz.prog 129 (vals [I a_, I b, I c, I d]) w (fun e w' => e = .returned (SV.val (.b r)) ∧ Cx F O w w' []) := by
 unfold m_r04_places at hm
 refine calz [I a_, I b, I c, I d] Tryz.func129 rfl ?_
 refine Wz .a ?_
 refine W_seq <| W_reg <| We 4 (.n 12 (I a_) (.n 13 (I b) (.n 14 (I c) (.n 15 (I d) .z)))) ?_
 refine WL_op <| Op_mk mr_tf216 eI [] 16 ([a_, b, c, d] : List Int) [(0, I a_), (1, I b), (2, I c), (3, I d)] [I a_, I b, I c, I d] (by kernel_rfl) (by kernel_rfl) (by kernel_rfl) k ?_
 intro A w_ k_
 refine We 1 (.n 9 (sl A 4 4) .z) ?_
 refine Wn <| W_seq <| Wz (.n 10 (I 0) .a) ?_
 refine W_block <| W_lp (m_r04_places_l0 a_ b c d) (fun s L wr => ∃ (i : Int), i = s ∧ L = [(9, sl A 4 4), (10, I i)] ∧ Cx F O w wr [Ow eI A 4 4 ([a_, b, c, d] : List Int)]) (0 : Int) r hm ⟨(0 : Int), rfl, rfl, k_⟩ (by kernel_rfl) ?_
 intro s0_ L_ w_1 y0 hrel hstep hr0
 obtain ⟨i, rfl, rfl, k_1⟩ := hrel
 have hm := hstep; simp only [m_r04_places_l0] at hm
 clear hstep
 refine W_seq <| Wz (.n 18 (.b (decide (i < 4))) .a) ?_
 refine W_pz (i < 4) (fun hc => ?_) fun hc => ?_
 · rw [if_pos hc] at hm
   refine W_skip <| At_go <| W_seq <| W_block <| W_seq <| W_seq ?_
   obtain ⟨x_0, zh0, hm⟩ := ob hm
   obtain ⟨x_1, zh1, hm⟩ := ob hm
   refine Wa (.n 32 (.b ((decide (x_0 < 0)) || (decide (15 < x_1)))) (.s .a)) (qW (k_1.rd 0 rfl) zh0 (k_1.len 0 rfl) (I x_0) rfl <| qp ((decide (x_0 < 0)) = false → 0 ≤ i ∧ i < ((4 : Nat) : Int) ∧ A.isSome = true) (fun hg0 => Rd.ix (E := eI) (k_1.rd 0 rfl) (gif_not zh1 hg0) (k_1.len 0 rfl) (by decide)) <| qo (I x_1) <| qc (fun w => (decide (x_0 < 0)) = false → ∃ a, ixA A i 1 = some a ∧ w.cell? a = some (SV.val (I x_1))) (fun hg0 => Rd.el (k := 0) (k_1.rd 0 rfl) (gif_not zh1 hg0) (Pt.ix1 A i 1) rfl) <| qe) ?_
   refine W_cz ((decide (x_0 < 0)) || (decide (15 < x_1))) (fun hc1 => ?_) fun hc1 => ?_
   · rw [if_pos hc1] at hm
     refine Wz (.n 8 (.b false) .z) ?_
     refine W_ret (At_tr (At_ir (At_tr (At_tr (At_ir (At_tr ?_))))))
     have hm := exit_of hm hr0
     obtain rfl := si hm
     refine At_rz [.b false] qe ?_
     have k_2 := k_1.sel .z
     exact ⟨rfl, k_2⟩
   rw [if_neg (by rw [hc1]; decide)] at hm
   refine W_skip <| At_go <| Wz (.n 11 (I 0) (.s .a)) ?_
   refine W_block <| W_lp (m_r04_places_l1 a_ b c d i) (fun s L wr => ∃ (j : Int), j = s ∧ L = [(9, sl A 4 4), (10, I i), (11, I j)] ∧ Cx F O w wr [Ow eI A 4 4 ([a_, b, c, d] : List Int)]) (0 : Int) y0 hm ⟨(0 : Int), rfl, rfl, k_1⟩ (by kernel_rfl) ?_
   intro s1_ L_ w_2 y1 hrel hstep hr1
   obtain ⟨j, rfl, rfl, k_3⟩ := hrel
   have hm := hstep; simp only [m_r04_places_l1] at hm
   clear hstep
   refine W_seq <| Wz (.n 35 (.b (decide (j < i))) .a) ?_
   refine W_pz (j < i) (fun hc2 => ?_) fun hc2 => ?_
   · rw [if_pos hc2] at hm
     refine W_skip <| At_go <| W_seq <| W_block <| W_seq ?_
     obtain ⟨x_2, zh2, hm⟩ := ob hm
     obtain ⟨x_3, zh3, hm⟩ := ob hm
     refine W_d mr_mixed (by kernel_rfl) (.n 46 (.b (decide (x_2 = x_3))) (.s .a)) (fun m => qW ((k_3.drew m).rd 0 rfl) zh2 (k_3.len 0 rfl) (I x_2) rfl <| qW ((k_3.drew m).rd 0 rfl) zh3 (k_3.len 0 rfl) (I x_3) rfl <| qe) (by kernel_rfl) (fun m_ => ?_)
     have k_4 := k_3.drew m_
     refine At_go <| W_pz (x_2 = x_3) (fun hc3 => ?_) fun hc3 => ?_
     · rw [if_pos hc3] at hm
       refine Wz (.n 8 (.b false) .z) ?_
       refine W_ret (At_ir (At_tr (At_tr (At_ir (At_ir (At_tr (At_tr (At_ir (At_tr ?_)))))))))
       have hm := exit_of hm hr1
       have hm := exit_of hm hr0
       obtain rfl := si hm
       refine At_rz [.b false] qe ?_
       have k_5 := k_4.sel .z
       exact ⟨rfl, k_5⟩
     rw [if_neg hc3] at hm
     refine W_skip <| At_in <| At_go <| W_q [] (.n 11 (I (w64 (j + 1))) (.s (.kk .z))) qe (by kernel_rfl) ?_
     exact At_rd (w64 (j + 1)) (Option.some.inj hm).symm ⟨w64 (j + 1), rfl, rfl, k_4⟩ (by kernel_rfl)
   rw [if_neg hc2] at hm
   refine W_exit (At_te (At_te (At_ie ?_)))
   have hm := exit_of hm hr1
   refine At_in <| At_go <| W_q [] (.n 10 (I (w64 (i + 1))) (.s (.k .z))) qe (by kernel_rfl) ?_
   exact At_rd (w64 (i + 1)) (Option.some.inj hm).symm ⟨w64 (i + 1), rfl, rfl, k_3⟩ (by kernel_rfl)
 rw [if_neg hc] at hm
 refine W_exit (At_te (At_te (At_ie ?_)))
 have hm := exit_of hm hr0
 refine At_go <| Wz (.n 8 (.b true) .z) ?_
 refine W_ret ?_
 obtain rfl := si hm
 refine At_rz [.b true] qe ?_
 have k_6 := k_1.sel .z
 exact ⟨rfl, k_6⟩
theorem c_r04_turn (x_ : UInt32) (r_ : Int) (k : Cx F O w w []) (r : UInt32) (hm : m_r04_turn x_ r_ = some r) :
    Calls Tryz.prog 130 (vals [.u32 x_, I r_]) w (fun e w' => e = .returned (SV.val (.u32 r)) ∧ Cx F O w w' []) := by
 unfold m_r04_turn at hm
 refine calz [.u32 x_, I r_] Tryz.func130 rfl ?_
 refine Wz .a ?_
 refine Wz (.n 4 (.u32 ((shr32 x_ ((UInt64.ofInt r_).toNat)) ||| (shl32 x_ ((UInt64.ofInt (w64 (32 - r_))).toNat)))) .z) ?_
 refine W_ret ?_
 obtain rfl := si hm
 refine At_rz [.u32 ((shr32 x_ ((UInt64.ofInt r_).toNat)) ||| (shl32 x_ ((UInt64.ofInt (w64 (32 - r_))).toNat)))] qe ?_
 exact ⟨rfl, k⟩
theorem c_r04_G (v : Vec UInt32 16) (a_ : Int) (b : Int) (c : Int) (d : Int) (x_ : UInt32) (y_ : UInt32) (k : Cx F O w w []) (r : (Vec UInt32 16 × Int)) (hm : m_r04_G v a_ b c d x_ y_ = some r) :
    Calls Tryz.prog 114 (vals [.agg [.ar e32 v], I a_, I b, I c, I d, .u32 x_, .u32 y_]) w (fun e w' => e = .returned (SV.val (.tup [.agg [.ar e32 r.1], I r.2])) ∧ Cx F O w w' []) := by
 unfold m_r04_G at hm
 refine calz [.agg [.ar e32 v], I a_, I b, I c, I d, .u32 x_, .u32 y_] Tryz.func114 rfl ?_
 refine W_seq <| W_reg <| WL_op <| Op_box [] 7 (.agg [.ar e32 v]) [.ar e32 v] (by kernel_rfl) k ?_
 intro g w_ k_
 refine WL_op <| Op_alloc [] 14 [.ar e32 (Vec.rep 16 (0 : UInt32))] (by kernel_rfl) k_ ?_
 intro g1 w_1 k_1
 refine We 1 (.kk (.s .a)) ?_
 refine Wn <| W_seq <| W_seq <| W_reg <| We 4 (.n 16 (I a_) (.n 17 (I b) (.n 18 (I c) (.n 19 (I d) .a)))) ?_
 refine WL_op ?_
 obtain ⟨r_, h_r_, hm⟩ := ob hm
 refine Op_cz 20 mr_go129 (c_r04_places (F := N0) (O := N0) _ _ _ _ (Cx.refl _) _ h_r_) ?_
 rintro e_ w_2 ⟨rfl, k_2⟩
 have k_3 := k_1.call k_2
 refine ⟨.b r_, rfl, ?_⟩
 refine We 1 (.n 21 (.b (!r_)) (.ssss (.s .a))) ?_
 refine Wn <| W_cz (!r_) (fun hc => ?_) fun hc => ?_
 · rw [if_pos hc] at hm
   refine W_seq <| W_reg <| We 1 (.n 22 (.agg [.ar e32 (Vec.rep 16 ((0 : UInt32) : UInt32))]) (.s (.k .z))) ?_
   refine WL_op <| Op_bz 1 (.agg [.ar e32 (Vec.rep 16 ((0 : UInt32) : UInt32))]) [.ar e32 (Vec.rep 16 ((0 : UInt32) : UInt32))] (Pt.at g1 0) k_3 rfl .all ?_
   intro w_3 k_4
   have k_5 := k_4.sel (.s (.k .e))
   refine We 1 (.n 15 (I 1) (.s .a)) ?_
   refine Wn <| W_ret (At_tr ?_)
   obtain rfl := si hm
   refine At_rz [.agg [.ar e32 (Vec.rep 16 ((0 : UInt32) : UInt32))], I 1] (qo (.agg [.ar e32 (Vec.rep 16 ((0 : UInt32) : UInt32))]) <| qc (fun w => Rd w (some ⟨g1, 0, none⟩) (SV.cl [.ar e32 (Vec.rep 16 ((0 : UInt32) : UInt32))])) (k_5.brd 0 rfl) <| qe) ?_
   have k_6 := k_5.sel .z
   exact ⟨rfl, k_6⟩
 rw [if_neg (by rw [hc]; decide)] at hm
 refine W_skip <| At_go <| W_seq ?_
 have k_7 := k_3.drew 1
 refine W_m mr_mixed (.q 0 0 (.q 1 0 (.q 2 0 (.q 3 0 (.q 4 0 (.q 5 0 (.q 6 0 (.q 7 0 (.q 8 0 (.q 9 0 (.q 10 0 (.op 11 .nil)))))))))))) [11] k_7 (.c (.s (.k .e)) .l) (by kernel_rfl) (fun _ => ?_)
 obtain ⟨x_3, zh3, hm⟩ := ob hm
 obtain ⟨x_4, zh4, hm⟩ := ob hm
 obtain ⟨x_5, zh5, hm⟩ := ob hm
 refine MXz 11 0 (.n 32 (.u32 ((x_3 + x_4) + x_)) (.n 33 (.v (.pointer (ixA (some ⟨g, 0, none⟩) a_ 1))) (.s (.kkkk (.kk (.s .a)))))) (fun x hx => qV (hx.vrd 0 rfl e32 v 0 (by kernel_rfl)) zh3 rfl (.u32 x_3) rfl <| qV (hx.vrd 0 rfl e32 v 0 (by kernel_rfl)) zh4 rfl (.u32 x_4) rfl <| qI g 0 zh5 <| qe) fun _ => ?_
 refine MX_op (by kernel_rfl) rfl ?_
 obtain ⟨v1, h_v1, hm⟩ := nm hm
 refine Op_vz 0 (.u32 ((x_3 + x_4) + x_)) [.u32 ((x_3 + x_4) + x_)] h_v1 zh5 (Pt.ix0 (Pt.at g 0) a_ 1) k_7 rfl .h rfl ?_
 intro w_4 k_8
 refine ⟨(k_8.sel (.s (.k .e))), fun _ => ?_⟩
 refine MX_nil <| At_go <| W_seq ?_
 have k_9 := k_8.drew 1
 refine W_m mr_mixed (.q 0 1 (.q 1 1 (.q 2 1 (.q 3 1 (.q 4 1 (.q 5 1 (.q 6 1 (.q 7 0 (.op 8 (.q 9 1 (.op 10 .nil))))))))))) [8, 10] k_9 (.c (.kk .e) (.c (.s (.k .e)) .l)) (by kernel_rfl) (fun _ => ?_)
 obtain ⟨x_6, zh6, hm⟩ := ob hm
 obtain ⟨x_7, zh7, hm⟩ := ob hm
 refine MXz 7 1 (.n 34 (I d) (.n 37 (.u32 x_6) (.n 40 (.u32 x_7) (.ss .a)))) (fun x hx => qV (hx.vrd 0 rfl e32 v1 0 (by kernel_rfl)) zh6 rfl (.u32 x_6) rfl <| qV (hx.vrd 0 rfl e32 v1 0 (by kernel_rfl)) zh7 rfl (.u32 x_7) rfl <| qe) fun _ => ?_
 refine MXz 1 0 (.n 41 (.u32 (x_6 ^^^ x_7)) (.k (.ss .a))) (fun x hx => qe) fun _ => ?_
 refine MX_op (by kernel_rfl) rfl ?_
 have k_10 := k_9.sel (.kk .e)
 obtain ⟨r_1, h_r_1, hm⟩ := ob hm
 refine Op_cz 42 mr_go130 (c_r04_turn (F := N0) (O := N0) _ _ (Cx.refl _) _ h_r_1) ?_
 rintro e_ w_5 ⟨rfl, k_11⟩
 have k_12 := k_10.call k_11
 refine ⟨.u32 r_1, rfl, ?_⟩
 refine ⟨k_12, fun _ => ?_⟩
 obtain ⟨x_8, zh8, hm⟩ := ob hm
 refine MXz 1 1 (.n 43 (.v (.pointer (ixA (some ⟨g, 0, none⟩) d 1))) (.k (.ss .a))) (fun x hx => qI g 0 zh8 <| qe) fun _ => ?_
 refine MX_op (by kernel_rfl) rfl ?_
 obtain ⟨v2, h_v2, hm⟩ := nm hm
 refine Op_vz 0 (.u32 r_1) [.u32 r_1] h_v2 zh8 (Pt.ix0 (Pt.at g 0) d 1) k_12 rfl .h rfl ?_
 intro w_6 k_13
 refine ⟨(k_13.sel (.s (.k .e))), fun _ => ?_⟩
 refine MX_nil <| At_go <| W_seq ?_
 have k_14 := k_13.drew 1
 refine W_m mr_mixed (.q 0 0 (.q 1 0 (.q 2 0 (.q 3 0 (.q 4 0 (.q 5 0 (.q 6 0 (.q 7 0 (.q 8 0 (.op 9 .nil)))))))))) [9] k_14 (.c (.s (.k .e)) .l) (by kernel_rfl) (fun _ => ?_)
 obtain ⟨x_9, zh9, hm⟩ := ob hm
 obtain ⟨x_10, zh10, hm⟩ := ob hm
 obtain ⟨x_11, zh11, hm⟩ := ob hm
 refine MXz 9 0 (.n 51 (.u32 (x_9 + x_10)) (.n 52 (.v (.pointer (ixA (some ⟨g, 0, none⟩) c 1))) (.ss .a))) (fun x hx => qV (hx.vrd 0 rfl e32 v2 0 (by kernel_rfl)) zh9 rfl (.u32 x_9) rfl <| qV (hx.vrd 0 rfl e32 v2 0 (by kernel_rfl)) zh10 rfl (.u32 x_10) rfl <| qI g 0 zh11 <| qe) fun _ => ?_
 refine MX_op (by kernel_rfl) rfl ?_
 obtain ⟨v3, h_v3, hm⟩ := nm hm
 refine Op_vz 0 (.u32 (x_9 + x_10)) [.u32 (x_9 + x_10)] h_v3 zh11 (Pt.ix0 (Pt.at g 0) c 1) k_14 rfl .h rfl ?_
 intro w_7 k_15
 refine ⟨(k_15.sel (.s (.k .e))), fun _ => ?_⟩
 refine MX_nil <| At_go <| W_seq ?_
 have k_16 := k_15.drew 1
 refine W_m mr_mixed (.q 0 1 (.q 1 1 (.q 2 1 (.q 3 1 (.q 4 1 (.q 5 1 (.q 6 1 (.q 7 0 (.op 8 (.q 9 1 (.op 10 .nil))))))))))) [8, 10] k_16 (.c (.kk .e) (.c (.s (.k .e)) .l)) (by kernel_rfl) (fun _ => ?_)
 obtain ⟨x_12, zh12, hm⟩ := ob hm
 obtain ⟨x_13, zh13, hm⟩ := ob hm
 refine MXz 7 1 (.n 53 (I b) (.n 56 (.u32 x_12) (.n 59 (.u32 x_13) (.ss .a)))) (fun x hx => qV (hx.vrd 0 rfl e32 v3 0 (by kernel_rfl)) zh12 rfl (.u32 x_12) rfl <| qV (hx.vrd 0 rfl e32 v3 0 (by kernel_rfl)) zh13 rfl (.u32 x_13) rfl <| qe) fun _ => ?_
 refine MXz 1 0 (.n 60 (.u32 (x_12 ^^^ x_13)) (.k (.ss .a))) (fun x hx => qe) fun _ => ?_
 refine MX_op (by kernel_rfl) rfl ?_
 obtain ⟨r_2, h_r_2, hm⟩ := ob hm
 refine Op_cz 61 mr_go130 (c_r04_turn (F := N0) (O := N0) _ _ (Cx.refl _) _ h_r_2) ?_
 rintro e_ w_8 ⟨rfl, k_17⟩
 have k_18 := k_16.call k_17
 refine ⟨.u32 r_2, rfl, ?_⟩
 refine ⟨k_18, fun _ => ?_⟩
 obtain ⟨x_14, zh14, hm⟩ := ob hm
 refine MXz 1 1 (.n 62 (.v (.pointer (ixA (some ⟨g, 0, none⟩) b 1))) (.k (.ss .a))) (fun x hx => qI g 0 zh14 <| qe) fun _ => ?_
 refine MX_op (by kernel_rfl) rfl ?_
 have k_19 := k_18.sel (.kk .e)
 obtain ⟨v4, h_v4, hm⟩ := nm hm
 refine Op_vz 0 (.u32 r_2) [.u32 r_2] h_v4 zh14 (Pt.ix0 (Pt.at g 0) b 1) k_19 rfl .h rfl ?_
 intro w_9 k_20
 refine ⟨(k_20.sel (.s (.k .e))), fun _ => ?_⟩
 refine MX_nil <| At_go <| W_seq ?_
 have k_21 := k_20.drew 1
 refine W_m mr_mixed (.q 0 0 (.q 1 0 (.q 2 0 (.q 3 0 (.q 4 0 (.q 5 0 (.q 6 0 (.q 7 0 (.q 8 0 (.q 9 0 (.q 10 0 (.op 11 .nil)))))))))))) [11] k_21 (.c (.s (.k .e)) .l) (by kernel_rfl) (fun _ => ?_)
 obtain ⟨x_15, zh15, hm⟩ := ob hm
 obtain ⟨x_16, zh16, hm⟩ := ob hm
 obtain ⟨x_17, zh17, hm⟩ := ob hm
 refine MXz 11 0 (.n 72 (.u32 ((x_15 + x_16) + y_)) (.n 73 (.v (.pointer (ixA (some ⟨g, 0, none⟩) a_ 1))) (.ss (.kkkk (.kk .z))))) (fun x hx => qV (hx.vrd 0 rfl e32 v4 0 (by kernel_rfl)) zh15 rfl (.u32 x_15) rfl <| qV (hx.vrd 0 rfl e32 v4 0 (by kernel_rfl)) zh16 rfl (.u32 x_16) rfl <| qI g 0 zh17 <| qe) fun _ => ?_
 refine MX_op (by kernel_rfl) rfl ?_
 obtain ⟨v5, h_v5, hm⟩ := nm hm
 refine Op_vz 0 (.u32 ((x_15 + x_16) + y_)) [.u32 ((x_15 + x_16) + y_)] h_v5 zh17 (Pt.ix0 (Pt.at g 0) a_ 1) k_21 rfl .h rfl ?_
 intro w_10 k_22
 refine ⟨(k_22.sel (.s (.k .e))), fun _ => ?_⟩
 refine MX_nil <| At_go <| W_seq ?_
 have k_23 := k_22.drew 1
 refine W_m mr_mixed (.q 0 1 (.q 1 1 (.q 2 1 (.q 3 1 (.q 4 1 (.q 5 1 (.q 6 1 (.q 7 0 (.op 8 (.q 9 1 (.op 10 .nil))))))))))) [8, 10] k_23 (.c (.kk .e) (.c (.s (.k .e)) .l)) (by kernel_rfl) (fun _ => ?_)
 obtain ⟨x_18, zh18, hm⟩ := ob hm
 obtain ⟨x_19, zh19, hm⟩ := ob hm
 refine MXz 7 1 (.n 74 (I d) (.n 77 (.u32 x_18) (.n 80 (.u32 x_19) (.ss (.kk (.s .a)))))) (fun x hx => qV (hx.vrd 0 rfl e32 v5 0 (by kernel_rfl)) zh18 rfl (.u32 x_18) rfl <| qV (hx.vrd 0 rfl e32 v5 0 (by kernel_rfl)) zh19 rfl (.u32 x_19) rfl <| qe) fun _ => ?_
 refine MXz 1 0 (.n 81 (.u32 (x_18 ^^^ x_19)) (.k (.ss .a))) (fun x hx => qe) fun _ => ?_
 refine MX_op (by kernel_rfl) rfl ?_
 obtain ⟨r_3, h_r_3, hm⟩ := ob hm
 refine Op_cz 82 mr_go130 (c_r04_turn (F := N0) (O := N0) _ _ (Cx.refl _) _ h_r_3) ?_
 rintro e_ w_11 ⟨rfl, k_24⟩
 have k_25 := k_23.call k_24
 refine ⟨.u32 r_3, rfl, ?_⟩
 refine ⟨k_25, fun _ => ?_⟩
 obtain ⟨x_20, zh20, hm⟩ := ob hm
 refine MXz 1 1 (.n 83 (.v (.pointer (ixA (some ⟨g, 0, none⟩) d 1))) (.k (.ss .a))) (fun x hx => qI g 0 zh20 <| qe) fun _ => ?_
 refine MX_op (by kernel_rfl) rfl ?_
 obtain ⟨v6, h_v6, hm⟩ := nm hm
 refine Op_vz 0 (.u32 r_3) [.u32 r_3] h_v6 zh20 (Pt.ix0 (Pt.at g 0) d 1) k_25 rfl .h rfl ?_
 intro w_12 k_26
 refine ⟨(k_26.sel (.s (.k .e))), fun _ => ?_⟩
 refine MX_nil <| At_go <| W_seq ?_
 have k_27 := k_26.drew 1
 refine W_m mr_mixed (.q 0 0 (.q 1 0 (.q 2 0 (.q 3 0 (.q 4 0 (.q 5 0 (.q 6 0 (.q 7 0 (.q 8 0 (.op 9 .nil)))))))))) [9] k_27 (.c (.s (.k .e)) .l) (by kernel_rfl) (fun _ => ?_)
 obtain ⟨x_21, zh21, hm⟩ := ob hm
 obtain ⟨x_22, zh22, hm⟩ := ob hm
 obtain ⟨x_23, zh23, hm⟩ := ob hm
 refine MXz 9 0 (.n 91 (.u32 (x_21 + x_22)) (.n 92 (.v (.pointer (ixA (some ⟨g, 0, none⟩) c 1))) (.ss (.kkkk .z)))) (fun x hx => qV (hx.vrd 0 rfl e32 v6 0 (by kernel_rfl)) zh21 rfl (.u32 x_21) rfl <| qV (hx.vrd 0 rfl e32 v6 0 (by kernel_rfl)) zh22 rfl (.u32 x_22) rfl <| qI g 0 zh23 <| qe) fun _ => ?_
 refine MX_op (by kernel_rfl) rfl ?_
 have k_28 := k_27.sel (.kk .e)
 obtain ⟨v7, h_v7, hm⟩ := nm hm
 refine Op_vz 0 (.u32 (x_21 + x_22)) [.u32 (x_21 + x_22)] h_v7 zh23 (Pt.ix0 (Pt.at g 0) c 1) k_28 rfl .h rfl ?_
 intro w_13 k_29
 refine ⟨(k_29.sel (.s (.k .e))), fun _ => ?_⟩
 refine MX_nil <| At_go <| W_seq ?_
 have k_30 := k_29.drew 1
 refine W_m mr_mixed (.q 0 1 (.q 1 1 (.q 2 1 (.q 3 1 (.q 4 1 (.q 5 1 (.q 6 1 (.q 7 0 (.op 8 (.q 9 1 (.op 10 .nil))))))))))) [8, 10] k_30 (.c (.kk .e) (.c (.s (.k .e)) .l)) (by kernel_rfl) (fun _ => ?_)
 obtain ⟨x_24, zh24, hm⟩ := ob hm
 obtain ⟨x_25, zh25, hm⟩ := ob hm
 refine MXz 7 1 (.n 93 (I b) (.n 96 (.u32 x_24) (.n 99 (.u32 x_25) (.ss (.kk .z))))) (fun x hx => qV (hx.vrd 0 rfl e32 v7 0 (by kernel_rfl)) zh24 rfl (.u32 x_24) rfl <| qV (hx.vrd 0 rfl e32 v7 0 (by kernel_rfl)) zh25 rfl (.u32 x_25) rfl <| qe) fun _ => ?_
 refine MXz 1 0 (.n 100 (.u32 (x_24 ^^^ x_25)) (.k (.ss .a))) (fun x hx => qe) fun _ => ?_
 refine MX_op (by kernel_rfl) rfl ?_
 obtain ⟨r_4, h_r_4, hm⟩ := ob hm
 refine Op_cz 101 mr_go130 (c_r04_turn (F := N0) (O := N0) _ _ (Cx.refl _) _ h_r_4) ?_
 rintro e_ w_14 ⟨rfl, k_31⟩
 have k_32 := k_30.call k_31
 refine ⟨.u32 r_4, rfl, ?_⟩
 refine ⟨k_32, fun _ => ?_⟩
 obtain ⟨x_26, zh26, hm⟩ := ob hm
 refine MXz 1 1 (.n 102 (.v (.pointer (ixA (some ⟨g, 0, none⟩) b 1))) (.k (.ss .a))) (fun x hx => qI g 0 zh26 <| qe) fun _ => ?_
 refine MX_op (by kernel_rfl) rfl ?_
 obtain ⟨v8, h_v8, hm⟩ := nm hm
 refine Op_vz 0 (.u32 r_4) [.u32 r_4] h_v8 zh26 (Pt.ix0 (Pt.at g 0) b 1) k_32 rfl .h rfl ?_
 intro w_15 k_33
 refine ⟨(k_33.sel (.s (.k .e))), fun _ => ?_⟩
 refine MX_nil <| At_go <| W_seq <| W_reg <| Wl 1 (.n 103 (.agg [.ar e32 v8]) (.ss (.k .z))) (qT k_33 0 rfl 0 16 [.ar e32 v8] (by kernel_rfl) (by decide) <| qe) ?_
 refine WL_op <| Op_bz 1 (.agg [.ar e32 v8]) [.ar e32 v8] (Pt.at g1 0) k_33 rfl .all ?_
 intro w_16 k_34
 have k_35 := k_34.sel (.s (.k .e))
 refine We 1 (.n 15 (I 0) (.s .a)) ?_
 refine Wn <| W_ret ?_
 obtain rfl := si hm
 refine At_rz [.agg [.ar e32 v8], I 0] (qo (.agg [.ar e32 v8]) <| qc (fun w => Rd w (some ⟨g1, 0, none⟩) (SV.cl [.ar e32 v8])) (k_35.brd 0 rfl) <| qe) ?_
 have k_36 := k_35.sel .z
 exact ⟨rfl, k_36⟩
theorem c_r04_Round (v : Vec UInt32 16) (m_ : Vec UInt32 16) (r_ : Int) (k : Cx F O w w []) (r : (Vec UInt32 16 × Int)) (hm : m_r04_Round v m_ r_ = some r) :
    Calls Tryz.prog 97 (vals [.agg [.ar e32 v], .agg [.ar e32 m_], I r_]) w (fun e w' => e = .returned (SV.val (.tup [.agg [.ar e32 r.1], I r.2])) ∧ Cx F O w w' []) := by
 unfold m_r04_Round at hm
 refine calz [.agg [.ar e32 v], .agg [.ar e32 m_], I r_] Tryz.func97 rfl ?_
 refine W_seq <| W_reg <| WL_op <| Op_box [] 3 (.agg [.ar e32 v]) [.ar e32 v] (by kernel_rfl) k ?_
 intro g w_ k_
 refine WL_op <| Op_box [] 4 (.agg [.ar e32 m_]) [.ar e32 m_] (by kernel_rfl) k_ ?_
 intro g1 w_1 k_1
 refine WL_op <| Op_alloc [] 6 [.ar e32 (Vec.rep 16 (0 : UInt32))] (by kernel_rfl) k_1 ?_
 intro g2 w_2 k_2
 refine We 1 (.kkk (.ss .a)) ?_
 refine Wn <| W_seq <| Wz (.n 18 (.b ((decide (r_ < 0)) || (decide (9 < r_)))) .a) ?_
 refine W_cz ((decide (r_ < 0)) || (decide (9 < r_))) (fun hc => ?_) fun hc => ?_
 · rw [if_pos hc] at hm
   refine W_seq <| W_reg <| We 1 (.n 19 (.agg [.ar e32 (Vec.rep 16 ((0 : UInt32) : UInt32))]) (.s (.k .z))) ?_
   refine WL_op <| Op_bz 2 (.agg [.ar e32 (Vec.rep 16 ((0 : UInt32) : UInt32))]) [.ar e32 (Vec.rep 16 ((0 : UInt32) : UInt32))] (Pt.at g2 0) k_2 rfl .all ?_
   intro w_3 k_3
   have k_4 := k_3.sel (.ss (.k .e))
   refine We 1 (.n 7 (I 1) (.s .a)) ?_
   refine Wn <| W_ret (At_tr ?_)
   obtain rfl := si hm
   refine At_rz [.agg [.ar e32 (Vec.rep 16 ((0 : UInt32) : UInt32))], I 1] (qo (.agg [.ar e32 (Vec.rep 16 ((0 : UInt32) : UInt32))]) <| qc (fun w => Rd w (some ⟨g2, 0, none⟩) (SV.cl [.ar e32 (Vec.rep 16 ((0 : UInt32) : UInt32))])) (k_4.brd 0 rfl) <| qe) ?_
   have k_5 := k_4.sel .z
   exact ⟨rfl, k_5⟩
 rw [if_neg (by rw [hc]; decide)] at hm
 refine W_skip <| At_go <| W_seq <| Wz (.n 8 (I 0) (.s .a)) ?_
 refine W_block <| W_lp (m_r04_Round_l0 m_ r_) (fun s L wr => ∃ (v1 : Vec UInt32 16) (i : Int), (v1, i) = s ∧ L = [(2, I r_), (3, pt g 0), (4, pt g1 0), (6, pt g2 0), (8, I i)] ∧ Cx F O w wr [Bx 144 g [.ar e32 v1], Bx 144 g1 [.ar e32 m_], Bx 144 g2 [.ar e32 (Vec.rep 16 (0 : UInt32))]]) (v, (0 : Int)) r hm ⟨v, (0 : Int), rfl, rfl, k_2⟩ (by kernel_rfl) ?_
 intro s0_ L_ w_4 y0 hrel hstep hr0
 obtain ⟨v1, i, rfl, rfl, k_6⟩ := hrel
 have hm := hstep; simp only [m_r04_Round_l0] at hm
 clear hstep
 refine W_seq <| Wz (.n 21 (.b (decide (i < 8))) .a) ?_
 refine W_pz (i < 8) (fun hc1 => ?_) fun hc1 => ?_
 · rw [if_pos hc1] at hm
   refine W_skip <| At_go <| W_seq <| W_block <| W_seq <| W_reg <| We 1 (.n 25 (I i) (.s .a)) ?_
   refine WL_op ?_
   obtain ⟨r_1, h_r_1, hm⟩ := ob hm
   refine Op_cz 26 mr_go113 (c_r04_four (F := N0) (O := N0) _ (Cx.refl _) _ h_r_1) ?_
   rintro e_ w_5 ⟨rfl, k_7⟩
   have k_8 := k_6.call k_7
   refine ⟨.tup [I r_1.1, I r_1.2.1, I r_1.2.2.1, I r_1.2.2.2], rfl, ?_⟩
   refine We 9 (.n 9 (I r_1.1) (.n 10 (I r_1.2.1) (.n 11 (I r_1.2.2.1) (.n 12 (I r_1.2.2.2) (.ss .a))))) ?_
   refine WL_nil <| At_go ?_
   have k_9 := k_8.drew 1
   refine W_m mr_mixed (.q 0 2 (.q 1 2 (.q 2 2 (.q 3 2 (.q 4 2 (.q 5 2 (.q 11 2 (.q 6 3 (.q 7 2 (.q 12 3 (.q 13 3 (.q 14 2 (.op 8 (.q 9 3 (.q 10 2 (.op 15 (.q 16 3 (.q 17 2 (.op 18 (.q 19 3 (.q 20 3 (.q 21 4 (.op 22 .nil))))))))))))))))))))))) [8, 15, 18, 22] k_9 (.c (.kk (.k .e)) (.c (.kk (.k .e)) (.c (.kk (.k .e)) (.c (.s (.kk .e)) .l)))) (by kernel_rfl) (fun _ => ?_)
   refine MXz 7 2 (.n 32 (.agg [.ar e32 v1]) (.n 33 (I r_1.1) (.n 34 (I r_1.2.1) (.n 35 (I r_1.2.2.1) (.n 36 (I r_1.2.2.2) (.n 37 (I r_) (.n 43 (I r_) (.ssss .a)))))))) (fun x hx => qT hx 0 rfl 0 16 [.ar e32 v1] (by kernel_rfl) (by decide) <| qe) fun _ => ?_
   refine MXz 1 3 (.n 38 (I i) .a) (fun x hx => qe) fun _ => ?_
   refine MXz 1 2 (.n 39 (I (w64 (2 * i))) (.s .a)) (fun x hx => qe) fun _ => ?_
   refine MXz 2 3 (.n 45 (I (w64 (2 * i))) .a) (fun x hx => qe) fun _ => ?_
   refine MXz 1 2 (.n 46 (I (w64 ((w64 (2 * i)) + 1))) (.s .a)) (fun x hx => qe) fun _ => ?_
   refine MX_op (by kernel_rfl) rfl ?_
   obtain ⟨r_2, h_r_2, hm⟩ := ob hm
   refine Op_cz 40 mr_go112 (c_r03_Sigma (F := N0) (O := N0) _ _ (Cx.refl _) _ h_r_2) ?_
   rintro e_ w_6 ⟨rfl, k_10⟩
   have k_11 := k_9.call k_10
   refine ⟨I r_2, rfl, ?_⟩
   refine ⟨k_11, fun _ => ?_⟩
   obtain ⟨x_0, zh0, hm⟩ := ob hm
   refine MXz 1 3 (.n 41 (.v (.pointer (ixA (some ⟨g1, 0, none⟩) r_2 1))) (.s (.k (.s (.kkkk (.k (.s .a))))))) (fun x hx => qI g1 0 zh0 <| qe) fun _ => ?_
   refine MXz 1 2 (.n 42 (.u32 x_0) (.s .a)) (fun x hx => qC (.u32 x_0) (Rd.el (k := 0) (hx.vrd 1 rfl e32 m_ 0 (by kernel_rfl)) zh0 (Pt.ix1 (some ⟨g1, 0, none⟩) r_2 1) rfl) <| qe) fun _ => ?_
   refine MX_op (by kernel_rfl) rfl ?_
   obtain ⟨r_3, h_r_3, hm⟩ := ob hm
   refine Op_cz 47 mr_go112 (c_r03_Sigma (F := N0) (O := N0) _ _ (Cx.refl _) _ h_r_3) ?_
   rintro e_ w_7 ⟨rfl, k_12⟩
   have k_13 := k_11.call k_12
   refine ⟨I r_3, rfl, ?_⟩
   refine ⟨k_13, fun _ => ?_⟩
   obtain ⟨x_2, zh2, hm⟩ := ob hm
   refine MXz 1 3 (.n 48 (.v (.pointer (ixA (some ⟨g1, 0, none⟩) r_3 1))) (.s (.k (.s (.kkkk (.k (.s .a))))))) (fun x hx => qI g1 0 zh2 <| qe) fun _ => ?_
   refine MXz 1 2 (.n 49 (.u32 x_2) (.s .a)) (fun x hx => qC (.u32 x_2) (Rd.el (k := 0) (hx.vrd 1 rfl e32 m_ 0 (by kernel_rfl)) zh2 (Pt.ix1 (some ⟨g1, 0, none⟩) r_3 1) rfl) <| qe) fun _ => ?_
   refine MX_op (by kernel_rfl) rfl ?_
   obtain ⟨r_4, h_r_4, hm⟩ := ob hm
   refine Op_cz 50 mr_go114 (c_r04_G (F := N0) (O := N0) _ _ _ _ _ _ _ (Cx.refl _) _ h_r_4) ?_
   rintro e_ w_8 ⟨rfl, k_14⟩
   have k_15 := k_13.call k_14
   refine ⟨.tup [.agg [.ar e32 r_4.1], I r_4.2], rfl, ?_⟩
   refine ⟨k_15, fun _ => ?_⟩
   refine MXz 2 3 (.n 31 (.tup [.agg [.ar e32 r_4.1], I r_4.2]) (.n 51 (.agg [.ar e32 r_4.1]) (.ssss (.ssss .a)))) (fun x hx => qe) fun _ => ?_
   refine MXz 1 4 (.s .a) (fun x hx => qe) fun _ => ?_
   refine MX_op (by kernel_rfl) rfl ?_
   have k_16 := k_15.sel (.kk (.k .e))
   refine Op_bz 0 (.agg [.ar e32 r_4.1]) [.ar e32 r_4.1] (Pt.at g 0) k_16 rfl .all ?_
   intro w_9 k_17
   refine ⟨(k_17.sel (.s (.kk .e))), fun _ => ?_⟩
   refine MX_nil <| At_in <| At_go <| W_q [] (.n 8 (I (w64 (i + 1))) (.s (.kkkk .z))) qe (by kernel_rfl) ?_
   exact At_rd (r_4.1, w64 (i + 1)) (Option.some.inj hm).symm ⟨r_4.1, w64 (i + 1), rfl, rfl, k_17⟩ (by kernel_rfl)
 rw [if_neg hc1] at hm
 refine W_exit (At_te (At_te (At_ie ?_)))
 have hm := exit_of hm hr0
 refine At_go <| W_seq <| W_reg <| Wl 1 (.n 53 (.agg [.ar e32 v1]) (.ssss (.k .z))) (qT k_6 0 rfl 0 16 [.ar e32 v1] (by kernel_rfl) (by decide) <| qe) ?_
 refine WL_op <| Op_bz 2 (.agg [.ar e32 v1]) [.ar e32 v1] (Pt.at g2 0) k_6 rfl .all ?_
 intro w_10 k_18
 have k_19 := k_18.sel (.ss (.k .e))
 refine We 1 (.n 7 (I 0) (.s .a)) ?_
 refine Wn <| W_ret ?_
 obtain rfl := si hm
 refine At_rz [.agg [.ar e32 v1], I 0] (qo (.agg [.ar e32 v1]) <| qc (fun w => Rd w (some ⟨g2, 0, none⟩) (SV.cl [.ar e32 v1])) (k_19.brd 0 rfl) <| qe) ?_
 have k_20 := k_19.sel .z
 exact ⟨rfl, k_20⟩
theorem c_r04_End (h : Vec UInt32 8) (v : Vec UInt32 16) (k : Cx F O w w []) (r : (Vec UInt32 8)) (hm : m_r04_End h v = some r) :
    Calls Tryz.prog 98 (vals [.agg [.ar e32 h], .agg [.ar e32 v]]) w (fun e w' => e = .returned (SV.val (.agg [.ar e32 r])) ∧ Cx F O w w' []) := by
 unfold m_r04_End at hm
 refine calz [.agg [.ar e32 h], .agg [.ar e32 v]] Tryz.func98 rfl ?_
 refine W_seq <| W_reg <| WL_op <| Op_box [] 2 (.agg [.ar e32 h]) [.ar e32 h] (by kernel_rfl) k ?_
 intro g w_ k_
 refine WL_op <| Op_box [] 3 (.agg [.ar e32 v]) [.ar e32 v] (by kernel_rfl) k_ ?_
 intro g1 w_1 k_1
 refine WL_op <| Op_alloc [] 4 [.ar e32 (Vec.rep 8 (0 : UInt32))] (by kernel_rfl) k_1 ?_
 intro g2 w_2 k_2
 refine Wn <| W_seq <| Wz (.n 5 (I 0) (.kkk .z)) ?_
 refine W_block <| W_lp (m_r04_End_l0 v) (fun s L wr => ∃ (h1 : Vec UInt32 8) (i : Int), (h1, i) = s ∧ L = [(2, pt g 0), (3, pt g1 0), (4, pt g2 0), (5, I i)] ∧ Cx F O w wr [Bx 143 g [.ar e32 h1], Bx 144 g1 [.ar e32 v], Bx 143 g2 [.ar e32 (Vec.rep 8 (0 : UInt32))]]) (h, (0 : Int)) r hm ⟨h, (0 : Int), rfl, rfl, k_2⟩ (by kernel_rfl) ?_
 intro s0_ L_ w_3 y0 hrel hstep hr0
 obtain ⟨h1, i, rfl, rfl, k_3⟩ := hrel
 have hm := hstep; simp only [m_r04_End_l0] at hm
 clear hstep
 refine W_seq <| Wz (.n 7 (.b (decide (i < 8))) .a) ?_
 refine W_pz (i < 8) (fun hc => ?_) fun hc => ?_
 · rw [if_pos hc] at hm
   refine W_skip <| At_go <| W_seq <| W_block ?_
   have k_4 := k_3.drew 1
   refine W_m mr_mixed (.q 0 0 (.q 1 0 (.q 2 0 (.q 3 0 (.q 4 0 (.q 5 0 (.q 6 0 (.q 7 0 (.q 8 0 (.q 9 0 (.q 10 0 (.q 11 0 (.q 12 0 (.q 13 0 (.op 14 .nil))))))))))))))) [14] k_4 (.c (.s (.kk .e)) .l) (by kernel_rfl) (fun _ => ?_)
   obtain ⟨x_0, zh0, hm⟩ := ob hm
   obtain ⟨x_1, zh1, hm⟩ := ob hm
   obtain ⟨x_2, zh2, hm⟩ := ob hm
   obtain ⟨x_3, zh3, hm⟩ := ob hm
   refine MXz 14 0 (.n 22 (.u32 ((x_0 ^^^ x_1) ^^^ x_2)) (.n 23 (.v (.pointer (ixA (some ⟨g, 0, none⟩) i 1))) (.s .a))) (fun x hx => qV (hx.vrd 0 rfl e32 h1 0 (by kernel_rfl)) zh0 rfl (.u32 x_0) rfl <| qV (hx.vrd 1 rfl e32 v 0 (by kernel_rfl)) zh1 rfl (.u32 x_1) rfl <| qV (hx.vrd 1 rfl e32 v 0 (by kernel_rfl)) zh2 rfl (.u32 x_2) rfl <| qI g 0 zh3 <| qe) fun _ => ?_
   refine MX_op (by kernel_rfl) rfl ?_
   obtain ⟨v1, h_v1, hm⟩ := nm hm
   refine Op_vz 0 (.u32 ((x_0 ^^^ x_1) ^^^ x_2)) [.u32 ((x_0 ^^^ x_1) ^^^ x_2)] h_v1 zh3 (Pt.ix0 (Pt.at g 0) i 1) k_4 rfl .h rfl ?_
   intro w_4 k_5
   refine ⟨(k_5.sel (.s (.kk .e))), fun _ => ?_⟩
   refine MX_nil <| At_in <| At_go <| W_q [] (.n 5 (I (w64 (i + 1))) (.ss (.kkk .z))) qe (by kernel_rfl) ?_
   exact At_rd (v1, w64 (i + 1)) (Option.some.inj hm).symm ⟨v1, w64 (i + 1), rfl, rfl, k_5⟩ (by kernel_rfl)
 rw [if_neg hc] at hm
 refine W_exit (At_te (At_te (At_ie ?_)))
 have hm := exit_of hm hr0
 refine At_go <| W_seq <| W_reg <| Wl 1 (.n 24 (.agg [.ar e32 h1]) (.sss (.k .z))) (qT k_3 0 rfl 0 8 [.ar e32 h1] (by kernel_rfl) (by decide) <| qe) ?_
 refine WL_op <| Op_bz 2 (.agg [.ar e32 h1]) [.ar e32 h1] (Pt.at g2 0) k_3 rfl .all ?_
 intro w_5 k_6
 have k_7 := k_6.sel (.ss (.k .e))
 refine Wn <| W_ret ?_
 obtain rfl := si hm
 refine At_rz [.agg [.ar e32 h1]] (qo (.agg [.ar e32 h1]) <| qc (fun w => Rd w (some ⟨g2, 0, none⟩) (SV.cl [.ar e32 h1])) (k_7.brd 0 rfl) <| qe) ?_
 have k_8 := k_7.sel .z
 exact ⟨rfl, k_8⟩
theorem c_r04_F (h : Vec UInt32 8) (m_ : Vec UInt32 16) (count : UInt64) (last : Bool) (node : Bool) (k : Cx F O w w []) (r : (Vec UInt32 8)) (hm : m_r04_F h m_ count last node = some r) :
    Calls Tryz.prog 86 (vals [.agg [.ar e32 h], .agg [.ar e32 m_], .u64 count, .b last, .b node]) w (fun e w' => e = .returned (SV.val (.agg [.ar e32 r])) ∧ Cx F O w w' []) := by
 unfold m_r04_F at hm
 refine calz [.agg [.ar e32 h], .agg [.ar e32 m_], .u64 count, .b last, .b node] Tryz.func86 rfl ?_
 refine W_seq <| W_reg <| WL_op <| Op_box [] 5 (.agg [.ar e32 h]) [.ar e32 h] (by kernel_rfl) k ?_
 intro g w_ k_
 refine WL_op <| Op_box [] 6 (.agg [.ar e32 m_]) [.ar e32 m_] (by kernel_rfl) k_ ?_
 intro g1 w_1 k_1
 refine WL_op <| Op_alloc [] 10 [.ar e32 (Vec.rep 8 (0 : UInt32))] (by kernel_rfl) k_1 ?_
 intro g2 w_2 k_2
 refine Wn <| W_seq <| W_reg <| Wl 4 (.n 13 (.agg [.ar e32 h]) (.n 14 (.u64 count) (.n 15 (.b last) (.n 16 (.b node) (.kkk .z))))) (qT k_2 0 rfl 0 8 [.ar e32 h] (by kernel_rfl) (by decide) <| qe) ?_
 refine WL_op ?_
 obtain ⟨r_, h_r_, hm⟩ := ob hm
 refine Op_cz 17 mr_go96 (c_r04_Begin (F := N0) (O := N0) _ _ _ _ (Cx.refl _) _ h_r_) ?_
 rintro e_ w_3 ⟨rfl, k_3⟩
 have k_4 := k_2.call k_3
 refine ⟨.agg [.ar e32 r_], rfl, ?_⟩
 refine WL_op ?_
 have k_5 := k_4.sel (.kk (.k .e))
 refine Op_alloc [] 11 [.ar e32 (Vec.rep 16 (0 : UInt32))] (by kernel_rfl) k_5 ?_
 intro g3 w_4 k_6
 refine WL_op <| Op_bz 3 (.agg [.ar e32 r_]) [.ar e32 r_] (Pt.at g3 0) k_6 rfl .all ?_
 intro w_5 k_7
 refine Wn <| W_seq <| Wz (.n 12 (I 0) (.k (.ssss (.s .a)))) ?_
 refine W_block <| W_lp (m_r04_F_l0 h m_) (fun s L wr => ∃ (v : Vec UInt32 16) (r_1 : Int), (v, r_1) = s ∧ L = [(5, pt g 0), (6, pt g1 0), (10, pt g2 0), (11, pt g3 0), (12, I r_1)] ∧ Cx F O w wr [Bx 143 g [.ar e32 h], Bx 144 g1 [.ar e32 m_], Bx 143 g2 [.ar e32 (Vec.rep 8 (0 : UInt32))], Bx 144 g3 [.ar e32 v]]) (r_, (0 : Int)) r hm ⟨r_, (0 : Int), rfl, rfl, k_7⟩ (by kernel_rfl) ?_
 intro s0_ L_ w_6 y0 hrel hstep hr0
 obtain ⟨v, r_1, rfl, rfl, k_8⟩ := hrel
 have hm := hstep; simp only [m_r04_F_l0] at hm
 clear hstep
 refine W_seq <| Wz (.n 19 (.b (decide (r_1 < 10))) .a) ?_
 refine W_pz (r_1 < 10) (fun hc => ?_) fun hc => ?_
 · rw [if_pos hc] at hm
   refine W_skip <| At_go <| W_seq <| W_block <| W_reg <| Wl 3 (.n 23 (.agg [.ar e32 v]) (.n 24 (.agg [.ar e32 m_]) (.n 25 (I r_1) (.s .a)))) (qT k_8 3 rfl 0 16 [.ar e32 v] (by kernel_rfl) (by decide) <| qT k_8 1 rfl 0 16 [.ar e32 m_] (by kernel_rfl) (by decide) <| qe) ?_
   refine WL_op ?_
   obtain ⟨r_2, h_r_2, hm⟩ := ob hm
   refine Op_cz 26 mr_go97 (c_r04_Round (F := N0) (O := N0) _ _ _ (Cx.refl _) _ h_r_2) ?_
   rintro e_ w_7 ⟨rfl, k_9⟩
   have k_10 := k_8.call k_9
   refine ⟨.tup [.agg [.ar e32 r_2.1], I r_2.2], rfl, ?_⟩
   refine We 3 (.n 27 (.agg [.ar e32 r_2.1]) (.ssss .a)) ?_
   refine WL_op <| Op_bz 3 (.agg [.ar e32 r_2.1]) [.ar e32 r_2.1] (Pt.at g3 0) k_10 rfl .all ?_
   intro w_8 k_11
   refine WL_nil <| At_in <| At_go <| W_q [] (.n 12 (I (w64 (r_1 + 1))) (.s (.kkkk .z))) qe (by kernel_rfl) ?_
   exact At_rd (r_2.1, w64 (r_1 + 1)) (Option.some.inj hm).symm ⟨r_2.1, w64 (r_1 + 1), rfl, rfl, k_11⟩ (by kernel_rfl)
 rw [if_neg hc] at hm
 refine W_exit (At_te (At_te (At_ie ?_)))
 have hm := exit_of hm hr0
 refine At_go <| W_seq <| W_reg <| Wl 2 (.n 29 (.agg [.ar e32 h]) (.n 30 (.agg [.ar e32 v]) (.sss (.k .z)))) (qT k_8 0 rfl 0 8 [.ar e32 h] (by kernel_rfl) (by decide) <| qT k_8 3 rfl 0 16 [.ar e32 v] (by kernel_rfl) (by decide) <| qe) ?_
 refine WL_op ?_
 obtain ⟨r_3, h_r_3, hm⟩ := ob hm
 refine Op_cz 31 mr_go98 (c_r04_End (F := N0) (O := N0) _ _ (Cx.refl _) _ h_r_3) ?_
 rintro e_ w_9 ⟨rfl, k_12⟩
 have k_13 := k_8.call k_12
 refine ⟨.agg [.ar e32 r_3], rfl, ?_⟩
 have k_14 := k_13.sel (.ss (.k .z))
 refine WL_op <| Op_bz 0 (.agg [.ar e32 r_3]) [.ar e32 r_3] (Pt.at g2 0) k_14 rfl .all ?_
 intro w_10 k_15
 refine Wn <| W_ret ?_
 obtain rfl := si hm
 refine At_rz [.agg [.ar e32 r_3]] (qo (.agg [.ar e32 r_3]) <| qc (fun w => Rd w (some ⟨g2, 0, none⟩) (SV.cl [.ar e32 r_3])) (k_15.brd 0 rfl) <| qe) ?_
 have k_16 := k_15.sel .z
 exact ⟨rfl, k_16⟩
theorem c_r05_in (kind : Int) (h : Vec UInt64 16) (b : List UInt8) (lo : UInt64) (hi : UInt64) (last : Bool) (node : Bool) (A_b : Option Addr) (n_b : Nat) (c_b : Nat) (h_b : Ro F w A_b (e8.all b)) (hn_b : b.length = n_b) (hc_b : n_b ≤ c_b) (k : Cx F O w w []) (r : (Vec UInt64 16)) (hm : m_r05_in kind h b lo hi last node = some r) :
    Calls Tryz.prog 73 (vals [I kind, .agg [.ar e64 h], sl A_b n_b c_b, .u64 lo, .u64 hi, .b last, .b node]) w (fun e w' => e = .returned (SV.val (.agg [.ar e64 r])) ∧ Cx F O w w' []) := by
 unfold m_r05_in at hm
 subst hn_b
 refine calz [I kind, .agg [.ar e64 h], sl A_b b.length c_b, .u64 lo, .u64 hi, .b last, .b node] Tryz.func73 rfl ?_
 refine W_seq <| W_reg <| WL_op <| Op_box [] 8 (.agg [.ar e64 h]) [.ar e64 h] (by kernel_rfl) k ?_
 intro g w_ k_
 refine WL_op <| Op_alloc [] 14 [.ar e64 (Vec.rep 16 (0 : UInt64))] (by kernel_rfl) k_ ?_
 intro g1 w_1 k_1
 refine Wn <| W_seq <| Wz (.n 26 (.b (decide (kind = 1))) (.kk (.ss .a))) ?_
 refine W_pz (kind = 1) (fun hc => ?_) fun hc => ?_
 · rw [if_pos hc] at hm
   refine W_seq <| W_reg <| WL_op <| Op_alloc [] 15 [.ar e64 (Vec.rep 8 (0 : UInt64))] (by kernel_rfl) k_1 ?_
   intro g2 w_2 k_2
   refine Wn <| W_seq <| Wz (.n 16 (I 0) (.k (.s .a))) ?_
   refine W_block <| W_lp (m_r05_in_l0 h b lo hi last node) (fun s L wr => ∃ (s_ : Vec UInt64 8) (i : Int), (s_, i) = s ∧ L = [(2, sl A_b b.length c_b), (3, .u64 lo), (4, .u64 hi), (5, .b last), (6, .b node), (8, pt g 0), (14, pt g1 0), (15, pt g2 0), (16, I i)] ∧ Cx F O w wr [Bx 107 g [.ar e64 h], Bx 107 g1 [.ar e64 (Vec.rep 16 (0 : UInt64))], Bx 139 g2 [.ar e64 s_]]) ((Vec.rep 8 (0 : UInt64)), (0 : Int)) r hm ⟨(Vec.rep 8 (0 : UInt64)), (0 : Int), rfl, rfl, k_2⟩ (by kernel_rfl) ?_
   intro s0_ L_ w_3 y0 hrel hstep hr0
   obtain ⟨s_, i, rfl, rfl, k_3⟩ := hrel
   have hm := hstep; simp only [m_r05_in_l0] at hm
   clear hstep
   refine W_seq <| Wz (.n 28 (.b (decide (i < 8))) .a) ?_
   refine W_pz (i < 8) (fun hc1 => ?_) fun hc1 => ?_
   · rw [if_pos hc1] at hm
     refine W_skip <| At_go <| W_seq <| W_block <| W_reg ?_
     obtain ⟨x_0, zh0, hm⟩ := ob hm
     obtain ⟨x_1, zh1, hm⟩ := ob hm
     refine Wl 5 (.n 34 (.u64 x_0) (.n 35 (.v (.pointer (ixA (some ⟨g2, 0, none⟩) i 1))) (.s .a))) (qV (k_3.vrd 0 rfl e64 h 0 (by kernel_rfl)) zh0 rfl (.u64 x_0) rfl <| qI g2 0 zh1 <| qe) ?_
     refine WL_op ?_
     obtain ⟨v, h_v, hm⟩ := nm hm
     refine Op_vz 2 (.u64 x_0) [.u64 x_0] h_v zh1 (Pt.ix0 (Pt.at g2 0) i 1) k_3 rfl .h rfl ?_
     intro w_4 k_4
     refine WL_nil <| At_in <| At_go <| W_q [] (.n 16 (I (w64 (i + 1))) (.ss (.kkkk (.kkkk .z)))) qe (by kernel_rfl) ?_
     exact At_rd (v, w64 (i + 1)) (Option.some.inj hm).symm ⟨v, w64 (i + 1), rfl, rfl, k_4⟩ (by kernel_rfl)
   rw [if_neg hc1] at hm
   refine W_exit (At_te (At_te (At_ie ?_)))
   have hm := exit_of hm hr0
   refine At_go <| W_seq <| W_reg <| We 1 (.n 37 (sl A_b b.length c_b) (.ss (.kkkk (.kkk .z)))) ?_
   refine WL_op ?_
   obtain ⟨r_, h_r_, hm⟩ := ob hm
   refine Op_cz 38 mr_go83 (c_r03_Words (F := N0) (O := N0) _ _ _ _ (Ro.n0 (h_b.cx k_3)) rfl hc_b (Cx.refl _) _ h_r_) ?_
   rintro e_ w_5 ⟨rfl, k_5⟩
   have k_6 := k_3.call k_5
   refine ⟨.tup [.agg [.ar e64 r_.1], I r_.2], rfl, ?_⟩
   refine We 3 (.n 39 (.agg [.ar e64 r_.1]) (.n 40 (I r_.2) (.ss .a))) ?_
   refine WL_op <| Op_alloc [] 17 [.ar e64 (Vec.rep 16 (0 : UInt64))] (by kernel_rfl) k_6 ?_
   intro g3 w_6 k_7
   refine WL_op <| Op_bz 3 (.agg [.ar e64 r_.1]) [.ar e64 r_.1] (Pt.at g3 0) k_7 rfl .all ?_
   intro w_7 k_8
   refine We 1 (.k (.ss .a)) ?_
   refine Wn <| W_seq <| W_reg <| Wl 6 (.n 41 (.agg [.ar e64 s_]) (.n 42 (.agg [.ar e64 r_.1]) (.n 43 (.u64 lo) (.n 44 (.u64 hi) (.n 45 (.b last) (.n 46 (.b node) (.ssss (.s .a)))))))) (qT k_8 2 rfl 0 8 [.ar e64 s_] (by kernel_rfl) (by decide) <| qT k_8 3 rfl 0 16 [.ar e64 r_.1] (by kernel_rfl) (by decide) <| qe) ?_
   refine WL_op ?_
   obtain ⟨r_1, h_r_1, hm⟩ := ob hm
   refine Op_cz 47 mr_go84 (c_r03_F (F := N0) (O := N0) _ _ _ _ _ _ (Cx.refl _) _ h_r_1) ?_
   rintro e_ w_8 ⟨rfl, k_9⟩
   have k_10 := k_8.call k_9
   refine ⟨.agg [.ar e64 r_1], rfl, ?_⟩
   have k_11 := k_10.sel (.kk (.k .z))
   refine WL_op ?_
   have k_12 := k_11.sel (.kk (.k .e))
   refine Op_bz 2 (.agg [.ar e64 r_1]) [.ar e64 r_1] (Pt.at g2 0) k_12 rfl .all ?_
   intro w_9 k_13
   refine Wn <| W_seq <| Wz (.n 19 (I 0) (.ssss (.sss .a))) ?_
   refine W_block <| W_lp (m_r05_in_l1 r_1) (fun s L wr => ∃ (h1 : Vec UInt64 16) (i1 : Int), (h1, i1) = s ∧ L = [(8, pt g 0), (14, pt g1 0), (15, pt g2 0), (19, I i1)] ∧ Cx F O w wr [Bx 107 g [.ar e64 h1], Bx 107 g1 [.ar e64 (Vec.rep 16 (0 : UInt64))], Bx 139 g2 [.ar e64 r_1]]) (h, (0 : Int)) r hm ⟨h, (0 : Int), rfl, rfl, k_13⟩ (by kernel_rfl) ?_
   intro s0_ L_ w_10 y0 hrel hstep hr0
   obtain ⟨h1, i1, rfl, rfl, k_14⟩ := hrel
   have hm := hstep; simp only [m_r05_in_l1] at hm
   clear hstep
   refine W_seq <| Wz (.n 49 (.b (decide (i1 < 8))) .a) ?_
   refine W_pz (i1 < 8) (fun hc2 => ?_) fun hc2 => ?_
   · rw [if_pos hc2] at hm
     refine W_skip <| At_go <| W_seq <| W_block <| W_reg ?_
     obtain ⟨x_2, zh2, hm⟩ := ob hm
     obtain ⟨x_3, zh3, hm⟩ := ob hm
     refine Wl 5 (.n 55 (.u64 x_2) (.n 56 (.v (.pointer (ixA (some ⟨g, 0, none⟩) i1 1))) (.s .a))) (qV (k_14.vrd 2 rfl e64 r_1 0 (by kernel_rfl)) zh2 rfl (.u64 x_2) rfl <| qI g 0 zh3 <| qe) ?_
     refine WL_op ?_
     obtain ⟨v1, h_v1, hm⟩ := nm hm
     refine Op_vz 0 (.u64 x_2) [.u64 x_2] h_v1 zh3 (Pt.ix0 (Pt.at g 0) i1 1) k_14 rfl .h rfl ?_
     intro w_11 k_15
     refine WL_nil <| At_in <| At_go <| W_q [] (.n 19 (I (w64 (i1 + 1))) (.ss (.kkk .z))) qe (by kernel_rfl) ?_
     exact At_rd (v1, w64 (i1 + 1)) (Option.some.inj hm).symm ⟨v1, w64 (i1 + 1), rfl, rfl, k_15⟩ (by kernel_rfl)
   rw [if_neg hc2] at hm
   refine W_exit (At_te (At_te (At_ie ?_)))
   have hm := exit_of hm hr0
   refine At_go <| W_seq <| W_reg <| Wl 1 (.n 57 (.agg [.ar e64 h1]) (.ss (.k .z))) (qT k_14 0 rfl 0 16 [.ar e64 h1] (by kernel_rfl) (by decide) <| qe) ?_
   refine WL_op <| Op_bz 1 (.agg [.ar e64 h1]) [.ar e64 h1] (Pt.at g1 0) k_14 rfl .all ?_
   intro w_12 k_16
   have k_17 := k_16.sel (.s (.k .z))
   refine Wn <| W_ret (At_tr ?_)
   obtain rfl := si hm
   refine At_rz [.agg [.ar e64 h1]] (qo (.agg [.ar e64 h1]) <| qc (fun w => Rd w (some ⟨g1, 0, none⟩) (SV.cl [.ar e64 h1])) (k_17.brd 0 rfl) <| qe) ?_
   have k_18 := k_17.sel .z
   exact ⟨rfl, k_18⟩
 rw [if_neg hc] at hm
 refine W_skip <| At_go <| W_seq <| W_reg <| WL_op <| Op_alloc [] 20 [.ar e32 (Vec.rep 8 (0 : UInt32))] (by kernel_rfl) k_1 ?_
 intro g4 w_13 k_19
 refine Wn <| W_seq <| Wz (.n 21 (I 0) (.k (.s (.kkkk (.s .a))))) ?_
 refine W_block <| W_lp (m_r05_in_l2 h b lo last node) (fun s L wr => ∃ (s_1 : Vec UInt32 8) (i2 : Int), (s_1, i2) = s ∧ L = [(2, sl A_b b.length c_b), (3, .u64 lo), (5, .b last), (6, .b node), (8, pt g 0), (14, pt g1 0), (20, pt g4 0), (21, I i2)] ∧ Cx F O w wr [Bx 107 g [.ar e64 h], Bx 107 g1 [.ar e64 (Vec.rep 16 (0 : UInt64))], Bx 143 g4 [.ar e32 s_1]]) ((Vec.rep 8 (0 : UInt32)), (0 : Int)) r hm ⟨(Vec.rep 8 (0 : UInt32)), (0 : Int), rfl, rfl, k_19⟩ (by kernel_rfl) ?_
 intro s0_ L_ w_14 y0 hrel hstep hr0
 obtain ⟨s_1, i2, rfl, rfl, k_20⟩ := hrel
 have hm := hstep; simp only [m_r05_in_l2] at hm
 clear hstep
 refine W_seq <| Wz (.n 59 (.b (decide (i2 < 8))) .a) ?_
 refine W_pz (i2 < 8) (fun hc3 => ?_) fun hc3 => ?_
 · rw [if_pos hc3] at hm
   refine W_skip <| At_go <| W_seq <| W_block <| W_reg ?_
   obtain ⟨x_4, zh4, hm⟩ := ob hm
   obtain ⟨x_5, zh5, hm⟩ := ob hm
   refine Wl 6 (.n 66 (.u32 (UInt32.ofNat x_4.toNat)) (.n 67 (.v (.pointer (ixA (some ⟨g4, 0, none⟩) i2 1))) (.s .a))) (qV (k_20.vrd 0 rfl e64 h 0 (by kernel_rfl)) zh4 rfl (.u64 x_4) rfl <| qI g4 0 zh5 <| qe) ?_
   refine WL_op ?_
   obtain ⟨v2, h_v2, hm⟩ := nm hm
   refine Op_vz 2 (.u32 (UInt32.ofNat x_4.toNat)) [.u32 (UInt32.ofNat x_4.toNat)] h_v2 zh5 (Pt.ix0 (Pt.at g4 0) i2 1) k_20 rfl .h rfl ?_
   intro w_15 k_21
   refine WL_nil <| At_in <| At_go <| W_q [] (.n 21 (I (w64 (i2 + 1))) (.ss (.kkkk (.kkk .z)))) qe (by kernel_rfl) ?_
   exact At_rd (v2, w64 (i2 + 1)) (Option.some.inj hm).symm ⟨v2, w64 (i2 + 1), rfl, rfl, k_21⟩ (by kernel_rfl)
 rw [if_neg hc3] at hm
 refine W_exit (At_te (At_te (At_ie ?_)))
 have hm := exit_of hm hr0
 refine At_go <| W_seq <| W_reg <| We 1 (.n 69 (sl A_b b.length c_b) (.ss (.kkkk (.kk .z)))) ?_
 refine WL_op ?_
 obtain ⟨r_2, h_r_2, hm⟩ := ob hm
 refine Op_cz 70 mr_go85 (c_r04_Words (F := N0) (O := N0) _ _ _ _ (Ro.n0 (h_b.cx k_20)) rfl hc_b (Cx.refl _) _ h_r_2) ?_
 rintro e_ w_16 ⟨rfl, k_22⟩
 have k_23 := k_20.call k_22
 refine ⟨.tup [.agg [.ar e32 r_2.1], I r_2.2], rfl, ?_⟩
 refine We 3 (.n 71 (.agg [.ar e32 r_2.1]) (.n 72 (I r_2.2) (.ss .a))) ?_
 refine WL_op <| Op_alloc [] 22 [.ar e32 (Vec.rep 16 (0 : UInt32))] (by kernel_rfl) k_23 ?_
 intro g5 w_17 k_24
 refine WL_op <| Op_bz 3 (.agg [.ar e32 r_2.1]) [.ar e32 r_2.1] (Pt.at g5 0) k_24 rfl .all ?_
 intro w_18 k_25
 refine We 1 (.k (.ss .a)) ?_
 refine Wn <| W_seq <| W_reg <| Wl 5 (.n 73 (.agg [.ar e32 s_1]) (.n 74 (.agg [.ar e32 r_2.1]) (.n 75 (.u64 lo) (.n 76 (.b last) (.n 77 (.b node) (.ssss .a)))))) (qT k_25 2 rfl 0 8 [.ar e32 s_1] (by kernel_rfl) (by decide) <| qT k_25 3 rfl 0 16 [.ar e32 r_2.1] (by kernel_rfl) (by decide) <| qe) ?_
 refine WL_op ?_
 obtain ⟨r_3, h_r_3, hm⟩ := ob hm
 refine Op_cz 78 mr_go86 (c_r04_F (F := N0) (O := N0) _ _ _ _ _ (Cx.refl _) _ h_r_3) ?_
 rintro e_ w_19 ⟨rfl, k_26⟩
 have k_27 := k_25.call k_26
 refine ⟨.agg [.ar e32 r_3], rfl, ?_⟩
 have k_28 := k_27.sel (.kk (.k .z))
 refine WL_op ?_
 have k_29 := k_28.sel (.kk (.k .e))
 refine Op_bz 2 (.agg [.ar e32 r_3]) [.ar e32 r_3] (Pt.at g4 0) k_29 rfl .all ?_
 intro w_20 k_30
 refine Wn <| W_seq <| Wz (.n 24 (I 0) (.ssss (.ss .a))) ?_
 refine W_block <| W_lp (m_r05_in_l3 r_3) (fun s L wr => ∃ (h2 : Vec UInt64 16) (i3 : Int), (h2, i3) = s ∧ L = [(8, pt g 0), (14, pt g1 0), (20, pt g4 0), (24, I i3)] ∧ Cx F O w wr [Bx 107 g [.ar e64 h2], Bx 107 g1 [.ar e64 (Vec.rep 16 (0 : UInt64))], Bx 143 g4 [.ar e32 r_3]]) (h, (0 : Int)) r hm ⟨h, (0 : Int), rfl, rfl, k_30⟩ (by kernel_rfl) ?_
 intro s0_ L_ w_21 y0 hrel hstep hr0
 obtain ⟨h2, i3, rfl, rfl, k_31⟩ := hrel
 have hm := hstep; simp only [m_r05_in_l3] at hm
 clear hstep
 refine W_seq <| Wz (.n 80 (.b (decide (i3 < 8))) .a) ?_
 refine W_pz (i3 < 8) (fun hc4 => ?_) fun hc4 => ?_
 · rw [if_pos hc4] at hm
   refine W_skip <| At_go <| W_seq <| W_block <| W_reg ?_
   obtain ⟨x_6, zh6, hm⟩ := ob hm
   obtain ⟨x_7, zh7, hm⟩ := ob hm
   refine Wl 6 (.n 87 (.u64 (UInt64.ofNat x_6.toNat)) (.n 88 (.v (.pointer (ixA (some ⟨g, 0, none⟩) i3 1))) (.s .a))) (qV (k_31.vrd 2 rfl e32 r_3 0 (by kernel_rfl)) zh6 rfl (.u32 x_6) rfl <| qI g 0 zh7 <| qe) ?_
   refine WL_op ?_
   obtain ⟨v3, h_v3, hm⟩ := nm hm
   refine Op_vz 0 (.u64 (UInt64.ofNat x_6.toNat)) [.u64 (UInt64.ofNat x_6.toNat)] h_v3 zh7 (Pt.ix0 (Pt.at g 0) i3 1) k_31 rfl .h rfl ?_
   intro w_22 k_32
   refine WL_nil <| At_in <| At_go <| W_q [] (.n 24 (I (w64 (i3 + 1))) (.ss (.kkk .z))) qe (by kernel_rfl) ?_
   exact At_rd (v3, w64 (i3 + 1)) (Option.some.inj hm).symm ⟨v3, w64 (i3 + 1), rfl, rfl, k_32⟩ (by kernel_rfl)
 rw [if_neg hc4] at hm
 refine W_exit (At_te (At_te (At_ie ?_)))
 have hm := exit_of hm hr0
 refine At_go <| W_seq <| W_reg <| Wl 1 (.n 89 (.agg [.ar e64 h2]) (.ss (.k .z))) (qT k_31 0 rfl 0 16 [.ar e64 h2] (by kernel_rfl) (by decide) <| qe) ?_
 refine WL_op <| Op_bz 1 (.agg [.ar e64 h2]) [.ar e64 h2] (Pt.at g1 0) k_31 rfl .all ?_
 intro w_23 k_33
 have k_34 := k_33.sel (.s (.k .z))
 refine Wn <| W_ret ?_
 obtain rfl := si hm
 refine At_rz [.agg [.ar e64 h2]] (qo (.agg [.ar e64 h2]) <| qc (fun w => Rd w (some ⟨g1, 0, none⟩) (SV.cl [.ar e64 h2])) (k_34.brd 0 rfl) <| qe) ?_
 have k_35 := k_34.sel .z
 exact ⟨rfl, k_35⟩
theorem c_r05_Node_passed (n_Kind : Int) (n_P_Digest : Int) (n_P_Key : Int) (n_P_Fanout : Int) (n_P_Depth : Int) (n_P_Leaf : UInt32) (n_P_Offset : UInt64) (n_P_Xof : UInt32) (n_P_NodeDepth : Int) (n_P_Inner : Int) (n_P_Salt : List UInt8) (n_P_Personal : List UInt8) (n_Key : List UInt8) (n_Last : Bool) (n_From : Vec UInt64 16) (n_Old : Bool) (n_Lo : UInt64) (n_Hi : UInt64) (n_Msg : List UInt8) (n_Count : UInt64) (g_n : Nat) (A_n_P_Salt : Option Addr) (n_n_P_Salt : Nat) (c_n_P_Salt : Nat) (A_n_P_Personal : Option Addr) (n_n_P_Personal : Nat) (c_n_P_Personal : Nat) (A_n_Key : Option Addr) (n_n_Key : Nat) (c_n_Key : Nat) (A_n_Msg : Option Addr) (n_n_Msg : Nat) (c_n_Msg : Nat) (h_n_P_Salt : Ro F w A_n_P_Salt (e8.all n_P_Salt)) (hn_n_P_Salt : n_P_Salt.length = n_n_P_Salt) (hc_n_P_Salt : n_n_P_Salt ≤ c_n_P_Salt) (h_n_P_Personal : Ro F w A_n_P_Personal (e8.all n_P_Personal)) (hn_n_P_Personal : n_P_Personal.length = n_n_P_Personal) (hc_n_P_Personal : n_n_P_Personal ≤ c_n_P_Personal) (h_n_Key : Ro F w A_n_Key (e8.all n_Key)) (hn_n_Key : n_Key.length = n_n_Key) (hc_n_Key : n_n_Key ≤ c_n_Key) (k : Cx F O w w [Bx 109 g_n [I n_Kind, I n_P_Digest, I n_P_Key, I n_P_Fanout, I n_P_Depth, .u32 n_P_Leaf, .u64 n_P_Offset, .u32 n_P_Xof, I n_P_NodeDepth, I n_P_Inner, sl A_n_P_Salt n_n_P_Salt c_n_P_Salt, sl A_n_P_Personal n_n_P_Personal c_n_P_Personal, sl A_n_Key n_n_Key c_n_Key, .b n_Last, .ar e64 n_From, .b n_Old, .u64 n_Lo, .u64 n_Hi, sl A_n_Msg n_n_Msg c_n_Msg, .u64 n_Count], Ow e8 A_n_Msg n_n_Msg c_n_Msg n_Msg]) (r : (Vec UInt64 16 × UInt64 × UInt64 × Int × Int × Int × Int × Int × Int × UInt32 × UInt64 × UInt32 × Int × Int × Bool × Vec UInt64 16 × Bool × UInt64 × UInt64 × List UInt8 × UInt64)) (hm : m_r05_Node_passed n_Kind n_P_Digest n_P_Key n_P_Fanout n_P_Depth n_P_Leaf n_P_Offset n_P_Xof n_P_NodeDepth n_P_Inner n_P_Salt n_P_Personal n_Key n_Last n_From n_Old n_Lo n_Hi n_Msg n_Count = some r) :
    Calls Tryz.prog 70 (vals [pt g_n 0]) w (fun e w' => ∃ A n c, r.2.2.2.2.2.2.2.2.2.2.2.2.2.2.2.2.2.2.2.1.length = n ∧ e = .returned (SV.val (.tup [.agg [.ar e64 r.1], .u64 r.2.1, .u64 r.2.2.1, I r.2.2.2.1])) ∧ Cx F O w w' [Bx 109 g_n [I r.2.2.2.2.1, I r.2.2.2.2.2.1, I r.2.2.2.2.2.2.1, I r.2.2.2.2.2.2.2.1, I r.2.2.2.2.2.2.2.2.1, .u32 r.2.2.2.2.2.2.2.2.2.1, .u64 r.2.2.2.2.2.2.2.2.2.2.1, .u32 r.2.2.2.2.2.2.2.2.2.2.2.1, I r.2.2.2.2.2.2.2.2.2.2.2.2.1, I r.2.2.2.2.2.2.2.2.2.2.2.2.2.1, sl A_n_P_Salt n_n_P_Salt c_n_P_Salt, sl A_n_P_Personal n_n_P_Personal c_n_P_Personal, sl A_n_Key n_n_Key c_n_Key, .b r.2.2.2.2.2.2.2.2.2.2.2.2.2.2.1, .ar e64 r.2.2.2.2.2.2.2.2.2.2.2.2.2.2.2.1, .b r.2.2.2.2.2.2.2.2.2.2.2.2.2.2.2.2.1, .u64 r.2.2.2.2.2.2.2.2.2.2.2.2.2.2.2.2.2.1, .u64 r.2.2.2.2.2.2.2.2.2.2.2.2.2.2.2.2.2.2.1, sl A n c, .u64 r.2.2.2.2.2.2.2.2.2.2.2.2.2.2.2.2.2.2.2.2], Ow e8 A n c r.2.2.2.2.2.2.2.2.2.2.2.2.2.2.2.2.2.2.2.1]) := by
 unfold m_r05_Node_passed at hm
 subst hn_n_P_Salt
 subst hn_n_P_Personal
 subst hn_n_Key
 obtain rfl := k.len 1 rfl
 refine calz [pt g_n 0] Tryz.func70 rfl ?_
 refine W_seq <| W_reg <| WL_op <| Op_alloc [] 2 [.ar e64 (Vec.rep 16 (0 : UInt64))] (by kernel_rfl) k ?_
 intro g w_ k_
 refine We 3 .a ?_
 refine Wn <| W_seq <| W_reg <| We 1 (.n 11 (pt g_n 0) .a) ?_
 refine WL_op ?_
 obtain ⟨r_, h_r_, hm⟩ := ob hm
 obtain ⟨F1, O1, kin, hO, hre, hF, hb⟩ := k_.go (.i (.i (.r .e)))
 refine Op_cz 12 mr_go81 (c_r05_Node_first (F := F1) (O := O1) _ _ _ _ _ _ _ _ _ _ _ _ _ _ _ _ _ _ _ _ _ _ _ _ _ _ _ _ _ _ _ _ _ (Ro.of_old h_n_P_Salt k_ hF) rfl hc_n_P_Salt (Ro.of_old h_n_P_Personal k_ hF) rfl hc_n_P_Personal (Ro.of_old h_n_Key k_ hF) rfl hc_n_Key kin _ h_r_) ?_
 rintro e_ w_1 ⟨A0, _, c0, rfl, rfl, k_1⟩
 have k_2 := hb w_1 _ _ k_1 (.c (.c .n))
 refine ⟨.agg [.ar e64 r_.1], rfl, ?_⟩
 refine WL_op <| Op_alloc [] 6 [.ar e64 (Vec.rep 16 (0 : UInt64))] (by kernel_rfl) k_2 ?_
 intro g1 w_2 k_3
 refine WL_op <| Op_bz 3 (.agg [.ar e64 r_.1]) [.ar e64 r_.1] (Pt.at g1 0) k_3 rfl .all ?_
 intro w_3 k_4
 refine Wn <| W_seq <| Wa (.n 7 (.u64 r_.2.2.2.2.2.2.2.2.2.2.2.2.2.2.1) (.k (.ss .a))) (qs g_n 0 <| qs g_n 0 <| qB k_4 0 rfl 31 (.u64 r_.2.2.2.2.2.2.2.2.2.2.2.2.2.2.1) (by kernel_rfl) <| qe) ?_
 refine W_seq <| Wa (.n 8 (.u64 r_.2.2.2.2.2.2.2.2.2.2.2.2.2.2.2.1) .a) (qs g_n 0 <| qs g_n 0 <| qB k_4 0 rfl 32 (.u64 r_.2.2.2.2.2.2.2.2.2.2.2.2.2.2.2.1) (by kernel_rfl) <| qe) ?_
 refine W_seq <| W_reg <| Wl 4 (.n 24 (I r_.2.1) .a) (qs g_n 0 <| qs g_n 0 <| qB k_4 0 rfl 0 (I r_.2.1) (by kernel_rfl) <| qe) ?_
 refine WL_op ?_
 have k_5 := k_4.sel (.kkkk .e)
 obtain ⟨r_1, h_r_1, hm⟩ := ob hm
 refine Op_cz 25 mr_go75 (c_r05_Block (F := N0) (O := N0) _ (Cx.refl _) _ h_r_1) ?_
 rintro e_ w_4 ⟨rfl, k_6⟩
 have k_7 := k_5.call k_6
 refine ⟨I r_1, rfl, ?_⟩
 refine We 1 (.n 9 (I r_1) (.ss .a)) ?_
 refine Wn <| Wz (.n 10 (I 0) .a) ?_
 refine W_seq <| W_block <| W_lp (m_r05_Node_passed_l0 r_ r_1) (fun s L wr => ∃ (h : Vec UInt64 16) (lo : UInt64) (hi : UInt64) (at_ : Int), (h, lo, hi, at_) = s ∧ L = [(0, pt g_n 0), (2, pt g 0), (6, pt g1 0), (7, .u64 lo), (8, .u64 hi), (9, I r_1), (10, I at_)] ∧ Cx F O w wr [Bx 109 g_n [I r_.2.1, I r_.2.2.1, I r_.2.2.2.1, I r_.2.2.2.2.1, I r_.2.2.2.2.2.1, .u32 r_.2.2.2.2.2.2.1, .u64 r_.2.2.2.2.2.2.2.1, .u32 r_.2.2.2.2.2.2.2.2.1, I r_.2.2.2.2.2.2.2.2.2.1, I r_.2.2.2.2.2.2.2.2.2.2.1, sl A_n_P_Salt n_P_Salt.length c_n_P_Salt, sl A_n_P_Personal n_P_Personal.length c_n_P_Personal, sl A_n_Key n_Key.length c_n_Key, .b r_.2.2.2.2.2.2.2.2.2.2.2.1, .ar e64 r_.2.2.2.2.2.2.2.2.2.2.2.2.1, .b r_.2.2.2.2.2.2.2.2.2.2.2.2.2.1, .u64 r_.2.2.2.2.2.2.2.2.2.2.2.2.2.2.1, .u64 r_.2.2.2.2.2.2.2.2.2.2.2.2.2.2.2.1, sl A0 r_.2.2.2.2.2.2.2.2.2.2.2.2.2.2.2.2.1.length c0, .u64 r_.2.2.2.2.2.2.2.2.2.2.2.2.2.2.2.2.2], Ow e8 A0 r_.2.2.2.2.2.2.2.2.2.2.2.2.2.2.2.2.1.length c0 r_.2.2.2.2.2.2.2.2.2.2.2.2.2.2.2.2.1, Bx 107 g [.ar e64 (Vec.rep 16 (0 : UInt64))], Bx 107 g1 [.ar e64 h]]) (r_.1, r_.2.2.2.2.2.2.2.2.2.2.2.2.2.2.1, r_.2.2.2.2.2.2.2.2.2.2.2.2.2.2.2.1, (0 : Int)) r hm ⟨r_.1, r_.2.2.2.2.2.2.2.2.2.2.2.2.2.2.1, r_.2.2.2.2.2.2.2.2.2.2.2.2.2.2.2.1, (0 : Int), rfl, rfl, k_7⟩ (by kernel_rfl) ?_
 intro s0_ L_ w_5 y0 hrel hstep hr0
 obtain ⟨h, lo, hi, at_, rfl, rfl, k_8⟩ := hrel
 have hm := hstep; simp only [m_r05_Node_passed_l0] at hm
 clear hstep
 refine W_seq <| W_seq <| Wa (.n 34 (.b (decide ((w64 (at_ + r_1)) < (r_.2.2.2.2.2.2.2.2.2.2.2.2.2.2.2.2.1.length : Int)))) .a) (qs g_n 0 <| qs g_n 0 <| qB k_8 0 rfl 33 (sl A0 r_.2.2.2.2.2.2.2.2.2.2.2.2.2.2.2.2.1.length c0) (by kernel_rfl) <| qe) ?_
 refine W_pz ((w64 (at_ + r_1)) < (r_.2.2.2.2.2.2.2.2.2.2.2.2.2.2.2.2.1.length : Int)) (fun hc => ?_) fun hc => ?_
 · rw [if_pos hc] at hm
   refine W_skip <| At_go <| W_block <| W_seq <| W_reg <| We 4 (.n 36 (.u64 lo) (.n 37 (.u64 hi) (.n 39 (.u64 (UInt64.ofInt r_1)) (.s .a)))) ?_
   refine WL_op ?_
   obtain ⟨r_2, h_r_2, hm⟩ := ob hm
   refine Op_cz 40 mr_go71 (c_r01_Add (F := N0) (O := N0) _ _ _ (Cx.refl _) _ h_r_2) ?_
   rintro e_ w_6 ⟨rfl, k_9⟩
   have k_10 := k_8.call k_9
   refine ⟨.tup [.u64 r_2.1, .u64 r_2.2.1, .b r_2.2.2], rfl, ?_⟩
   refine We 6 (.n 7 (.u64 r_2.1) (.n 8 (.u64 r_2.2.1) (.ssss (.kkk (.ss .a))))) ?_
   refine Wn <| W_seq ?_
   have k_11 := k_10.drew 1
   refine W_m mr_mixed (.q 4 1 (.q 9 1 (.q 10 1 (.q 12 1 (.q 13 1 (.q 0 2 (.q 1 2 (.q 2 2 (.q 3 1 (.q 5 2 (.q 6 2 (.q 7 2 (.q 8 1 (.op 11 (.op 14 (.op 15 .nil)))))))))))))))) [11, 14, 15] k_11 (.c (.kkkk .e) (.c (.kkkk .e) (.c (.kk (.k .z)) .l))) (by kernel_rfl) (fun _ => ?_)
   refine MXz 5 1 (.n 48 (.agg [.ar e64 h]) (.n 53 (I at_) (.n 54 (I r_1) (.n 56 (.u64 r_2.1) (.n 57 (.u64 r_2.2.1) .a))))) (fun x hx => qT hx 3 rfl 0 16 [.ar e64 h] (by kernel_rfl) (by decide) <| qe) fun _ => ?_
   refine MXz 3 2 (.n 46 (pt g_n 0) .a) (fun x hx => qs g_n 0 <| qs g_n 0 <| qe) fun _ => ?_
   refine MXz 1 1 (.n 47 (I r_.2.1) (.s .a)) (fun x hx => qB hx 0 rfl 0 (I r_.2.1) (by kernel_rfl) <| qe) fun _ => ?_
   refine MXz 3 2 (.n 51 (pt g_n 33) .a) (fun x hx => qs g_n 0 <| qs g_n 0 <| qe) fun _ => ?_
   refine MXz 1 1 (.n 52 (sl A0 r_.2.2.2.2.2.2.2.2.2.2.2.2.2.2.2.2.1.length c0) (.s .a)) (fun x hx => qB hx 0 rfl 33 (sl A0 r_.2.2.2.2.2.2.2.2.2.2.2.2.2.2.2.2.1.length c0) (by kernel_rfl) <| qe) fun _ => ?_
   refine MX_op (by kernel_rfl) rfl ?_
   obtain ⟨r_3, h_r_3, hm⟩ := ob hm
   refine Op_cz 55 mr_go74 (c_r05_cut (F := N0) (O := N0) _ _ _ _ _ _ (Ro.n0 (k_11.rd 1 rfl)) (k_11.len 1 rfl) (k_11.lec 1 rfl) (Cx.refl _) _ h_r_3) ?_
   rintro e_ w_7 ⟨A1, _, c1, rfl, rfl, k_12⟩
   have k_13 := k_11.call k_12
   refine ⟨sl A1 r_3.length c1, rfl, ?_⟩
   refine ⟨(k_13.sel (.kkkk .z)), fun _ => ?_⟩
   refine MX_op (by kernel_rfl) rfl ?_
   obtain ⟨r_4, h_r_4, hm⟩ := ob hm
   refine Op_cz 58 mr_go73 (c_r05_in (F := N0) (O := N0) _ _ _ _ _ _ _ _ _ _ (Ro.n0 (k_13.rd 4 rfl)) (k_13.len 4 rfl) (k_13.lec 4 rfl) (Cx.refl _) _ h_r_4) ?_
   rintro e_ w_8 ⟨rfl, k_14⟩
   have k_15 := k_13.call k_14
   refine ⟨.agg [.ar e64 r_4], rfl, ?_⟩
   have k_16 := k_15.sel (.kkkk .z)
   refine ⟨k_16, fun _ => ?_⟩
   refine MX_op (by kernel_rfl) rfl <| Op_bz 3 (.agg [.ar e64 r_4]) [.ar e64 r_4] (Pt.at g1 0) k_16 rfl .all ?_
   intro w_9 k_17
   refine ⟨(k_17.sel (.kk (.k .z))), fun _ => ?_⟩
   refine MX_nil <| At_go <| W_q [] (.n 10 (I (w64 (at_ + r_1))) (.ssss (.ssss (.s (.kkkk (.kk .z)))))) qe (by kernel_rfl) ?_
   refine At_in ?_
   exact At_rd (r_4, r_2.1, r_2.2.1, w64 (at_ + r_1)) (Option.some.inj hm).symm ⟨r_4, r_2.1, r_2.2.1, w64 (at_ + r_1), rfl, rfl, k_17⟩ (by kernel_rfl)
 rw [if_neg hc] at hm
 refine W_exit (At_te (At_te (At_ie ?_)))
 have hm := exit_of hm hr0
 refine At_go <| W_seq <| W_reg <| Wl 4 (.n 62 (.agg [.ar e64 h]) (.n 63 (.u64 lo) (.n 64 (.u64 hi) (.n 65 (I at_) (.ss (.k .z)))))) (qT k_8 3 rfl 0 16 [.ar e64 h] (by kernel_rfl) (by decide) <| qe) ?_
 refine WL_op <| Op_bz 2 (.agg [.ar e64 h]) [.ar e64 h] (Pt.at g 0) k_8 rfl .all ?_
 intro w_10 k_18
 have k_19 := k_18.sel (.kk (.k .z))
 refine We 3 (.n 3 (.u64 lo) (.n 4 (.u64 hi) (.n 5 (I at_) (.ssss .a)))) ?_
 refine Wn <| W_ret ?_
 obtain rfl := si hm
 refine At_rz [.agg [.ar e64 h], .u64 lo, .u64 hi, I at_] (qo (.agg [.ar e64 h]) <| qc (fun w => Rd w (some ⟨g, 0, none⟩) (SV.cl [.ar e64 h])) (k_19.brd 2 rfl) <| qe) ?_
 have k_20 := k_19.sel (.kk .z)
 exact ⟨A0, r_.2.2.2.2.2.2.2.2.2.2.2.2.2.2.2.2.1.length, c0, k_20.len 1 rfl, rfl, k_20⟩
theorem c_r01_Store (w_ : UInt64) (n : Int) (k : Cx F O w w []) (r : (List UInt8)) (hm : m_r01_Store w_ n = some r) :
    Calls Tryz.prog 82 (vals [.u64 w_, I n]) w (fun e w' => ∃ A n1 c, r.length = n1 ∧ e = .returned (SV.val (sl A n1 c)) ∧ Cx F O w w' [Ow e8 A n1 c r]) := by
 unfold m_r01_Store at hm
 refine calz [.u64 w_, I n] Tryz.func82 rfl ?_
 refine Wz .a ?_
 refine Wz (.n 5 (sl none 0 0) .a) ?_
 refine W_seq <| Wz (.n 6 (I 0) .a) ?_
 refine W_block ?_
 have k_1 := k.nil e8
 refine W_lp (m_r01_Store_l0 n) (fun s L wr => ∃ (w_1 : UInt64) (b : List UInt8) (i : Int) (A0 : Option Addr) (n2 : Nat) (c0 : Nat), (w_1, b, i) = s ∧ L = [(0, .u64 w_1), (1, I n), (5, sl A0 n2 c0), (6, I i)] ∧ b.length = n2 ∧ Cx F O w wr [Ow e8 A0 n2 c0 b]) (w_, ([] : List UInt8), (0 : Int)) r hm ⟨w_, ([] : List UInt8), (0 : Int), none, 0, 0, rfl, rfl, k_1.len 0 rfl, k_1⟩ (by kernel_rfl) ?_
 intro s0_ L_ w_2 y0 hrel hstep hr0
 obtain ⟨w_1, b, i, A0, _, c0, rfl, rfl, rfl, k_⟩ := hrel
 have hm := hstep; simp only [m_r01_Store_l0] at hm
 clear hstep
 refine W_seq <| Wz (.n 9 (.b (decide (i < n))) .a) ?_
 refine W_pz (i < n) (fun hc => ?_) fun hc => ?_
 · rw [if_pos hc] at hm
   refine W_skip <| At_go <| W_seq <| W_block <| W_seq <| W_reg <| Wl 4 (.n 12 (sl A0 b.length c0) (.n 15 (.u8 (UInt8.ofNat (w_1 % 256).toNat)) (.s .a))) (qp ((256 : UInt64) ≠ 0) (by show (256 : UInt64) ≠ 0; decide) <| qe) ?_
   refine WL_op <| Op_mk mr_tf33 e8 [] 16 ([UInt8.ofNat (w_1 % 256).toNat] : List UInt8) [(0, .u8 (UInt8.ofNat (w_1 % 256).toNat))] [.u8 (UInt8.ofNat (w_1 % 256).toNat)] (by kernel_rfl) (by kernel_rfl) (by kernel_rfl) k_ ?_
   intro A1 w_3 k_2
   refine WL_op ?_
   obtain ⟨b1, h_b1, hm⟩ := ob hm
   obtain ⟨hz, hl⟩ := app_some h_b1
   refine Op_append (E := e8) (v := sl A1 1 1) (ys := ([UInt8.ofNat (w_1 % 256).toNat] : List UInt8)) mr_tf33 [] 17 0 (by kernel_rfl) k_2 rfl (Src.sl (k_2.rd 1 rfl) (k_2.len 1 rfl) (by rfl)) (k_2.len 1 rfl) (by have := k_2.len 0 rfl; have := (k_2.len 1 rfl); omega) ?_
   intro A2 c1 w_4 k_3
   rw [← hl] at k_3
   have k_4 := k_3.sel (.k .z)
   refine We 1 (.n 5 (sl A2 (b.length + 1) c1) (.ssss (.kk (.s .a)))) ?_
   refine Wn <| W_q [] (.n 0 (.u64 (w_1 / 256)) (.k (.s .a))) (qp ((256 : UInt64) ≠ 0) (by show (256 : UInt64) ≠ 0; decide) <| qe) (by kernel_rfl) ?_
   refine At_in <| At_go <| W_q [] (.n 6 (I (w64 (i + 1))) (.kkk .z)) qe (by kernel_rfl) ?_
   exact At_rd (w_1 / 256, b1, w64 (i + 1)) (Option.some.inj hm).symm ⟨w_1 / 256, b1, w64 (i + 1), A2, b.length + 1, c1, rfl, rfl, k_4.len 0 rfl, k_4⟩ (by kernel_rfl)
 rw [if_neg hc] at hm
 refine W_exit (At_te (At_te (At_ie ?_)))
 have hm := exit_of hm hr0
 refine At_go <| Wz (.n 4 (sl A0 b.length c0) .z) ?_
 refine W_ret ?_
 obtain rfl := si hm
 refine At_rz [sl A0 b.length c0] qe ?_
 exact ⟨A0, b.length, c0, k_.len 0 rfl, rfl, k_⟩
theorem c_r05_bytes (kind : Int) (h : Vec UInt64 16) (k : Cx F O w w []) (r : (List UInt8)) (hm : m_r05_bytes kind h = some r) :
    Calls Tryz.prog 72 (vals [I kind, .agg [.ar e64 h]]) w (fun e w' => ∃ A n c, r.length = n ∧ e = .returned (SV.val (sl A n c)) ∧ Cx F O w w' [Ow e8 A n c r]) := by
 unfold m_r05_bytes at hm
 refine calz [I kind, .agg [.ar e64 h]] Tryz.func72 rfl ?_
 refine W_seq <| W_reg <| WL_op <| Op_box [] 3 (.agg [.ar e64 h]) [.ar e64 h] (by kernel_rfl) k ?_
 intro g w_ k_
 refine We 1 (.kk .z) ?_
 refine Wn <| Wz (.n 5 (sl none 0 0) .a) ?_
 refine W_seq <| Wz (.n 6 (I 0) .a) ?_
 refine W_block ?_
 have k_2 := k_.nil e8
 refine W_lp (m_r05_bytes_l0 kind h) (fun s L wr => ∃ (b : List UInt8) (i : Int) (A0 : Option Addr) (n0 : Nat) (c0 : Nat), (b, i) = s ∧ L = [(0, I kind), (3, pt g 0), (5, sl A0 n0 c0), (6, I i)] ∧ b.length = n0 ∧ Cx F O w wr [Bx 107 g [.ar e64 h], Ow e8 A0 n0 c0 b]) (([] : List UInt8), (0 : Int)) r hm ⟨([] : List UInt8), (0 : Int), none, 0, 0, rfl, rfl, k_2.len 1 rfl, k_2⟩ (by kernel_rfl) ?_
 intro s0_ L_ w_1 y0 hrel hstep hr0
 obtain ⟨b, i, A0, _, c0, rfl, rfl, rfl, k_1⟩ := hrel
 have hm := hstep; simp only [m_r05_bytes_l0] at hm
 clear hstep
 refine W_seq <| Wz (.n 8 (.b (decide (i < 8))) .a) ?_
 refine W_pz (i < 8) (fun hc => ?_) fun hc => ?_
 · rw [if_pos hc] at hm
   refine W_skip <| At_go <| W_seq <| W_block ?_
   have k_3 := k_1.drew 1
   refine W_m mr_mixed (.q 0 2 (.q 4 2 (.q 1 3 (.q 2 3 (.q 3 2 (.op 5 (.q 6 2 (.op 7 (.op 8 (.q 9 3 .nil)))))))))) [5, 7, 8] k_3 (.c (.kk .e) (.c (.kk .e) (.c (.k .z) .l))) (by kernel_rfl) (fun _ => ?_)
   refine MXz 2 2 (.n 11 (sl A0 b.length c0) (.n 15 (I kind) (.s .a))) (fun x hx => qe) fun _ => ?_
   obtain ⟨x_0, zh0, hm⟩ := ob hm
   refine MXz 2 3 (.n 13 (.v (.pointer (ixA (some ⟨g, 0, none⟩) i 1))) .a) (fun x hx => qI g 0 zh0 <| qe) fun _ => ?_
   refine MXz 1 2 (.n 14 (.u64 x_0) (.s .a)) (fun x hx => qC (.u64 x_0) (Rd.el (k := 0) (hx.vrd 0 rfl e64 h 0 (by kernel_rfl)) zh0 (Pt.ix1 (some ⟨g, 0, none⟩) i 1) rfl) <| qe) fun _ => ?_
   refine MX_op (by kernel_rfl) rfl ?_
   obtain ⟨r_, h_r_, hm⟩ := ob hm
   refine Op_cz 16 mr_go56 (c_r05_Full (F := N0) (O := N0) _ (Cx.refl _) _ h_r_) ?_
   rintro e_ w_2 ⟨rfl, k_4⟩
   have k_5 := k_3.call k_4
   refine ⟨I r_, rfl, ?_⟩
   refine ⟨k_5, fun _ => ?_⟩
   refine MXz 1 2 (.n 17 (I (w64 (Int.tdiv r_ 8))) (.s (.kk (.s .a)))) (fun x hx => qp ((8 : Int) ≠ (0 : Int)) (by omega) <| qe) fun _ => ?_
   refine MX_op (by kernel_rfl) rfl ?_
   obtain ⟨r_1, h_r_1, hm⟩ := ob hm
   refine Op_cz 18 mr_go82 (c_r01_Store (F := N0) (O := N0) _ _ (Cx.refl _) _ h_r_1) ?_
   rintro e_ w_3 ⟨A1, _, c1, rfl, rfl, k_6⟩
   have k_7 := k_5.call k_6
   refine ⟨sl A1 r_1.length c1, rfl, ?_⟩
   refine ⟨(k_7.sel (.kk .z)), fun _ => ?_⟩
   refine MX_op (by kernel_rfl) rfl ?_
   obtain ⟨b1, h_b1, hm⟩ := ob hm
   obtain ⟨hz, hl⟩ := app_some h_b1
   refine Op_append (E := e8) (v := sl A1 r_1.length c1) (ys := r_1) mr_tf33 [] 19 1 (by kernel_rfl) k_7 rfl (Src.sl (k_7.rd 2 rfl) (k_7.len 2 rfl) (by rfl)) (k_7.len 2 rfl) (by have := k_7.len 1 rfl; have := (k_7.len 2 rfl); omega) ?_
   intro A2 c2 w_4 k_8
   rw [← hl] at k_8
   have k_9 := k_8.sel (.kk .z)
   refine ⟨(k_9.sel (.k .z)), fun _ => ?_⟩
   refine MXz 1 3 (.n 5 (sl A2 (b.length + r_1.length) c2) (.ssss (.s (.kk (.s .a))))) (fun x hx => qe) fun _ => ?_
   refine MX_nil <| At_in <| At_go <| W_q [] (.n 6 (I (w64 (i + 1))) (.kkk .z)) qe (by kernel_rfl) ?_
   exact At_rd (b1, w64 (i + 1)) (Option.some.inj hm).symm ⟨b1, w64 (i + 1), A2, b.length + r_1.length, c2, rfl, rfl, k_9.len 1 rfl, k_9⟩ (by kernel_rfl)
 rw [if_neg hc] at hm
 refine W_exit (At_te (At_te (At_ie ?_)))
 have hm := exit_of hm hr0
 refine At_go <| Wz (.n 4 (sl A0 b.length c0) .z) ?_
 refine W_ret ?_
 obtain rfl := si hm
 refine At_rz [sl A0 b.length c0] qe ?_
 have k_10 := k_1.sel (.s (.k .e))
 exact ⟨A0, b.length, c0, k_10.len 0 rfl, rfl, k_10⟩
theorem c_r05_Node_Out (n_Kind : Int) (n_P_Digest : Int) (n_P_Key : Int) (n_P_Fanout : Int) (n_P_Depth : Int) (n_P_Leaf : UInt32) (n_P_Offset : UInt64) (n_P_Xof : UInt32) (n_P_NodeDepth : Int) (n_P_Inner : Int) (n_P_Salt : List UInt8) (n_P_Personal : List UInt8) (n_Key : List UInt8) (n_Last : Bool) (n_From : Vec UInt64 16) (n_Old : Bool) (n_Lo : UInt64) (n_Hi : UInt64) (n_Msg : List UInt8) (n_Count : UInt64) (g_n : Nat) (A_n_P_Salt : Option Addr) (n_n_P_Salt : Nat) (c_n_P_Salt : Nat) (A_n_P_Personal : Option Addr) (n_n_P_Personal : Nat) (c_n_P_Personal : Nat) (A_n_Key : Option Addr) (n_n_Key : Nat) (c_n_Key : Nat) (A_n_Msg : Option Addr) (n_n_Msg : Nat) (c_n_Msg : Nat) (h_n_P_Salt : Ro F w A_n_P_Salt (e8.all n_P_Salt)) (hn_n_P_Salt : n_P_Salt.length = n_n_P_Salt) (hc_n_P_Salt : n_n_P_Salt ≤ c_n_P_Salt) (h_n_P_Personal : Ro F w A_n_P_Personal (e8.all n_P_Personal)) (hn_n_P_Personal : n_P_Personal.length = n_n_P_Personal) (hc_n_P_Personal : n_n_P_Personal ≤ c_n_P_Personal) (h_n_Key : Ro F w A_n_Key (e8.all n_Key)) (hn_n_Key : n_Key.length = n_n_Key) (hc_n_Key : n_n_Key ≤ c_n_Key) (k : Cx F O w w [Bx 109 g_n [I n_Kind, I n_P_Digest, I n_P_Key, I n_P_Fanout, I n_P_Depth, .u32 n_P_Leaf, .u64 n_P_Offset, .u32 n_P_Xof, I n_P_NodeDepth, I n_P_Inner, sl A_n_P_Salt n_n_P_Salt c_n_P_Salt, sl A_n_P_Personal n_n_P_Personal c_n_P_Personal, sl A_n_Key n_n_Key c_n_Key, .b n_Last, .ar e64 n_From, .b n_Old, .u64 n_Lo, .u64 n_Hi, sl A_n_Msg n_n_Msg c_n_Msg, .u64 n_Count], Ow e8 A_n_Msg n_n_Msg c_n_Msg n_Msg]) (r : (List UInt8 × Int × Int × Int × Int × Int × UInt32 × UInt64 × UInt32 × Int × Int × Bool × Vec UInt64 16 × Bool × UInt64 × UInt64 × List UInt8 × UInt64)) (hm : m_r05_Node_Out n_Kind n_P_Digest n_P_Key n_P_Fanout n_P_Depth n_P_Leaf n_P_Offset n_P_Xof n_P_NodeDepth n_P_Inner n_P_Salt n_P_Personal n_Key n_Last n_From n_Old n_Lo n_Hi n_Msg n_Count = some r) :
    Calls Tryz.prog 58 (vals [pt g_n 0]) w (fun e w' => ∃ A n c A1 n1 c1, r.1.length = n ∧ r.2.2.2.2.2.2.2.2.2.2.2.2.2.2.2.2.1.length = n1 ∧ e = .returned (SV.val (sl A n c)) ∧ Cx F O w w' [Ow e8 A n c r.1, Bx 109 g_n [I r.2.1, I r.2.2.1, I r.2.2.2.1, I r.2.2.2.2.1, I r.2.2.2.2.2.1, .u32 r.2.2.2.2.2.2.1, .u64 r.2.2.2.2.2.2.2.1, .u32 r.2.2.2.2.2.2.2.2.1, I r.2.2.2.2.2.2.2.2.2.1, I r.2.2.2.2.2.2.2.2.2.2.1, sl A_n_P_Salt n_n_P_Salt c_n_P_Salt, sl A_n_P_Personal n_n_P_Personal c_n_P_Personal, sl A_n_Key n_n_Key c_n_Key, .b r.2.2.2.2.2.2.2.2.2.2.2.1, .ar e64 r.2.2.2.2.2.2.2.2.2.2.2.2.1, .b r.2.2.2.2.2.2.2.2.2.2.2.2.2.1, .u64 r.2.2.2.2.2.2.2.2.2.2.2.2.2.2.1, .u64 r.2.2.2.2.2.2.2.2.2.2.2.2.2.2.2.1, sl A1 n1 c1, .u64 r.2.2.2.2.2.2.2.2.2.2.2.2.2.2.2.2.2], Ow e8 A1 n1 c1 r.2.2.2.2.2.2.2.2.2.2.2.2.2.2.2.2.1]) := by
 unfold m_r05_Node_Out at hm
 subst hn_n_P_Salt
 subst hn_n_P_Personal
 subst hn_n_Key
 obtain rfl := k.len 1 rfl
 refine calz [pt g_n 0] Tryz.func58 rfl ?_
 refine Wz .a ?_
 refine W_seq <| W_reg <| We 1 (.n 8 (pt g_n 0) .a) ?_
 refine WL_op ?_
 obtain ⟨r_, h_r_, hm⟩ := ob hm
 obtain ⟨F1, O1, kin, hO, hre, hF, hb⟩ := k.go (.i (.i .e))
 refine Op_cz 9 mr_go70 (c_r05_Node_passed (F := F1) (O := O1) _ _ _ _ _ _ _ _ _ _ _ _ _ _ _ _ _ _ _ _ _ _ _ _ _ _ _ _ _ _ _ _ _ (Ro.of_old h_n_P_Salt k hF) rfl hc_n_P_Salt (Ro.of_old h_n_P_Personal k hF) rfl hc_n_P_Personal (Ro.of_old h_n_Key k hF) rfl hc_n_Key kin _ h_r_) ?_
 rintro e_ w_ ⟨A0, _, c0, rfl, rfl, k_⟩
 have k_1 := hb w_ _ _ k_ (.c (.c .n))
 refine ⟨.tup [.agg [.ar e64 r_.1], .u64 r_.2.1, .u64 r_.2.2.1, I r_.2.2.2.1], rfl, ?_⟩
 refine We 5 (.n 10 (.agg [.ar e64 r_.1]) (.n 11 (.u64 r_.2.1) (.n 12 (.u64 r_.2.2.1) (.n 13 (I r_.2.2.2.1) (.ss .a))))) ?_
 refine WL_op <| Op_alloc [] 3 [.ar e64 (Vec.rep 16 (0 : UInt64))] (by kernel_rfl) k_1 ?_
 intro g w_1 k_2
 refine WL_op <| Op_bz 2 (.agg [.ar e64 r_.1]) [.ar e64 r_.1] (Pt.at g 0) k_2 rfl .all ?_
 intro w_2 k_3
 refine We 3 (.n 4 (.u64 r_.2.1) (.n 5 (.u64 r_.2.2.1) (.n 6 (I r_.2.2.2.1) (.k (.ssss .a))))) ?_
 refine Wn <| W_seq <| W_reg <| Wl 10 (.n 15 (.u64 r_.2.1) (.n 16 (.u64 r_.2.2.1) (.n 24 (.u64 (UInt64.ofInt (w64 ((r_.2.2.2.2.2.2.2.2.2.2.2.2.2.2.2.2.2.2.2.1.length : Int) - r_.2.2.2.1)))) .a))) (qs g_n 0 <| qs g_n 0 <| qB k_3 0 rfl 33 (sl A0 r_.2.2.2.2.2.2.2.2.2.2.2.2.2.2.2.2.2.2.2.1.length c0) (by kernel_rfl) <| qe) ?_
 refine WL_op ?_
 obtain ⟨r_1, h_r_1, hm⟩ := ob hm
 refine Op_cz 25 mr_go71 (c_r01_Add (F := N0) (O := N0) _ _ _ (Cx.refl _) _ h_r_1) ?_
 rintro e_ w_3 ⟨rfl, k_4⟩
 have k_5 := k_3.call k_4
 refine ⟨.tup [.u64 r_1.1, .u64 r_1.2.1, .b r_1.2.2], rfl, ?_⟩
 refine We 6 (.n 4 (.u64 r_1.1) (.n 5 (.u64 r_1.2.1) (.ssss (.ss .a)))) ?_
 refine Wn <| W_seq ?_
 have k_6 := k_5.drew 1
 refine W_m mr_mixed (.q 8 3 (.q 13 3 (.q 20 3 (.q 21 3 (.q 0 4 (.q 1 4 (.q 2 4 (.q 3 3 (.q 4 4 (.q 5 4 (.q 6 4 (.q 7 3 (.q 9 4 (.q 10 4 (.q 11 4 (.q 12 3 (.q 14 4 (.q 15 4 (.q 16 4 (.q 17 3 (.q 22 4 (.q 23 4 (.q 24 4 (.q 25 3 (.op 18 (.op 19 (.op 26 (.op 27 (.q 28 4 .nil))))))))))))))))))))))))))))) [18, 19, 26, 27] k_6 (.c (.kk (.k .e)) (.c (.kk (.k .e)) (.c (.kk (.k .e)) (.c (.kk (.k .e)) .l)))) (by kernel_rfl) (fun _ => ?_)
 refine MXz 4 3 (.n 37 (.agg [.ar e64 r_.1]) (.n 42 (I r_.2.2.2.1) (.n 49 (.u64 r_1.1) (.n 50 (.u64 r_1.2.1) (.ssss .a))))) (fun x hx => qT hx 2 rfl 0 16 [.ar e64 r_.1] (by kernel_rfl) (by decide) <| qe) fun _ => ?_
 refine MXz 3 4 (.n 31 (pt g_n 0) .a) (fun x hx => qs g_n 0 <| qs g_n 0 <| qe) fun _ => ?_
 refine MXz 1 3 (.n 32 (I r_.2.2.2.2.1) (.s .a)) (fun x hx => qB hx 0 rfl 0 (I r_.2.2.2.2.1) (by kernel_rfl) <| qe) fun _ => ?_
 refine MXz 3 4 (.n 35 (pt g_n 0) .a) (fun x hx => qs g_n 0 <| qs g_n 0 <| qe) fun _ => ?_
 refine MXz 1 3 (.n 36 (I r_.2.2.2.2.1) (.s .a)) (fun x hx => qB hx 0 rfl 0 (I r_.2.2.2.2.1) (by kernel_rfl) <| qe) fun _ => ?_
 refine MXz 3 4 (.n 40 (pt g_n 33) .a) (fun x hx => qs g_n 0 <| qs g_n 0 <| qe) fun _ => ?_
 refine MXz 1 3 (.n 41 (sl A0 r_.2.2.2.2.2.2.2.2.2.2.2.2.2.2.2.2.2.2.2.1.length c0) (.s .a)) (fun x hx => qB hx 0 rfl 33 (sl A0 r_.2.2.2.2.2.2.2.2.2.2.2.2.2.2.2.2.2.2.2.1.length c0) (by kernel_rfl) <| qe) fun _ => ?_
 refine MXz 3 4 (.n 45 (pt g_n 0) .a) (fun x hx => qs g_n 0 <| qs g_n 0 <| qe) fun _ => ?_
 refine MXz 1 3 (.n 46 (I r_.2.2.2.2.1) (.s .a)) (fun x hx => qB hx 0 rfl 0 (I r_.2.2.2.2.1) (by kernel_rfl) <| qe) fun _ => ?_
 refine MXz 3 4 (.n 53 (pt g_n 13) (.kkkk (.kkkk .z))) (fun x hx => qs g_n 0 <| qs g_n 0 <| qe) fun _ => ?_
 refine MXz 1 3 (.n 54 (.b r_.2.2.2.2.2.2.2.2.2.2.2.2.2.2.1) (.s .a)) (fun x hx => qB hx 0 rfl 13 (.b r_.2.2.2.2.2.2.2.2.2.2.2.2.2.2.1) (by kernel_rfl) <| qe) fun _ => ?_
 refine MX_op (by kernel_rfl) rfl ?_
 have k_7 := k_6.sel (.kk (.k .e))
 obtain ⟨r_2, h_r_2, hm⟩ := ob hm
 refine Op_cz 47 mr_go75 (c_r05_Block (F := N0) (O := N0) _ (Cx.refl _) _ h_r_2) ?_
 rintro e_ w_4 ⟨rfl, k_8⟩
 have k_9 := k_7.call k_8
 refine ⟨I r_2, rfl, ?_⟩
 refine ⟨k_9, fun _ => ?_⟩
 refine MX_op (by kernel_rfl) rfl ?_
 obtain ⟨r_3, h_r_3, hm⟩ := ob hm
 refine Op_cz 48 mr_go74 (c_r05_cut (F := N0) (O := N0) _ _ _ _ _ _ (Ro.n0 (k_9.rd 1 rfl)) (k_9.len 1 rfl) (k_9.lec 1 rfl) (Cx.refl _) _ h_r_3) ?_
 rintro e_ w_5 ⟨A2, _, c2, rfl, rfl, k_10⟩
 have k_11 := k_9.call k_10
 refine ⟨sl A2 r_3.length c2, rfl, ?_⟩
 refine ⟨(k_11.sel (.kk (.k .z))), fun _ => ?_⟩
 refine MX_op (by kernel_rfl) rfl ?_
 obtain ⟨r_4, h_r_4, hm⟩ := ob hm
 refine Op_cz 55 mr_go73 (c_r05_in (F := N0) (O := N0) _ _ _ _ _ _ _ _ _ _ (Ro.n0 (k_11.rd 3 rfl)) (k_11.len 3 rfl) (k_11.lec 3 rfl) (Cx.refl _) _ h_r_4) ?_
 rintro e_ w_6 ⟨rfl, k_12⟩
 have k_13 := k_11.call k_12
 refine ⟨.agg [.ar e64 r_4], rfl, ?_⟩
 have k_14 := k_13.sel (.kk (.k .z))
 refine ⟨k_14, fun _ => ?_⟩
 refine MX_op (by kernel_rfl) rfl ?_
 obtain ⟨r_5, h_r_5, hm⟩ := ob hm
 refine Op_cz 56 mr_go72 (c_r05_bytes (F := N0) (O := N0) _ _ (Cx.refl _) _ h_r_5) ?_
 rintro e_ w_7 ⟨A3, _, c3, rfl, rfl, k_15⟩
 have k_16 := k_14.call k_15
 refine ⟨sl A3 r_5.length c3, rfl, ?_⟩
 refine ⟨(k_16.sel (.kk (.k .z))), fun _ => ?_⟩
 refine MXz 1 4 (.n 2 (sl A3 r_5.length c3) .z) (fun x hx => qe) fun _ => ?_
 refine MX_nil <| At_go <| W_ret ?_
 obtain rfl := si hm
 refine At_rz [sl A3 r_5.length c3] qe ?_
 have k_17 := (((k_16.pk (.t .h)).pk (.t .h)).pk (.t (.t (.t .h)))).sel (.kk (.k .z))
 exact ⟨A3, r_5.length, c3, A0, r_.2.2.2.2.2.2.2.2.2.2.2.2.2.2.2.2.2.2.2.1.length, c0, k_17.len 0 rfl, k_17.len 2 rfl, rfl, k_17⟩
theorem c_r05_Hash (kind : Int) (p_Digest : Int) (p_Key : Int) (p_Fanout : Int) (p_Depth : Int) (p_Leaf : UInt32) (p_Offset : UInt64) (p_Xof : UInt32) (p_NodeDepth : Int) (p_Inner : Int) (p_Salt : List UInt8) (p_Personal : List UInt8) (key : List UInt8) (last : Bool) (out : Int) (data : List UInt8) (A_p_Salt : Option Addr) (n_p_Salt : Nat) (c_p_Salt : Nat) (A_p_Personal : Option Addr) (n_p_Personal : Nat) (c_p_Personal : Nat) (A_key : Option Addr) (n_key : Nat) (c_key : Nat) (A_data : Option Addr) (n_data : Nat) (c_data : Nat) (h_p_Salt : Ro F w A_p_Salt (e8.all p_Salt)) (hn_p_Salt : p_Salt.length = n_p_Salt) (hc_p_Salt : n_p_Salt ≤ c_p_Salt) (h_p_Personal : Ro F w A_p_Personal (e8.all p_Personal)) (hn_p_Personal : p_Personal.length = n_p_Personal) (hc_p_Personal : n_p_Personal ≤ c_p_Personal) (h_key : Ro F w A_key (e8.all key)) (hn_key : key.length = n_key) (hc_key : n_key ≤ c_key) (h_data : Ro F w A_data (e8.all data)) (hn_data : data.length = n_data) (hc_data : n_data ≤ c_data) (k : Cx F O w w []) (r : (List UInt8 × Int)) (hm : m_r05_Hash kind p_Digest p_Key p_Fanout p_Depth p_Leaf p_Offset p_Xof p_NodeDepth p_Inner p_Salt p_Personal key last out data = some r) :
    Calls Tryz.prog 39 (vals [I kind, .agg [I p_Digest, I p_Key, I p_Fanout, I p_Depth, .u32 p_Leaf, .u64 p_Offset, .u32 p_Xof, I p_NodeDepth, I p_Inner, sl A_p_Salt n_p_Salt c_p_Salt, sl A_p_Personal n_p_Personal c_p_Personal], sl A_key n_key c_key, .b last, I out, sl A_data n_data c_data]) w (fun e w' => ∃ A n c, r.1.length = n ∧ e = .returned (SV.val (.tup [sl A n c, I r.2])) ∧ Cx F O w w' [Ow e8 A n c r.1]) := by
 unfold m_r05_Hash at hm
 subst hn_p_Salt
 subst hn_p_Personal
 subst hn_key
 subst hn_data
 refine calz [I kind, .agg [I p_Digest, I p_Key, I p_Fanout, I p_Depth, .u32 p_Leaf, .u64 p_Offset, .u32 p_Xof, I p_NodeDepth, I p_Inner, sl A_p_Salt p_Salt.length c_p_Salt, sl A_p_Personal p_Personal.length c_p_Personal], sl A_key key.length c_key, .b last, I out, sl A_data data.length c_data] Tryz.func39 rfl ?_
 refine W_seq <| W_reg <| WL_op <| Op_box [] 7 (.agg [I p_Digest, I p_Key, I p_Fanout, I p_Depth, .u32 p_Leaf, .u64 p_Offset, .u32 p_Xof, I p_NodeDepth, I p_Inner, sl A_p_Salt p_Salt.length c_p_Salt, sl A_p_Personal p_Personal.length c_p_Personal]) [I p_Digest, I p_Key, I p_Fanout, I p_Depth, .u32 p_Leaf, .u64 p_Offset, .u32 p_Xof, I p_NodeDepth, I p_Inner, sl A_p_Salt p_Salt.length c_p_Salt, sl A_p_Personal p_Personal.length c_p_Personal] (by kernel_rfl) k ?_
 intro g w_ k_
 refine We 2 (.kk (.s .a)) ?_
 refine Wn <| W_seq <| W_reg <| Wl 3 (.n 17 (I kind) (.n 18 (.agg [I p_Digest, I p_Key, I p_Fanout, I p_Depth, .u32 p_Leaf, .u64 p_Offset, .u32 p_Xof, I p_NodeDepth, I p_Inner, sl A_p_Salt p_Salt.length c_p_Salt, sl A_p_Personal p_Personal.length c_p_Personal]) (.n 19 (sl A_key key.length c_key) (.s (.k (.s .a)))))) (qT k_ 0 rfl 0 11 [I p_Digest, I p_Key, I p_Fanout, I p_Depth, .u32 p_Leaf, .u64 p_Offset, .u32 p_Xof, I p_NodeDepth, I p_Inner, sl A_p_Salt p_Salt.length c_p_Salt, sl A_p_Personal p_Personal.length c_p_Personal] (by kernel_rfl) (by decide) <| qe) ?_
 refine WL_op ?_
 obtain ⟨r_, h_r_, hm⟩ := ob hm
 refine Op_cz 20 mr_go55 (c_r05_New (F := N0) (O := N0) _ _ _ _ _ _ _ _ _ _ _ _ _ _ _ _ _ _ _ _ _ _ (Ro.n0 (h_p_Salt.cx k_)) rfl hc_p_Salt (Ro.n0 (h_p_Personal.cx k_)) rfl hc_p_Personal (Ro.n0 (h_key.cx k_)) rfl hc_key (Cx.refl _) _ h_r_) ?_
 rcases r_ with r_1 | r_2
 · simp only [Sum.elim_inl, Sum.elim_inr] at hm
   rintro e_ w_1 ⟨rfl, k_1⟩
   have k_2 := k_.call k_1
   refine ⟨.tup [.v (.pointer none), I r_1], rfl, ?_⟩
   have k_3 := k_2.sel .z
   refine We 5 (.n 14 (.v (.pointer none)) (.n 15 (I r_1) (.ssss .a))) ?_
   refine Wn <| W_seq <| Wz (.n 24 (.b (decide (r_1 ≠ 0))) .a) ?_
   refine W_pz (r_1 ≠ 0) (fun hc => ?_) fun hc => ?_
   · rw [if_pos hc] at hm
     refine Wz (.n 12 (sl none 0 0) (.n 13 (I r_1) .z)) ?_
     refine W_ret (At_tr ?_)
     have k_4 := k_3.nil e8
     obtain rfl := si hm
     refine At_rz [sl none 0 0, I r_1] qe ?_
     exact ⟨none, 0, 0, k_4.len 0 rfl, rfl, k_4⟩
   rw [if_neg hc] at hm
   refine W_skip <| At_go <| W_seq <| W_seq <| W_reg <| We 3 (.n 28 (.b (decide (out < 1))) (.s (.k (.s .a)))) ?_
   refine WL_sp 28 (decide (out < 1)) (.s .a) (by kernel_rfl) (fun hg => ?_) (fun hg => ?_)
   · rw [if_pos (of_decide_eq_true hg)] at hm
     refine WLs 5 [28] (.n 33 (.b true) (.s (.k (.s .a)))) qe (by kernel_rfl) ?_
     refine Wn <| W_cond true (by kernel_rfl) (fun _ => ?_) (fun h => by cases h)
     refine Wz (.n 12 (sl none 0 0) (.n 13 (I 1) .z)) ?_
     refine W_ret (At_tr ?_)
     have k_5 := k_3.nil e8
     obtain rfl := si hm
     refine At_rz [sl none 0 0, I 1] qe ?_
     exact ⟨none, 0, 0, k_5.len 0 rfl, rfl, k_5⟩
   · rw [if_neg (of_decide_eq_false hg)] at hm
     refine WLs 2 [28] (.n 29 (I out) (.n 30 (I kind) (.kk (.s .a)))) qe (by kernel_rfl) ?_
     refine WL_op ?_
     obtain ⟨r_3, h_r_3, hm⟩ := ob hm
     refine Op_call [28] 31 _ mr_go56 (by kernel_rfl) (c_r05_Full (F := N0) (O := N0) _ (Cx.refl _) _ h_r_3) ?_
     rintro e_ w_2 ⟨rfl, k_6⟩
     have k_7 := k_3.call k_6
     refine ⟨I r_3, rfl, ?_⟩
     refine WLs 2 [28] (.n 33 (.b (decide (r_3 < out))) (.ssss .a)) qe (by kernel_rfl) ?_
     refine Wn <| W_pz (r_3 < out) (fun hc1 => ?_) fun hc1 => ?_
     · rw [if_pos hc1] at hm
       refine Wz (.n 12 (sl none 0 0) (.n 13 (I 1) .z)) ?_
       refine W_ret (At_tr ?_)
       have k_8 := k_7.nil e8
       obtain rfl := si hm
       refine At_rz [sl none 0 0, I 1] qe ?_
       exact ⟨none, 0, 0, k_8.len 0 rfl, rfl, k_8⟩
     rw [if_neg hc1] at hm
     cases hm
 · simp only [Sum.elim_inl, Sum.elim_inr] at hm
   rintro e_ w_3 ⟨g1, A0, _, c0, rfl, rfl, k_9⟩
   have k_10 := k_.call k_9
   refine ⟨.tup [pt g1 0, I 0], rfl, ?_⟩
   have k_11 := k_10.sel (.s (.kk .e))
   refine We 5 (.n 14 (pt g1 0) (.n 15 (I 0) (.ssss .a))) ?_
   refine Wn <| W_seq <| Wz (.n 24 (.b (decide (0 ≠ 0))) .a) ?_
   refine W_pz (0 ≠ 0) (fun hc0 => ?_) fun hc0 => ?_
   · rw [if_pos hc0] at hm
     refine Wz (.n 12 (sl none 0 0) (.n 13 (I 0) .z)) ?_
     refine W_ret (At_tr ?_)
     have k_12 := k_11.nil e8
     obtain rfl := si hm
     refine At_rz [sl none 0 0, I 0] qe ?_
     have k_13 := k_12.sel (.ss (.k .e))
     exact ⟨none, 0, 0, k_13.len 0 rfl, rfl, k_13⟩
   rw [if_neg hc0] at hm
   refine W_skip <| At_go <| W_seq <| W_seq <| W_reg <| We 3 (.n 28 (.b (decide (out < 1))) (.s (.k (.s .a)))) ?_
   refine WL_sp 28 (decide (out < 1)) (.s .a) (by kernel_rfl) (fun hg0 => ?_) (fun hg0 => ?_)
   · rw [if_pos (of_decide_eq_true hg0)] at hm
     refine WLs 5 [28] (.n 33 (.b true) (.s (.k (.s .a)))) qe (by kernel_rfl) ?_
     refine Wn <| W_cond true (by kernel_rfl) (fun _ => ?_) (fun h => by cases h)
     refine Wz (.n 12 (sl none 0 0) (.n 13 (I 1) .z)) ?_
     refine W_ret (At_tr ?_)
     have k_14 := k_11.nil e8
     obtain rfl := si hm
     refine At_rz [sl none 0 0, I 1] qe ?_
     have k_15 := k_14.sel (.ss (.k .e))
     exact ⟨none, 0, 0, k_15.len 0 rfl, rfl, k_15⟩
   · rw [if_neg (of_decide_eq_false hg0)] at hm
     refine WLs 2 [28] (.n 29 (I out) (.n 30 (I kind) (.kk (.s .a)))) qe (by kernel_rfl) ?_
     refine WL_op ?_
     obtain ⟨r_4, h_r_4, hm⟩ := ob hm
     refine Op_call [28] 31 _ mr_go56 (by kernel_rfl) (c_r05_Full (F := N0) (O := N0) _ (Cx.refl _) _ h_r_4) ?_
     rintro e_ w_4 ⟨rfl, k_16⟩
     have k_17 := k_11.call k_16
     refine ⟨I r_4, rfl, ?_⟩
     refine WLs 2 [28] (.n 33 (.b (decide (r_4 < out))) (.ssss .a)) qe (by kernel_rfl) ?_
     refine Wn <| W_pz (r_4 < out) (fun hc2 => ?_) fun hc2 => ?_
     · rw [if_pos hc2] at hm
       refine Wz (.n 12 (sl none 0 0) (.n 13 (I 1) .z)) ?_
       refine W_ret (At_tr ?_)
       have k_18 := k_17.nil e8
       obtain rfl := si hm
       refine At_rz [sl none 0 0, I 1] qe ?_
       have k_19 := k_18.sel (.ss (.k .e))
       exact ⟨none, 0, 0, k_19.len 0 rfl, rfl, k_19⟩
     rw [if_neg hc2] at hm
     refine W_skip <| At_go <| W_seq <| W_reg <| Wl 4 (.n 35 (.b last) (.n 37 (pt g1 13) (.s (.k (.s .a))))) (qs g1 0 <| qs g1 0 <| qe) ?_
     refine WL_op <| Op_bz 0 (.b last) [.b last] (Pt.at g1 13) k_17 rfl (.kkkk (.kkkk (.kkkk (.k .h)))) ?_
     intro w_5 k_20
     refine Wn <| W_seq <| W_reg <| We 2 (.n 38 (pt g1 0) (.n 39 (sl A_data data.length c_data) (.ss (.kk .z)))) ?_
     refine WL_op ?_
     have k_21 := k_20.sel (.kk .e)
     obtain ⟨r_5, h_r_5, hm⟩ := ob hm
     obtain ⟨F1, O1, kin, hO, hre, hF, hb⟩ := k_21.go (.i (.i .e))
     refine Op_cz 40 mr_go57 (c_r05_Node_Write (F := F1) (O := O1) _ _ _ _ _ _ _ _ _ _ _ _ _ _ _ _ _ _ _ _ _ _ _ _ _ _ _ _ _ _ _ _ _ _ _ _ _ (Ro.of_old h_p_Salt k_21 hF) rfl hc_p_Salt (Ro.of_old h_p_Personal k_21 hF) rfl hc_p_Personal (Ro.of_old h_key k_21 hF) rfl hc_key (Ro.of_old h_data k_21 hF) rfl hc_data kin _ h_r_5) ?_
     rintro e_ w_6 ⟨A1, _, c1, rfl, rfl, k_22⟩
     have k_23 := hb w_6 _ _ k_22 (.c (.c .n))
     refine ⟨.tup [], rfl, ?_⟩
     refine Wn <| W_seq <| W_reg <| We 1 (.n 41 (pt g1 0) (.ssss .a)) ?_
     refine WL_op ?_
     obtain ⟨r_6, h_r_6, hm⟩ := ob hm
     obtain ⟨F11, O11, kin1, hO1, hre1, hF1, hb1⟩ := k_23.go (.i (.i .e))
     refine Op_cz 42 mr_go58 (c_r05_Node_Out (F := F11) (O := O11) _ _ _ _ _ _ _ _ _ _ _ _ _ _ _ _ _ _ _ _ _ _ _ _ _ _ _ _ _ _ _ _ _ (Ro.of_old h_p_Salt k_23 hF1) rfl hc_p_Salt (Ro.of_old h_p_Personal k_23 hF1) rfl hc_p_Personal (Ro.of_old h_key k_23 hF1) rfl hc_key kin1 _ h_r_6) ?_
     rintro e_ w_7 ⟨A2, _, c2, A3, _, c3, rfl, rfl, rfl, k_24⟩
     have k_25 := hb1 w_7 _ _ k_24 (.c (.c (.c .n)))
     refine ⟨sl A2 r_6.1.length c2, rfl, ?_⟩
     have k_26 := k_25.sel (.k .z)
     obtain ⟨b, h_b, hm⟩ := ob hm
     have hs := slc_some h_b
     have hl := slc_len h_b
     have hn : r_6.1.length = r_6.1.length := (k_26.len 0 rfl)
     have hc3 : r_6.1.length ≤ c2 := (k_26.lec 0 rfl)
     have hc4 : b.length ≤ c2 := by omega
     refine Wl 4 (.n 12 (sl A2 b.length c2) (.n 13 (I 0) .z)) (qp (0 ≤ out ∧ out ≤ (c2 : Int)) (by omega) <| qo (.v (.slice A2 b.length c2)) <| qp (Value.slice (slA A2 0 c2 1) (Int.toNat out - 0) (c2 - 0) = .slice A2 b.length c2) (slx0 _ _ _ _ _ (by omega)) <| qe) ?_
     refine Wn <| W_ret ?_
     have k_27 := k_26.pre 0 rfl b.length c2 b (by omega) (by omega) (by omega) (slc_pre h_b rfl)
     obtain rfl := si hm
     refine At_rz [sl A2 b.length c2, I 0] qe ?_
     exact ⟨A2, b.length, c2, k_27.len 0 rfl, rfl, k_27⟩
theorem c_r06_Make (kind : Int) (n : Int) (key : List UInt8) (salt : List UInt8) (personal : List UInt8) (data : List UInt8) (A_key : Option Addr) (n_key : Nat) (c_key : Nat) (A_salt : Option Addr) (n_salt : Nat) (c_salt : Nat) (A_personal : Option Addr) (n_personal : Nat) (c_personal : Nat) (A_data : Option Addr) (n_data : Nat) (c_data : Nat) (h_key : Ro F w A_key (e8.all key)) (hn_key : key.length = n_key) (hc_key : n_key ≤ c_key) (h_salt : Ro F w A_salt (e8.all salt)) (hn_salt : salt.length = n_salt) (hc_salt : n_salt ≤ c_salt) (h_personal : Ro F w A_personal (e8.all personal)) (hn_personal : personal.length = n_personal) (hc_personal : n_personal ≤ c_personal) (h_data : Ro F w A_data (e8.all data)) (hn_data : data.length = n_data) (hc_data : n_data ≤ c_data) (k : Cx F O w w []) (r : (List UInt8 × Int)) (hm : m_r06_Make kind n key salt personal data = some r) :
    Calls Tryz.prog 29 (vals [I kind, I n, sl A_key n_key c_key, sl A_salt n_salt c_salt, sl A_personal n_personal c_personal, sl A_data n_data c_data]) w (fun e w' => ∃ A n1 c, r.1.length = n1 ∧ e = .returned (SV.val (.tup [sl A n1 c, I r.2])) ∧ Cx F O w w' [Ow e8 A n1 c r.1]) := by
 unfold m_r06_Make at hm
 subst hn_key
 subst hn_salt
 subst hn_personal
 subst hn_data
 refine calz [I kind, I n, sl A_key key.length c_key, sl A_salt salt.length c_salt, sl A_personal personal.length c_personal, sl A_data data.length c_data] Tryz.func29 rfl ?_
 refine Wz .a ?_
 refine W_seq <| W_reg <| We 6 (.n 21 (.agg [I n, I (key.length : Int), I 1, I 1, .u32 0, .u64 0, .u32 0, I 0, I 0, sl A_salt salt.length c_salt, sl A_personal personal.length c_personal]) (.kkk (.ss .a))) ?_
 refine WL_op <| Op_alloc [] 14 [I 0, I 0, I 0, I 0, .u32 0, .u64 0, .u32 0, I 0, I 0, sl none 0 0, sl none 0 0] (by kernel_rfl) k ?_
 intro g w_ k_
 refine WL_op <| Op_bz 0 (.agg [I n, I (key.length : Int), I 1, I 1, .u32 0, .u64 0, .u32 0, I 0, I 0, sl A_salt salt.length c_salt, sl A_personal personal.length c_personal]) [I n, I (key.length : Int), I 1, I 1, .u32 0, .u64 0, .u32 0, I 0, I 0, sl A_salt salt.length c_salt, sl A_personal personal.length c_personal] (Pt.at g 0) k_ rfl .all ?_
 intro w_1 k_1
 refine Wn <| W_seq <| W_reg <| Wl 2 (.n 22 (I kind) (.n 23 (.agg [I n, I (key.length : Int), I 1, I 1, .u32 0, .u64 0, .u32 0, I 0, I 0, sl A_salt salt.length c_salt, sl A_personal personal.length c_personal]) (.k (.s .a)))) (qT k_1 0 rfl 0 11 [I n, I (key.length : Int), I 1, I 1, .u32 0, .u64 0, .u32 0, I 0, I 0, sl A_salt salt.length c_salt, sl A_personal personal.length c_personal] (by kernel_rfl) (by decide) <| qe) ?_
 refine WL_op ?_
 obtain ⟨r_, h_r_, hm⟩ := ob hm
 refine Op_cz 24 mr_go38 (c_r02_Check (F := N0) (O := N0) _ _ _ _ _ _ _ _ _ _ _ _ _ _ _ _ _ _ (Ro.n0 (h_salt.cx k_1)) rfl hc_salt (Ro.n0 (h_personal.cx k_1)) rfl hc_personal (Cx.refl _) _ h_r_) ?_
 rintro e_ w_2 ⟨rfl, k_2⟩
 have k_3 := k_1.call k_2
 refine ⟨I r_, rfl, ?_⟩
 refine We 1 (.n 15 (I r_) (.sss .a)) ?_
 refine Wn <| W_seq <| Wz (.n 26 (.b (decide (r_ ≠ 0))) .a) ?_
 refine W_pz (r_ ≠ 0) (fun hc => ?_) fun hc => ?_
 · rw [if_pos hc] at hm
   refine Wz (.n 12 (sl none 0 0) (.n 13 (I r_) .z)) ?_
   refine W_ret (At_tr ?_)
   have k_4 := k_3.nil e8
   obtain rfl := si hm
   refine At_rz [sl none 0 0, I r_] qe ?_
   have k_5 := k_4.sel (.s (.k .e))
   exact ⟨none, 0, 0, k_5.len 0 rfl, rfl, k_5⟩
 rw [if_neg hc] at hm
 refine W_skip <| At_go <| W_seq <| W_reg <| Wl 5 (.n 28 (I kind) (.n 29 (.agg [I n, I (key.length : Int), I 1, I 1, .u32 0, .u64 0, .u32 0, I 0, I 0, sl A_salt salt.length c_salt, sl A_personal personal.length c_personal]) (.n 30 (sl A_key key.length c_key) (.n 31 (I n) (.n 32 (sl A_data data.length c_data) .z))))) (qT k_3 0 rfl 0 11 [I n, I (key.length : Int), I 1, I 1, .u32 0, .u64 0, .u32 0, I 0, I 0, sl A_salt salt.length c_salt, sl A_personal personal.length c_personal] (by kernel_rfl) (by decide) <| qe) ?_
 refine WL_op ?_
 obtain ⟨r_1, h_r_1, hm⟩ := ob hm
 refine Op_cz 33 mr_go39 (c_r05_Hash (F := N0) (O := N0) _ _ _ _ _ _ _ _ _ _ _ _ _ _ _ _ _ _ _ _ _ _ _ _ _ _ _ _ (Ro.n0 (h_salt.cx k_3)) rfl hc_salt (Ro.n0 (h_personal.cx k_3)) rfl hc_personal (Ro.n0 (h_key.cx k_3)) rfl hc_key (Ro.n0 (h_data.cx k_3)) rfl hc_data (Cx.refl _) _ h_r_1) ?_
 rintro e_ w_3 ⟨A0, _, c0, rfl, rfl, k_6⟩
 have k_7 := k_3.call k_6
 refine ⟨.tup [sl A0 r_1.1.length c0, I r_1.2], rfl, ?_⟩
 have k_8 := k_7.sel (.s (.k .e))
 refine We 4 (.n 12 (sl A0 r_1.1.length c0) (.n 13 (I r_1.2) .z)) ?_
 refine Wn <| W_ret ?_
 obtain rfl := si hm
 refine At_rz [sl A0 r_1.1.length c0, I r_1.2] qe ?_
 exact ⟨A0, r_1.1.length, c0, k_8.len 0 rfl, rfl, k_8⟩
theorem c_r06_Tag (r_Made : Bool) (r_Kind : Int) (r_N : Int) (r_Keys : List (List UInt8 × List UInt8)) (name : List UInt8) (data : List UInt8) (A_r_Keys : Option Addr) (n_r_Keys : Nat) (c_r_Keys : Nat) (ys_r_Keys : List (List UInt8 × Hd)) (A_data : Option Addr) (n_data : Nat) (c_data : Nat) (h_r_Keys : RoG F w (eP eS eH) (RP RQ (RH F w e8)) A_r_Keys ys_r_Keys r_Keys) (hn_r_Keys : r_Keys.length = n_r_Keys) (hc_r_Keys : n_r_Keys ≤ c_r_Keys) (h_data : Ro F w A_data (e8.all data)) (hn_data : data.length = n_data) (hc_data : n_data ≤ c_data) (k : Cx F O w w []) (r : (List UInt8 × Int)) (hm : m_r06_Tag r_Made r_Kind r_N r_Keys name data = some r) :
    Calls Tryz.prog 14 (vals [.agg [.b r_Made, I r_Kind, I r_N, sl A_r_Keys n_r_Keys c_r_Keys], .s name, sl A_data n_data c_data]) w (fun e w' => ∃ A n c, r.1.length = n ∧ e = .returned (SV.val (.tup [sl A n c, I r.2])) ∧ Cx F O w w' [Ow e8 A n c r.1]) := by
 unfold m_r06_Tag at hm
 subst hn_r_Keys
 subst hn_data
 refine calz [.agg [.b r_Made, I r_Kind, I r_N, sl A_r_Keys r_Keys.length c_r_Keys], .s name, sl A_data data.length c_data] Tryz.func14 rfl ?_
 refine W_seq <| W_reg <| WL_op <| Op_box [] 3 (.agg [.b r_Made, I r_Kind, I r_N, sl A_r_Keys r_Keys.length c_r_Keys]) [.b r_Made, I r_Kind, I r_N, sl A_r_Keys r_Keys.length c_r_Keys] (by kernel_rfl) k ?_
 intro g w_ k_
 refine We 2 (.k (.s .a)) ?_
 refine Wn <| W_seq <| W_seq <| Wa (.n 11 (.b (!r_Made)) .a) (qs g 0 <| qB k_ 0 rfl 0 (.b r_Made) (by kernel_rfl) <| qe) ?_
 refine W_cz (!r_Made) (fun hc => ?_) fun hc => ?_
 · rw [if_pos hc] at hm
   refine Wz (.n 6 (sl none 0 0) (.n 7 (I 7) .z)) ?_
   refine W_ret (At_tr ?_)
   have k_1 := k_.nil e8
   obtain rfl := si hm
   refine At_rz [sl none 0 0, I 7] qe ?_
   have k_2 := k_1.sel (.s (.k .e))
   exact ⟨none, 0, 0, k_2.len 0 rfl, rfl, k_2⟩
 rw [if_neg (by rw [hc]; decide)] at hm
 refine W_skip <| At_go <| W_seq <| W_reg <| Wl 2 (.n 12 (.agg [.b r_Made, I r_Kind, I r_N, sl A_r_Keys r_Keys.length c_r_Keys]) (.n 13 (.s name) (.s (.k (.s .a))))) (qT k_ 0 rfl 0 4 [.b r_Made, I r_Kind, I r_N, sl A_r_Keys r_Keys.length c_r_Keys] (by kernel_rfl) (by decide) <| qe) ?_
 refine WL_op ?_
 obtain ⟨r_, h_r_, hm⟩ := ob hm
 refine Op_cz 14 mr_go26 (c_r06_find (F := N0) (O := N0) _ _ _ _ _ _ _ _ _ (RoG.mono h_r_Keys (fun q => Ro.n0 (q.cx k_)) (fun y x q => ⟨(And.left q), (RH.cx (And.right q) k_)⟩)) rfl hc_r_Keys (Cx.refl _) _ h_r_) ?_
 rintro e_ w_1 ⟨rfl, k_3⟩
 have k_4 := k_.call k_3
 refine ⟨I r_, rfl, ?_⟩
 refine We 1 (.n 8 (I r_) (.sss .a)) ?_
 refine Wn <| W_seq <| Wz (.n 16 (.b (decide (r_ < 0))) .a) ?_
 refine W_pz (r_ < 0) (fun hc1 => ?_) fun hc1 => ?_
 · rw [if_pos hc1] at hm
   refine Wz (.n 6 (sl none 0 0) (.n 7 (I 6) .z)) ?_
   refine W_ret (At_tr ?_)
   have k_5 := k_4.nil e8
   obtain rfl := si hm
   refine At_rz [sl none 0 0, I 6] qe ?_
   have k_6 := k_5.sel (.s (.k .e))
   exact ⟨none, 0, 0, k_6.len 0 rfl, rfl, k_6⟩
 rw [if_neg hc1] at hm
 refine W_skip <| At_go <| W_seq ?_
 have k_7 := k_4.drew 1
 refine W_m mr_mixed (.q 10 0 (.q 0 1 (.q 1 0 (.q 2 1 (.q 3 0 (.q 4 1 (.q 5 1 (.q 6 1 (.q 7 1 (.q 8 1 (.q 9 0 (.op 11 (.q 12 1 (.q 13 1 (.q 14 1 (.q 15 1 .nil)))))))))))))))) [11] k_7 (.c (.k .e) .l) (by kernel_rfl) (fun _ => ?_)
 refine MXz 1 0 (.n 27 (sl A_data data.length c_data) (.s (.kk .z))) (fun x hx => qe) fun _ => ?_
 refine MXz 1 1 (.n 17 (pt g 1) .a) (fun x hx => qs g 0 <| qe) fun _ => ?_
 refine MXz 1 0 (.n 18 (I r_Kind) (.s .a)) (fun x hx => qB hx 0 rfl 1 (I r_Kind) (by kernel_rfl) <| qe) fun _ => ?_
 refine MXz 1 1 (.n 19 (pt g 2) .a) (fun x hx => qs g 0 <| qe) fun _ => ?_
 refine MXz 1 0 (.n 20 (I r_N) (.s .a)) (fun x hx => qB hx 0 rfl 2 (I r_N) (by kernel_rfl) <| qe) fun _ => ?_
 obtain ⟨x_0, zh0, hm⟩ := ob hm
 obtain ⟨⟨q, ⟨B, n0, c0⟩⟩, hy, hg⟩ := h_r_Keys.at zh0
 simp only [RP, RQ, RH] at hg; obtain ⟨rfl, ⟨rfl, hle, hro⟩⟩ := hg
 refine MXz 5 1 (.n 25 (.v (.pointer (fa (ixA A_r_Keys r_ 2) 1))) (.kkk .z)) (fun x hx => qs g 0 <| qB hx 0 rfl 3 (sl A_r_Keys r_Keys.length c_r_Keys) (by kernel_rfl) <| qJ (E := (eP eS eH)) (h_r_Keys.ro.cx hx) hy h_r_Keys.len <| qS (A := ixA A_r_Keys r_ 2) (ixA_some _ _ (E_ix (E := (eP eS eH)) (h_r_Keys.ro.cx hx) (by decide) (geti_lt hy).1 (geti_some hy).2)) <| qe) fun _ => ?_
 refine MXz 1 0 (.n 26 (sl B x_0.2.length c0) (.s .a)) (fun x hx => qC (sl B x_0.2.length c0) (Rd.el (k := 1) (h_r_Keys.ro.cx hx) hy (Pt.fa2 (Pt.ix1 A_r_Keys r_ 2) 1) rfl) <| qe) fun _ => ?_
 refine MX_op (by kernel_rfl) rfl ?_
 obtain ⟨r_1, h_r_1, hm⟩ := ob hm
 refine Op_cz 28 mr_go29 (c_r06_Make (F := N0) (O := N0) _ _ _ _ _ _ _ _ _ _ _ _ _ _ _ _ _ _ (Ro.n0 (hro.cx k_7)) rfl hle (Ro.nilE e8) rfl (Nat.le_refl 0) (Ro.nilE e8) rfl (Nat.le_refl 0) (Ro.n0 (h_data.cx k_7)) rfl hc_data (Cx.refl _) _ h_r_1) ?_
 rintro e_ w_2 ⟨A0, _, c1, rfl, rfl, k_8⟩
 have k_9 := k_7.call k_8
 refine ⟨.tup [sl A0 r_1.1.length c1, I r_1.2], rfl, ?_⟩
 refine ⟨(k_9.sel (.k .z)), fun _ => ?_⟩
 refine MXz 4 1 (.n 6 (sl A0 r_1.1.length c1) (.n 7 (I r_1.2) .z)) (fun x hx => qe) fun _ => ?_
 refine MX_nil <| At_go <| W_ret ?_
 obtain rfl := si hm
 refine At_rz [sl A0 r_1.1.length c1, I r_1.2] qe ?_
 have k_10 := k_9.sel (.s (.k .e))
 exact ⟨A0, r_1.1.length, c1, k_10.len 0 rfl, rfl, k_10⟩
theorem c_l06_same (a_ : List UInt8) (b : List UInt8) (A_a_ : Option Addr) (n_a_ : Nat) (c_a_ : Nat) (A_b : Option Addr) (n_b : Nat) (c_b : Nat) (h_a_ : Ro F w A_a_ (e8.all a_)) (hn_a_ : a_.length = n_a_) (hc_a_ : n_a_ ≤ c_a_) (h_b : Ro F w A_b (e8.all b)) (hn_b : b.length = n_b) (hc_b : n_b ≤ c_b) (k : Cx F O w w []) (r : Bool) (hm : m_l06_same a_ b = some r) :
    Calls Tryz.prog 15 (vals [sl A_a_ n_a_ c_a_, sl A_b n_b c_b]) w (fun e w' => e = .returned (SV.val (.b r)) ∧ Cx F O w w' []) := by
 unfold m_l06_same at hm
 subst hn_a_
 subst hn_b
 refine calz [sl A_a_ a_.length c_a_, sl A_b b.length c_b] Tryz.func15 rfl ?_
 refine Wz .a ?_
 refine W_seq <| Wz (.n 10 (.b (decide ((a_.length : Int) ≠ (b.length : Int)))) .a) ?_
 refine W_pz ((a_.length : Int) ≠ (b.length : Int)) (fun hc => ?_) fun hc => ?_
 · rw [if_pos hc] at hm
   refine Wz (.n 4 (.b false) .z) ?_
   refine W_ret (At_tr ?_)
   obtain rfl := si hm
   refine At_rz [.b false] qe ?_
   exact ⟨rfl, k⟩
 rw [if_neg hc] at hm
 refine W_skip <| At_go <| W_seq <| Wz (.n 5 (I 0) (.s .a)) ?_
 refine W_block <| W_lp (m_l06_same_l0 a_ b) (fun s L wr => ∃ (i : Int), i = s ∧ L = [(0, sl A_a_ a_.length c_a_), (1, sl A_b b.length c_b), (5, I i)] ∧ Cx F O w wr []) (0 : Int) r hm ⟨(0 : Int), rfl, rfl, k⟩ (by kernel_rfl) ?_
 intro s0_ L_ w_ y0 hrel hstep hr0
 obtain ⟨i, rfl, rfl, k_⟩ := hrel
 have hm := hstep; simp only [m_l06_same_l0] at hm
 clear hstep
 refine W_seq <| Wz (.n 14 (.b (decide (i < (a_.length : Int)))) .a) ?_
 refine W_pz (i < (a_.length : Int)) (fun hc1 => ?_) fun hc1 => ?_
 · rw [if_pos hc1] at hm
   refine W_skip <| At_go <| W_seq <| W_block <| W_seq ?_
   obtain ⟨x_0, zh0, hm⟩ := ob hm
   obtain ⟨x_1, zh1, hm⟩ := ob hm
   refine W_d mr_mixed (by kernel_rfl) (.n 25 (.b (decide (x_0 ≠ x_1))) (.s .a)) (fun m => qW (h_a_.cx (k_.drew m)) zh0 rfl (.u8 x_0) rfl <| qW (h_b.cx (k_.drew m)) zh1 rfl (.u8 x_1) rfl <| qe) (by kernel_rfl) (fun m_ => ?_)
   have k_1 := k_.drew m_
   refine At_go <| W_pz (x_0 ≠ x_1) (fun hc2 => ?_) fun hc2 => ?_
   · rw [if_pos hc2] at hm
     refine Wz (.n 4 (.b false) .z) ?_
     refine W_ret (At_ir (At_tr (At_tr (At_ir (At_tr ?_)))))
     have hm := exit_of hm hr0
     obtain rfl := si hm
     refine At_rz [.b false] qe ?_
     exact ⟨rfl, k_1⟩
   rw [if_neg hc2] at hm
   refine W_skip <| At_in <| At_go <| W_q [] (.n 5 (I (w64 (i + 1))) (.s (.kk .z))) qe (by kernel_rfl) ?_
   exact At_rd (w64 (i + 1)) (Option.some.inj hm).symm ⟨w64 (i + 1), rfl, rfl, k_1⟩ (by kernel_rfl)
 rw [if_neg hc1] at hm
 refine W_exit (At_te (At_te (At_ie ?_)))
 have hm := exit_of hm hr0
 refine At_go <| Wz (.n 4 (.b true) .z) ?_
 refine W_ret ?_
 obtain rfl := si hm
 refine At_rz [.b true] qe ?_
 exact ⟨rfl, k_⟩
theorem c_l06_spoil (b : List UInt8) (A_b : Option Addr) (n_b : Nat) (c_b : Nat) (k : Cx F O w w [Ow e8 A_b n_b c_b b]) (r : Unit) (hm : m_l06_spoil b = some r) :
    Calls Tryz.prog 16 (vals [sl A_b n_b c_b]) w (fun e w' => e = .returned (SV.val (.tup [])) ∧ Cx F O w w' []) := by
 unfold m_l06_spoil at hm
 obtain rfl := k.len 0 rfl
 refine calz [sl A_b b.length c_b] Tryz.func16 rfl ?_
 refine W_seq <| Wz (.n 2 (I 0) .a) ?_
 refine W_block <| W_lp (m_l06_spoil_l0 b) (fun s L wr => ∃ (b1 : List UInt8) (i : Int), (b1, i) = s ∧ L = [(0, sl A_b b.length c_b), (2, I i)] ∧ Cx F O w wr [Ow e8 A_b b.length c_b b1]) (b, (0 : Int)) r hm ⟨b, (0 : Int), rfl, rfl, k⟩ (by kernel_rfl) ?_
 intro s0_ L_ w_ y0 hrel hstep hr0
 obtain ⟨b1, i, rfl, rfl, k_⟩ := hrel
 have hm := hstep; simp only [m_l06_spoil_l0] at hm
 clear hstep
 refine W_seq <| Wz (.n 7 (.b (decide (i < (b.length : Int)))) .a) ?_
 refine W_pz (i < (b.length : Int)) (fun hc => ?_) fun hc => ?_
 · rw [if_pos hc] at hm
   refine W_skip <| At_go <| W_seq <| W_block <| W_reg ?_
   obtain ⟨x_, h_x_, hm⟩ := ob hm
   obtain ⟨x_1, zh1, hm⟩ := ob hm
   refine Wl 8 (.n 16 (.u8 (x_ ^^^ 90)) (.n 17 (.v (.pointer (ixA A_b i 1))) (.s .a))) (qW (k_.rd 0 rfl) h_x_ (k_.len 0 rfl) (.u8 x_) rfl <| qJ (k_.rd 0 rfl) zh1 (k_.len 0 rfl) <| qe) ?_
   refine WL_op <| Op_ost (E := e8) (kk := 0) (sv := .u8 (x_ ^^^ 90)) (svs := [.u8 (x_ ^^^ 90)]) [] 0 (x_ ^^^ 90) (by kernel_rfl) (Pt.ix1 A_b i 1) k_ rfl (geti_some zh1).2 (E_ix (E := e8) (k_.rd 0 rfl) (by decide) (geti_lt zh1).1 (geti_some zh1).2) rfl (Nat.le_of_ble_eq_true (by kernel_rfl)) ?_
   intro w_1 k_1
   refine WL_nil <| At_in <| At_go <| W_q [] (.n 2 (I (w64 (i + 1))) (.ss (.k .z))) qe (by kernel_rfl) ?_
   exact At_rd (b1.set (Int.toNat i) (x_ ^^^ 90), w64 (i + 1)) (Option.some.inj hm).symm ⟨b1.set (Int.toNat i) (x_ ^^^ 90), w64 (i + 1), rfl, rfl, k_1⟩ (by kernel_rfl)
 rw [if_neg hc] at hm
 refine W_exit (At_te (At_te (At_ie ?_)))
 have hm := exit_of hm hr0
 refine At_go <| Wz (.n 3 (I 0) (.s (.k .z))) ?_
 refine W_block <| W_lp (m_l06_spoil_l1) (fun s L wr => ∃ (b2 : List UInt8) (i1 : Int) (A : Option Addr) (n : Nat) (c : Nat), (b2, i1) = s ∧ L = [(0, sl A n c), (3, I i1)] ∧ b2.length = n ∧ Cx F O w wr [Ow e8 A n c b2]) (b1, (0 : Int)) r hm ⟨b1, (0 : Int), A_b, b.length, c_b, rfl, rfl, k_.len 0 rfl, k_⟩ (by kernel_rfl) ?_
 intro s0_ L_ w_2 y0 hrel hstep hr0
 obtain ⟨b2, i1, A, _, c, rfl, rfl, rfl, k_2⟩ := hrel
 have hm := hstep; simp only [m_l06_spoil_l1] at hm
 clear hstep
 refine W_seq <| Wz (.n 19 (.b (decide (i1 < 70))) .a) ?_
 refine W_pz (i1 < 70) (fun hc1 => ?_) fun hc1 => ?_
 · rw [if_pos hc1] at hm
   refine W_skip <| At_go <| W_seq <| W_block <| W_reg <| We 4 (.n 22 (sl A b2.length c) (.n 25 (.u8 (UInt8.ofInt (w64 (17 + i1)))) (.s .a))) ?_
   refine WL_op <| Op_mk mr_tf33 e8 [] 26 ([UInt8.ofInt (w64 (17 + i1))] : List UInt8) [(0, .u8 (UInt8.ofInt (w64 (17 + i1))))] [.u8 (UInt8.ofInt (w64 (17 + i1)))] (by kernel_rfl) (by kernel_rfl) (by kernel_rfl) k_2 ?_
   intro A1 w_3 k_3
   refine WL_op ?_
   obtain ⟨b3, h_b3, hm⟩ := ob hm
   obtain ⟨hz, hl⟩ := app_some h_b3
   refine Op_append (E := e8) (v := sl A1 1 1) (ys := ([UInt8.ofInt (w64 (17 + i1))] : List UInt8)) mr_tf33 [] 27 0 (by kernel_rfl) k_3 rfl (Src.sl (k_3.rd 1 rfl) (k_3.len 1 rfl) (by rfl)) (k_3.len 1 rfl) (by have := k_3.len 0 rfl; have := (k_3.len 1 rfl); omega) ?_
   intro A2 c1 w_4 k_4
   rw [← hl] at k_4
   have k_5 := k_4.sel (.k .z)
   refine We 1 (.n 0 (sl A2 (b2.length + 1) c1) (.ssss (.s .a))) ?_
   refine WL_nil <| At_in <| At_go <| W_q [] (.n 3 (I (w64 (i1 + 1))) (.k .z)) qe (by kernel_rfl) ?_
   exact At_rd (b3, w64 (i1 + 1)) (Option.some.inj hm).symm ⟨b3, w64 (i1 + 1), A2, b2.length + 1, c1, rfl, rfl, k_5.len 0 rfl, k_5⟩ (by kernel_rfl)
 rw [if_neg hc1] at hm
 refine W_exit (At_te (At_te (At_ie ?_)))
 have hm := exit_of hm hr0
 obtain rfl := si hm
 refine At_en [] qe (by kernel_rfl) ?_
 have k_6 := k_2.sel .z
 exact ⟨rfl, k_6⟩
theorem c_mac_Ring_Who (tag : List UInt8) (data : List UInt8) (A_tag : Option Addr) (n_tag : Nat) (c_tag : Nat) (A_data : Option Addr) (n_data : Nat) (c_data : Nat) (h_tag : Ro F w A_tag (e8.all tag)) (hn_tag : tag.length = n_tag) (hc_tag : n_tag ≤ c_tag) (h_data : Ro F w A_data (e8.all data)) (hn_data : data.length = n_data) (hc_data : n_data ≤ c_data) (k : Cx F O w w []) (r : Unit) (hm : m_mac_Ring_Who tag data = some r) :
    Calls Tryz.prog 17 (vals [.v (.pointer none), sl A_tag n_tag c_tag, sl A_data n_data c_data]) w (fun e w' => e = .returned (SV.val (.tup [.s ([] : List UInt8), .b false, I 7])) ∧ Cx F O w w' []) := by
 unfold m_mac_Ring_Who at hm
 subst hn_tag
 subst hn_data
 refine calz [.v (.pointer none), sl A_tag tag.length c_tag, sl A_data data.length c_data] Tryz.func17 rfl ?_
 refine Wz .a ?_
 refine W_seq <| W_seq <| W_reg <| We 1 (.n 13 (.v (.pointer none)) .a) ?_
 refine WL_op ?_
 obtain ⟨r_, h_r_, hm⟩ := ob hm
 refine Op_cz 14 mr_go22 (c_mac_Ring_none (F := N0) (O := N0)  (Cx.refl _) _ h_r_) ?_
 rintro e_ w_ ⟨rfl, k_⟩
 have k_1 := k.call k_
 refine ⟨.b true, rfl, ?_⟩
 refine Wn <| W_cond true (by kernel_rfl) (fun _ => ?_) (fun h => by cases h)
 refine Wz (.n 6 (.s ([] : List UInt8)) (.n 7 (.b false) (.n 8 (I 7) .z))) ?_
 refine W_ret (At_tr ?_)
 obtain rfl := si hm
 refine At_rz [.s ([] : List UInt8), .b false, I 7] qe ?_
 exact ⟨rfl, k_1⟩
theorem c_r01_Same (a_ : List UInt8) (b : List UInt8) (A_a_ : Option Addr) (n_a_ : Nat) (c_a_ : Nat) (A_b : Option Addr) (n_b : Nat) (c_b : Nat) (h_a_ : Ro F w A_a_ (e8.all a_)) (hn_a_ : a_.length = n_a_) (hc_a_ : n_a_ ≤ c_a_) (h_b : Ro F w A_b (e8.all b)) (hn_b : b.length = n_b) (hc_b : n_b ≤ c_b) (k : Cx F O w w []) (r : Bool) (hm : m_r01_Same a_ b = some r) :
    Calls Tryz.prog 31 (vals [sl A_a_ n_a_ c_a_, sl A_b n_b c_b]) w (fun e w' => e = .returned (SV.val (.b r)) ∧ Cx F O w w' []) := by
 unfold m_r01_Same at hm
 subst hn_a_
 subst hn_b
 refine calz [sl A_a_ a_.length c_a_, sl A_b b.length c_b] Tryz.func31 rfl ?_
 refine Wz .a ?_
 refine W_seq <| Wz (.n 10 (.b (decide ((a_.length : Int) ≠ (b.length : Int)))) .a) ?_
 refine W_pz ((a_.length : Int) ≠ (b.length : Int)) (fun hc => ?_) fun hc => ?_
 · rw [if_pos hc] at hm
   refine Wz (.n 4 (.b false) .z) ?_
   refine W_ret (At_tr ?_)
   obtain rfl := si hm
   refine At_rz [.b false] qe ?_
   exact ⟨rfl, k⟩
 rw [if_neg hc] at hm
 refine W_skip <| At_go <| W_seq <| Wz (.n 5 (I 0) (.s .a)) ?_
 refine W_block <| W_lp (m_r01_Same_l0 a_ b) (fun s L wr => ∃ (i : Int), i = s ∧ L = [(0, sl A_a_ a_.length c_a_), (1, sl A_b b.length c_b), (5, I i)] ∧ Cx F O w wr []) (0 : Int) r hm ⟨(0 : Int), rfl, rfl, k⟩ (by kernel_rfl) ?_
 intro s0_ L_ w_ y0 hrel hstep hr0
 obtain ⟨i, rfl, rfl, k_⟩ := hrel
 have hm := hstep; simp only [m_r01_Same_l0] at hm
 clear hstep
 refine W_seq <| Wz (.n 14 (.b (decide (i < (a_.length : Int)))) .a) ?_
 refine W_pz (i < (a_.length : Int)) (fun hc1 => ?_) fun hc1 => ?_
 · rw [if_pos hc1] at hm
   refine W_skip <| At_go <| W_seq <| W_block <| W_seq ?_
   obtain ⟨x_0, zh0, hm⟩ := ob hm
   obtain ⟨x_1, zh1, hm⟩ := ob hm
   refine W_d mr_mixed (by kernel_rfl) (.n 25 (.b (decide (x_0 ≠ x_1))) (.s .a)) (fun m => qW (h_a_.cx (k_.drew m)) zh0 rfl (.u8 x_0) rfl <| qW (h_b.cx (k_.drew m)) zh1 rfl (.u8 x_1) rfl <| qe) (by kernel_rfl) (fun m_ => ?_)
   have k_1 := k_.drew m_
   refine At_go <| W_pz (x_0 ≠ x_1) (fun hc2 => ?_) fun hc2 => ?_
   · rw [if_pos hc2] at hm
     refine Wz (.n 4 (.b false) .z) ?_
     refine W_ret (At_ir (At_tr (At_tr (At_ir (At_tr ?_)))))
     have hm := exit_of hm hr0
     obtain rfl := si hm
     refine At_rz [.b false] qe ?_
     exact ⟨rfl, k_1⟩
   rw [if_neg hc2] at hm
   refine W_skip <| At_in <| At_go <| W_q [] (.n 5 (I (w64 (i + 1))) (.s (.kk .z))) qe (by kernel_rfl) ?_
   exact At_rd (w64 (i + 1)) (Option.some.inj hm).symm ⟨w64 (i + 1), rfl, rfl, k_1⟩ (by kernel_rfl)
 rw [if_neg hc1] at hm
 refine W_exit (At_te (At_te (At_ie ?_)))
 have hm := exit_of hm hr0
 refine At_go <| Wz (.n 4 (.b true) .z) ?_
 refine W_ret ?_
 obtain rfl := si hm
 refine At_rz [.b true] qe ?_
 exact ⟨rfl, k_⟩
theorem c_r06_Who (r_Made : Bool) (r_Kind : Int) (r_N : Int) (r_Keys : List (List UInt8 × List UInt8)) (tag : List UInt8) (data : List UInt8) (A_r_Keys : Option Addr) (n_r_Keys : Nat) (c_r_Keys : Nat) (ys_r_Keys : List (List UInt8 × Hd)) (A_tag : Option Addr) (n_tag : Nat) (c_tag : Nat) (A_data : Option Addr) (n_data : Nat) (c_data : Nat) (h_r_Keys : RoG F w (eP eS eH) (RP RQ (RH F w e8)) A_r_Keys ys_r_Keys r_Keys) (hn_r_Keys : r_Keys.length = n_r_Keys) (hc_r_Keys : n_r_Keys ≤ c_r_Keys) (h_tag : Ro F w A_tag (e8.all tag)) (hn_tag : tag.length = n_tag) (hc_tag : n_tag ≤ c_tag) (h_data : Ro F w A_data (e8.all data)) (hn_data : data.length = n_data) (hc_data : n_data ≤ c_data) (k : Cx F O w w []) (r : (List UInt8 × Bool × Int)) (hm : m_r06_Who r_Made r_Kind r_N r_Keys tag data = some r) :
    Calls Tryz.prog 18 (vals [.agg [.b r_Made, I r_Kind, I r_N, sl A_r_Keys n_r_Keys c_r_Keys], sl A_tag n_tag c_tag, sl A_data n_data c_data]) w (fun e w' => e = .returned (SV.val (.tup [.s r.1, .b r.2.1, I r.2.2])) ∧ Cx F O w w' []) := by
 unfold m_r06_Who at hm
 subst hn_r_Keys
 subst hn_tag
 subst hn_data
 refine calz [.agg [.b r_Made, I r_Kind, I r_N, sl A_r_Keys r_Keys.length c_r_Keys], sl A_tag tag.length c_tag, sl A_data data.length c_data] Tryz.func18 rfl ?_
 refine W_seq <| W_reg <| WL_op <| Op_box [] 3 (.agg [.b r_Made, I r_Kind, I r_N, sl A_r_Keys r_Keys.length c_r_Keys]) [.b r_Made, I r_Kind, I r_N, sl A_r_Keys r_Keys.length c_r_Keys] (by kernel_rfl) k ?_
 intro g w_ k_
 refine We 3 (.k (.s .a)) ?_
 refine Wn <| W_seq <| W_block <| W_seq <| Wa (.n 12 (.b (!r_Made)) .a) (qs g 0 <| qB k_ 0 rfl 0 (.b r_Made) (by kernel_rfl) <| qe) ?_
 refine W_cz (!r_Made) (fun hc => ?_) fun hc => ?_
 · rw [if_pos hc] at hm
   refine Wz (.n 6 (.s ([] : List UInt8)) (.n 7 (.b false) (.n 8 (I 7) .z))) ?_
   refine W_ret (At_ir (At_tr ?_))
   obtain rfl := si hm
   refine At_rz [.s ([] : List UInt8), .b false, I 7] qe ?_
   have k_1 := k_.sel .z
   exact ⟨rfl, k_1⟩
 rw [if_neg (by rw [hc]; decide)] at hm
 refine W_seq <| Wa (.n 16 (.b (decide ((tag.length : Int) ≠ r_N))) (.s .a)) (qs g 0 <| qB k_ 0 rfl 2 (I r_N) (by kernel_rfl) <| qe) ?_
 refine W_pz ((tag.length : Int) ≠ r_N) (fun hc1 => ?_) fun hc1 => ?_
 · rw [if_pos hc1] at hm
   refine Wz (.n 6 (.s ([] : List UInt8)) (.n 7 (.b false) (.n 8 (I 60) .z))) ?_
   refine W_ret (At_ir (At_tr ?_))
   obtain rfl := si hm
   refine At_rz [.s ([] : List UInt8), .b false, I 60] qe ?_
   have k_2 := k_.sel .z
   exact ⟨rfl, k_2⟩
 rw [if_neg hc1] at hm
 refine W_skip <| At_in <| At_go <| W_seq <| Wz (.n 9 (I 0) (.s .a)) ?_
 refine W_block <| W_lp (m_r06_Who_l0 r_Kind r_N r_Keys tag data) (fun s L wr => ∃ (i : Int), i = s ∧ L = [(1, sl A_tag tag.length c_tag), (2, sl A_data data.length c_data), (3, pt g 0), (9, I i)] ∧ Cx F O w wr [Bx 30 g [.b r_Made, I r_Kind, I r_N, sl A_r_Keys r_Keys.length c_r_Keys]]) (0 : Int) r hm ⟨(0 : Int), rfl, rfl, k_⟩ (by kernel_rfl) ?_
 intro s0_ L_ w_1 y0 hrel hstep hr0
 obtain ⟨i, rfl, rfl, k_3⟩ := hrel
 have hm := hstep; simp only [m_r06_Who_l0] at hm
 clear hstep
 refine W_seq <| W_seq <| Wa (.n 26 (.b (decide (i < (r_Keys.length : Int)))) .a) (qs g 0 <| qB k_3 0 rfl 3 (sl A_r_Keys r_Keys.length c_r_Keys) (by kernel_rfl) <| qe) ?_
 refine W_pz (i < (r_Keys.length : Int)) (fun hc2 => ?_) fun hc2 => ?_
 · rw [if_pos hc2] at hm
   refine W_skip <| At_go <| W_seq <| W_block <| W_seq ?_
   have k_4 := k_3.drew 1
   refine W_m mr_mixed (.q 10 0 (.q 0 1 (.q 1 0 (.q 2 1 (.q 3 0 (.q 4 1 (.q 5 1 (.q 6 1 (.q 7 1 (.q 8 1 (.q 9 0 (.op 11 (.q 12 1 (.q 13 1 (.q 14 1 (.q 15 1 (.q 16 1 .nil))))))))))))))))) [11] k_4 (.c (.k .e) .l) (by kernel_rfl) (fun _ => ?_)
   refine MXz 1 0 (.n 40 (sl A_data data.length c_data) (.s .a)) (fun x hx => qe) fun _ => ?_
   refine MXz 1 1 (.n 30 (pt g 1) .a) (fun x hx => qs g 0 <| qe) fun _ => ?_
   refine MXz 1 0 (.n 31 (I r_Kind) (.s .a)) (fun x hx => qB hx 0 rfl 1 (I r_Kind) (by kernel_rfl) <| qe) fun _ => ?_
   refine MXz 1 1 (.n 32 (pt g 2) .a) (fun x hx => qs g 0 <| qe) fun _ => ?_
   refine MXz 1 0 (.n 33 (I r_N) (.s .a)) (fun x hx => qB hx 0 rfl 2 (I r_N) (by kernel_rfl) <| qe) fun _ => ?_
   obtain ⟨x_0, zh0, hm⟩ := ob hm
   obtain ⟨⟨q, ⟨B, n, c⟩⟩, hy, hg⟩ := h_r_Keys.at zh0
   simp only [RP, RQ, RH] at hg; obtain ⟨rfl, ⟨rfl, hle, hro⟩⟩ := hg
   refine MXz 5 1 (.n 38 (.v (.pointer (fa (ixA A_r_Keys i 2) 1))) .a) (fun x hx => qs g 0 <| qB hx 0 rfl 3 (sl A_r_Keys r_Keys.length c_r_Keys) (by kernel_rfl) <| qJ (E := (eP eS eH)) (h_r_Keys.ro.cx hx) hy h_r_Keys.len <| qS (A := ixA A_r_Keys i 2) (ixA_some _ _ (E_ix (E := (eP eS eH)) (h_r_Keys.ro.cx hx) (by decide) (geti_lt hy).1 (geti_some hy).2)) <| qe) fun _ => ?_
   refine MXz 1 0 (.n 39 (sl B x_0.2.length c) (.s .a)) (fun x hx => qC (sl B x_0.2.length c) (Rd.el (k := 1) (h_r_Keys.ro.cx hx) hy (Pt.fa2 (Pt.ix1 A_r_Keys i 2) 1) rfl) <| qe) fun _ => ?_
   refine MX_op (by kernel_rfl) rfl ?_
   obtain ⟨r_, h_r_, hm⟩ := ob hm
   refine Op_cz 41 mr_go29 (c_r06_Make (F := N0) (O := N0) _ _ _ _ _ _ _ _ _ _ _ _ _ _ _ _ _ _ (Ro.n0 (hro.cx k_4)) rfl hle (Ro.nilE e8) rfl (Nat.le_refl 0) (Ro.nilE e8) rfl (Nat.le_refl 0) (Ro.n0 (h_data.cx k_4)) rfl hc_data (Cx.refl _) _ h_r_) ?_
   rintro e_ w_2 ⟨A, _, c1, rfl, rfl, k_5⟩
   have k_6 := k_4.call k_5
   refine ⟨.tup [sl A r_.1.length c1, I r_.2], rfl, ?_⟩
   refine ⟨(k_6.sel (.k .z)), fun _ => ?_⟩
   refine MXz 5 1 (.n 10 (sl A r_.1.length c1) (.ssss (.s .a))) (fun x hx => qe) fun _ => ?_
   refine MX_nil <| At_go <| W_seq <| W_reg <| We 2 (.n 44 (sl A r_.1.length c1) (.n 45 (sl A_tag tag.length c_tag) (.s .a))) ?_
   refine WL_op ?_
   obtain ⟨r_1, h_r_1, hm⟩ := ob hm
   refine Op_cz 46 mr_go31 (c_r01_Same (F := N0) (O := N0) _ _ _ _ _ _ _ _ (Ro.n0 (k_6.rd 1 rfl)) (k_6.len 1 rfl) (k_6.lec 1 rfl) (Ro.n0 (h_tag.cx k_6)) rfl hc_tag (Cx.refl _) _ h_r_1) ?_
   rintro e_ w_3 ⟨rfl, k_7⟩
   have k_8 := k_6.call k_7
   refine ⟨.b r_1, rfl, ?_⟩
   have k_9 := k_8.sel (.k .z)
   refine Wn <| W_cz r_1 (fun hc3 => ?_) fun hc3 => ?_
   · rw [if_pos hc3] at hm
     refine W_seq ?_
     obtain ⟨x_3, zh3, hm⟩ := ob hm
     obtain ⟨⟨q1, ⟨B1, n1, c2⟩⟩, hy1, hg1⟩ := h_r_Keys.at zh3
     simp only [RP, RQ, RH] at hg1; obtain ⟨rfl, ⟨rfl, hle1, hro1⟩⟩ := hg1
     refine Wa (.n 6 (.s x_3.1) (.n 7 (.b true) (.n 8 (I 0) .z))) (qs g 0 <| qB k_9 0 rfl 3 (sl A_r_Keys r_Keys.length c_r_Keys) (by kernel_rfl) <| qJ (E := (eP eS eH)) (h_r_Keys.ro.cx k_9) hy1 h_r_Keys.len <| qS (A := ixA A_r_Keys i 2) (ixA_some _ _ (E_ix (E := (eP eS eH)) (h_r_Keys.ro.cx k_9) (by decide) (geti_lt hy1).1 (geti_some hy1).2)) <| qC (.s x_3.1) (Rd.el (k := 0) (h_r_Keys.ro.cx k_9) hy1 (Pt.fa2 (Pt.ix1 A_r_Keys i 2) 0) rfl) <| qe) ?_
     refine W_ret (At_ir (At_tr (At_tr (At_ir (At_tr ?_)))))
     have hm := exit_of hm hr0
     obtain rfl := si hm
     refine At_rz [.s x_3.1, .b true, I 0] qe ?_
     have k_10 := k_9.sel .z
     exact ⟨rfl, k_10⟩
   rw [if_neg (by rw [hc3]; decide)] at hm
   refine W_skip <| At_in <| At_go <| W_q [] (.n 9 (I (w64 (i + 1))) (.sss (.kkk .z))) qe (by kernel_rfl) ?_
   exact At_rd (w64 (i + 1)) (Option.some.inj hm).symm ⟨w64 (i + 1), rfl, rfl, k_9⟩ (by kernel_rfl)
 rw [if_neg hc2] at hm
 refine W_exit (At_te (At_te (At_ie ?_)))
 have hm := exit_of hm hr0
 refine At_go <| Wz (.n 6 (.s ([] : List UInt8)) (.n 7 (.b false) (.n 8 (I 0) .z))) ?_
 refine W_ret ?_
 obtain rfl := si hm
 refine At_rz [.s ([] : List UInt8), .b false, I 0] qe ?_
 have k_11 := k_3.sel .z
 exact ⟨rfl, k_11⟩
theorem c_l06_kept (full : List UInt8) (b : List UInt8) (A_full : Option Addr) (n_full : Nat) (c_full : Nat) (A_b : Option Addr) (n_b : Nat) (c_b : Nat) (h_full : Ro F w A_full (e8.all full)) (hn_full : full.length = n_full) (hc_full : n_full ≤ c_full) (h_b : Ro F w A_b (e8.all b)) (hn_b : b.length = n_b) (hc_b : n_b ≤ c_b) (k : Cx F O w w []) (r : Bool) (hm : m_l06_kept full b = some r) :
    Calls Tryz.prog 19 (vals [sl A_full n_full c_full, sl A_b n_b c_b]) w (fun e w' => e = .returned (SV.val (.b r)) ∧ Cx F O w w' []) := by
 unfold m_l06_kept at hm
 subst hn_full
 subst hn_b
 refine calz [sl A_full full.length c_full, sl A_b b.length c_b] Tryz.func19 rfl ?_
 refine Wz .a ?_
 refine W_seq <| W_reg <| We 2 (.n 5 (sl A_full full.length c_full) (.n 6 (sl A_b b.length c_b) .z)) ?_
 refine WL_op ?_
 obtain ⟨r_, h_r_, hm⟩ := ob hm
 refine Op_cz 7 mr_go6 (c_l06_wide (F := N0) (O := N0) _ _ _ _ (Ro.n0 (h_b.cx k)) rfl hc_b (Cx.refl _) _ h_r_) ?_
 rintro e_ w_ ⟨A, _, c, rfl, rfl, k_⟩
 have k_1 := k.call k_
 refine ⟨sl A r_.length c, rfl, ?_⟩
 refine WL_op ?_
 obtain ⟨r_1, h_r_1, hm⟩ := ob hm
 refine Op_cz 8 mr_go15 (c_l06_same (F := N0) (O := N0) _ _ _ _ _ _ _ _ (Ro.n0 (h_full.cx k_1)) rfl hc_full (Ro.n0 (k_1.rd 0 rfl)) (k_1.len 0 rfl) (k_1.lec 0 rfl) (Cx.refl _) _ h_r_1) ?_
 rintro e_ w_1 ⟨rfl, k_2⟩
 have k_3 := k_1.call k_2
 refine ⟨.b r_1, rfl, ?_⟩
 have k_4 := k_3.sel .z
 refine We 1 (.n 4 (.b r_1) .z) ?_
 refine Wn <| W_ret ?_
 obtain rfl := si hm
 refine At_rz [.b r_1] qe ?_
 exact ⟨rfl, k_4⟩
theorem c_mac_Ring_none_m (r_k : Int) (r_n : Int) (ks_r_keys : List (List UInt8)) (xs_r_keys : List (List UInt8)) (g_r : Nat) (b_r_keys : Nat) (hd_r_keys : List Hd) (k : Cx F O w w [Bx 58 g_r [I r_k, I r_n, .v (.map (some b_r_keys))], MR e8 b_r_keys ks_r_keys hd_r_keys xs_r_keys]) (r : (Int × Int × List (List UInt8) × List (List UInt8))) (hm : m_mac_Ring_none_m r_k r_n ks_r_keys xs_r_keys = some r) :
    Calls Tryz.prog 22 (vals [pt g_r 0]) w (fun e w' => ∃ hd, e = .returned (SV.val (.b false)) ∧ Cx F O w w' [Bx 58 g_r [I r.1, I r.2.1, .v (.map (some b_r_keys))], MR e8 b_r_keys r.2.2.1 hd r.2.2.2]) := by
 unfold m_mac_Ring_none_m at hm
 refine calz [pt g_r 0] Tryz.func22 rfl ?_
 refine Wz .a ?_
 refine W_seq <| W_q [5] (.n 2 (.b false) .z) (qs g_r 0 <| qs g_r 0 <| qB k 0 rfl 2 (.v (.map (some b_r_keys))) (by kernel_rfl) <| qe) (by kernel_rfl) ?_
 refine At_go <| W_ret ?_
 obtain rfl := si hm
 refine At_rz [.b false] qe ?_
 exact ⟨hd_r_keys, rfl, k⟩
theorem c_mac_label (s_ : List UInt8) (k : Cx F O w w []) (r : Bool) (hm : m_mac_label s_ = some r) :
    Calls Tryz.prog 23 (vals [.s s_]) w (fun e w' => e = .returned (SV.val (.b r)) ∧ Cx F O w w' []) := by
 unfold m_mac_label at hm
 refine calz [.s s_] Tryz.func23 rfl ?_
 refine Wz .a ?_
 refine W_seq <| Wz (.n 5 (I (s_.length : Int)) (.n 6 (I 0) .a)) ?_
 refine W_block <| W_lp (m_mac_label_l0 s_) (fun s L wr => ∃ (x_0 : Int), x_0 = s ∧ L = [(0, .s s_), (5, I (s_.length : Int)), (6, I x_0)] ∧ Cx F O w wr []) (0 : Int) r hm ⟨(0 : Int), rfl, rfl, k⟩ (by kernel_rfl) ?_
 intro s0_ L_ w_ y0 hrel hstep hr0
 obtain ⟨x_0, rfl, rfl, k_⟩ := hrel
 have hm := hstep; simp only [m_mac_label_l0] at hm
 clear hstep
 refine Wz (.n 7 (.b (decide (x_0 < (s_.length : Int)))) .a) ?_
 refine W_seq <| W_pz (x_0 < (s_.length : Int)) (fun hc => ?_) fun hc => ?_
 · rw [if_pos hc] at hm
   refine W_skip <| At_go <| W_seq <| W_block <| Wz (.n 3 (I x_0) (.s .a)) ?_
   refine W_seq ?_
   obtain ⟨c, h_c, hm⟩ := ob hm
   obtain ⟨c1, h_c1, hm⟩ := ob hm
   refine Wa (.n 18 (.b ((decide (c < 33)) || (decide ((126 : UInt8) < c1)))) (.s .a)) (qX h_c <| qo (.u8 c1) <| qp ((decide (c < 33)) = false → 0 ≤ x_0 ∧ s_[Int.toNat x_0]? = some c1) (fun hg0 => geti_some (gif_not h_c1 hg0)) <| qe) ?_
   refine W_cz ((decide (c < 33)) || (decide ((126 : UInt8) < c1))) (fun hc1 => ?_) fun hc1 => ?_
   · rw [if_pos hc1] at hm
     refine Wz (.n 2 (.b false) .z) ?_
     refine W_ret (At_ir (At_tr (At_tr (At_ir (At_tr ?_)))))
     have hm := exit_of hm hr0
     obtain rfl := si hm
     refine At_rz [.b false] qe ?_
     exact ⟨rfl, k_⟩
   rw [if_neg (by rw [hc1]; decide)] at hm
   refine W_skip <| At_in <| At_go <| W_q [] (.n 6 (I (w64 (x_0 + 1))) (.s (.kk .z))) qe (by kernel_rfl) ?_
   exact At_rd (w64 (x_0 + 1)) (Option.some.inj hm).symm ⟨w64 (x_0 + 1), rfl, rfl, k_⟩ (by kernel_rfl)
 rw [if_neg hc] at hm
 refine W_exit (At_te (At_te (At_ie ?_)))
 have hm := exit_of hm hr0
 refine At_go <| Wz (.n 2 (.b ((decide (1 ≤ (s_.length : Int))) && (decide ((s_.length : Int) ≤ 64)))) .z) ?_
 refine W_ret ?_
 obtain rfl := si hm
 refine At_rz [.b ((decide (1 ≤ (s_.length : Int))) && (decide ((s_.length : Int) ≤ 64)))] qe ?_
 exact ⟨rfl, k_⟩
theorem c_slices_Clone_byte_byte (s_ : List UInt8) (A_s_ : Option Addr) (n_s_ : Nat) (c_s_ : Nat) (h_s_ : Ro F w A_s_ (e8.all s_)) (hn_s_ : s_.length = n_s_) (hc_s_ : n_s_ ≤ c_s_) (k : Cx F O w w []) (r : (List UInt8)) (hm : m_slices_Clone_byte_byte s_ = some r) :
    Calls Tryz.prog 24 (vals [sl A_s_ n_s_ c_s_]) w (fun e w' => ∃ A n c, r.length = n ∧ e = .returned (SV.val (sl A n c)) ∧ Cx F O w w' [Ow e8 A n c r]) := by
 unfold m_slices_Clone_byte_byte at hm
 subst hn_s_
 refine calz [sl A_s_ s_.length c_s_] Tryz.func24 rfl ?_
 refine Wz .a ?_
 refine W_seq <| Wz (.n 4 (.b A_s_.isNone) .a) ?_
 refine W_cz A_s_.isNone (fun hc => ?_) fun hc => ?_
 ·
   have en : s_ = [] := all_nil (E := e8) (Rd.nilA (h_s_.cx k) hc)
   have hm := Eq.trans (show (some ([] : List UInt8)) = ((app ([] : List UInt8) s_ 1).bind fun b => some b) from by rw [en] <;> rfl) hm
   refine Wz (.n 2 (sl none 0 0) .z) ?_
   refine W_ret (At_tr ?_)
   have k_ := k.nil e8
   obtain rfl := si hm
   refine At_rz [sl none 0 0] qe ?_
   exact ⟨none, 0, 0, k_.len 0 rfl, rfl, k_⟩
 refine W_skip <| At_go <| W_seq <| W_reg <| WL_op <| Op_mk mr_tf33 e8 [] 5 ([] : List UInt8) [] [] (by kernel_rfl) (by kernel_rfl) (by kernel_rfl) k ?_
 intro A0 w_ k_1
 refine We 1 (.n 6 (sl A_s_ s_.length c_s_) (.k .z)) ?_
 refine WL_op ?_
 obtain ⟨b, h_b, hm⟩ := ob hm
 obtain ⟨hz, hl⟩ := app_some h_b
 refine Op_append (E := e8) (v := sl A_s_ s_.length c_s_) (ys := s_) mr_tf33 [] 7 0 (by kernel_rfl) k_1 rfl (Src.sl (h_s_.cx k_1) rfl (by rfl)) rfl (by have := k_1.len 0 rfl; have := hm; omega) ?_
 intro A1 c0 w_1 k_2
 rw [← hl] at k_2
 refine We 1 (.n 2 (sl A1 (0 + s_.length) c0) .z) ?_
 refine Wn <| W_ret ?_
 obtain rfl := si hm
 refine At_rz [sl A1 (0 + s_.length) c0] qe ?_
 exact ⟨A1, 0 + s_.length, c0, k_2.len 0 rfl, rfl, k_2⟩
theorem c_mac_Ring_Add_m (r_k : Int) (r_n : Int) (ks_r_keys : List (List UInt8)) (xs_r_keys : List (List UInt8)) (name : List UInt8) (key : List UInt8) (g_r : Nat) (b_r_keys : Nat) (hd_r_keys : List Hd) (A_key : Option Addr) (n_key : Nat) (c_key : Nat) (h_key : Ro F w A_key (e8.all key)) (hn_key : key.length = n_key) (hc_key : n_key ≤ c_key) (k : Cx F O w w [Bx 58 g_r [I r_k, I r_n, .v (.map (some b_r_keys))], MR e8 b_r_keys ks_r_keys hd_r_keys xs_r_keys]) (r : (Int × Int × Int × List (List UInt8) × List (List UInt8))) (hm : m_mac_Ring_Add_m r_k r_n ks_r_keys xs_r_keys name key = some r) :
    Calls Tryz.prog 7 (vals [pt g_r 0, .s name, sl A_key n_key c_key]) w (fun e w' => ∃ hd, e = .returned (SV.val (I r.1)) ∧ Cx F O w w' [Bx 58 g_r [I r.2.1, I r.2.2.1, .v (.map (some b_r_keys))], MR e8 b_r_keys r.2.2.2.1 hd r.2.2.2.2]) := by
 unfold m_mac_Ring_Add_m at hm
 subst hn_key
 refine calz [pt g_r 0, .s name, sl A_key key.length c_key] Tryz.func7 rfl ?_
 refine Wz .a ?_
 refine W_seq <| W_seq <| W_reg <| We 1 (.n 9 (pt g_r 0) .a) ?_
 refine WL_op ?_
 obtain ⟨r_, h_r_, hm⟩ := ob hm
 obtain ⟨F1, O1, kin, hO, hre, hF, hb⟩ := k.go (.i (.i .e))
 refine Op_cz 10 mr_go22 (c_mac_Ring_none_m (F := F1) (O := O1) _ _ _ _ _ _ _ kin _ h_r_) ?_
 rintro e_ w_ ⟨hd0, rfl, k_⟩
 have k_1 := hb w_ _ _ k_ (.c (.c .n))
 refine ⟨.b false, rfl, ?_⟩
 refine Wn <| W_cond false (by kernel_rfl) (fun h => by cases h) (fun _ => ?_)
 refine W_skip <| At_go <| W_seq <| W_reg <| Wl 5 (.n 15 (.v (.map (some b_r_keys))) (.n 16 (.s name) (.ss .a))) (qs g_r 0 <| qs g_r 0 <| qB k_1 0 rfl 2 (.v (.map (some b_r_keys))) (by kernel_rfl) <| qe) ?_
 refine WL_op ?_
 have k_2 := (k_1.pk .h).pk (.t .h)
 refine Op_lookR (kt := 9) (e := 33) (key := name) [] 17 (by kernel_rfl) (by kernel_rfl) k_2 (fun hf => ?_) (fun j key1 B c hf1 hx_ hh hle => ?_)
 · simp only [mget_none hf, Option.elim_none] at hm
   refine We 5 (.n 8 (.b false) (.sss .a)) ?_
   refine Wn <| W_seq <| W_block <| W_seq <| W_reg <| We 1 (.n 21 (.s name) .a) ?_
   refine WL_op ?_
   obtain ⟨r_1, h_r_1, hm⟩ := ob hm
   refine Op_cz 22 mr_go23 (c_mac_label (F := N0) (O := N0) _ (Cx.refl _) _ h_r_1) ?_
   rintro e_ w_1 ⟨rfl, k_3⟩
   have k_4 := k_2.call k_3
   refine ⟨.b r_1, rfl, ?_⟩
   refine We 2 (.n 20 (.b (!r_1)) (.ss .a)) ?_
   refine Wn <| W_cz (!r_1) (fun hc => ?_) fun hc => ?_
   · rw [if_pos hc] at hm
     refine Wz (.n 6 (I 62) .z) ?_
     refine W_ret (At_ir (At_tr ?_))
     obtain rfl := si hm
     refine At_rz [I 62] qe ?_
     have k_5 := (k_4.pk .h).pk (.t .h)
     exact ⟨hd0, rfl, k_5⟩
   rw [if_neg (by rw [hc]; decide)] at hm
   refine W_seq <| W_reg <| We 4 (.n 28 (.b (decide ((key.length : Int) = 0))) (.s .a)) ?_
   refine WL_sp 28 (decide ((key.length : Int) = 0)) (.s .a) (by kernel_rfl) (fun hg => ?_) (fun hg => ?_)
   · rw [if_pos (of_decide_eq_true hg)] at hm
     refine WLs 10 [28] (.n 24 (.b true) (.s .a)) qe (by kernel_rfl) ?_
     refine Wn <| W_cond true (by kernel_rfl) (fun _ => ?_) (fun h => by cases h)
     refine Wz (.n 6 (I 8) .z) ?_
     refine W_ret (At_ir (At_tr ?_))
     obtain rfl := si hm
     refine At_rz [I 8] qe ?_
     have k_6 := (k_4.pk .h).pk (.t .h)
     exact ⟨hd0, rfl, k_6⟩
   · rw [if_neg (of_decide_eq_false hg)] at hm
     refine WLs 6 [28] (.n 30 (I (key.length : Int)) (.n 34 (I r_.1) .a)) (qs g_r 0 <| qs g_r 0 <| qB k_4 1 rfl 0 (I r_.1) (by kernel_rfl) <| qe) (by kernel_rfl) ?_
     refine WL_op ?_
     obtain ⟨r_2, h_r_2, hm⟩ := ob hm
     refine Op_call [28] 35 _ mr_go20 (by kernel_rfl) (c_mac_most (F := N0) (O := N0) _ (Cx.refl _) _ h_r_2) ?_
     rintro e_ w_2 ⟨rfl, k_7⟩
     have k_8 := k_4.call k_7
     refine ⟨I r_2, rfl, ?_⟩
     refine WLs 3 [28] (.n 24 (.b (decide (r_2 < (key.length : Int)))) (.ssss .a)) qe (by kernel_rfl) ?_
     refine Wn <| W_pz (r_2 < (key.length : Int)) (fun hc1 => ?_) fun hc1 => ?_
     · rw [if_pos hc1] at hm
       refine Wz (.n 6 (I 8) .z) ?_
       refine W_ret (At_ir (At_tr ?_))
       obtain rfl := si hm
       refine At_rz [I 8] qe ?_
       have k_9 := (k_8.pk .h).pk (.t .h)
       exact ⟨hd0, rfl, k_9⟩
     rw [if_neg hc1] at hm
     refine Wz (.n 38 (.b false) (.ss .a)) ?_
     refine W_cond false (by kernel_rfl) (fun h => by cases h) (fun _ => ?_)
     refine W_seq <| W_reg <| Wl 4 (.n 44 (.v (.map (some b_r_keys))) (.s .a)) (qs g_r 0 <| qs g_r 0 <| qB k_8 1 rfl 2 (.v (.map (some b_r_keys))) (by kernel_rfl) <| qe) ?_
     refine WL_op ?_
     have k_10 := k_8.sel (.kk .e)
     refine Op_mlen (kt := 9) (e := 33) [] 45 0 (by kernel_rfl) k_10.unpk.2 rfl ?_
     refine We 2 (.n 40 (.b (decide (256 ≤ (r_.2.2.1.length : Int)))) (.ss .a)) ?_
     refine Wn <| W_pz (256 ≤ (r_.2.2.1.length : Int)) (fun hc2 => ?_) fun hc2 => ?_
     · rw [if_pos hc2] at hm
       refine Wz (.n 6 (I 2) .z) ?_
       refine W_ret (At_ir (At_tr ?_))
       obtain rfl := si hm
       refine At_rz [I 2] qe ?_
       have k_11 := (k_10.pk .h).pk (.t .h)
       exact ⟨hd0, rfl, k_11⟩
     rw [if_neg hc2] at hm
     refine W_skip <| At_in <| At_go <| W_seq ?_
     have k_12 := k_10.drew 1
     refine W_m mr_mixed (.q 5 0 (.q 0 1 (.q 1 1 (.q 2 1 (.q 3 1 (.q 4 1 (.op 6 (.op 7 .nil)))))))) [6, 7] k_12 (.c (.kk .e) (.c (.z) .l)) (by kernel_rfl) (fun _ => ?_)
     refine MXz 1 0 (.n 52 (sl A_key key.length c_key) (.s (.kk .z))) (fun x hx => qe) fun _ => ?_
     refine MXz 5 1 (.n 50 (.v (.map (some b_r_keys))) (.n 51 (.s name) (.k .z))) (fun x hx => qs g_r 0 <| qs g_r 0 <| qB hx 1 rfl 2 (.v (.map (some b_r_keys))) (by kernel_rfl) <| qe) fun _ => ?_
     refine MX_op (by kernel_rfl) rfl ?_
     obtain ⟨r_3, h_r_3, hm⟩ := ob hm
     refine Op_cz 53 mr_go24 (c_slices_Clone_byte_byte (F := N0) (O := N0) _ _ _ _ (Ro.n0 (h_key.cx k_12)) rfl hc_key (Cx.refl _) _ h_r_3) ?_
     rintro e_ w_3 ⟨A, _, c1, rfl, rfl, k_13⟩
     have k_14 := k_12.call k_13
     refine ⟨sl A r_3.length c1, rfl, ?_⟩
     refine ⟨(k_14.sel (.kk .z)), fun _ => ?_⟩
     refine MX_op (by kernel_rfl) rfl ?_
     have k_15 := ((k_14.pk (.t .h)).pk (.t (.t .h))).pk (.t (.t .h))
     refine Op_updR (kt := 9) (e := 33) (key := name) [] (by kernel_rfl) k_15 ?_
     intro w_4 k_16
     refine ⟨(k_16.sel .z), fun _ => ?_⟩
     refine MX_nil <| At_go <| Wz (.n 6 (I 0) .z) ?_
     refine W_ret ?_
     obtain rfl := si hm
     refine At_rz [I 0] qe ?_
     have k_17 := (k_16.pk .h).pk (.t .h)
     exact ⟨mputV r_.2.2.1 hd0 name (A, r_3.length, c1), rfl, k_17⟩
 · simp only [mget_some hf1 hx_, Option.elim_some] at hm
   refine We 5 (.n 8 (.b true) (.sss .a)) ?_
   refine Wn <| W_seq <| W_block <| W_seq <| W_reg <| We 1 (.n 21 (.s name) .a) ?_
   refine WL_op ?_
   obtain ⟨r_4, h_r_4, hm⟩ := ob hm
   refine Op_cz 22 mr_go23 (c_mac_label (F := N0) (O := N0) _ (Cx.refl _) _ h_r_4) ?_
   rintro e_ w_5 ⟨rfl, k_18⟩
   have k_19 := k_2.call k_18
   refine ⟨.b r_4, rfl, ?_⟩
   refine We 2 (.n 20 (.b (!r_4)) (.ss .a)) ?_
   refine Wn <| W_cz (!r_4) (fun hc0 => ?_) fun hc0 => ?_
   · rw [if_pos hc0] at hm
     refine Wz (.n 6 (I 62) .z) ?_
     refine W_ret (At_ir (At_tr ?_))
     obtain rfl := si hm
     refine At_rz [I 62] qe ?_
     have k_20 := (k_19.pk .h).pk (.t .h)
     exact ⟨hd0, rfl, k_20⟩
   rw [if_neg (by rw [hc0]; decide)] at hm
   refine W_seq <| W_reg <| We 4 (.n 28 (.b (decide ((key.length : Int) = 0))) (.s .a)) ?_
   refine WL_sp 28 (decide ((key.length : Int) = 0)) (.s .a) (by kernel_rfl) (fun hg0 => ?_) (fun hg0 => ?_)
   · rw [if_pos (of_decide_eq_true hg0)] at hm
     refine WLs 10 [28] (.n 24 (.b true) (.s .a)) qe (by kernel_rfl) ?_
     refine Wn <| W_cond true (by kernel_rfl) (fun _ => ?_) (fun h => by cases h)
     refine Wz (.n 6 (I 8) .z) ?_
     refine W_ret (At_ir (At_tr ?_))
     obtain rfl := si hm
     refine At_rz [I 8] qe ?_
     have k_21 := (k_19.pk .h).pk (.t .h)
     exact ⟨hd0, rfl, k_21⟩
   · rw [if_neg (of_decide_eq_false hg0)] at hm
     refine WLs 6 [28] (.n 30 (I (key.length : Int)) (.n 34 (I r_.1) .a)) (qs g_r 0 <| qs g_r 0 <| qB k_19 1 rfl 0 (I r_.1) (by kernel_rfl) <| qe) (by kernel_rfl) ?_
     refine WL_op ?_
     obtain ⟨r_5, h_r_5, hm⟩ := ob hm
     refine Op_call [28] 35 _ mr_go20 (by kernel_rfl) (c_mac_most (F := N0) (O := N0) _ (Cx.refl _) _ h_r_5) ?_
     rintro e_ w_6 ⟨rfl, k_22⟩
     have k_23 := k_19.call k_22
     refine ⟨I r_5, rfl, ?_⟩
     refine WLs 3 [28] (.n 24 (.b (decide (r_5 < (key.length : Int)))) (.ssss .a)) qe (by kernel_rfl) ?_
     refine Wn <| W_pz (r_5 < (key.length : Int)) (fun hc3 => ?_) fun hc3 => ?_
     · rw [if_pos hc3] at hm
       refine Wz (.n 6 (I 8) .z) ?_
       refine W_ret (At_ir (At_tr ?_))
       obtain rfl := si hm
       refine At_rz [I 8] qe ?_
       have k_24 := (k_23.pk .h).pk (.t .h)
       exact ⟨hd0, rfl, k_24⟩
     rw [if_neg hc3] at hm
     refine Wz (.n 38 (.b true) (.ss .a)) ?_
     refine W_cond true (by kernel_rfl) (fun _ => ?_) (fun h => by cases h)
     refine Wz (.n 6 (I 63) .z) ?_
     refine W_ret (At_ir (At_tr ?_))
     obtain rfl := si hm
     refine At_rz [I 63] qe ?_
     have k_25 := (k_23.pk .h).pk (.t .h)
     exact ⟨hd0, rfl, k_25⟩
theorem c_mac_Ring_Drop_m (r_k : Int) (r_n : Int) (ks_r_keys : List (List UInt8)) (xs_r_keys : List (List UInt8)) (name : List UInt8) (g_r : Nat) (b_r_keys : Nat) (hd_r_keys : List Hd) (k : Cx F O w w [Bx 58 g_r [I r_k, I r_n, .v (.map (some b_r_keys))], MR e8 b_r_keys ks_r_keys hd_r_keys xs_r_keys]) (r : (Int × Int × Int × List (List UInt8) × List (List UInt8))) (hm : m_mac_Ring_Drop_m r_k r_n ks_r_keys xs_r_keys name = some r) :
    Calls Tryz.prog 9 (vals [pt g_r 0, .s name]) w (fun e w' => ∃ hd, e = .returned (SV.val (I r.1)) ∧ Cx F O w w' [Bx 58 g_r [I r.2.1, I r.2.2.1, .v (.map (some b_r_keys))], MR e8 b_r_keys r.2.2.2.1 hd r.2.2.2.2]) := by
 unfold m_mac_Ring_Drop_m at hm
 refine calz [pt g_r 0, .s name] Tryz.func9 rfl ?_
 refine Wz .a ?_
 refine W_seq <| W_seq <| W_reg <| We 1 (.n 7 (pt g_r 0) .a) ?_
 refine WL_op ?_
 obtain ⟨r_, h_r_, hm⟩ := ob hm
 obtain ⟨F1, O1, kin, hO, hre, hF, hb⟩ := k.go (.i (.i .e))
 refine Op_cz 8 mr_go22 (c_mac_Ring_none_m (F := F1) (O := O1) _ _ _ _ _ _ _ kin _ h_r_) ?_
 rintro e_ w_ ⟨hd0, rfl, k_⟩
 have k_1 := hb w_ _ _ k_ (.c (.c .n))
 refine ⟨.b false, rfl, ?_⟩
 refine Wn <| W_cond false (by kernel_rfl) (fun h => by cases h) (fun _ => ?_)
 refine W_skip <| At_go <| W_seq <| W_seq <| W_reg <| Wl 5 (.n 13 (.v (.map (some b_r_keys))) (.n 14 (.s name) (.ss .a))) (qs g_r 0 <| qs g_r 0 <| qB k_1 0 rfl 2 (.v (.map (some b_r_keys))) (by kernel_rfl) <| qe) ?_
 refine WL_op ?_
 have k_2 := (k_1.pk .h).pk (.t .h)
 refine Op_lookR (kt := 9) (e := 33) (key := name) [] 15 (by kernel_rfl) (by kernel_rfl) k_2 (fun hf => ?_) (fun j key B c hf1 hx_ hh hle => ?_)
 · simp only [mget_none hf, Option.elim_none] at hm
   refine We 5 (.n 6 (.b false) (.sss .a)) ?_
   refine Wn <| Wz (.n 19 (.b true) (.s .a)) ?_
   refine W_cond true (by kernel_rfl) (fun _ => ?_) (fun h => by cases h)
   refine Wz (.n 4 (I 6) .z) ?_
   refine W_ret (At_tr ?_)
   obtain rfl := si hm
   refine At_rz [I 6] qe ?_
   have k_3 := (k_2.pk .h).pk (.t .h)
   exact ⟨hd0, rfl, k_3⟩
 · simp only [mget_some hf1 hx_, Option.elim_some] at hm
   refine We 5 (.n 6 (.b true) (.sss .a)) ?_
   refine Wn <| Wz (.n 19 (.b false) (.s .a)) ?_
   refine W_cond false (by kernel_rfl) (fun h => by cases h) (fun _ => ?_)
   refine W_skip <| At_go <| W_seq <| W_reg <| Wl 5 (.n 23 (.v (.map (some b_r_keys))) (.n 24 (.s name) .z)) (qs g_r 0 <| qs g_r 0 <| qB k_2 1 rfl 2 (.v (.map (some b_r_keys))) (by kernel_rfl) <| qe) ?_
   refine WL_op <| Op_delR (kt := 9) (e := 33) (key := name) [] (by kernel_rfl) k_2 ?_
   intro w_1 k_4
   refine Wn <| Wz (.n 4 (I 0) .z) ?_
   refine W_ret ?_
   obtain rfl := si hm
   refine At_rz [I 0] qe ?_
   have k_5 := (k_4.pk .h).pk (.t .h)
   exact ⟨mdelV r_.2.2.1 hd0 name, rfl, k_5⟩
theorem c_mac_Ring_Names_m (r_k : Int) (r_n : Int) (ks_r_keys : List (List UInt8)) (xs_r_keys : List (List UInt8)) (g_r : Nat) (b_r_keys : Nat) (hd_r_keys : List Hd) (k : Cx F O w w [Bx 58 g_r [I r_k, I r_n, .v (.map (some b_r_keys))], MR e8 b_r_keys ks_r_keys hd_r_keys xs_r_keys]) (r : (List (List UInt8) × Int × Int × List (List UInt8) × List (List UInt8))) (hm : m_mac_Ring_Names_m r_k r_n ks_r_keys xs_r_keys = some r) :
    Calls Tryz.prog 11 (vals [pt g_r 0]) w (fun e w' => ∃ A n c hd, r.1.length = n ∧ e = .returned (SV.val (sl A n c)) ∧ Cx F O w w' [Ow eS A n c r.1, Bx 58 g_r [I r.2.1, I r.2.2.1, .v (.map (some b_r_keys))], MR e8 b_r_keys r.2.2.2.1 hd r.2.2.2.2]) := by
 unfold m_mac_Ring_Names_m at hm
 refine calz [pt g_r 0] Tryz.func11 rfl ?_
 refine Wz .a ?_
 refine W_seq <| W_seq <| W_reg <| We 1 (.n 5 (pt g_r 0) .a) ?_
 refine WL_op ?_
 obtain ⟨r_, h_r_, hm⟩ := ob hm
 obtain ⟨F1, O1, kin, hO, hre, hF, hb⟩ := k.go (.i (.i .e))
 refine Op_cz 6 mr_go22 (c_mac_Ring_none_m (F := F1) (O := O1) _ _ _ _ _ _ _ kin _ h_r_) ?_
 rintro e_ w_ ⟨hd0, rfl, k_⟩
 have k_1 := hb w_ _ _ k_ (.c (.c .n))
 refine ⟨.b false, rfl, ?_⟩
 refine Wn <| W_cond false (by kernel_rfl) (fun h => by cases h) (fun _ => ?_)
 refine W_skip <| At_go <| Wz (.n 3 (sl none 0 0) (.ss .a)) ?_
 refine W_seq <| W_seq <| W_reg <| Wl 4 (.n 10 (.v (.map (some b_r_keys))) (.k .z)) (qs g_r 0 <| qs g_r 0 <| qB k_1 0 rfl 2 (.v (.map (some b_r_keys))) (by kernel_rfl) <| qe) ?_
 refine WL_op ?_
 have k_2 := (k_1.pk .h).pk (.t .h)
 obtain ⟨u, h_u, hm⟩ := ob hm
 refine Op_rangeR (kt := 9) (e := 33) [] 11 (by kernel_rfl) k_2 ?_
 intro r_1 w_1 k_3
 refine Wn <| W_block ?_
 have k_4 := k_3.nil eS
 refine W_ms (fun kn_ L wr => ∃ (l left : List (List UInt8)) (cur : Option (List UInt8)) (A0 : Option Addr) (n0 c0 : Nat), left.length = kn_ ∧ (l ++ left).Perm r_.2.2.1 ∧ l.length = n0 ∧ L = [(3, sl A0 n0 c0), (11, .v (.pointer (some ⟨r_1, 0, none⟩)))] ∧ Cx F O w wr [MI e8 b_r_keys r_1 r_.2.2.1 hd0 r_.2.2.2 left cur, Bx 58 g_r [I r_.1, I r_.2.1, .v (.map (some b_r_keys))], Ow eS A0 n0 c0 l]) r_.2.2.1.length ⟨[], r_.2.2.1, none, none, 0, 0, rfl, List.Perm.refl _, rfl, rfl, k_4⟩ (by kernel_rfl) ?_
 rintro kn L_ w_2 ⟨l, left, cur, A0, _, c0, rfl, hperm, rfl, rfl, k_5⟩
 refine W_seq <| W_reg <| WL_op <| Op_nextR [] 12 (by kernel_rfl) k_5 (fun hl k_6 => ?_) (fun key left1 v w_3 hp k_7 => ?_)
 ·
   have hp1 : l.Perm r_.2.2.1 := by have h_ := hperm; rw [hl, List.append_nil] at h_; exact h_
   refine We 1 (.n 13 (.b false) (.s (.k .z))) ?_
   refine Wn <| W_seq <| W_cond false (by kernel_rfl) (fun h => by cases h) (fun _ => ?_)
   refine W_exit (At_te (At_te (At_ie ?_)))
   refine At_go <| W_seq <| W_reg <| We 1 (.n 20 (sl A0 l.length c0) (.s .a)) ?_
   refine WL_op <| Op_cz 21 mr_go27 (mr_sort27 (i := 2) k_6 rfl (by have h1 := hp1.length_eq; have h2 := need_some h_u; have h3 := k_6.len 2 rfl; omega)) ?_
   rintro e_ w_4 ⟨rfl, k_8⟩
   rw [srt_perm hp1] at k_8
   refine ⟨.tup [], rfl, ?_⟩
   refine Wn <| Wz (.n 2 (sl A0 l.length c0) .z) ?_
   refine W_ret ?_
   obtain rfl := si hm
   refine At_rz [sl A0 l.length c0] qe ?_
   have k_9 := ((k_8.pk .h).pk (.t .h)).pk (.t (.t .h))
   exact ⟨A0, l.length, c0, hd0, k_9.len 0 rfl, rfl, k_9⟩
 ·
   refine We 1 (.n 13 (.b true) (.s .a)) ?_
   refine Wn <| W_seq <| W_cond true (by kernel_rfl) (fun _ => ?_) (fun h => by cases h)
   refine W_skip <| At_go <| W_block <| W_seq <| W_reg <| WL_op <| Op_entryR [] 14 (by kernel_rfl) k_7 (fun v1 => ?_)
   refine We 2 (.n 4 (.s key) (.ss .a)) ?_
   refine Wn <| W_reg <| We 2 (.n 16 (sl A0 l.length c0) (.n 17 (.s key) (.s .a))) ?_
   refine WL_op ?_
   have k_10 := k_7.sel (.kk (.k .e))
   refine Op_mk mr_tf41 eS [] 18 ([key] : List (List UInt8)) [(0, .s key)] [.s key] (by kernel_rfl) (by kernel_rfl) (by kernel_rfl) k_10 ?_
   intro A1 w_5 k_11
   refine WL_op ?_
   have hz : (l.length + ([key] : List (List UInt8)).length) * 16 ≤ 140737488355328 := by have h1 := hperm.length_eq; have h2 := hp.length_eq; have h3 := need_some h_u; simp only [List.length_append, List.length_cons, List.length_nil] at *; omega
   refine Op_append (E := eS) (v := sl A1 1 1) (ys := ([key] : List (List UInt8))) mr_tf41 [] 19 2 (by kernel_rfl) k_11 rfl (Src.sl (k_11.rd 3 rfl) (k_11.len 3 rfl) (by rfl)) (k_11.len 3 rfl) (by have := k_11.len 2 rfl; have := (k_11.len 3 rfl); omega) ?_
   intro A2 c1 w_6 k_12
   have k_13 := k_12.sel (.kk (.k .z))
   refine We 1 (.n 3 (sl A2 (l.length + 1) c1) (.ssss (.s .a))) ?_
   refine WL_nil <| At_in ?_
   exact At_ms left1.length (by have h_ := hp.length_eq; simp only [List.length_cons] at h_; omega) ⟨l ++ ([key] : List (List UInt8)), left1, (some key), A2, _, c1, rfl, (by rw [List.append_assoc]; exact (List.Perm.append_left l hp.symm).trans hperm), k_13.len 2 rfl, rfl, k_13⟩ (by kernel_rfl)
theorem c_param_Size (k_ : Int) (k : Cx F O w w []) (r : (Int × Int)) (hm : m_param_Size k_ = some r) :
    Calls Tryz.prog 35 (vals [I k_]) w (fun e w' => e = .returned (SV.val (.tup [I r.1, I r.2])) ∧ Cx F O w w' []) := by
 unfold m_param_Size at hm
 refine calz [I k_] Tryz.func35 rfl ?_
 refine Wz .a ?_
 refine W_seq <| W_reg <| We 1 (.n 8 (I k_) .z) ?_
 refine WL_op ?_
 obtain ⟨r_, h_r_, hm⟩ := ob hm
 refine Op_cz 9 mr_go40 (c_param_sizes (F := N0) (O := N0) _ (Cx.refl _) _ h_r_) ?_
 rintro e_ w_ ⟨rfl, k_1⟩
 have k_2 := k.call k_1
 refine ⟨.tup [I r_.1, I r_.2.1, I r_.2.2], rfl, ?_⟩
 refine We 7 (.n 4 (I r_.1) .z) ?_
 refine Wn <| W_seq <| Wz (.n 14 (.b (decide (r_.1 = 0))) .a) ?_
 refine W_pz (r_.1 = 0) (fun hc => ?_) fun hc => ?_
 · rw [if_pos hc] at hm
   refine Wz (.n 2 (I 0) (.n 3 (I 1) .z)) ?_
   refine W_ret (At_tr ?_)
   obtain rfl := si hm
   refine At_rz [I 0, I 1] qe ?_
   exact ⟨rfl, k_2⟩
 rw [if_neg hc] at hm
 refine W_skip <| At_go <| Wz (.n 2 (I r_.1) (.n 3 (I 0) .z)) ?_
 refine W_ret ?_
 obtain rfl := si hm
 refine At_rz [I r_.1, I 0] qe ?_
 exact ⟨rfl, k_2⟩
theorem c_param_within (n : Int) (lo : Int) (hi : Int) (k : Cx F O w w []) (r : Bool) (hm : m_param_within n lo hi = some r) :
    Calls Tryz.prog 52 (vals [I n, I lo, I hi]) w (fun e w' => e = .returned (SV.val (.b r)) ∧ Cx F O w w' []) := by
 unfold m_param_within at hm
 refine calz [I n, I lo, I hi] Tryz.func52 rfl ?_
 refine Wz .a ?_
 refine Wz (.n 6 (.b ((decide (lo ≤ n)) && (decide (n ≤ hi)))) .z) ?_
 refine W_ret ?_
 obtain rfl := si hm
 refine At_rz [.b ((decide (lo ≤ n)) && (decide (n ≤ hi)))] qe ?_
 exact ⟨rfl, k⟩
theorem c_param_Check (k_ : Int) (p_Digest : Int) (p_Key : Int) (p_Fanout : Int) (p_Depth : Int) (p_Leaf : UInt32) (p_Offset : UInt64) (p_Xof : UInt32) (p_NodeDepth : Int) (p_Inner : Int) (p_Salt : List UInt8) (p_Personal : List UInt8) (A_p_Salt : Option Addr) (n_p_Salt : Nat) (c_p_Salt : Nat) (A_p_Personal : Option Addr) (n_p_Personal : Nat) (c_p_Personal : Nat) (h_p_Salt : Ro F w A_p_Salt (e8.all p_Salt)) (hn_p_Salt : p_Salt.length = n_p_Salt) (hc_p_Salt : n_p_Salt ≤ c_p_Salt) (h_p_Personal : Ro F w A_p_Personal (e8.all p_Personal)) (hn_p_Personal : p_Personal.length = n_p_Personal) (hc_p_Personal : n_p_Personal ≤ c_p_Personal) (k : Cx F O w w []) (r : Int) (hm : m_param_Check k_ p_Digest p_Key p_Fanout p_Depth p_Leaf p_Offset p_Xof p_NodeDepth p_Inner p_Salt p_Personal = some r) :
    Calls Tryz.prog 36 (vals [I k_, .agg [I p_Digest, I p_Key, I p_Fanout, I p_Depth, .u32 p_Leaf, .u64 p_Offset, .u32 p_Xof, I p_NodeDepth, I p_Inner, sl A_p_Salt n_p_Salt c_p_Salt, sl A_p_Personal n_p_Personal c_p_Personal]]) w (fun e w' => e = .returned (SV.val (I r)) ∧ Cx F O w w' []) := by
 unfold m_param_Check at hm
 subst hn_p_Salt
 subst hn_p_Personal
 refine calz [I k_, .agg [I p_Digest, I p_Key, I p_Fanout, I p_Depth, .u32 p_Leaf, .u64 p_Offset, .u32 p_Xof, I p_NodeDepth, I p_Inner, sl A_p_Salt p_Salt.length c_p_Salt, sl A_p_Personal p_Personal.length c_p_Personal]] Tryz.func36 rfl ?_
 refine W_seq <| W_reg <| WL_op <| Op_box [] 3 (.agg [I p_Digest, I p_Key, I p_Fanout, I p_Depth, .u32 p_Leaf, .u64 p_Offset, .u32 p_Xof, I p_NodeDepth, I p_Inner, sl A_p_Salt p_Salt.length c_p_Salt, sl A_p_Personal p_Personal.length c_p_Personal]) [I p_Digest, I p_Key, I p_Fanout, I p_Depth, .u32 p_Leaf, .u64 p_Offset, .u32 p_Xof, I p_NodeDepth, I p_Inner, sl A_p_Salt p_Salt.length c_p_Salt, sl A_p_Personal p_Personal.length c_p_Personal] (by kernel_rfl) k ?_
 intro g w_ k_1
 refine We 1 (.kk .z) ?_
 refine Wn <| W_seq <| W_reg <| We 1 (.n 10 (I k_) .a) ?_
 refine WL_op ?_
 obtain ⟨r_, h_r_, hm⟩ := ob hm
 refine Op_cz 11 mr_go40 (c_param_sizes (F := N0) (O := N0) _ (Cx.refl _) _ h_r_) ?_
 rintro e_ w_1 ⟨rfl, k_2⟩
 have k_3 := k_1.call k_2
 refine ⟨.tup [I r_.1, I r_.2.1, I r_.2.2], rfl, ?_⟩
 refine We 7 (.n 6 (I r_.2.1) (.n 7 (I r_.2.2) (.ss .a))) ?_
 refine Wn <| W_seq <| Wz (.n 16 (.b (decide (r_.2.1 = 0))) .a) ?_
 refine W_pz (r_.2.1 = 0) (fun hc => ?_) fun hc => ?_
 · rw [if_pos hc] at hm
   refine Wz (.n 4 (I 1) .z) ?_
   refine W_ret (At_tr ?_)
   obtain rfl := si hm
   refine At_rz [I 1] qe ?_
   have k_4 := k_3.sel .z
   exact ⟨rfl, k_4⟩
 rw [if_neg hc] at hm
 refine W_skip <| At_go <| Wz (.n 8 (I 1) (.s .a)) ?_
 refine W_cut (fun L wr => ∃ (least : Int), m_param_Check_j0 k_ p_Digest p_Key p_Fanout p_Depth p_Offset p_Xof p_NodeDepth p_Inner p_Salt p_Personal r_ least = some r ∧ L = [(0, I k_), (3, pt g 0), (6, I r_.2.1), (7, I r_.2.2), (8, I least)] ∧ Cx F O w wr [Bx 77 g [I p_Digest, I p_Key, I p_Fanout, I p_Depth, .u32 p_Leaf, .u64 p_Offset, .u32 p_Xof, I p_NodeDepth, I p_Inner, sl A_p_Salt p_Salt.length c_p_Salt, sl A_p_Personal p_Personal.length c_p_Personal]]) ?_ ?_
 ·
  refine W_seq <| Wa (.n 19 (.b (decide (p_Xof ≠ 0))) .a) (qs g 0 <| qB k_3 0 rfl 6 (.u32 p_Xof) (by kernel_rfl) <| qe) ?_
  refine W_pz (p_Xof ≠ 0) (fun hc1 => ?_) fun hc1 => ?_
  · rw [if_pos hc1] at hm
    refine W_q [] (.n 8 (I 0) (.ss .a)) qe (by kernel_rfl) ?_
    exact At_cz ⟨(0 : Int), hm, rfl, k_3⟩
  rw [if_neg hc1] at hm
  refine W_skip ?_
  exact At_cz ⟨(1 : Int), hm, rfl, k_3⟩
 rintro L_ w_2 ⟨least, hm, rfl, k_5⟩
 simp only [m_param_Check_j0] at hm
 refine W_cut (fun L wr => m_param_Check_j1  = some r ∧ L = [] ∧ Cx F O w wr []) ?_ ?_
 ·
  refine W_block <| W_seq <| W_reg <| Wl 3 (.n 22 (I p_Digest) (.n 23 (I r_.2.1) .a)) (qs g 0 <| qB k_5 0 rfl 0 (I p_Digest) (by kernel_rfl) <| qe) ?_
  refine WL_op ?_
  obtain ⟨r_1, h_r_1, hm⟩ := ob hm
  refine Op_cz 24 mr_go52 (c_param_within (F := N0) (O := N0) _ _ _ (Cx.refl _) _ h_r_1) ?_
  rintro e_ w_3 ⟨rfl, k_6⟩
  have k_7 := k_5.call k_6
  refine ⟨.b r_1, rfl, ?_⟩
  refine We 2 (.n 20 (.b (!r_1)) (.sss .a)) ?_
  refine Wn <| W_cz (!r_1) (fun hc2 => ?_) fun hc2 => ?_
  · rw [if_pos hc2] at hm
    refine Wz (.n 4 (I 20) .z) ?_
    refine W_ret (At_ir (At_tr ?_))
    obtain rfl := si hm
    refine At_rz [I 20] qe ?_
    have k_8 := k_7.sel .z
    exact ⟨rfl, k_8⟩
  rw [if_neg (by rw [hc2]; decide)] at hm
  refine W_seq <| W_reg <| Wl 3 (.n 28 (I p_Key) (.n 29 (I r_.2.1) (.s .a))) (qs g 0 <| qB k_7 0 rfl 1 (I p_Key) (by kernel_rfl) <| qe) ?_
  refine WL_op ?_
  obtain ⟨r_2, h_r_2, hm⟩ := ob hm
  refine Op_cz 30 mr_go52 (c_param_within (F := N0) (O := N0) _ _ _ (Cx.refl _) _ h_r_2) ?_
  rintro e_ w_4 ⟨rfl, k_9⟩
  have k_10 := k_7.call k_9
  refine ⟨.b r_2, rfl, ?_⟩
  refine We 2 (.n 26 (.b (!r_2)) (.sss .a)) ?_
  refine Wn <| W_cz (!r_2) (fun hc3 => ?_) fun hc3 => ?_
  · rw [if_pos hc3] at hm
    refine Wz (.n 4 (I 8) .z) ?_
    refine W_ret (At_ir (At_tr ?_))
    obtain rfl := si hm
    refine At_rz [I 8] qe ?_
    have k_11 := k_10.sel .z
    exact ⟨rfl, k_11⟩
  rw [if_neg (by rw [hc3]; decide)] at hm
  refine W_seq <| W_reg <| Wl 2 (.n 34 (I p_Fanout) (.s .a)) (qs g 0 <| qB k_10 0 rfl 2 (I p_Fanout) (by kernel_rfl) <| qe) ?_
  refine WL_op ?_
  obtain ⟨r_3, h_r_3, hm⟩ := ob hm
  refine Op_cz 35 mr_go52 (c_param_within (F := N0) (O := N0) _ _ _ (Cx.refl _) _ h_r_3) ?_
  rintro e_ w_5 ⟨rfl, k_12⟩
  have k_13 := k_10.call k_12
  refine ⟨.b r_3, rfl, ?_⟩
  refine We 2 (.n 32 (.b (!r_3)) (.ss .a)) ?_
  refine Wn <| W_cz (!r_3) (fun hc4 => ?_) fun hc4 => ?_
  · rw [if_pos hc4] at hm
    refine Wz (.n 4 (I 21) .z) ?_
    refine W_ret (At_ir (At_tr ?_))
    obtain rfl := si hm
    refine At_rz [I 21] qe ?_
    have k_14 := k_13.sel .z
    exact ⟨rfl, k_14⟩
  rw [if_neg (by rw [hc4]; decide)] at hm
  refine W_seq <| W_reg <| Wl 3 (.n 39 (I p_Depth) (.n 40 (I least) (.s (.kkkk .z)))) (qs g 0 <| qB k_13 0 rfl 3 (I p_Depth) (by kernel_rfl) <| qe) ?_
  refine WL_op ?_
  obtain ⟨r_4, h_r_4, hm⟩ := ob hm
  refine Op_cz 41 mr_go52 (c_param_within (F := N0) (O := N0) _ _ _ (Cx.refl _) _ h_r_4) ?_
  rintro e_ w_6 ⟨rfl, k_15⟩
  have k_16 := k_13.call k_15
  refine ⟨.b r_4, rfl, ?_⟩
  refine We 2 (.n 37 (.b (!r_4)) (.sss .a)) ?_
  refine Wn <| W_cz (!r_4) (fun hc5 => ?_) fun hc5 => ?_
  · rw [if_pos hc5] at hm
    refine Wz (.n 4 (I 22) .z) ?_
    refine W_ret (At_ir (At_tr ?_))
    obtain rfl := si hm
    refine At_rz [I 22] qe ?_
    have k_17 := k_16.sel .z
    exact ⟨rfl, k_17⟩
  rw [if_neg (by rw [hc5]; decide)] at hm
  refine W_cut (fun L wr => ∃ (x_0 : Bool), m_param_Check_j2 k_ p_Xof p_NodeDepth p_Inner p_Salt p_Personal r_ x_0 = some r ∧ L = [(0, I k_), (3, pt g 0), (6, I r_.2.1), (7, I r_.2.2), (43, .b x_0)] ∧ Cx F O w wr [Bx 77 g [I p_Digest, I p_Key, I p_Fanout, I p_Depth, .u32 p_Leaf, .u64 p_Offset, .u32 p_Xof, I p_NodeDepth, I p_Inner, sl A_p_Salt p_Salt.length c_p_Salt, sl A_p_Personal p_Personal.length c_p_Personal]]) ?_ ?_
  ·
   refine W_seq <| Wa (.n 43 (.b ((decide (p_Xof ≠ 0)) && (decide ((4294967296 : UInt64) ≤ p_Offset)))) (.s .a)) (qs g 0 <| qB k_16 0 rfl 6 (.u32 p_Xof) (by kernel_rfl) <| qp ((decide (p_Xof ≠ 0)) = true → (some ⟨g, 0, none⟩ : Option Addr).isSome = true) (fun hg0 => rfl) <| qo (.u64 p_Offset) <| qc (fun w => (decide (p_Xof ≠ 0)) = true → ∃ a, (some ⟨g, 5, none⟩ : Option Addr) = some a ∧ w.cell? a = some (SV.val (.u64 p_Offset))) (fun hg0 => k_16.bld 0 rfl 5 (.u64 p_Offset) (by kernel_rfl)) <| qe) ?_
   refine W_cz ((decide (p_Xof ≠ 0)) && (decide ((4294967296 : UInt64) ≤ p_Offset))) (fun hc6 => ?_) fun hc6 => ?_
   · rw [if_pos hc6] at hm
     refine W_skip ?_
     exact At_cz ⟨(decide (p_Xof ≠ 0)) && (decide ((4294967296 : UInt64) ≤ p_Offset)), hm, rfl, k_16⟩
   rw [if_neg (by rw [hc6]; decide)] at hm
   refine W_q [] (.n 43 (.b (((decide (p_Xof = 0)) && (decide (k_ = 2))) && (decide ((281474976710656 : UInt64) ≤ p_Offset)))) (.s .a)) (qs g 0 <| qB k_16 0 rfl 6 (.u32 p_Xof) (by kernel_rfl) <| qp (((decide (p_Xof = 0)) && (decide (k_ = 2))) = true → (some ⟨g, 0, none⟩ : Option Addr).isSome = true) (fun hg0 => rfl) <| qo (.u64 p_Offset) <| qc (fun w => ((decide (p_Xof = 0)) && (decide (k_ = 2))) = true → ∃ a, (some ⟨g, 5, none⟩ : Option Addr) = some a ∧ w.cell? a = some (SV.val (.u64 p_Offset))) (fun hg0 => k_16.bld 0 rfl 5 (.u64 p_Offset) (by kernel_rfl)) <| qe) (by kernel_rfl) ?_
   exact At_cz ⟨((decide (p_Xof = 0)) && (decide (k_ = 2))) && (decide ((281474976710656 : UInt64) ≤ p_Offset)), hm, rfl, k_16⟩
  rintro L_ w_7 ⟨x_0, hm, rfl, k_18⟩
  simp only [m_param_Check_j2] at hm
  refine W_cz x_0 (fun hc7 => ?_) fun hc7 => ?_
  · rw [if_pos hc7] at hm
    refine Wz (.n 4 (I 23) .z) ?_
    refine W_ret (At_ir (At_tr ?_))
    obtain rfl := si hm
    refine At_rz [I 23] qe ?_
    have k_19 := k_18.sel .z
    exact ⟨rfl, k_19⟩
  rw [if_neg (by rw [hc7]; decide)] at hm
  refine W_seq <| Wa (.n 64 (.b ((decide (k_ = 2)) && (decide ((65535 : UInt32) < p_Xof)))) (.s (.kkk .z))) (qp ((decide (k_ = 2)) = true → (some ⟨g, 0, none⟩ : Option Addr).isSome = true) (fun hg0 => rfl) <| qo (.u32 p_Xof) <| qc (fun w => (decide (k_ = 2)) = true → ∃ a, (some ⟨g, 6, none⟩ : Option Addr) = some a ∧ w.cell? a = some (SV.val (.u32 p_Xof))) (fun hg0 => k_18.bld 0 rfl 6 (.u32 p_Xof) (by kernel_rfl)) <| qe) ?_
  refine W_cz ((decide (k_ = 2)) && (decide ((65535 : UInt32) < p_Xof))) (fun hc8 => ?_) fun hc8 => ?_
  · rw [if_pos hc8] at hm
    refine Wz (.n 4 (I 24) .z) ?_
    refine W_ret (At_ir (At_tr ?_))
    obtain rfl := si hm
    refine At_rz [I 24] qe ?_
    have k_20 := k_18.sel .z
    exact ⟨rfl, k_20⟩
  rw [if_neg (by rw [hc8]; decide)] at hm
  refine W_seq <| W_reg <| Wl 2 (.n 74 (I p_NodeDepth) (.s .a)) (qs g 0 <| qB k_18 0 rfl 7 (I p_NodeDepth) (by kernel_rfl) <| qe) ?_
  refine WL_op ?_
  obtain ⟨r_5, h_r_5, hm⟩ := ob hm
  refine Op_cz 75 mr_go52 (c_param_within (F := N0) (O := N0) _ _ _ (Cx.refl _) _ h_r_5) ?_
  rintro e_ w_8 ⟨rfl, k_21⟩
  have k_22 := k_18.call k_21
  refine ⟨.b r_5, rfl, ?_⟩
  refine We 2 (.n 72 (.b (!r_5)) (.ss .a)) ?_
  refine Wn <| W_cz (!r_5) (fun hc9 => ?_) fun hc9 => ?_
  · rw [if_pos hc9] at hm
    refine Wz (.n 4 (I 25) .z) ?_
    refine W_ret (At_ir (At_tr ?_))
    obtain rfl := si hm
    refine At_rz [I 25] qe ?_
    have k_23 := k_22.sel .z
    exact ⟨rfl, k_23⟩
  rw [if_neg (by rw [hc9]; decide)] at hm
  refine W_seq <| W_reg <| Wl 3 (.n 79 (I p_Inner) (.n 80 (I r_.2.1) (.s (.k (.s .a))))) (qs g 0 <| qB k_22 0 rfl 8 (I p_Inner) (by kernel_rfl) <| qe) ?_
  refine WL_op ?_
  obtain ⟨r_6, h_r_6, hm⟩ := ob hm
  refine Op_cz 81 mr_go52 (c_param_within (F := N0) (O := N0) _ _ _ (Cx.refl _) _ h_r_6) ?_
  rintro e_ w_9 ⟨rfl, k_24⟩
  have k_25 := k_22.call k_24
  refine ⟨.b r_6, rfl, ?_⟩
  refine We 2 (.n 77 (.b (!r_6)) (.sss .a)) ?_
  refine Wn <| W_cz (!r_6) (fun hc10 => ?_) fun hc10 => ?_
  · rw [if_pos hc10] at hm
    refine Wz (.n 4 (I 26) .z) ?_
    refine W_ret (At_ir (At_tr ?_))
    obtain rfl := si hm
    refine At_rz [I 26] qe ?_
    have k_26 := k_25.sel .z
    exact ⟨rfl, k_26⟩
  rw [if_neg (by rw [hc10]; decide)] at hm
  refine W_seq <| Wa (.n 83 (.b (decide (r_.2.2 < (p_Salt.length : Int)))) (.s .a)) (qs g 0 <| qB k_25 0 rfl 9 (sl A_p_Salt p_Salt.length c_p_Salt) (by kernel_rfl) <| qe) ?_
  refine W_pz (r_.2.2 < (p_Salt.length : Int)) (fun hc11 => ?_) fun hc11 => ?_
  · rw [if_pos hc11] at hm
    refine Wz (.n 4 (I 27) .z) ?_
    refine W_ret (At_ir (At_tr ?_))
    obtain rfl := si hm
    refine At_rz [I 27] qe ?_
    have k_27 := k_25.sel .z
    exact ⟨rfl, k_27⟩
  rw [if_neg hc11] at hm
  refine W_seq <| Wa (.n 89 (.b (decide (r_.2.2 < (p_Personal.length : Int)))) .z) (qs g 0 <| qB k_25 0 rfl 10 (sl A_p_Personal p_Personal.length c_p_Personal) (by kernel_rfl) <| qe) ?_
  refine W_pz (r_.2.2 < (p_Personal.length : Int)) (fun hc12 => ?_) fun hc12 => ?_
  · rw [if_pos hc12] at hm
    refine Wz (.n 4 (I 28) .z) ?_
    refine W_ret (At_ir (At_tr ?_))
    obtain rfl := si hm
    refine At_rz [I 28] qe ?_
    have k_28 := k_25.sel .z
    exact ⟨rfl, k_28⟩
  rw [if_neg hc12] at hm
  refine W_skip <| At_in ?_
  have k_29 := k_25.sel .z
  exact At_cz ⟨hm, rfl, k_29⟩
 rintro L_ w_10 ⟨hm, rfl, k_30⟩
 simp only [m_param_Check_j1] at hm
 refine Wz (.n 4 (I 0) .a) ?_
 refine W_ret ?_
 obtain rfl := si hm
 refine At_rz [I 0] qe ?_
 exact ⟨rfl, k_30⟩
theorem c_param_rows (k_ : Int) (k : Cx F O w w []) (r : (List (Int × Int × Int × List UInt8 × Int))) (hm : m_param_rows k_ = some r) :
    Calls Tryz.prog 77 (vals [I k_]) w (fun e w' => ∃ A n c, r.length = n ∧ e = .returned (SV.val (sl A n c)) ∧ Cx F O w w' [Ow (eP eI (eP eI (eP eI (eP eS eI)))) A n c r]) := by
 unfold m_param_rows at hm
 refine calz [I k_] Tryz.func77 rfl ?_
 refine Wz .a ?_
 refine W_seq <| W_reg <| We 9 (.n 5 (.agg [I 1, I 0, I 1, .s ([100, 105, 103, 101, 115, 116] : List UInt8), I 20]) (.n 6 (.agg [I 2, I 1, I 1, .s ([107, 101, 121] : List UInt8), I 8]) (.n 7 (.agg [I 3, I 2, I 1, .s ([102, 97, 110, 111, 117, 116] : List UInt8), I 21]) (.n 8 (.agg [I 4, I 3, I 1, .s ([100, 101, 112, 116, 104] : List UInt8), I 22]) (.n 9 (.agg [I 5, I 4, I 4, .s ([108, 101, 97, 102] : List UInt8), I 1]) (.n 10 (.agg [I 6, I 8, I 8, .s ([111, 102, 102, 115, 101, 116] : List UInt8), I 23]) (.n 11 (.agg [I 7, I 12, I 4, .s ([120, 111, 102] : List UInt8), I 24]) (.n 12 (.agg [I 8, I 16, I 1, .s ([110, 111, 100, 101] : List UInt8), I 25]) (.n 13 (.agg [I 9, I 17, I 1, .s ([105, 110, 110, 101, 114] : List UInt8), I 26]) .a))))))))) ?_
 refine WL_op <| Op_mk mr_tf131 (eP eI (eP eI (eP eI (eP eS eI)))) [] 14 ([((1 : Int), (0 : Int), (1 : Int), ([100, 105, 103, 101, 115, 116] : List UInt8), (20 : Int)), ((2 : Int), (1 : Int), (1 : Int), ([107, 101, 121] : List UInt8), (8 : Int)), ((3 : Int), (2 : Int), (1 : Int), ([102, 97, 110, 111, 117, 116] : List UInt8), (21 : Int)), ((4 : Int), (3 : Int), (1 : Int), ([100, 101, 112, 116, 104] : List UInt8), (22 : Int)), ((5 : Int), (4 : Int), (4 : Int), ([108, 101, 97, 102] : List UInt8), (1 : Int)), ((6 : Int), (8 : Int), (8 : Int), ([111, 102, 102, 115, 101, 116] : List UInt8), (23 : Int)), ((7 : Int), (12 : Int), (4 : Int), ([120, 111, 102] : List UInt8), (24 : Int)), ((8 : Int), (16 : Int), (1 : Int), ([110, 111, 100, 101] : List UInt8), (25 : Int)), ((9 : Int), (17 : Int), (1 : Int), ([105, 110, 110, 101, 114] : List UInt8), (26 : Int))] : List (Int × Int × Int × List UInt8 × Int)) [(0, .agg [I 1, I 0, I 1, .s ([100, 105, 103, 101, 115, 116] : List UInt8), I 20]), (1, .agg [I 2, I 1, I 1, .s ([107, 101, 121] : List UInt8), I 8]), (2, .agg [I 3, I 2, I 1, .s ([102, 97, 110, 111, 117, 116] : List UInt8), I 21]), (3, .agg [I 4, I 3, I 1, .s ([100, 101, 112, 116, 104] : List UInt8), I 22]), (4, .agg [I 5, I 4, I 4, .s ([108, 101, 97, 102] : List UInt8), I 1]), (5, .agg [I 6, I 8, I 8, .s ([111, 102, 102, 115, 101, 116] : List UInt8), I 23]), (6, .agg [I 7, I 12, I 4, .s ([120, 111, 102] : List UInt8), I 24]), (7, .agg [I 8, I 16, I 1, .s ([110, 111, 100, 101] : List UInt8), I 25]), (8, .agg [I 9, I 17, I 1, .s ([105, 110, 110, 101, 114] : List UInt8), I 26])] [I 1, I 0, I 1, .s ([100, 105, 103, 101, 115, 116] : List UInt8), I 20, I 2, I 1, I 1, .s ([107, 101, 121] : List UInt8), I 8, I 3, I 2, I 1, .s ([102, 97, 110, 111, 117, 116] : List UInt8), I 21, I 4, I 3, I 1, .s ([100, 101, 112, 116, 104] : List UInt8), I 22, I 5, I 4, I 4, .s ([108, 101, 97, 102] : List UInt8), I 1, I 6, I 8, I 8, .s ([111, 102, 102, 115, 101, 116] : List UInt8), I 23, I 7, I 12, I 4, .s ([120, 111, 102] : List UInt8), I 24, I 8, I 16, I 1, .s ([110, 111, 100, 101] : List UInt8), I 25, I 9, I 17, I 1, .s ([105, 110, 110, 101, 114] : List UInt8), I 26] (by kernel_rfl) (by kernel_rfl) (by kernel_rfl) k ?_
 intro A0 w_ k_1
 refine We 1 (.n 3 (sl A0 9 9) (.ssss (.ssss (.ss .a)))) ?_
 refine Wn <| W_seq <| Wz (.n 16 (.b (decide (k_ = 1))) (.k .z)) ?_
 refine W_pz (k_ = 1) (fun hc => ?_) fun hc => ?_
 · rw [if_pos hc] at hm
   refine Wz (.n 2 (sl A0 9 9) .z) ?_
   refine W_ret (At_tr ?_)
   obtain rfl := si hm
   refine At_rz [sl A0 9 9] qe ?_
   exact ⟨A0, 9, 9, k_1.len 0 rfl, rfl, k_1⟩
 rw [if_neg hc] at hm
 refine W_skip <| At_go <| Wz (.n 4 (sl A0 9 9) .z) ?_
 refine W_seq <| W_reg ?_
 obtain ⟨x_0, zh0, hm⟩ := ob hm
 refine Wl 4 (.n 20 (sl A0 9 9) (.n 22 (.v (.pointer (fa (ixA A0 (5 : Int) 5) 2))) .a)) (qJ (k_1.rd 0 rfl) zh0 (k_1.len 0 rfl) <| qS (A := ixA A0 (5 : Int) 5) (ixA_some _ _ (E_ix (E := (eP eI (eP eI (eP eI (eP eS eI))))) (k_1.rd 0 rfl) (by decide) (geti_lt zh0).1 (geti_some zh0).2)) <| qe) ?_
 refine WL_op <| Op_ost (E := (eP eI (eP eI (eP eI (eP eS eI))))) (kk := 2) (sv := I 6) (svs := [I 6]) [] 0 (x_0.1, x_0.2.1, (6 : Int), x_0.2.2.2.1, x_0.2.2.2.2) (by kernel_rfl) (Pt.fa2 (Pt.ix1 A0 (5 : Int) 5) 2) k_1 rfl (geti_some zh0).2 (E_ix (E := (eP eI (eP eI (eP eI (eP eS eI))))) (k_1.rd 0 rfl) (by decide) (geti_lt zh0).1 (geti_some zh0).2) rfl (Nat.le_of_ble_eq_true (by kernel_rfl)) ?_
 intro w_1 k_2
 obtain ⟨x_1, zh1, hm⟩ := ob hm
 refine Wl 2 (.n 24 (.v (.pointer (fa (ixA A0 (6 : Int) 5) 2))) (.ss .a)) (qJ (k_2.rd 0 rfl) zh1 (k_2.len 0 rfl) <| qS (A := ixA A0 (6 : Int) 5) (ixA_some _ _ (E_ix (E := (eP eI (eP eI (eP eI (eP eS eI))))) (k_2.rd 0 rfl) (by decide) (geti_lt zh1).1 (geti_some zh1).2)) <| qe) ?_
 refine WL_op <| Op_ost (E := (eP eI (eP eI (eP eI (eP eS eI))))) (kk := 2) (sv := I 2) (svs := [I 2]) [] 0 (x_1.1, x_1.2.1, (2 : Int), x_1.2.2.2.1, x_1.2.2.2.2) (by kernel_rfl) (Pt.fa2 (Pt.ix1 A0 (6 : Int) 5) 2) k_2 rfl (geti_some zh1).2 (E_ix (E := (eP eI (eP eI (eP eI (eP eS eI))))) (k_2.rd 0 rfl) (by decide) (geti_lt zh1).1 (geti_some zh1).2) rfl (Nat.le_of_ble_eq_true (by kernel_rfl)) ?_
 intro w_2 k_3
 refine Wn <| W_seq <| W_reg ?_
 obtain ⟨x_2, zh2, hm⟩ := ob hm
 refine Wl 4 (.n 26 (sl A0 9 9) (.n 28 (.v (.pointer (fa (ixA A0 (7 : Int) 5) 1))) (.s .a))) (qJ (k_3.rd 0 rfl) zh2 (k_3.len 0 rfl) <| qS (A := ixA A0 (7 : Int) 5) (ixA_some _ _ (E_ix (E := (eP eI (eP eI (eP eI (eP eS eI))))) (k_3.rd 0 rfl) (by decide) (geti_lt zh2).1 (geti_some zh2).2)) <| qe) ?_
 refine WL_op <| Op_ost (E := (eP eI (eP eI (eP eI (eP eS eI))))) (kk := 1) (sv := I 14) (svs := [I 14]) [] 0 (x_2.1, (14 : Int), x_2.2.2.1, x_2.2.2.2.1, x_2.2.2.2.2) (by kernel_rfl) (Pt.fa2 (Pt.ix1 A0 (7 : Int) 5) 1) k_3 rfl (geti_some zh2).2 (E_ix (E := (eP eI (eP eI (eP eI (eP eS eI))))) (k_3.rd 0 rfl) (by decide) (geti_lt zh2).1 (geti_some zh2).2) rfl (Nat.le_of_ble_eq_true (by kernel_rfl)) ?_
 intro w_3 k_4
 obtain ⟨x_3, zh3, hm⟩ := ob hm
 refine Wl 2 (.n 30 (.v (.pointer (fa (ixA A0 (8 : Int) 5) 1))) (.ss .a)) (qJ (k_4.rd 0 rfl) zh3 (k_4.len 0 rfl) <| qS (A := ixA A0 (8 : Int) 5) (ixA_some _ _ (E_ix (E := (eP eI (eP eI (eP eI (eP eS eI))))) (k_4.rd 0 rfl) (by decide) (geti_lt zh3).1 (geti_some zh3).2)) <| qe) ?_
 refine WL_op ?_
 have k_5 := k_4.sel (.k .e)
 refine Op_ost (E := (eP eI (eP eI (eP eI (eP eS eI))))) (kk := 1) (sv := I 15) (svs := [I 15]) [] 0 (x_3.1, (15 : Int), x_3.2.2.1, x_3.2.2.2.1, x_3.2.2.2.2) (by kernel_rfl) (Pt.fa2 (Pt.ix1 A0 (8 : Int) 5) 1) k_5 rfl (geti_some zh3).2 (E_ix (E := (eP eI (eP eI (eP eI (eP eS eI))))) (k_5.rd 0 rfl) (by decide) (geti_lt zh3).1 (geti_some zh3).2) rfl (Nat.le_of_ble_eq_true (by kernel_rfl)) ?_
 intro w_4 k_6
 refine Wn <| Wz (.n 2 (sl A0 9 9) .z) ?_
 refine W_ret ?_
 obtain rfl := si hm
 refine At_rz [sl A0 9 9] qe ?_
 exact ⟨A0, 9, 9, k_6.len 0 rfl, rfl, k_6⟩
theorem c_param_value (p_Digest : Int) (p_Key : Int) (p_Fanout : Int) (p_Depth : Int) (p_Leaf : UInt32) (p_Offset : UInt64) (p_Xof : UInt32) (p_NodeDepth : Int) (p_Inner : Int) (p_Salt : List UInt8) (p_Personal : List UInt8) (field : Int) (A_p_Salt : Option Addr) (n_p_Salt : Nat) (c_p_Salt : Nat) (A_p_Personal : Option Addr) (n_p_Personal : Nat) (c_p_Personal : Nat) (h_p_Salt : Ro F w A_p_Salt (e8.all p_Salt)) (hn_p_Salt : p_Salt.length = n_p_Salt) (hc_p_Salt : n_p_Salt ≤ c_p_Salt) (h_p_Personal : Ro F w A_p_Personal (e8.all p_Personal)) (hn_p_Personal : p_Personal.length = n_p_Personal) (hc_p_Personal : n_p_Personal ≤ c_p_Personal) (k : Cx F O w w []) (r : UInt64) (hm : m_param_value p_Digest p_Key p_Fanout p_Depth p_Leaf p_Offset p_Xof p_NodeDepth p_Inner p_Salt p_Personal field = some r) :
    Calls Tryz.prog 79 (vals [.agg [I p_Digest, I p_Key, I p_Fanout, I p_Depth, .u32 p_Leaf, .u64 p_Offset, .u32 p_Xof, I p_NodeDepth, I p_Inner, sl A_p_Salt n_p_Salt c_p_Salt, sl A_p_Personal n_p_Personal c_p_Personal], I field]) w (fun e w' => e = .returned (SV.val (.u64 r)) ∧ Cx F O w w' []) := by
 unfold m_param_value at hm
 subst hn_p_Salt
 subst hn_p_Personal
 refine calz [.agg [I p_Digest, I p_Key, I p_Fanout, I p_Depth, .u32 p_Leaf, .u64 p_Offset, .u32 p_Xof, I p_NodeDepth, I p_Inner, sl A_p_Salt p_Salt.length c_p_Salt, sl A_p_Personal p_Personal.length c_p_Personal], I field] Tryz.func79 rfl ?_
 refine W_seq <| W_reg <| WL_op <| Op_box [] 2 (.agg [I p_Digest, I p_Key, I p_Fanout, I p_Depth, .u32 p_Leaf, .u64 p_Offset, .u32 p_Xof, I p_NodeDepth, I p_Inner, sl A_p_Salt p_Salt.length c_p_Salt, sl A_p_Personal p_Personal.length c_p_Personal]) [I p_Digest, I p_Key, I p_Fanout, I p_Depth, .u32 p_Leaf, .u64 p_Offset, .u32 p_Xof, I p_NodeDepth, I p_Inner, sl A_p_Salt p_Salt.length c_p_Salt, sl A_p_Personal p_Personal.length c_p_Personal] (by kernel_rfl) k ?_
 intro g w_ k_
 refine We 1 (.k (.s .a)) ?_
 refine Wn <| W_seq <| Wz (.n 5 (I field) (.k .z)) ?_
 refine W_block <| Wz (.n 6 (.b (decide (field = 1))) .a) ?_
 refine W_pz (field = 1) (fun hc => ?_) fun hc => ?_
 · rw [if_pos hc] at hm
   refine W_seq <| Wa (.n 4 (.u64 (UInt64.ofInt p_Digest)) .z) (qs g 0 <| qB k_ 0 rfl 0 (I p_Digest) (by kernel_rfl) <| qe) ?_
   refine W_ret (At_ir (At_tr ?_))
   obtain rfl := si hm
   refine At_rz [.u64 (UInt64.ofInt p_Digest)] qe ?_
   have k_1 := k_.sel .z
   exact ⟨rfl, k_1⟩
 rw [if_neg hc] at hm
 refine Wz (.n 11 (.b (decide (field = 2))) (.s .a)) ?_
 refine W_pz (field = 2) (fun hc1 => ?_) fun hc1 => ?_
 · rw [if_pos hc1] at hm
   refine W_seq <| Wa (.n 4 (.u64 (UInt64.ofInt p_Key)) .z) (qs g 0 <| qB k_ 0 rfl 1 (I p_Key) (by kernel_rfl) <| qe) ?_
   refine W_ret (At_ir (At_tr ?_))
   obtain rfl := si hm
   refine At_rz [.u64 (UInt64.ofInt p_Key)] qe ?_
   have k_2 := k_.sel .z
   exact ⟨rfl, k_2⟩
 rw [if_neg hc1] at hm
 refine Wz (.n 16 (.b (decide (field = 3))) (.s .a)) ?_
 refine W_pz (field = 3) (fun hc2 => ?_) fun hc2 => ?_
 · rw [if_pos hc2] at hm
   refine W_seq <| Wa (.n 4 (.u64 (UInt64.ofInt p_Fanout)) .z) (qs g 0 <| qB k_ 0 rfl 2 (I p_Fanout) (by kernel_rfl) <| qe) ?_
   refine W_ret (At_ir (At_tr ?_))
   obtain rfl := si hm
   refine At_rz [.u64 (UInt64.ofInt p_Fanout)] qe ?_
   have k_3 := k_.sel .z
   exact ⟨rfl, k_3⟩
 rw [if_neg hc2] at hm
 refine Wz (.n 21 (.b (decide (field = 4))) (.s .a)) ?_
 refine W_pz (field = 4) (fun hc3 => ?_) fun hc3 => ?_
 · rw [if_pos hc3] at hm
   refine W_seq <| Wa (.n 4 (.u64 (UInt64.ofInt p_Depth)) .z) (qs g 0 <| qB k_ 0 rfl 3 (I p_Depth) (by kernel_rfl) <| qe) ?_
   refine W_ret (At_ir (At_tr ?_))
   obtain rfl := si hm
   refine At_rz [.u64 (UInt64.ofInt p_Depth)] qe ?_
   have k_4 := k_.sel .z
   exact ⟨rfl, k_4⟩
 rw [if_neg hc3] at hm
 refine Wz (.n 26 (.b (decide (field = 5))) (.s .a)) ?_
 refine W_pz (field = 5) (fun hc4 => ?_) fun hc4 => ?_
 · rw [if_pos hc4] at hm
   refine W_seq <| Wa (.n 4 (.u64 (UInt64.ofNat p_Leaf.toNat)) .z) (qs g 0 <| qB k_ 0 rfl 4 (.u32 p_Leaf) (by kernel_rfl) <| qe) ?_
   refine W_ret (At_ir (At_tr ?_))
   obtain rfl := si hm
   refine At_rz [.u64 (UInt64.ofNat p_Leaf.toNat)] qe ?_
   have k_5 := k_.sel .z
   exact ⟨rfl, k_5⟩
 rw [if_neg hc4] at hm
 refine Wz (.n 31 (.b (decide (field = 6))) (.s .a)) ?_
 refine W_pz (field = 6) (fun hc5 => ?_) fun hc5 => ?_
 · rw [if_pos hc5] at hm
   refine W_seq <| Wa (.n 4 (.u64 p_Offset) .z) (qs g 0 <| qB k_ 0 rfl 5 (.u64 p_Offset) (by kernel_rfl) <| qe) ?_
   refine W_ret (At_ir (At_tr ?_))
   obtain rfl := si hm
   refine At_rz [.u64 p_Offset] qe ?_
   have k_6 := k_.sel .z
   exact ⟨rfl, k_6⟩
 rw [if_neg hc5] at hm
 refine Wz (.n 35 (.b (decide (field = 7))) (.s .a)) ?_
 refine W_pz (field = 7) (fun hc6 => ?_) fun hc6 => ?_
 · rw [if_pos hc6] at hm
   refine W_seq <| Wa (.n 4 (.u64 (UInt64.ofNat p_Xof.toNat)) .z) (qs g 0 <| qB k_ 0 rfl 6 (.u32 p_Xof) (by kernel_rfl) <| qe) ?_
   refine W_ret (At_ir (At_tr ?_))
   obtain rfl := si hm
   refine At_rz [.u64 (UInt64.ofNat p_Xof.toNat)] qe ?_
   have k_7 := k_.sel .z
   exact ⟨rfl, k_7⟩
 rw [if_neg hc6] at hm
 refine Wz (.n 40 (.b (decide (field = 8))) (.ss .a)) ?_
 refine W_pz (field = 8) (fun hc7 => ?_) fun hc7 => ?_
 · rw [if_pos hc7] at hm
   refine W_seq <| Wa (.n 4 (.u64 (UInt64.ofInt p_NodeDepth)) .z) (qs g 0 <| qB k_ 0 rfl 7 (I p_NodeDepth) (by kernel_rfl) <| qe) ?_
   refine W_ret (At_ir (At_tr ?_))
   obtain rfl := si hm
   refine At_rz [.u64 (UInt64.ofInt p_NodeDepth)] qe ?_
   have k_8 := k_.sel .z
   exact ⟨rfl, k_8⟩
 rw [if_neg hc7] at hm
 refine W_skip <| At_in <| At_go <| W_seq <| Wa (.n 4 (.u64 (UInt64.ofInt p_Inner)) .z) (qs g 0 <| qB k_ 0 rfl 8 (I p_Inner) (by kernel_rfl) <| qe) ?_
 refine W_ret ?_
 obtain rfl := si hm
 refine At_rz [.u64 (UInt64.ofInt p_Inner)] qe ?_
 have k_9 := k_.sel .z
 exact ⟨rfl, k_9⟩
theorem c_param_put (b : List UInt8) (at_ : Int) (size : Int) (v : UInt64) (A_b : Option Addr) (n_b : Nat) (c_b : Nat) (G_b : Win) (hc_b : n_b ≤ c_b) (k : Cx F O w w [Mw e8 A_b n_b b G_b]) (r : (List UInt8)) (hm : m_param_put b at_ size v = some r) :
    Calls Tryz.prog 78 (vals [sl A_b n_b c_b, I at_, I size, .u64 v]) w (fun e w' => e = .returned (SV.val (.tup [])) ∧ Cx F O w w' [Mw e8 A_b n_b r G_b]) := by
 unfold m_param_put at hm
 obtain rfl := k.mlen 0 rfl
 refine calz [sl A_b b.length c_b, I at_, I size, .u64 v] Tryz.func78 rfl ?_
 refine Wz (.n 9 (I size) (.n 10 (I 0) (.kk (.s .a)))) ?_
 refine W_block <| W_lp (m_param_put_l0 at_ size v) (fun s L wr => ∃ (b1 : List UInt8) (x_0 : Int), (b1, x_0) = s ∧ L = [(0, sl A_b b.length c_b), (1, I at_), (3, .u64 v), (9, I size), (10, I x_0)] ∧ Cx F O w wr [Mw e8 A_b b.length b1 G_b]) (b, (0 : Int)) r hm ⟨b, (0 : Int), rfl, rfl, k⟩ (by kernel_rfl) ?_
 intro s0_ L_ w_ y0 hrel hstep hr0
 obtain ⟨b1, x_0, rfl, rfl, k_⟩ := hrel
 have hm := hstep; simp only [m_param_put_l0] at hm
 clear hstep
 refine Wz (.n 11 (.b (decide (x_0 < size))) .a) ?_
 refine W_seq <| W_pz (x_0 < size) (fun hc => ?_) fun hc => ?_
 · rw [if_pos hc] at hm
   refine W_skip <| At_go <| W_seq <| W_block <| Wz (.n 8 (I x_0) (.s .a)) ?_
   refine W_reg ?_
   obtain ⟨u, h_u, hm⟩ := ob hm
   obtain ⟨x_1, zh1, hm⟩ := ob hm
   refine Wl 10 (.n 21 (.u8 (UInt8.ofNat (shr64 v (Int.toNat (w64 (8 * x_0)))).toNat)) (.n 22 (.v (.pointer (ixA A_b (w64 (at_ + x_0)) 1))) (.s .a))) (qp (0 ≤ w64 (8 * x_0)) (need_some h_u) <| qJ (k_.mrd 0 rfl) zh1 (k_.mlen 0 rfl) <| qe) ?_
   refine WL_op <| Op_mst (E := e8) (kk := 0) (sv := .u8 (UInt8.ofNat (shr64 v (Int.toNat (w64 (8 * x_0)))).toNat)) (svs := [.u8 (UInt8.ofNat (shr64 v (Int.toNat (w64 (8 * x_0)))).toNat)]) [] 0 (UInt8.ofNat (shr64 v (Int.toNat (w64 (8 * x_0)))).toNat) (by kernel_rfl) (Pt.ix1 A_b (w64 (at_ + x_0)) 1) k_ rfl (geti_some zh1).2 (E_ix (E := e8) (k_.mrd 0 rfl) (by decide) (geti_lt zh1).1 (geti_some zh1).2) rfl (Nat.le_of_ble_eq_true (by kernel_rfl)) ?_
   intro w_1 k_1
   refine WL_nil <| At_in <| At_go <| W_q [] (.n 10 (I (w64 (x_0 + 1))) (.ss (.kkkk .z))) qe (by kernel_rfl) ?_
   exact At_rd (b1.set (Int.toNat (w64 (at_ + x_0))) (UInt8.ofNat (shr64 v (Int.toNat (w64 (8 * x_0)))).toNat), w64 (x_0 + 1)) (Option.some.inj hm).symm ⟨b1.set (Int.toNat (w64 (at_ + x_0))) (UInt8.ofNat (shr64 v (Int.toNat (w64 (8 * x_0)))).toNat), w64 (x_0 + 1), rfl, rfl, k_1⟩ (by kernel_rfl)
 rw [if_neg hc] at hm
 refine W_exit (At_te (At_te (At_ie ?_)))
 have hm := exit_of hm hr0
 obtain rfl := si hm
 refine At_en [] qe (by kernel_rfl) ?_
 exact ⟨rfl, k_⟩
theorem c_param_Encode (k_ : Int) (p_Digest : Int) (p_Key : Int) (p_Fanout : Int) (p_Depth : Int) (p_Leaf : UInt32) (p_Offset : UInt64) (p_Xof : UInt32) (p_NodeDepth : Int) (p_Inner : Int) (p_Salt : List UInt8) (p_Personal : List UInt8) (A_p_Salt : Option Addr) (n_p_Salt : Nat) (c_p_Salt : Nat) (A_p_Personal : Option Addr) (n_p_Personal : Nat) (c_p_Personal : Nat) (h_p_Salt : Ro F w A_p_Salt (e8.all p_Salt)) (hn_p_Salt : p_Salt.length = n_p_Salt) (hc_p_Salt : n_p_Salt ≤ c_p_Salt) (h_p_Personal : Ro F w A_p_Personal (e8.all p_Personal)) (hn_p_Personal : p_Personal.length = n_p_Personal) (hc_p_Personal : n_p_Personal ≤ c_p_Personal) (k : Cx F O w w []) (r : (List UInt8 × Int)) (hm : m_param_Encode k_ p_Digest p_Key p_Fanout p_Depth p_Leaf p_Offset p_Xof p_NodeDepth p_Inner p_Salt p_Personal = some r) :
    Calls Tryz.prog 65 (vals [I k_, .agg [I p_Digest, I p_Key, I p_Fanout, I p_Depth, .u32 p_Leaf, .u64 p_Offset, .u32 p_Xof, I p_NodeDepth, I p_Inner, sl A_p_Salt n_p_Salt c_p_Salt, sl A_p_Personal n_p_Personal c_p_Personal]]) w (fun e w' => ∃ A n c, r.1.length = n ∧ e = .returned (SV.val (.tup [sl A n c, I r.2])) ∧ Cx F O w w' [Ow e8 A n c r.1]) := by
 unfold m_param_Encode at hm
 subst hn_p_Salt
 subst hn_p_Personal
 refine calz [I k_, .agg [I p_Digest, I p_Key, I p_Fanout, I p_Depth, .u32 p_Leaf, .u64 p_Offset, .u32 p_Xof, I p_NodeDepth, I p_Inner, sl A_p_Salt p_Salt.length c_p_Salt, sl A_p_Personal p_Personal.length c_p_Personal]] Tryz.func65 rfl ?_
 refine W_seq <| W_reg <| WL_op <| Op_box [] 3 (.agg [I p_Digest, I p_Key, I p_Fanout, I p_Depth, .u32 p_Leaf, .u64 p_Offset, .u32 p_Xof, I p_NodeDepth, I p_Inner, sl A_p_Salt p_Salt.length c_p_Salt, sl A_p_Personal p_Personal.length c_p_Personal]) [I p_Digest, I p_Key, I p_Fanout, I p_Depth, .u32 p_Leaf, .u64 p_Offset, .u32 p_Xof, I p_NodeDepth, I p_Inner, sl A_p_Salt p_Salt.length c_p_Salt, sl A_p_Personal p_Personal.length c_p_Personal] (by kernel_rfl) k ?_
 intro g w_ k_1
 refine We 2 (.kk .z) ?_
 refine Wn <| W_seq <| W_seq <| W_reg <| Wl 2 (.n 13 (I k_) (.n 14 (.agg [I p_Digest, I p_Key, I p_Fanout, I p_Depth, .u32 p_Leaf, .u64 p_Offset, .u32 p_Xof, I p_NodeDepth, I p_Inner, sl A_p_Salt p_Salt.length c_p_Salt, sl A_p_Personal p_Personal.length c_p_Personal]) .a)) (qT k_1 0 rfl 0 11 [I p_Digest, I p_Key, I p_Fanout, I p_Depth, .u32 p_Leaf, .u64 p_Offset, .u32 p_Xof, I p_NodeDepth, I p_Inner, sl A_p_Salt p_Salt.length c_p_Salt, sl A_p_Personal p_Personal.length c_p_Personal] (by kernel_rfl) (by decide) <| qe) ?_
 refine WL_op ?_
 obtain ⟨r_, h_r_, hm⟩ := ob hm
 refine Op_cz 15 mr_go36 (c_param_Check (F := N0) (O := N0) _ _ _ _ _ _ _ _ _ _ _ _ _ _ _ _ _ _ (Ro.n0 (h_p_Salt.cx k_1)) rfl hc_p_Salt (Ro.n0 (h_p_Personal.cx k_1)) rfl hc_p_Personal (Cx.refl _) _ h_r_) ?_
 rintro e_ w_1 ⟨rfl, k_2⟩
 have k_3 := k_1.call k_2
 refine ⟨I r_, rfl, ?_⟩
 refine We 1 (.n 6 (I r_) (.sss .a)) ?_
 refine Wn <| Wz (.n 17 (.b (decide (r_ ≠ 0))) .a) ?_
 refine W_pz (r_ ≠ 0) (fun hc => ?_) fun hc => ?_
 · rw [if_pos hc] at hm
   refine Wz (.n 4 (sl none 0 0) (.n 5 (I r_) .z)) ?_
   refine W_ret (At_tr ?_)
   have k_4 := k_3.nil e8
   obtain rfl := si hm
   refine At_rz [sl none 0 0, I r_] qe ?_
   have k_5 := k_4.sel (.s (.k .e))
   exact ⟨none, 0, 0, k_5.len 0 rfl, rfl, k_5⟩
 rw [if_neg hc] at hm
 refine W_skip <| At_go <| W_seq <| W_reg <| We 1 (.n 20 (I k_) (.ss .a)) ?_
 refine WL_op ?_
 obtain ⟨r_1, h_r_1, hm⟩ := ob hm
 refine Op_cz 21 mr_go40 (c_param_sizes (F := N0) (O := N0) _ (Cx.refl _) _ h_r_1) ?_
 rintro e_ w_2 ⟨rfl, k_6⟩
 have k_7 := k_3.call k_6
 refine ⟨.tup [I r_1.1, I r_1.2.1, I r_1.2.2], rfl, ?_⟩
 refine We 7 (.n 7 (I r_1.1) (.n 9 (I r_1.2.2) (.ss .a))) ?_
 refine Wn <| W_seq <| W_reg <| We 1 (.n 25 (I r_1.1) .a) ?_
 refine WL_op ?_
 obtain ⟨u, h_u, hm⟩ := ob hm
 refine Op_make mr_tf33 e8 (0 : UInt8) rfl [] 26 (I r_1.1) (I r_1.1) r_1.1 r_1.1 (by kernel_rfl) (need_some h_u).1 (need_some h_u).2.1 (need_some h_u).2.2 k_7 ?_
 intro A0 w_3 k_8
 refine We 1 (.n 10 (sl A0 (Int.toNat r_1.1) (Int.toNat r_1.1)) (.ss .a)) ?_
 refine Wn <| W_seq <| W_seq <| W_reg <| We 1 (.n 27 (I k_) (.kkkk .z)) ?_
 refine WL_op ?_
 have k_9 := k_8.sel (.kk .e)
 obtain ⟨r_2, h_r_2, hm⟩ := ob hm
 refine Op_cz 28 mr_go77 (c_param_rows (F := N0) (O := N0) _ (Cx.refl _) _ h_r_2) ?_
 rintro e_ w_4 ⟨A1, _, c0, rfl, rfl, k_10⟩
 have k_11 := k_9.call k_10
 refine ⟨sl A1 r_2.length c0, rfl, ?_⟩
 refine We 2 (.n 29 (I (r_2.length : Int)) (.n 30 (I 0) (.k (.s .a)))) ?_
 refine Wn <| W_block <| W_lp (m_param_Encode_l0 p_Digest p_Key p_Fanout p_Depth p_Leaf p_Offset p_Xof p_NodeDepth p_Inner p_Salt p_Personal r_1 r_2) (fun s L wr => ∃ (b : List UInt8) (x_0 : Int), (b, x_0) = s ∧ L = [(3, pt g 0), (7, I r_1.1), (9, I r_1.2.2), (10, sl A0 (Int.toNat r_1.1) (Int.toNat r_1.1)), (28, sl A1 r_2.length c0), (29, I (r_2.length : Int)), (30, I x_0)] ∧ Cx F O w wr [Bx 77 g [I p_Digest, I p_Key, I p_Fanout, I p_Depth, .u32 p_Leaf, .u64 p_Offset, .u32 p_Xof, I p_NodeDepth, I p_Inner, sl A_p_Salt p_Salt.length c_p_Salt, sl A_p_Personal p_Personal.length c_p_Personal], Ow e8 A0 (Int.toNat r_1.1) (Int.toNat r_1.1) b, Ow (eP eI (eP eI (eP eI (eP eS eI)))) A1 r_2.length c0 r_2]) (List.replicate (Int.toNat r_1.1) (0 : UInt8), (0 : Int)) r hm ⟨List.replicate (Int.toNat r_1.1) (0 : UInt8), (0 : Int), rfl, rfl, k_11⟩ (by kernel_rfl) ?_
 intro s0_ L_ w_5 y0 hrel hstep hr0
 obtain ⟨b, x_0, rfl, rfl, k_12⟩ := hrel
 have hm := hstep; simp only [m_param_Encode_l0] at hm
 clear hstep
 refine Wz (.n 31 (.b (decide (x_0 < (r_2.length : Int)))) .a) ?_
 refine W_seq <| W_pz (x_0 < (r_2.length : Int)) (fun hc1 => ?_) fun hc1 => ?_
 · rw [if_pos hc1] at hm
   refine W_skip <| At_go <| W_cut (fun L wr => ∃ (b1 : List UInt8), m_param_Encode_j0 x_0 b1 = some y0 ∧ L = [(3, pt g 0), (7, I r_1.1), (9, I r_1.2.2), (10, sl A0 (Int.toNat r_1.1) (Int.toNat r_1.1)), (28, sl A1 r_2.length c0), (29, I (r_2.length : Int)), (30, I x_0)] ∧ Cx F O w wr [Bx 77 g [I p_Digest, I p_Key, I p_Fanout, I p_Depth, .u32 p_Leaf, .u64 p_Offset, .u32 p_Xof, I p_NodeDepth, I p_Inner, sl A_p_Salt p_Salt.length c_p_Salt, sl A_p_Personal p_Personal.length c_p_Personal], Ow e8 A0 (Int.toNat r_1.1) (Int.toNat r_1.1) b1, Ow (eP eI (eP eI (eP eI (eP eS eI)))) A1 r_2.length c0 r_2]) ?_ ?_
   ·
    refine W_cutb (fun L wr => ∃ (b2 : List UInt8), m_param_Encode_j1 x_0 b2 = some y0 ∧ L = [(3, pt g 0), (7, I r_1.1), (9, I r_1.2.2), (10, sl A0 (Int.toNat r_1.1) (Int.toNat r_1.1)), (28, sl A1 r_2.length c0), (29, I (r_2.length : Int)), (30, I x_0)] ∧ Cx F O w wr [Bx 77 g [I p_Digest, I p_Key, I p_Fanout, I p_Depth, .u32 p_Leaf, .u64 p_Offset, .u32 p_Xof, I p_NodeDepth, I p_Inner, sl A_p_Salt p_Salt.length c_p_Salt, sl A_p_Personal p_Personal.length c_p_Personal], Ow e8 A0 (Int.toNat r_1.1) (Int.toNat r_1.1) b2, Ow (eP eI (eP eI (eP eI (eP eS eI)))) A1 r_2.length c0 r_2]) ?_ ?_
    ·
     refine W_seq <| W_reg ?_
     obtain ⟨x_2, zh2, hm⟩ := ob hm
     refine Wl 2 (.n 33 (.agg [I x_2.1, I x_2.2.1, I x_2.2.2.1, .s x_2.2.2.2.1, I x_2.2.2.2.2]) (.s .a)) (qJ (k_12.rd 2 rfl) zh2 (k_12.len 2 rfl) <| qR [I x_2.1, I x_2.2.1, I x_2.2.2.1, .s x_2.2.2.2.1, I x_2.2.2.2.2] (Rd.els (k := 0) (m := 5) (k_12.rd 2 rfl) zh2 (Pt.ix1 A1 x_0 5) rfl (by decide) (by decide)) <| qe) ?_
     refine WL_op <| Op_alloc [] 12 [I 0, I 0, I 0, .s ([] : List UInt8), I 0] (by kernel_rfl) k_12 ?_
     intro g1 w_6 k_13
     refine WL_op <| Op_bz 3 (.agg [I x_2.1, I x_2.2.1, I x_2.2.2.1, .s x_2.2.2.2.1, I x_2.2.2.2.2]) [I x_2.1, I x_2.2.1, I x_2.2.2.1, .s x_2.2.2.2.1, I x_2.2.2.2.2] (Pt.at g1 0) k_13 rfl .all ?_
     intro w_7 k_14
     refine Wn <| W_seq <| W_seq <| Wa (.n 41 (.b ((decide (x_2.1 = 7)) && (decide (p_Xof = 0)))) (.k (.s .a))) (qs g1 0 <| qB k_14 3 rfl 0 (I x_2.1) (by kernel_rfl) <| qp ((decide (x_2.1 = 7)) = true → (some ⟨g, 0, none⟩ : Option Addr).isSome = true) (fun hg0 => rfl) <| qo (.u32 p_Xof) <| qc (fun w => (decide (x_2.1 = 7)) = true → ∃ a, (some ⟨g, 6, none⟩ : Option Addr) = some a ∧ w.cell? a = some (SV.val (.u32 p_Xof))) (fun hg0 => k_14.bld 0 rfl 6 (.u32 p_Xof) (by kernel_rfl)) <| qe) ?_
     refine W_cz ((decide (x_2.1 = 7)) && (decide (p_Xof = 0))) (fun hc2 => ?_) fun hc2 => ?_
     · rw [if_pos hc2] at hm
       refine W_exit (At_te (At_ie ?_))
       have k_15 := k_14.sel (.kk (.k .z))
       exact At_cz ⟨b, hm, rfl, k_15⟩
     rw [if_neg (by rw [hc2]; decide)] at hm
     refine W_skip <| At_go ?_
     have k_16 := k_14.drew 1
     refine W_m mr_mixed (.q 0 1 (.q 5 1 (.q 1 2 (.q 2 1 (.q 3 2 (.q 4 1 (.q 6 2 (.q 7 1 (.op 8 (.op 9 .nil)))))))))) [8, 9] k_16 (.c (.kkkk .e) (.c (.k (.s (.kk .e))) .l)) (by kernel_rfl) (fun _ => ?_)
     refine MXz 2 1 (.n 42 (sl A0 (Int.toNat r_1.1) (Int.toNat r_1.1)) (.n 47 (.agg [I p_Digest, I p_Key, I p_Fanout, I p_Depth, .u32 p_Leaf, .u64 p_Offset, .u32 p_Xof, I p_NodeDepth, I p_Inner, sl A_p_Salt p_Salt.length c_p_Salt, sl A_p_Personal p_Personal.length c_p_Personal]) (.s .a))) (fun x hx => qT hx 0 rfl 0 11 [I p_Digest, I p_Key, I p_Fanout, I p_Depth, .u32 p_Leaf, .u64 p_Offset, .u32 p_Xof, I p_NodeDepth, I p_Inner, sl A_p_Salt p_Salt.length c_p_Salt, sl A_p_Personal p_Personal.length c_p_Personal] (by kernel_rfl) (by decide) <| qe) fun _ => ?_
     refine MXz 1 2 (.n 43 (pt g1 1) .a) (fun x hx => qs g1 0 <| qe) fun _ => ?_
     refine MXz 1 1 (.n 44 (I x_2.2.1) (.s .a)) (fun x hx => qB hx 3 rfl 1 (I x_2.2.1) (by kernel_rfl) <| qe) fun _ => ?_
     refine MXz 1 2 (.n 45 (pt g1 2) .a) (fun x hx => qs g1 0 <| qe) fun _ => ?_
     refine MXz 1 1 (.n 46 (I x_2.2.2.1) (.s .a)) (fun x hx => qB hx 3 rfl 2 (I x_2.2.2.1) (by kernel_rfl) <| qe) fun _ => ?_
     refine MXz 1 2 (.n 48 (pt g1 0) (.kkkk (.s .a))) (fun x hx => qs g1 0 <| qe) fun _ => ?_
     refine MXz 1 1 (.n 49 (I x_2.1) (.s .a)) (fun x hx => qB hx 3 rfl 0 (I x_2.1) (by kernel_rfl) <| qe) fun _ => ?_
     refine MX_op (by kernel_rfl) rfl ?_
     obtain ⟨r_3, h_r_3, hm⟩ := ob hm
     refine Op_cz 50 mr_go79 (c_param_value (F := N0) (O := N0) _ _ _ _ _ _ _ _ _ _ _ _ _ _ _ _ _ _ (Ro.n0 (h_p_Salt.cx k_16)) rfl hc_p_Salt (Ro.n0 (h_p_Personal.cx k_16)) rfl hc_p_Personal (Cx.refl _) _ h_r_3) ?_
     rintro e_ w_8 ⟨rfl, k_17⟩
     have k_18 := k_16.call k_17
     refine ⟨.u64 r_3, rfl, ?_⟩
     refine ⟨k_18, fun _ => ?_⟩
     refine MX_op (by kernel_rfl) rfl ?_
     obtain ⟨G, hG, k_19⟩ := k_18.openM 1 rfl
     obtain ⟨r_4, h_r_4, hm⟩ := ob hm
     obtain ⟨F1, O1, kin, hO, hre, hF, hb⟩ := k_19.go (.r (.i (.r (.r .e))))
     refine Op_cz 51 mr_go78 (c_param_put (F := F1) (O := O1) _ _ _ _ _ _ _ _ (k_18.lec 1 rfl) kin _ h_r_4) ?_
     rintro e_ w_9 ⟨rfl, k_20⟩
     have k_21 := hb w_9 _ _ k_20 (.c .n)
     refine ⟨.tup [], rfl, ?_⟩
     have k_22 := k_21.shutM hG 0 rfl
     refine ⟨(k_22.sel (.s (.kk (.k .e)))), fun _ => ?_⟩
     refine MX_nil <| At_in ?_
     have k_23 := (((k_22.pk (.t (.t .h))).pk (.t .h)).pk (.t (.t .h))).sel (.kk (.k .z))
     exact At_cz ⟨r_4, hm, rfl, k_23⟩
    rintro L_ w_10 ⟨b2, hm, rfl, k_24⟩
    simp only [m_param_Encode_j1] at hm
    exact At_cz ⟨b2, hm, rfl, k_24⟩
   rintro L_ w_11 ⟨b1, hm, rfl, k_25⟩
   simp only [m_param_Encode_j0] at hm
   refine W_q [] (.n 30 (I (w64 (x_0 + 1))) (.kkkk (.kk .z))) qe (by kernel_rfl) ?_
   exact At_rd (b1, w64 (x_0 + 1)) (Option.some.inj hm).symm ⟨b1, w64 (x_0 + 1), rfl, rfl, k_25⟩ (by kernel_rfl)
 rw [if_neg hc1] at hm
 refine W_exit (At_te (At_te (At_ie ?_)))
 have hm := exit_of hm hr0
 refine At_go <| W_seq ?_
 have k_26 := k_12.drew 1
 refine W_m mr_mixed (.q 0 1 (.q 1 1 (.q 2 1 (.q 3 1 (.q 4 1 (.q 5 0 (.q 6 1 (.q 7 0 (.op 8 .nil))))))))) [8] k_26 (.c (.k (.s (.k .e))) .l) (by kernel_rfl) (fun _ => ?_)
 refine MXz 5 1 (.n 53 (sl A0 (Int.toNat r_1.1) (Int.toNat r_1.1)) (.n 57 (I (w64 (r_1.1 - (w64 (2 * r_1.2.2))))) (.s (.kkkk .z)))) (fun x hx => qe) fun _ => ?_
 obtain ⟨b3, h_b3, hm⟩ := ob hm
 have hs := slc_some h_b3
 have hl := slc_len h_b3
 have hn : b.length = Int.toNat r_1.1 := (k_26.len 1 rfl)
 have hc3 : Int.toNat r_1.1 ≤ Int.toNat r_1.1 := (k_26.lec 1 rfl)
 obtain ⟨A2, c1, e_, hc4, hA, hc5⟩ := slx A0 (Int.toNat (w64 (r_1.1 - (w64 (2 * r_1.2.2))))) (Int.toNat r_1.1) 1 (Int.toNat r_1.1 - Int.toNat (w64 (r_1.1 - (w64 (2 * r_1.2.2))))) b3.length (by omega) (by omega)
 refine MXz 1 0 (.n 58 (sl A2 b3.length c1) (.ss .a)) (fun x hx => qp (0 ≤ w64 (r_1.1 - (w64 (2 * r_1.2.2))) ∧ w64 (r_1.1 - (w64 (2 * r_1.2.2))) ≤ ((Int.toNat r_1.1 : Nat) : Int)) (by omega) <| qo (.v (.slice A2 b3.length c1)) <| qp (Value.slice (slA A0 (Int.toNat (w64 (r_1.1 - (w64 (2 * r_1.2.2))))) (Int.toNat r_1.1) 1) (Int.toNat r_1.1 - Int.toNat (w64 (r_1.1 - (w64 (2 * r_1.2.2))))) (Int.toNat r_1.1 - Int.toNat (w64 (r_1.1 - (w64 (2 * r_1.2.2))))) = .slice A2 b3.length c1) e_ <| qe) fun _ => ?_
 refine MXz 1 1 (.n 59 (pt g 9) .a) (fun x hx => qs g 0 <| qe) fun _ => ?_
 refine MXz 1 0 (.n 60 (sl A_p_Salt p_Salt.length c_p_Salt) (.s .a)) (fun x hx => qB hx 0 rfl 9 (sl A_p_Salt p_Salt.length c_p_Salt) (by kernel_rfl) <| qe) fun _ => ?_
 refine MX_op (by kernel_rfl) rfl <| Op_ocp (E := e8) (dn := b3.length) (dc := c1) (v := sl A_p_Salt p_Salt.length c_p_Salt) (src := p_Salt) (lo := Int.toNat (w64 (r_1.1 - (w64 (2 * r_1.2.2))))) (m' := Int.toNat r_1.1) mr_tf33 [] 61 1 (by kernel_rfl) hA rfl (by omega) k_26 rfl (Src.sl (h_p_Salt.cx k_26) rfl (by rfl)) rfl (by have := k_26.len 1 rfl; omega) ?_
 intro w_12 k_27
 refine ⟨(k_27.sel (.k (.s (.k .e)))), fun _ => ?_⟩
 refine MX_nil <| At_go <| W_seq ?_
 have k_28 := k_27.drew 1
 refine W_m mr_mixed (.q 0 1 (.q 1 1 (.q 2 1 (.q 3 1 (.q 4 0 (.q 5 1 (.q 6 0 (.op 7 .nil)))))))) [7] k_28 (.c (.k (.s (.k .e))) .l) (by kernel_rfl) (fun _ => ?_)
 refine MXz 4 1 (.n 62 (sl A0 (Int.toNat r_1.1) (Int.toNat r_1.1)) (.n 65 (I (w64 (r_1.1 - r_1.2.2))) (.sss (.k (.ss .a))))) (fun x hx => qe) fun _ => ?_
 obtain ⟨b4, h_b4, hm⟩ := ob hm
 have hs1 := slc_some h_b4
 have hl1 := slc_len h_b4
 have hn1 : (lcp b (Int.toNat (w64 (r_1.1 - (w64 (2 * r_1.2.2))))) b3.length p_Salt).length = Int.toNat r_1.1 := (k_28.len 1 rfl)
 have hc6 : Int.toNat r_1.1 ≤ Int.toNat r_1.1 := (k_28.lec 1 rfl)
 obtain ⟨A3, c2, e_1, hc7, hA1, hc8⟩ := slx A0 (Int.toNat (w64 (r_1.1 - r_1.2.2))) (Int.toNat r_1.1) 1 (Int.toNat r_1.1 - Int.toNat (w64 (r_1.1 - r_1.2.2))) b4.length (by omega) (by omega)
 refine MXz 1 0 (.n 66 (sl A3 b4.length c2) (.ss .a)) (fun x hx => qp (0 ≤ w64 (r_1.1 - r_1.2.2) ∧ w64 (r_1.1 - r_1.2.2) ≤ ((Int.toNat r_1.1 : Nat) : Int)) (by omega) <| qo (.v (.slice A3 b4.length c2)) <| qp (Value.slice (slA A0 (Int.toNat (w64 (r_1.1 - r_1.2.2))) (Int.toNat r_1.1) 1) (Int.toNat r_1.1 - Int.toNat (w64 (r_1.1 - r_1.2.2))) (Int.toNat r_1.1 - Int.toNat (w64 (r_1.1 - r_1.2.2))) = .slice A3 b4.length c2) e_1 <| qe) fun _ => ?_
 refine MXz 1 1 (.n 67 (pt g 10) (.k (.s .a))) (fun x hx => qs g 0 <| qe) fun _ => ?_
 refine MXz 1 0 (.n 68 (sl A_p_Personal p_Personal.length c_p_Personal) (.s .a)) (fun x hx => qB hx 0 rfl 10 (sl A_p_Personal p_Personal.length c_p_Personal) (by kernel_rfl) <| qe) fun _ => ?_
 refine MX_op (by kernel_rfl) rfl <| Op_ocp (E := e8) (dn := b4.length) (dc := c2) (v := sl A_p_Personal p_Personal.length c_p_Personal) (src := p_Personal) (lo := Int.toNat (w64 (r_1.1 - r_1.2.2))) (m' := Int.toNat r_1.1) mr_tf33 [] 69 1 (by kernel_rfl) hA1 rfl (by omega) k_28 rfl (Src.sl (h_p_Personal.cx k_28) rfl (by rfl)) rfl (by have := k_28.len 1 rfl; omega) ?_
 intro w_13 k_29
 refine ⟨(k_29.sel (.k (.s (.k .e)))), fun _ => ?_⟩
 refine MX_nil <| At_go <| Wz (.n 4 (sl A0 (Int.toNat r_1.1) (Int.toNat r_1.1)) (.n 5 (I 0) .z)) ?_
 refine W_ret ?_
 obtain rfl := si hm
 refine At_rz [sl A0 (Int.toNat r_1.1) (Int.toNat r_1.1), I 0] qe ?_
 have k_30 := k_29.sel (.s (.k .z))
 exact ⟨A0, Int.toNat r_1.1, Int.toNat r_1.1, k_30.len 0 rfl, rfl, k_30⟩
theorem c_mixb_IV (k : Cx F O w w []) (r : (Vec UInt64 8)) (hm : m_mixb_IV = some r) :
    Calls Tryz.prog 115 (vals []) w (fun e w' => e = .returned (SV.val (.agg [.ar e64 r])) ∧ Cx F O w w' []) := by
 unfold m_mixb_IV at hm
 refine calz [] Tryz.func115 rfl ?_
 refine W_seq <| W_reg <| WL_op <| Op_alloc [] 0 [.ar e64 (Vec.rep 8 (0 : UInt64))] (by kernel_rfl) k ?_
 intro g w_ k_
 refine Wn <| W_seq <| W_reg <| We 1 (.n 1 (.agg [.ar e64 (⟨[(7640891576956012808 : UInt64), (13503953896175478587 : UInt64), (4354685564936845355 : UInt64), (11912009170470909681 : UInt64), (5840696475078001361 : UInt64), (11170449401992604703 : UInt64), (2270897969802886507 : UInt64), (6620516959819538809 : UInt64)], rfl⟩ : Vec UInt64 8)]) .a) ?_
 refine WL_op <| Op_bz 0 (.agg [.ar e64 (⟨[(7640891576956012808 : UInt64), (13503953896175478587 : UInt64), (4354685564936845355 : UInt64), (11912009170470909681 : UInt64), (5840696475078001361 : UInt64), (11170449401992604703 : UInt64), (2270897969802886507 : UInt64), (6620516959819538809 : UInt64)], rfl⟩ : Vec UInt64 8)]) [.ar e64 (⟨[(7640891576956012808 : UInt64), (13503953896175478587 : UInt64), (4354685564936845355 : UInt64), (11912009170470909681 : UInt64), (5840696475078001361 : UInt64), (11170449401992604703 : UInt64), (2270897969802886507 : UInt64), (6620516959819538809 : UInt64)], rfl⟩ : Vec UInt64 8)] (Pt.at g 0) k_ rfl .all ?_
 intro w_1 k_1
 refine Wn <| W_ret ?_
 obtain rfl := si hm
 refine At_rz [.agg [.ar e64 (⟨[(7640891576956012808 : UInt64), (13503953896175478587 : UInt64), (4354685564936845355 : UInt64), (11912009170470909681 : UInt64), (5840696475078001361 : UInt64), (11170449401992604703 : UInt64), (2270897969802886507 : UInt64), (6620516959819538809 : UInt64)], rfl⟩ : Vec UInt64 8)]] (qo (.agg [.ar e64 (⟨[(7640891576956012808 : UInt64), (13503953896175478587 : UInt64), (4354685564936845355 : UInt64), (11912009170470909681 : UInt64), (5840696475078001361 : UInt64), (11170449401992604703 : UInt64), (2270897969802886507 : UInt64), (6620516959819538809 : UInt64)], rfl⟩ : Vec UInt64 8)]) <| qc (fun w => Rd w (some ⟨g, 0, none⟩) (SV.cl [.ar e64 (⟨[(7640891576956012808 : UInt64), (13503953896175478587 : UInt64), (4354685564936845355 : UInt64), (11912009170470909681 : UInt64), (5840696475078001361 : UInt64), (11170449401992604703 : UInt64), (2270897969802886507 : UInt64), (6620516959819538809 : UInt64)], rfl⟩ : Vec UInt64 8)])) (k_1.brd 0 rfl) <| qe) ?_
 have k_2 := k_1.sel .z
 exact ⟨rfl, k_2⟩
theorem c_word_load (b : List UInt8) (at_ : Int) (n : Int) (A_b : Option Addr) (n_b : Nat) (c_b : Nat) (h_b : Ro F w A_b (e8.all b)) (hn_b : b.length = n_b) (hc_b : n_b ≤ c_b) (k : Cx F O w w []) (r : (UInt64 × Int)) (hm : m_word_load b at_ n = some r) :
    Calls Tryz.prog 131 (vals [sl A_b n_b c_b, I at_, I n]) w (fun e w' => e = .returned (SV.val (.tup [.u64 r.1, I r.2])) ∧ Cx F O w w' []) := by
 unfold m_word_load at hm
 subst hn_b
 refine calz [sl A_b b.length c_b, I at_, I n] Tryz.func131 rfl ?_
 refine Wz .a ?_
 refine W_seq <| Wz (.n 11 (.b (decide (at_ < 0))) .a) ?_
 refine W_pz (at_ < 0) (fun hc => ?_) fun hc => ?_
 · rw [if_pos hc] at hm
   refine Wz (.n 6 (.u64 0) (.n 7 (I 1) .z)) ?_
   refine W_ret (At_tr ?_)
   obtain rfl := si hm
   refine At_rz [.u64 0, I 1] qe ?_
   exact ⟨rfl, k⟩
 rw [if_neg hc] at hm
 refine W_skip <| At_go <| W_seq <| Wz (.n 23 (.b ((decide ((b.length : Int) < at_)) || (decide ((w64 ((b.length : Int) - at_)) < n)))) (.s .a)) ?_
 refine W_cz ((decide ((b.length : Int) < at_)) || (decide ((w64 ((b.length : Int) - at_)) < n))) (fun hc1 => ?_) fun hc1 => ?_
 · rw [if_pos hc1] at hm
   refine Wz (.n 6 (.u64 0) (.n 7 (I 3) .z)) ?_
   refine W_ret (At_tr ?_)
   obtain rfl := si hm
   refine At_rz [.u64 0, I 3] qe ?_
   exact ⟨rfl, k⟩
 rw [if_neg (by rw [hc1]; decide)] at hm
 refine W_skip <| At_go <| Wz (.n 8 (.u64 0) (.s .a)) ?_
 refine W_seq <| Wz (.n 24 (I n) (.n 25 (I 0) (.kkk .z))) ?_
 refine W_block <| W_lp (m_word_load_l0 b at_ n) (fun s L wr => ∃ (w_ : UInt64) (x_0 : Int), (w_, x_0) = s ∧ L = [(0, sl A_b b.length c_b), (1, I at_), (8, .u64 w_), (24, I n), (25, I x_0)] ∧ Cx F O w wr []) ((0 : UInt64), (0 : Int)) r hm ⟨(0 : UInt64), (0 : Int), rfl, rfl, k⟩ (by kernel_rfl) ?_
 intro s0_ L_ w_1 y0 hrel hstep hr0
 obtain ⟨w_, x_0, rfl, rfl, k_⟩ := hrel
 have hm := hstep; simp only [m_word_load_l0] at hm
 clear hstep
 refine Wz (.n 26 (.b (decide (x_0 < n))) .a) ?_
 refine W_seq <| W_pz (x_0 < n) (fun hc2 => ?_) fun hc2 => ?_
 · rw [if_pos hc2] at hm
   refine W_skip <| At_go <| W_seq <| W_block <| W_seq <| W_q [] (.n 9 (I x_0) (.s .a)) qe (by kernel_rfl) ?_
   refine At_go ?_
   obtain ⟨x_2, zh2, hm⟩ := ob hm
   obtain ⟨u, h_u, hm⟩ := ob hm
   refine W_q [] (.n 8 (.u64 (w_ ||| (shl64 (UInt64.ofNat x_2.toNat) (Int.toNat (w64 (8 * x_0)))))) (.s (.kk (.s .a)))) (qW (h_b.cx k_) zh2 rfl (.u8 x_2) rfl <| qp (0 ≤ w64 (8 * x_0)) (need_some h_u) <| qe) (by kernel_rfl) ?_
   refine At_in <| At_go <| W_q [] (.n 25 (I (w64 (x_0 + 1))) (.kkkk .z)) qe (by kernel_rfl) ?_
   exact At_rd (w_ ||| (shl64 (UInt64.ofNat x_2.toNat) (Int.toNat (w64 (8 * x_0)))), w64 (x_0 + 1)) (Option.some.inj hm).symm ⟨w_ ||| (shl64 (UInt64.ofNat x_2.toNat) (Int.toNat (w64 (8 * x_0)))), w64 (x_0 + 1), rfl, rfl, k_⟩ (by kernel_rfl)
 rw [if_neg hc2] at hm
 refine W_exit (At_te (At_te (At_ie ?_)))
 have hm := exit_of hm hr0
 refine At_go <| Wz (.n 6 (.u64 w_) (.n 7 (I 0) .z)) ?_
 refine W_ret ?_
 obtain rfl := si hm
 refine At_rz [.u64 w_, I 0] qe ?_
 exact ⟨rfl, k_⟩
theorem c_word_Load64 (b : List UInt8) (at_ : Int) (A_b : Option Addr) (n_b : Nat) (c_b : Nat) (h_b : Ro F w A_b (e8.all b)) (hn_b : b.length = n_b) (hc_b : n_b ≤ c_b) (k : Cx F O w w []) (r : (UInt64 × Int)) (hm : m_word_Load64 b at_ = some r) :
    Calls Tryz.prog 116 (vals [sl A_b n_b c_b, I at_]) w (fun e w' => e = .returned (SV.val (.tup [.u64 r.1, I r.2])) ∧ Cx F O w w' []) := by
 unfold m_word_Load64 at hm
 subst hn_b
 refine calz [sl A_b b.length c_b, I at_] Tryz.func116 rfl ?_
 refine Wz .a ?_
 refine W_seq <| W_reg <| We 2 (.n 6 (sl A_b b.length c_b) (.n 7 (I at_) .z)) ?_
 refine WL_op ?_
 obtain ⟨r_, h_r_, hm⟩ := ob hm
 refine Op_cz 8 mr_go131 (c_word_load (F := N0) (O := N0) _ _ _ _ _ _ (Ro.n0 (h_b.cx k)) rfl hc_b (Cx.refl _) _ h_r_) ?_
 rintro e_ w_ ⟨rfl, k_⟩
 have k_1 := k.call k_
 refine ⟨.tup [.u64 r_.1, I r_.2], rfl, ?_⟩
 refine We 4 (.n 4 (.u64 r_.1) (.n 5 (I r_.2) .z)) ?_
 refine Wn <| W_ret ?_
 obtain rfl := si hm
 refine At_rz [.u64 r_.1, I r_.2] qe ?_
 exact ⟨rfl, k_1⟩
theorem c_mixb_Start (block : List UInt8) (A_block : Option Addr) (n_block : Nat) (c_block : Nat) (h_block : Ro F w A_block (e8.all block)) (hn_block : block.length = n_block) (hc_block : n_block ≤ c_block) (k : Cx F O w w []) (r : (Vec UInt64 8 × Int)) (hm : m_mixb_Start block = some r) :
    Calls Tryz.prog 99 (vals [sl A_block n_block c_block]) w (fun e w' => e = .returned (SV.val (.tup [.agg [.ar e64 r.1], I r.2])) ∧ Cx F O w w' []) := by
 unfold m_mixb_Start at hm
 subst hn_block
 refine calz [sl A_block block.length c_block] Tryz.func99 rfl ?_
 refine W_seq <| W_reg <| WL_op <| Op_alloc [] 2 [.ar e64 (Vec.rep 8 (0 : UInt64))] (by kernel_rfl) k ?_
 intro g w_ k_
 refine We 1 .a ?_
 refine Wn <| W_seq <| Wz (.n 10 (.b (decide ((block.length : Int) ≠ 64))) .a) ?_
 refine W_pz ((block.length : Int) ≠ 64) (fun hc => ?_) fun hc => ?_
 · rw [if_pos hc] at hm
   refine W_seq <| W_reg <| We 1 (.n 11 (.agg [.ar e64 (Vec.rep 8 ((0 : UInt64) : UInt64))]) (.s (.k .z))) ?_
   refine WL_op <| Op_bz 0 (.agg [.ar e64 (Vec.rep 8 ((0 : UInt64) : UInt64))]) [.ar e64 (Vec.rep 8 ((0 : UInt64) : UInt64))] (Pt.at g 0) k_ rfl .all ?_
   intro w_1 k_1
   refine We 1 (.n 3 (I 1) (.s .a)) ?_
   refine Wn <| W_ret (At_tr ?_)
   obtain rfl := si hm
   refine At_rz [.agg [.ar e64 (Vec.rep 8 ((0 : UInt64) : UInt64))], I 1] (qo (.agg [.ar e64 (Vec.rep 8 ((0 : UInt64) : UInt64))]) <| qc (fun w => Rd w (some ⟨g, 0, none⟩) (SV.cl [.ar e64 (Vec.rep 8 ((0 : UInt64) : UInt64))])) (k_1.brd 0 rfl) <| qe) ?_
   have k_2 := k_1.sel .z
   exact ⟨rfl, k_2⟩
 rw [if_neg hc] at hm
 refine W_skip <| At_go <| W_seq <| W_reg <| WL_op ?_
 obtain ⟨r_, h_r_, hm⟩ := ob hm
 refine Op_cz 12 mr_go115 (c_mixb_IV (F := N0) (O := N0)  (Cx.refl _) _ h_r_) ?_
 rintro e_ w_2 ⟨rfl, k_3⟩
 have k_4 := k_.call k_3
 refine ⟨.agg [.ar e64 r_], rfl, ?_⟩
 refine WL_op <| Op_alloc [] 4 [.ar e64 (Vec.rep 8 (0 : UInt64))] (by kernel_rfl) k_4 ?_
 intro g1 w_3 k_5
 refine WL_op <| Op_bz 1 (.agg [.ar e64 r_]) [.ar e64 r_] (Pt.at g1 0) k_5 rfl .all ?_
 intro w_4 k_6
 refine Wn <| W_seq <| Wz (.n 13 (I 0) (.k (.ss .a))) ?_
 refine W_block <| W_lp (m_mixb_Start_l0 block) (fun s L wr => ∃ (h : Vec UInt64 8) (x_0 : Int), (h, x_0) = s ∧ L = [(0, sl A_block block.length c_block), (2, pt g 0), (4, pt g1 0), (13, I x_0)] ∧ Cx F O w wr [Bx 139 g [.ar e64 (Vec.rep 8 (0 : UInt64))], Bx 139 g1 [.ar e64 h]]) (r_, (0 : Int)) r hm ⟨r_, (0 : Int), rfl, rfl, k_6⟩ (by kernel_rfl) ?_
 intro s0_ L_ w_5 y0 hrel hstep hr0
 obtain ⟨h, x_0, rfl, rfl, k_7⟩ := hrel
 have hm := hstep; simp only [m_mixb_Start_l0] at hm
 clear hstep
 refine Wz (.n 14 (.b (decide (x_0 < 8))) .a) ?_
 refine W_seq <| W_pz (x_0 < 8) (fun hc1 => ?_) fun hc1 => ?_
 · rw [if_pos hc1] at hm
   refine W_skip <| At_go <| W_seq <| W_block <| Wz (.n 5 (I x_0) (.s .a)) ?_
   refine W_seq <| W_reg <| We 3 (.n 17 (sl A_block block.length c_block) (.n 19 (I (w64 (8 * x_0))) .a)) ?_
   refine WL_op ?_
   obtain ⟨r_1, h_r_1, hm⟩ := ob hm
   refine Op_cz 20 mr_go116 (c_word_Load64 (F := N0) (O := N0) _ _ _ _ _ (Ro.n0 (h_block.cx k_7)) rfl hc_block (Cx.refl _) _ h_r_1) ?_
   rintro e_ w_6 ⟨rfl, k_8⟩
   have k_9 := k_7.call k_8
   refine ⟨.tup [.u64 r_1.1, I r_1.2], rfl, ?_⟩
   refine We 5 (.n 6 (.u64 r_1.1) (.sss .a)) ?_
   refine Wn <| W_reg ?_
   obtain ⟨x_2, zh2, hm⟩ := ob hm
   obtain ⟨x_3, zh3, hm⟩ := ob hm
   refine Wl 6 (.n 27 (.u64 (x_2 ^^^ r_1.1)) (.n 28 (.v (.pointer (ixA (some ⟨g1, 0, none⟩) x_0 1))) (.ss .a))) (qV (k_9.vrd 1 rfl e64 h 0 (by kernel_rfl)) zh2 rfl (.u64 x_2) rfl <| qI g1 0 zh3 <| qe) ?_
   refine WL_op ?_
   obtain ⟨v, h_v, hm⟩ := nm hm
   refine Op_vz 1 (.u64 (x_2 ^^^ r_1.1)) [.u64 (x_2 ^^^ r_1.1)] h_v zh3 (Pt.ix0 (Pt.at g1 0) x_0 1) k_9 rfl .h rfl ?_
   intro w_7 k_10
   refine WL_nil <| At_in <| At_go <| W_q [] (.n 13 (I (w64 (x_0 + 1))) (.ss (.kkk .z))) qe (by kernel_rfl) ?_
   exact At_rd (v, w64 (x_0 + 1)) (Option.some.inj hm).symm ⟨v, w64 (x_0 + 1), rfl, rfl, k_10⟩ (by kernel_rfl)
 rw [if_neg hc1] at hm
 refine W_exit (At_te (At_te (At_ie ?_)))
 have hm := exit_of hm hr0
 refine At_go <| W_seq <| W_reg <| Wl 1 (.n 30 (.agg [.ar e64 h]) (.ss (.k .z))) (qT k_7 1 rfl 0 8 [.ar e64 h] (by kernel_rfl) (by decide) <| qe) ?_
 refine WL_op <| Op_bz 0 (.agg [.ar e64 h]) [.ar e64 h] (Pt.at g 0) k_7 rfl .all ?_
 intro w_8 k_11
 have k_12 := k_11.sel (.k .z)
 refine We 1 (.n 3 (I 0) (.s .a)) ?_
 refine Wn <| W_ret ?_
 obtain rfl := si hm
 refine At_rz [.agg [.ar e64 h], I 0] (qo (.agg [.ar e64 h]) <| qc (fun w => Rd w (some ⟨g, 0, none⟩) (SV.cl [.ar e64 h])) (k_12.brd 0 rfl) <| qe) ?_
 have k_13 := k_12.sel .z
 exact ⟨rfl, k_13⟩
theorem c_mixs_right (b : List UInt8) (n : Int) (A_b : Option Addr) (n_b : Nat) (c_b : Nat) (h_b : Ro F w A_b (e8.all b)) (hn_b : b.length = n_b) (hc_b : n_b ≤ c_b) (k : Cx F O w w []) (r : Int) (hm : m_mixs_right b n = some r) :
    Calls Tryz.prog 120 (vals [sl A_b n_b c_b, I n]) w (fun e w' => e = .returned (SV.val (I r)) ∧ Cx F O w w' []) := by
 unfold m_mixs_right at hm
 subst hn_b
 refine calz [sl A_b b.length c_b, I n] Tryz.func120 rfl ?_
 refine Wz .a ?_
 refine W_seq <| W_block <| Wz (.n 5 (.b (decide ((b.length : Int) < n))) .a) ?_
 refine W_pz ((b.length : Int) < n) (fun hc => ?_) fun hc => ?_
 · rw [if_pos hc] at hm
   refine Wz (.n 4 (I 3) .z) ?_
   refine W_ret (At_ir (At_tr ?_))
   obtain rfl := si hm
   refine At_rz [I 3] qe ?_
   exact ⟨rfl, k⟩
 rw [if_neg hc] at hm
 refine Wz (.n 10 (.b (decide (n < (b.length : Int)))) .z) ?_
 refine W_pz (n < (b.length : Int)) (fun hc1 => ?_) fun hc1 => ?_
 · rw [if_pos hc1] at hm
   refine Wz (.n 4 (I 2) .z) ?_
   refine W_ret (At_ir (At_tr ?_))
   obtain rfl := si hm
   refine At_rz [I 2] qe ?_
   exact ⟨rfl, k⟩
 rw [if_neg hc1] at hm
 refine W_skip <| At_in <| At_go <| Wz (.n 4 (I 0) .z) ?_
 refine W_ret ?_
 obtain rfl := si hm
 refine At_rz [I 0] qe ?_
 exact ⟨rfl, k⟩
theorem c_word_Load32 (b : List UInt8) (at_ : Int) (A_b : Option Addr) (n_b : Nat) (c_b : Nat) (h_b : Ro F w A_b (e8.all b)) (hn_b : b.length = n_b) (hc_b : n_b ≤ c_b) (k : Cx F O w w []) (r : (UInt32 × Int)) (hm : m_word_Load32 b at_ = some r) :
    Calls Tryz.prog 134 (vals [sl A_b n_b c_b, I at_]) w (fun e w' => e = .returned (SV.val (.tup [.u32 r.1, I r.2])) ∧ Cx F O w w' []) := by
 unfold m_word_Load32 at hm
 subst hn_b
 refine calz [sl A_b b.length c_b, I at_] Tryz.func134 rfl ?_
 refine Wz .a ?_
 refine W_seq <| W_reg <| We 2 (.n 9 (sl A_b b.length c_b) (.n 10 (I at_) .z)) ?_
 refine WL_op ?_
 obtain ⟨r_, h_r_, hm⟩ := ob hm
 refine Op_cz 11 mr_go131 (c_word_load (F := N0) (O := N0) _ _ _ _ _ _ (Ro.n0 (h_b.cx k)) rfl hc_b (Cx.refl _) _ h_r_) ?_
 rintro e_ w_ ⟨rfl, k_⟩
 have k_1 := k.call k_
 refine ⟨.tup [.u64 r_.1, I r_.2], rfl, ?_⟩
 refine We 5 (.n 6 (.u64 r_.1) (.n 7 (I r_.2) .z)) ?_
 refine Wn <| Wz (.n 4 (.u32 (UInt32.ofNat r_.1.toNat)) (.n 5 (I r_.2) .z)) ?_
 refine W_ret ?_
 obtain rfl := si hm
 refine At_rz [.u32 (UInt32.ofNat r_.1.toNat), I r_.2] qe ?_
 exact ⟨rfl, k_1⟩
theorem c_mixs_words (m_ : List UInt32) (b : List UInt8) (A_m_ : Option Addr) (n_m_ : Nat) (c_m_ : Nat) (G_m_ : Win) (A_b : Option Addr) (n_b : Nat) (c_b : Nat) (hc_m_ : n_m_ ≤ c_m_) (h_b : Ro F w A_b (e8.all b)) (hn_b : b.length = n_b) (hc_b : n_b ≤ c_b) (k : Cx F O w w [Mw e32 A_m_ n_m_ m_ G_m_]) (r : (List UInt32)) (hm : m_mixs_words m_ b = some r) :
    Calls Tryz.prog 121 (vals [sl A_m_ n_m_ c_m_, sl A_b n_b c_b]) w (fun e w' => e = .returned (SV.val (.tup [])) ∧ Cx F O w w' [Mw e32 A_m_ n_m_ r G_m_]) := by
 unfold m_mixs_words at hm
 obtain rfl := k.mlen 0 rfl
 subst hn_b
 refine calz [sl A_m_ m_.length c_m_, sl A_b b.length c_b] Tryz.func121 rfl ?_
 refine Wz (.n 6 (I (m_.length : Int)) (.n 7 (I 0) .a)) ?_
 refine W_block <| W_lp (m_mixs_words_l0 m_ b) (fun s L wr => ∃ (m_1 : List UInt32) (x_0 : Int), (m_1, x_0) = s ∧ L = [(0, sl A_m_ m_.length c_m_), (1, sl A_b b.length c_b), (6, I (m_.length : Int)), (7, I x_0)] ∧ Cx F O w wr [Mw e32 A_m_ m_.length m_1 G_m_]) (m_, (0 : Int)) r hm ⟨m_, (0 : Int), rfl, rfl, k⟩ (by kernel_rfl) ?_
 intro s0_ L_ w_ y0 hrel hstep hr0
 obtain ⟨m_1, x_0, rfl, rfl, k_⟩ := hrel
 have hm := hstep; simp only [m_mixs_words_l0] at hm
 clear hstep
 refine Wz (.n 8 (.b (decide (x_0 < (m_.length : Int)))) .a) ?_
 refine W_seq <| W_pz (x_0 < (m_.length : Int)) (fun hc => ?_) fun hc => ?_
 · rw [if_pos hc] at hm
   refine W_skip <| At_go <| W_seq <| W_block <| Wz (.n 4 (I x_0) (.s .a)) ?_
   refine W_reg <| We 5 (.n 11 (sl A_m_ m_.length c_m_) (.n 12 (I x_0) (.n 13 (sl A_b b.length c_b) (.n 15 (I (w64 (4 * x_0))) (.s .a))))) ?_
   refine WL_op ?_
   obtain ⟨r_, h_r_, hm⟩ := ob hm
   refine Op_cz 16 mr_go134 (c_word_Load32 (F := N0) (O := N0) _ _ _ _ _ (Ro.n0 (h_b.cx k_)) rfl hc_b (Cx.refl _) _ h_r_) ?_
   rintro e_ w_1 ⟨rfl, k_1⟩
   have k_2 := k_.call k_1
   refine ⟨.tup [.u32 r_.1, I r_.2], rfl, ?_⟩
   obtain ⟨x_1, zh1, hm⟩ := ob hm
   refine Wl 4 (.n 17 (.u32 r_.1) (.n 19 (.v (.pointer (ixA A_m_ x_0 1))) (.ssss (.s .a)))) (qJ (k_2.mrd 0 rfl) zh1 (k_2.mlen 0 rfl) <| qe) ?_
   refine WL_op <| Op_mst (E := e32) (kk := 0) (sv := .u32 r_.1) (svs := [.u32 r_.1]) [] 0 r_.1 (by kernel_rfl) (Pt.ix1 A_m_ x_0 1) k_2 rfl (geti_some zh1).2 (E_ix (E := e32) (k_2.mrd 0 rfl) (by decide) (geti_lt zh1).1 (geti_some zh1).2) rfl (Nat.le_of_ble_eq_true (by kernel_rfl)) ?_
   intro w_2 k_3
   refine WL_nil <| At_in <| At_go <| W_q [] (.n 7 (I (w64 (x_0 + 1))) (.ss (.kkk .z))) qe (by kernel_rfl) ?_
   exact At_rd (m_1.set (Int.toNat x_0) r_.1, w64 (x_0 + 1)) (Option.some.inj hm).symm ⟨m_1.set (Int.toNat x_0) r_.1, w64 (x_0 + 1), rfl, rfl, k_3⟩ (by kernel_rfl)
 rw [if_neg hc] at hm
 refine W_exit (At_te (At_te (At_ie ?_)))
 have hm := exit_of hm hr0
 obtain rfl := si hm
 refine At_en [] qe (by kernel_rfl) ?_
 exact ⟨rfl, k_⟩
theorem c_mixs_IV (k : Cx F O w w []) (r : (Vec UInt32 8)) (hm : m_mixs_IV = some r) :
    Calls Tryz.prog 122 (vals []) w (fun e w' => e = .returned (SV.val (.agg [.ar e32 r])) ∧ Cx F O w w' []) := by
 unfold m_mixs_IV at hm
 refine calz [] Tryz.func122 rfl ?_
 refine W_seq <| W_reg <| WL_op <| Op_alloc [] 0 [.ar e32 (Vec.rep 8 (0 : UInt32))] (by kernel_rfl) k ?_
 intro g w_ k_
 refine Wn <| W_seq <| W_reg <| We 1 (.n 1 (.agg [.ar e32 (⟨[(1779033703 : UInt32), (3144134277 : UInt32), (1013904242 : UInt32), (2773480762 : UInt32), (1359893119 : UInt32), (2600822924 : UInt32), (528734635 : UInt32), (1541459225 : UInt32)], rfl⟩ : Vec UInt32 8)]) .a) ?_
 refine WL_op <| Op_bz 0 (.agg [.ar e32 (⟨[(1779033703 : UInt32), (3144134277 : UInt32), (1013904242 : UInt32), (2773480762 : UInt32), (1359893119 : UInt32), (2600822924 : UInt32), (528734635 : UInt32), (1541459225 : UInt32)], rfl⟩ : Vec UInt32 8)]) [.ar e32 (⟨[(1779033703 : UInt32), (3144134277 : UInt32), (1013904242 : UInt32), (2773480762 : UInt32), (1359893119 : UInt32), (2600822924 : UInt32), (528734635 : UInt32), (1541459225 : UInt32)], rfl⟩ : Vec UInt32 8)] (Pt.at g 0) k_ rfl .all ?_
 intro w_1 k_1
 refine Wn <| W_ret ?_
 obtain rfl := si hm
 refine At_rz [.agg [.ar e32 (⟨[(1779033703 : UInt32), (3144134277 : UInt32), (1013904242 : UInt32), (2773480762 : UInt32), (1359893119 : UInt32), (2600822924 : UInt32), (528734635 : UInt32), (1541459225 : UInt32)], rfl⟩ : Vec UInt32 8)]] (qo (.agg [.ar e32 (⟨[(1779033703 : UInt32), (3144134277 : UInt32), (1013904242 : UInt32), (2773480762 : UInt32), (1359893119 : UInt32), (2600822924 : UInt32), (528734635 : UInt32), (1541459225 : UInt32)], rfl⟩ : Vec UInt32 8)]) <| qc (fun w => Rd w (some ⟨g, 0, none⟩) (SV.cl [.ar e32 (⟨[(1779033703 : UInt32), (3144134277 : UInt32), (1013904242 : UInt32), (2773480762 : UInt32), (1359893119 : UInt32), (2600822924 : UInt32), (528734635 : UInt32), (1541459225 : UInt32)], rfl⟩ : Vec UInt32 8)])) (k_1.brd 0 rfl) <| qe) ?_
 have k_2 := k_1.sel .z
 exact ⟨rfl, k_2⟩
end Go.Sx

