import Derived.Test.YtjddlmbpkkbkoaaGreatW2
namespace Go.Sx
open Go.RowKit Go.Proofs
set_option linter.unusedVariables false
set_option linter.unusedSimpArgs false
set_option maxRecDepth 20000
variable {F O : Nat → Prop} {w : World}
theorem c_mixs_Start (block : List UInt8) (A_block : Option Addr) (n_block : Nat) (c_block : Nat) (h_block : Ro F w A_block (e8.all block)) (hn_block : block.length = n_block) (hc_block : n_block ≤ c_block) (k : Cx F O w w []) (r : (Vec UInt32 8 × Int)) (hm : m_mixs_Start block = some r) :
    Calls Tryz.prog 102 (vals [sl A_block n_block c_block]) w (fun e w' => e = .returned (SV.val (.tup [.agg [.ar e32 r.1], I r.2])) ∧ Cx F O w w' []) := by
 unfold m_mixs_Start at hm
 subst hn_block
 refine calz [sl A_block block.length c_block] Tryz.func102 rfl ?_
 refine W_seq <| W_reg <| WL_op <| Op_alloc [] 2 [.ar e32 (Vec.rep 8 (0 : UInt32))] (by kernel_rfl) k ?_
 intro g w_ k_
 refine We 1 .a ?_
 refine Wn <| W_seq <| W_seq <| W_reg <| We 1 (.n 8 (sl A_block block.length c_block) .a) ?_
 refine WL_op ?_
 obtain ⟨r_, h_r_, hm⟩ := ob hm
 refine Op_cz 9 mr_go120 (c_mixs_right (F := N0) (O := N0) _ _ _ _ _ (Ro.n0 (h_block.cx k_)) rfl hc_block (Cx.refl _) _ h_r_) ?_
 rintro e_ w_1 ⟨rfl, k_1⟩
 have k_2 := k_.call k_1
 refine ⟨I r_, rfl, ?_⟩
 refine We 1 (.n 4 (I r_) (.ss .a)) ?_
 refine Wn <| Wz (.n 11 (.b (decide (r_ ≠ 0))) .a) ?_
 refine W_pz (r_ ≠ 0) (fun hc => ?_) fun hc => ?_
 · rw [if_pos hc] at hm
   refine W_seq <| W_reg <| We 2 (.n 12 (.agg [.ar e32 (Vec.rep 8 ((0 : UInt32) : UInt32))]) (.n 13 (I r_) (.ss (.k .z)))) ?_
   refine WL_op <| Op_bz 0 (.agg [.ar e32 (Vec.rep 8 ((0 : UInt32) : UInt32))]) [.ar e32 (Vec.rep 8 ((0 : UInt32) : UInt32))] (Pt.at g 0) k_2 rfl .all ?_
   intro w_2 k_3
   refine We 1 (.n 3 (I r_) (.ss .a)) ?_
   refine Wn <| W_ret (At_tr ?_)
   obtain rfl := si hm
   refine At_rz [.agg [.ar e32 (Vec.rep 8 ((0 : UInt32) : UInt32))], I r_] (qo (.agg [.ar e32 (Vec.rep 8 ((0 : UInt32) : UInt32))]) <| qc (fun w => Rd w (some ⟨g, 0, none⟩) (SV.cl [.ar e32 (Vec.rep 8 ((0 : UInt32) : UInt32))])) (k_3.brd 0 rfl) <| qe) ?_
   have k_4 := k_3.sel .z
   exact ⟨rfl, k_4⟩
 rw [if_neg hc] at hm
 refine W_skip <| At_go <| W_seq <| W_reg <| WL_op <| Op_alloc [] 5 [.ar e32 (Vec.rep 8 (0 : UInt32))] (by kernel_rfl) k_2 ?_
 intro g1 w_3 k_5
 refine Wn <| W_seq <| W_reg <| Wl 2 (.n 14 (sl (some ⟨g1, 0, none⟩) 8 8) (.n 15 (sl A_block block.length c_block) (.k (.ss (.k .z))))) (qo (.v (.slice (some ⟨g1, 0, none⟩) 8 8)) <| qp (((some ⟨g1, 0, none⟩) : Option Addr).isSome = true ∧ Value.slice (slA (some ⟨g1, 0, none⟩) 0 8 1) (8 - 0) (8 - 0) = .slice (some ⟨g1, 0, none⟩) 8 8) ⟨rfl, slx0 _ _ _ _ _ rfl⟩ <| qe) ?_
 refine WL_op ?_
 have k_6 := k_5.openV [] [] 1 rfl
 obtain ⟨r_1, h_r_1, hm⟩ := ob hm
 obtain ⟨F1, O1, kin, hO, hre, hF, hb⟩ := k_6.go (.r (.i .e))
 refine Op_cz 16 mr_go121 (c_mixs_words (F := F1) (O := O1) _ _ _ _ _ _ _ _ _ (Nat.le_refl _) (Ro.of_old h_block k_6 hF) rfl hc_block kin _ h_r_1) ?_
 rintro e_ w_4 ⟨rfl, k_7⟩
 have k_8 := hb w_4 _ _ k_7 (.c .n)
 refine ⟨.tup [], rfl, ?_⟩
 have k_9 := k_8.shutV [] [] 0 rfl (Vec.of 8 r_1) (Vec.of_l (k_8.mlen 0 rfl))
 refine Wn <| W_seq <| W_reg <| WL_op ?_
 have k_10 := k_9.sel (.kk .e)
 obtain ⟨r_2, h_r_2, hm⟩ := ob hm
 refine Op_cz 17 mr_go122 (c_mixs_IV (F := N0) (O := N0)  (Cx.refl _) _ h_r_2) ?_
 rintro e_ w_5 ⟨rfl, k_11⟩
 have k_12 := k_10.call k_11
 refine ⟨.agg [.ar e32 r_2], rfl, ?_⟩
 refine WL_op <| Op_alloc [] 6 [.ar e32 (Vec.rep 8 (0 : UInt32))] (by kernel_rfl) k_12 ?_
 intro g2 w_6 k_13
 refine WL_op <| Op_bz 2 (.agg [.ar e32 r_2]) [.ar e32 r_2] (Pt.at g2 0) k_13 rfl .all ?_
 intro w_7 k_14
 refine Wn <| W_seq <| Wz (.n 18 (I 0) (.k (.ssss .a))) ?_
 refine W_block ?_
 have k_16 := ((k_14.pk (.t (.t .h))).pk (.t .h)).pk (.t (.t .h))
 refine W_lp (m_mixs_Start_l0 r_1) (fun s L wr => ∃ (h : Vec UInt32 8) (x_0 : Int), (h, x_0) = s ∧ L = [(2, pt g 0), (5, pt g1 0), (6, pt g2 0), (18, I x_0)] ∧ Cx F O w wr [Bx 143 g [.ar e32 (Vec.rep 8 (0 : UInt32))], Bx 143 g1 [.ar e32 (Vec.of 8 r_1)], Bx 143 g2 [.ar e32 h]]) (r_2, (0 : Int)) r hm ⟨r_2, (0 : Int), rfl, rfl, k_16⟩ (by kernel_rfl) ?_
 intro s0_ L_ w_8 y0 hrel hstep hr0
 obtain ⟨h, x_0, rfl, rfl, k_15⟩ := hrel
 have hm := hstep; simp only [m_mixs_Start_l0] at hm
 clear hstep
 refine Wz (.n 19 (.b (decide (x_0 < 8))) .a) ?_
 refine W_seq <| W_pz (x_0 < 8) (fun hc1 => ?_) fun hc1 => ?_
 · rw [if_pos hc1] at hm
   refine W_skip <| At_go <| W_seq <| W_block <| W_seq <| W_q [] (.n 7 (I x_0) (.s .a)) qe (by kernel_rfl) ?_
   refine At_go ?_
   have k_17 := k_15.drew 1
   refine W_m mr_mixed (.q 0 0 (.q 1 0 (.q 2 0 (.q 3 0 (.q 4 0 (.q 5 0 (.q 6 0 (.q 7 0 (.op 8 .nil))))))))) [8] k_17 (.c (.kk .z) .l) (by kernel_rfl) (fun _ => ?_)
   obtain ⟨x_2, zh2, hm⟩ := ob hm
   obtain ⟨x_3, zh3, hm⟩ := ob hm
   obtain ⟨x_4, zh4, hm⟩ := ob hm
   refine MXz 8 0 (.n 27 (.u32 (x_2 ^^^ x_3)) (.n 28 (.v (.pointer (ixA (some ⟨g2, 0, none⟩) x_0 1))) (.s .a))) (fun x hx => qV (hx.vrd 2 rfl e32 h 0 (by kernel_rfl)) zh2 rfl (.u32 x_2) rfl <| qV (hx.vrd 1 rfl e32 (Vec.of 8 r_1) 0 (by kernel_rfl)) zh3 rfl (.u32 x_3) rfl <| qI g2 0 zh4 <| qe) fun _ => ?_
   refine MX_op (by kernel_rfl) rfl ?_
   obtain ⟨v, h_v, hm⟩ := nm hm
   refine Op_vz 2 (.u32 (x_2 ^^^ x_3)) [.u32 (x_2 ^^^ x_3)] h_v zh4 (Pt.ix0 (Pt.at g2 0) x_0 1) k_17 rfl .h rfl ?_
   intro w_9 k_18
   refine ⟨(k_18.sel (.kk .z)), fun _ => ?_⟩
   refine MX_nil <| At_in <| At_go <| W_q [] (.n 18 (I (w64 (x_0 + 1))) (.ss (.kkk .z))) qe (by kernel_rfl) ?_
   exact At_rd (v, w64 (x_0 + 1)) (Option.some.inj hm).symm ⟨v, w64 (x_0 + 1), rfl, rfl, k_18⟩ (by kernel_rfl)
 rw [if_neg hc1] at hm
 refine W_exit (At_te (At_te (At_ie ?_)))
 have hm := exit_of hm hr0
 refine At_go <| W_seq <| W_reg <| Wl 1 (.n 30 (.agg [.ar e32 h]) (.s (.k .z))) (qT k_15 2 rfl 0 8 [.ar e32 h] (by kernel_rfl) (by decide) <| qe) ?_
 refine WL_op <| Op_bz 0 (.agg [.ar e32 h]) [.ar e32 h] (Pt.at g 0) k_15 rfl .all ?_
 intro w_10 k_19
 have k_20 := k_19.sel (.k .z)
 refine We 1 (.n 3 (I 0) (.s .a)) ?_
 refine Wn <| W_ret ?_
 obtain rfl := si hm
 refine At_rz [.agg [.ar e32 h], I 0] (qo (.agg [.ar e32 h]) <| qc (fun w => Rd w (some ⟨g, 0, none⟩) (SV.cl [.ar e32 h])) (k_20.brd 0 rfl) <| qe) ?_
 have k_21 := k_20.sel .z
 exact ⟨rfl, k_21⟩
theorem c_node_begun (k_ : Int) (block : List UInt8) (A_block : Option Addr) (n_block : Nat) (c_block : Nat) (h_block : Ro F w A_block (e8.all block)) (hn_block : block.length = n_block) (hc_block : n_block ≤ c_block) (k : Cx F O w w []) (r : (Vec UInt64 8 × List UInt8) ⊕ (Vec UInt32 8 × List UInt8)) (hm : m_node_begun k_ block = some r) :
    Calls Tryz.prog 87 (vals [I k_, sl A_block n_block c_block]) w (fun e w' => match r with | .inl r0 => ∃ g A n c, r0.2.length = n ∧ e = .returned (SV.val (.v (.iface 165 (SV.val (pt g 0))))) ∧ Cx F O w w' [Bx 171 g [.ar e64 r0.1, .u64 0, .u64 0, sl A n c, I 128, .v (.func (.func 100) ⟨SV.vals []⟩ ⟨SV.vals []⟩), .v (.func (.func 101) ⟨SV.vals []⟩ ⟨SV.vals []⟩)], Ow e8 A n c r0.2] | .inr r1 => ∃ g1 A1 n1 c1, r1.2.length = n1 ∧ e = .returned (SV.val (.v (.iface 174 (SV.val (pt g1 0))))) ∧ Cx F O w w' [Bx 178 g1 [.ar e32 r1.1, .u64 0, .u64 0, sl A1 n1 c1, I 64, .v (.func (.func 103) ⟨SV.vals []⟩ ⟨SV.vals []⟩), .v (.func (.func 104) ⟨SV.vals []⟩ ⟨SV.vals []⟩)], Ow e8 A1 n1 c1 r1.2]) := by
 unfold m_node_begun at hm
 subst hn_block
 refine calz [I k_, sl A_block block.length c_block] Tryz.func87 rfl ?_
 refine Wz .a ?_
 refine W_seq <| Wz (.n 10 (.b (decide (k_ = 1))) (.s .a)) ?_
 refine W_pz (k_ = 1) (fun hc => ?_) fun hc => ?_
 · rw [if_pos hc] at hm
   refine W_seq <| W_reg <| We 1 (.n 12 (sl A_block block.length c_block) .z) ?_
   refine WL_op ?_
   obtain ⟨r_, h_r_, hm⟩ := ob hm
   refine Op_cz 13 mr_go99 (c_mixb_Start (F := N0) (O := N0) _ _ _ _ (Ro.n0 (h_block.cx k)) rfl hc_block (Cx.refl _) _ h_r_) ?_
   rintro e_ w_ ⟨rfl, k_1⟩
   have k_2 := k.call k_1
   refine ⟨.tup [.agg [.ar e64 r_.1], I r_.2], rfl, ?_⟩
   refine We 3 (.n 14 (.agg [.ar e64 r_.1]) (.n 15 (I r_.2) .z)) ?_
   refine WL_op <| Op_alloc [] 5 [.ar e64 (Vec.rep 8 (0 : UInt64))] (by kernel_rfl) k_2 ?_
   intro g0 w_1 k_3
   refine WL_op <| Op_bz 0 (.agg [.ar e64 r_.1]) [.ar e64 r_.1] (Pt.at g0 0) k_3 rfl .all ?_
   intro w_2 k_4
   refine We 1 (.k .z) ?_
   refine Wn <| W_seq <| W_reg <| Wl 2 (.n 17 (.agg [.ar e64 r_.1, .u64 0, .u64 0, sl none 0 0, I 128, .v (.func (.func 100) ⟨SV.vals []⟩ ⟨SV.vals []⟩), .v (.func (.func 101) ⟨SV.vals []⟩ ⟨SV.vals []⟩)]) .z) (qT k_4 0 rfl 0 8 [.ar e64 r_.1] (by kernel_rfl) (by decide) <| qe) ?_
   refine WL_op <| Op_box [] 18 (.agg [.ar e64 r_.1, .u64 0, .u64 0, sl none 0 0, I 128, .v (.func (.func 100) ⟨SV.vals []⟩ ⟨SV.vals []⟩), .v (.func (.func 101) ⟨SV.vals []⟩ ⟨SV.vals []⟩)]) [.ar e64 r_.1, .u64 0, .u64 0, sl none 0 0, I 128, .v (.func (.func 100) ⟨SV.vals []⟩ ⟨SV.vals []⟩), .v (.func (.func 101) ⟨SV.vals []⟩ ⟨SV.vals []⟩)] (by kernel_rfl) k_4 ?_
   intro g2 w_3 k_5
   refine We 2 (.n 4 (.v (.iface 165 (SV.val (pt g2 0)))) .z) ?_
   refine Wn <| W_ret (At_tr ?_)
   have k_6 := k_5.nil e8
   obtain rfl := si hm
   refine At_rz [.v (.iface 165 (SV.val (pt g2 0)))] qe ?_
   have k_7 := k_6.sel (.s (.kk .e))
   exact ⟨g2, none, 0, 0, k_7.len 1 rfl, rfl, k_7⟩
 rw [if_neg hc] at hm
 refine W_skip <| At_go <| W_seq <| W_reg <| We 1 (.n 21 (sl A_block block.length c_block) .z) ?_
 refine WL_op ?_
 obtain ⟨r_1, h_r_1, hm⟩ := ob hm
 refine Op_cz 22 mr_go102 (c_mixs_Start (F := N0) (O := N0) _ _ _ _ (Ro.n0 (h_block.cx k)) rfl hc_block (Cx.refl _) _ h_r_1) ?_
 rintro e_ w_4 ⟨rfl, k_8⟩
 have k_9 := k.call k_8
 refine ⟨.tup [.agg [.ar e32 r_1.1], I r_1.2], rfl, ?_⟩
 refine We 3 (.n 23 (.agg [.ar e32 r_1.1]) (.n 24 (I r_1.2) .z)) ?_
 refine WL_op <| Op_alloc [] 7 [.ar e32 (Vec.rep 8 (0 : UInt32))] (by kernel_rfl) k_9 ?_
 intro g3 w_5 k_10
 refine WL_op <| Op_bz 0 (.agg [.ar e32 r_1.1]) [.ar e32 r_1.1] (Pt.at g3 0) k_10 rfl .all ?_
 intro w_6 k_11
 refine We 1 (.k .z) ?_
 refine Wn <| W_seq <| W_reg <| Wl 2 (.n 26 (.agg [.ar e32 r_1.1, .u64 0, .u64 0, sl none 0 0, I 64, .v (.func (.func 103) ⟨SV.vals []⟩ ⟨SV.vals []⟩), .v (.func (.func 104) ⟨SV.vals []⟩ ⟨SV.vals []⟩)]) .z) (qT k_11 0 rfl 0 8 [.ar e32 r_1.1] (by kernel_rfl) (by decide) <| qe) ?_
 refine WL_op <| Op_box [] 27 (.agg [.ar e32 r_1.1, .u64 0, .u64 0, sl none 0 0, I 64, .v (.func (.func 103) ⟨SV.vals []⟩ ⟨SV.vals []⟩), .v (.func (.func 104) ⟨SV.vals []⟩ ⟨SV.vals []⟩)]) [.ar e32 r_1.1, .u64 0, .u64 0, sl none 0 0, I 64, .v (.func (.func 103) ⟨SV.vals []⟩ ⟨SV.vals []⟩), .v (.func (.func 104) ⟨SV.vals []⟩ ⟨SV.vals []⟩)] (by kernel_rfl) k_11 ?_
 intro g4 w_7 k_12
 refine We 2 (.n 4 (.v (.iface 174 (SV.val (pt g4 0)))) .z) ?_
 refine Wn <| W_ret ?_
 have k_13 := k_12.nil e8
 obtain rfl := si hm
 refine At_rz [.v (.iface 174 (SV.val (pt g4 0)))] qe ?_
 have k_14 := k_13.sel (.s (.kk .e))
 exact ⟨g4, none, 0, 0, k_14.len 1 rfl, rfl, k_14⟩
theorem c_node_blockOf (k_ : Int) (k : Cx F O w w []) (r : Int) (hm : m_node_blockOf k_ = some r) :
    Calls Tryz.prog 68 (vals [I k_]) w (fun e w' => e = .returned (SV.val (I r)) ∧ Cx F O w w' []) := by
 unfold m_node_blockOf at hm
 refine calz [I k_] Tryz.func68 rfl ?_
 refine Wz .a ?_
 refine W_seq <| Wz (.n 4 (.b (decide (k_ = 1))) .z) ?_
 refine W_pz (k_ = 1) (fun hc => ?_) fun hc => ?_
 · rw [if_pos hc] at hm
   refine Wz (.n 2 (I 128) .z) ?_
   refine W_ret (At_tr ?_)
   obtain rfl := si hm
   refine At_rz [I 128] qe ?_
   exact ⟨rfl, k⟩
 rw [if_neg hc] at hm
 refine W_skip <| At_go <| Wz (.n 2 (I 64) .z) ?_
 refine W_ret ?_
 obtain rfl := si hm
 refine At_rz [I 64] qe ?_
 exact ⟨rfl, k⟩
theorem c_node_padded (b : List UInt8) (n : Int) (A_b : Option Addr) (n_b : Nat) (c_b : Nat) (h_b : Ro F w A_b (e8.all b)) (hn_b : b.length = n_b) (hc_b : n_b ≤ c_b) (k : Cx F O w w []) (r : (List UInt8)) (hm : m_node_padded b n = some r) :
    Calls Tryz.prog 88 (vals [sl A_b n_b c_b, I n]) w (fun e w' => ∃ A n1 c, r.length = n1 ∧ e = .returned (SV.val (sl A n1 c)) ∧ Cx F O w w' [Ow e8 A n1 c r]) := by
 unfold m_node_padded at hm
 subst hn_b
 refine calz [sl A_b b.length c_b, I n] Tryz.func88 rfl ?_
 refine Wz .a ?_
 refine W_seq <| W_reg <| We 1 (.n 5 (I n) .a) ?_
 refine WL_op ?_
 obtain ⟨u, h_u, hm⟩ := ob hm
 refine Op_make mr_tf33 e8 (0 : UInt8) rfl [] 6 (I 0) (I n) (0 : Int) n (by kernel_rfl) (need_some h_u).1 (need_some h_u).2.1 (need_some h_u).2.2 k ?_
 intro A0 w_ k_
 refine We 1 (.n 7 (sl A_b b.length c_b) (.k (.s .a))) ?_
 refine WL_op ?_
 obtain ⟨b1, h_b1, hm⟩ := ob hm
 obtain ⟨hz, hl⟩ := app_some h_b1
 refine Op_append (E := e8) (v := sl A_b b.length c_b) (ys := b) mr_tf33 [] 8 0 (by kernel_rfl) k_ rfl (Src.sl (h_b.cx k_) rfl (by rfl)) rfl (by have := k_.len 0 rfl; have := hm; omega) ?_
 intro A1 c0 w_1 k_1
 rw [← hl] at k_1
 refine We 4 (.n 12 (I (w64 (n - (b.length : Int)))) (.k .z)) ?_
 refine WL_op ?_
 obtain ⟨b2, h_b2, hm⟩ := ob hm
 obtain ⟨h0, hz1, hl1⟩ := appz_some h_b2
 refine Op_appendZ (E := e8) (kx := .i64) (ik := .i64) mr_tf33 (0 : UInt8) [] 13 0 (w64 (n - (b.length : Int))) (by kernel_rfl) rfl k_1 rfl h0 (by have := k_1.len 0 rfl; omega) ?_
 intro A2 c1 w_2 k_2
 rw [← hl1] at k_2
 refine We 1 (.n 4 (sl A2 (Int.toNat (0 : Int) + b.length + Int.toNat (w64 (n - (b.length : Int)))) c1) .z) ?_
 refine Wn <| W_ret ?_
 obtain rfl := si hm
 refine At_rz [sl A2 (Int.toNat (0 : Int) + b.length + Int.toNat (w64 (n - (b.length : Int)))) c1] qe ?_
 exact ⟨A2, Int.toNat (0 : Int) + b.length + Int.toNat (w64 (n - (b.length : Int))), c1, k_2.len 0 rfl, rfl, k_2⟩
theorem c_word_Add (c_Lo : UInt64) (c_Hi : UInt64) (n : UInt64) (k : Cx F O w w []) (r : (UInt64 × UInt64 × Bool)) (hm : m_word_Add c_Lo c_Hi n = some r) :
    Calls Tryz.prog 166 (vals [.agg [.u64 c_Lo, .u64 c_Hi], .u64 n]) w (fun e w' => e = .returned (SV.val (.tup [.agg [.u64 r.1, .u64 r.2.1], .b r.2.2])) ∧ Cx F O w w' []) := by
 unfold m_word_Add at hm
 refine calz [.agg [.u64 c_Lo, .u64 c_Hi], .u64 n] Tryz.func166 rfl ?_
 refine W_seq <| W_reg <| WL_op <| Op_box [] 2 (.agg [.u64 c_Lo, .u64 c_Hi]) [.u64 c_Lo, .u64 c_Hi] (by kernel_rfl) k ?_
 intro g w_ k_
 refine WL_op <| Op_alloc [] 4 [.u64 0, .u64 0] (by kernel_rfl) k_ ?_
 intro g1 w_1 k_1
 refine We 1 (.kk (.s .a)) ?_
 refine Wn <| W_seq <| W_reg <| Wl 3 (.n 12 (.u64 c_Lo) (.n 13 (.u64 n) (.kk .z))) (qs g 0 <| qB k_1 0 rfl 0 (.u64 c_Lo) (by kernel_rfl) <| qe) ?_
 refine WL_op ?_
 obtain ⟨r_, h_r_, hm⟩ := ob hm
 refine Op_add64 mr_add167 [] 14 c_Lo n (0 : UInt64) (by kernel_rfl) h_r_ ?_
 refine We 5 (.n 6 (.u64 r_.1) (.n 7 (.u64 r_.2) (.sss .a))) ?_
 refine Wn <| W_seq <| W_reg <| Wl 3 (.n 19 (.u64 c_Hi) (.n 20 (.u64 r_.2) (.k (.s (.k .z))))) (qs g 0 <| qB k_1 0 rfl 1 (.u64 c_Hi) (by kernel_rfl) <| qe) ?_
 refine WL_op ?_
 obtain ⟨r_1, h_r_1, hm⟩ := ob hm
 refine Op_add64 mr_add167 [] 21 c_Hi (0 : UInt64) r_.2 (by kernel_rfl) h_r_1 ?_
 refine We 5 (.n 8 (.u64 r_1.1) (.n 9 (.u64 r_1.2) (.sss .a))) ?_
 refine Wn <| W_seq <| W_reg <| We 5 (.n 26 (.agg [.u64 r_.1, .u64 r_1.1]) (.n 28 (.b (decide (r_1.2 = 1))) (.sss .a))) ?_
 refine WL_op ?_
 have k_2 := k_1.sel (.kk .e)
 refine Op_bz 1 (.agg [.u64 r_.1, .u64 r_1.1]) [.u64 r_.1, .u64 r_1.1] (Pt.at g1 0) k_2 rfl .all ?_
 intro w_2 k_3
 have k_4 := k_3.sel (.s (.k .e))
 refine We 1 (.n 5 (.b (decide (r_1.2 = 1))) (.ss .a)) ?_
 refine Wn <| W_ret ?_
 obtain rfl := si hm
 refine At_rz [.agg [.u64 r_.1, .u64 r_1.1], .b (decide (r_1.2 = 1))] (qo (.agg [.u64 r_.1, .u64 r_1.1]) <| qc (fun w => Rd w (some ⟨g1, 0, none⟩) (SV.cl [.u64 r_.1, .u64 r_1.1])) (k_4.brd 0 rfl) <| qe) ?_
 have k_5 := k_4.sel .z
 exact ⟨rfl, k_5⟩
theorem c_mixb_Words (b : List UInt8) (A_b : Option Addr) (n_b : Nat) (c_b : Nat) (h_b : Ro F w A_b (e8.all b)) (hn_b : b.length = n_b) (hc_b : n_b ≤ c_b) (k : Cx F O w w []) (r : (Vec UInt64 16 × Int)) (hm : m_mixb_Words b = some r) :
    Calls Tryz.prog 117 (vals [sl A_b n_b c_b]) w (fun e w' => e = .returned (SV.val (.tup [.agg [.ar e64 r.1], I r.2])) ∧ Cx F O w w' []) := by
 unfold m_mixb_Words at hm
 subst hn_b
 refine calz [sl A_b b.length c_b] Tryz.func117 rfl ?_
 refine W_seq <| W_reg <| WL_op <| Op_alloc [] 2 [.ar e64 (Vec.rep 16 (0 : UInt64))] (by kernel_rfl) k ?_
 intro g w_ k_
 refine We 1 .a ?_
 refine Wn <| W_seq <| W_reg <| WL_op <| Op_alloc [] 4 [.ar e64 (Vec.rep 16 (0 : UInt64))] (by kernel_rfl) k_ ?_
 intro g1 w_1 k_1
 refine Wn <| W_seq <| Wz (.n 8 (.b (decide ((b.length : Int) ≠ 128))) .a) ?_
 refine W_pz ((b.length : Int) ≠ 128) (fun hc => ?_) fun hc => ?_
 · rw [if_pos hc] at hm
   refine W_seq <| W_reg <| Wl 1 (.n 9 (.agg [.ar e64 (Vec.rep 16 (0 : UInt64))]) (.ss (.k .z))) (qT k_1 1 rfl 0 16 [.ar e64 (Vec.rep 16 (0 : UInt64))] (by kernel_rfl) (by decide) <| qe) ?_
   refine WL_op <| Op_bz 0 (.agg [.ar e64 (Vec.rep 16 (0 : UInt64))]) [.ar e64 (Vec.rep 16 (0 : UInt64))] (Pt.at g 0) k_1 rfl .all ?_
   intro w_2 k_2
   have k_3 := k_2.sel (.k .z)
   refine We 1 (.n 3 (I 1) (.s .a)) ?_
   refine Wn <| W_ret (At_tr ?_)
   obtain rfl := si hm
   refine At_rz [.agg [.ar e64 (Vec.rep 16 (0 : UInt64))], I 1] (qo (.agg [.ar e64 (Vec.rep 16 (0 : UInt64))]) <| qc (fun w => Rd w (some ⟨g, 0, none⟩) (SV.cl [.ar e64 (Vec.rep 16 (0 : UInt64))])) (k_3.brd 0 rfl) <| qe) ?_
   have k_4 := k_3.sel .z
   exact ⟨rfl, k_4⟩
 rw [if_neg hc] at hm
 refine W_skip <| At_go <| W_seq <| Wz (.n 10 (I 0) (.s .a)) ?_
 refine W_block <| W_lp (m_mixb_Words_l0 b) (fun s L wr => ∃ (m_ : Vec UInt64 16) (x_0 : Int), (m_, x_0) = s ∧ L = [(0, sl A_b b.length c_b), (2, pt g 0), (4, pt g1 0), (10, I x_0)] ∧ Cx F O w wr [Bx 107 g [.ar e64 (Vec.rep 16 (0 : UInt64))], Bx 107 g1 [.ar e64 m_]]) ((Vec.rep 16 (0 : UInt64)), (0 : Int)) r hm ⟨(Vec.rep 16 (0 : UInt64)), (0 : Int), rfl, rfl, k_1⟩ (by kernel_rfl) ?_
 intro s0_ L_ w_3 y0 hrel hstep hr0
 obtain ⟨m_, x_0, rfl, rfl, k_5⟩ := hrel
 have hm := hstep; simp only [m_mixb_Words_l0] at hm
 clear hstep
 refine Wz (.n 11 (.b (decide (x_0 < 16))) .a) ?_
 refine W_seq <| W_pz (x_0 < 16) (fun hc1 => ?_) fun hc1 => ?_
 · rw [if_pos hc1] at hm
   refine W_skip <| At_go <| W_seq <| W_block <| Wz (.n 5 (I x_0) (.s .a)) ?_
   refine W_reg <| We 4 (.n 14 (I x_0) (.n 15 (sl A_b b.length c_b) (.n 17 (I (w64 (8 * x_0))) (.s .a)))) ?_
   refine WL_op ?_
   obtain ⟨r_, h_r_, hm⟩ := ob hm
   refine Op_cz 18 mr_go116 (c_word_Load64 (F := N0) (O := N0) _ _ _ _ _ (Ro.n0 (h_b.cx k_5)) rfl hc_b (Cx.refl _) _ h_r_) ?_
   rintro e_ w_4 ⟨rfl, k_6⟩
   have k_7 := k_5.call k_6
   refine ⟨.tup [.u64 r_.1, I r_.2], rfl, ?_⟩
   obtain ⟨x_2, zh2, hm⟩ := ob hm
   refine Wl 4 (.n 19 (.u64 r_.1) (.n 21 (.v (.pointer (ixA (some ⟨g1, 0, none⟩) x_0 1))) (.ssss .a))) (qI g1 0 zh2 <| qe) ?_
   refine WL_op ?_
   obtain ⟨v, h_v, hm⟩ := nm hm
   refine Op_vz 1 (.u64 r_.1) [.u64 r_.1] h_v zh2 (Pt.ix0 (Pt.at g1 0) x_0 1) k_7 rfl .h rfl ?_
   intro w_5 k_8
   refine WL_nil <| At_in <| At_go <| W_q [] (.n 10 (I (w64 (x_0 + 1))) (.ss (.kkk .z))) qe (by kernel_rfl) ?_
   exact At_rd (v, w64 (x_0 + 1)) (Option.some.inj hm).symm ⟨v, w64 (x_0 + 1), rfl, rfl, k_8⟩ (by kernel_rfl)
 rw [if_neg hc1] at hm
 refine W_exit (At_te (At_te (At_ie ?_)))
 have hm := exit_of hm hr0
 refine At_go <| W_seq <| W_reg <| Wl 1 (.n 23 (.agg [.ar e64 m_]) (.ss (.k .z))) (qT k_5 1 rfl 0 16 [.ar e64 m_] (by kernel_rfl) (by decide) <| qe) ?_
 refine WL_op <| Op_bz 0 (.agg [.ar e64 m_]) [.ar e64 m_] (Pt.at g 0) k_5 rfl .all ?_
 intro w_6 k_9
 have k_10 := k_9.sel (.k .z)
 refine We 1 (.n 3 (I 0) (.s .a)) ?_
 refine Wn <| W_ret ?_
 obtain rfl := si hm
 refine At_rz [.agg [.ar e64 m_], I 0] (qo (.agg [.ar e64 m_]) <| qc (fun w => Rd w (some ⟨g, 0, none⟩) (SV.cl [.ar e64 m_])) (k_10.brd 0 rfl) <| qe) ?_
 have k_11 := k_10.sel .z
 exact ⟨rfl, k_11⟩
theorem c_mixb_Init (h : Vec UInt64 8) (count_Lo : UInt64) (count_Hi : UInt64) (last : Bool) (node : Bool) (k : Cx F O w w []) (r : (Vec UInt64 16)) (hm : m_mixb_Init h count_Lo count_Hi last node = some r) :
    Calls Tryz.prog 132 (vals [.agg [.ar e64 h], .agg [.u64 count_Lo, .u64 count_Hi], .b last, .b node]) w (fun e w' => e = .returned (SV.val (.agg [.ar e64 r])) ∧ Cx F O w w' []) := by
 unfold m_mixb_Init at hm
 refine calz [.agg [.ar e64 h], .agg [.u64 count_Lo, .u64 count_Hi], .b last, .b node] Tryz.func132 rfl ?_
 refine W_seq <| W_reg <| WL_op <| Op_box [] 4 (.agg [.ar e64 h]) [.ar e64 h] (by kernel_rfl) k ?_
 intro g w_ k_
 refine WL_op <| Op_box [] 5 (.agg [.u64 count_Lo, .u64 count_Hi]) [.u64 count_Lo, .u64 count_Hi] (by kernel_rfl) k_ ?_
 intro g1 w_1 k_1
 refine WL_op <| Op_alloc [] 8 [.ar e64 (Vec.rep 16 (0 : UInt64))] (by kernel_rfl) k_1 ?_
 intro g2 w_2 k_2
 refine Wn <| W_seq <| W_reg <| WL_op <| Op_alloc [] 9 [.ar e64 (Vec.rep 16 (0 : UInt64))] (by kernel_rfl) k_2 ?_
 intro g3 w_3 k_3
 refine Wn <| W_seq ?_
 have k_4 := k_3.drew 1
 refine W_m mr_mixed (.q 0 0 (.q 1 0 (.op 2 .nil))) [2] k_4 (.c (.kk (.k .z)) .l) (by kernel_rfl) (fun _ => ?_)
 obtain ⟨b, h_b, hm⟩ := ob hm
 have hs := slc_some h_b
 have hl := slc_len h_b
 have hn : ((Vec.rep 16 (0 : UInt64)).l).length = 16 := (Vec.rep 16 (0 : UInt64)).h
 have hc : 16 ≤ 16 := (Nat.le_refl _)
 have hc1 : b.length ≤ 16 := by omega
 refine MXz 2 0 (.n 11 (sl (some ⟨g3, 0, none⟩) b.length 16) (.n 12 (sl (some ⟨g, 0, none⟩) 8 8) (.kkk (.sss .a)))) (fun x hx => qp (0 ≤ (8 : Int) ∧ (8 : Int) ≤ ((16 : Nat) : Int)) (by omega) <| qo (.v (.slice (some ⟨g3, 0, none⟩) b.length 16)) <| qp (((some ⟨g3, 0, none⟩) : Option Addr).isSome = true ∧ Value.slice (slA (some ⟨g3, 0, none⟩) 0 16 1) (Int.toNat (8 : Int) - 0) (16 - 0) = .slice (some ⟨g3, 0, none⟩) b.length 16) ⟨rfl, slx0 _ _ _ _ _ (by omega)⟩ <| qo (.v (.slice (some ⟨g, 0, none⟩) 8 8)) <| qp (((some ⟨g, 0, none⟩) : Option Addr).isSome = true ∧ Value.slice (slA (some ⟨g, 0, none⟩) 0 8 1) (8 - 0) (8 - 0) = .slice (some ⟨g, 0, none⟩) 8 8) ⟨rfl, slx0 _ _ _ _ _ rfl⟩ <| qe) fun _ => ?_
 refine MX_op (by kernel_rfl) rfl ?_
 have k_5 := k_4.sel (.kkkk .e)
 refine Op_vcp (E := e64) (dn := b.length) (dc := 16) (v := sl (some ⟨g, 0, none⟩) 8 8) (src := h.l) (lo := 0) (m' := 16) mr_tf179 [] 13 3 [] [] (Vec.rep 16 (0 : UInt64)) (by kernel_rfl) (slA_zero _ _ _).symm k_5 rfl (Src.sl (Rd.vec (k_5.brd 0 rfl) (c := Enc.all e64 h.l) (off := 0) (by kernel_rfl)) h.h (by rfl)) h.h (by have := (Vec.rep 16 (0 : UInt64)).h; omega) (by omega) (by omega) ?_
 intro w_4 k_6
 refine ⟨(k_6.sel (.kk (.k .z))), fun _ => ?_⟩
 refine MX_nil <| At_go <| W_seq <| W_reg <| WL_op ?_
 obtain ⟨r_, h_r_, hm⟩ := ob hm
 refine Op_cz 14 mr_go115 (c_mixb_IV (F := N0) (O := N0)  (Cx.refl _) _ h_r_) ?_
 rintro e_ w_5 ⟨rfl, k_7⟩
 have k_8 := k_6.call k_7
 refine ⟨.agg [.ar e64 r_], rfl, ?_⟩
 have k_9 := k_8.sel (.s (.kk (.k .e)))
 refine WL_op <| Op_alloc [] 10 [.ar e64 (Vec.rep 8 (0 : UInt64))] (by kernel_rfl) k_9 ?_
 intro g4 w_6 k_10
 refine WL_op <| Op_bz 3 (.agg [.ar e64 r_]) [.ar e64 r_] (Pt.at g4 0) k_10 rfl .all ?_
 intro w_7 k_11
 refine Wn <| W_seq ?_
 have k_12 := k_11.drew 1
 refine W_m mr_mixed (.q 0 0 (.q 1 0 (.op 2 .nil))) [2] k_12 (.c (.kk (.s (.k .e))) .l) (by kernel_rfl) (fun _ => ?_)
 obtain ⟨b1, h_b1, hm⟩ := ob hm
 have hs1 := slc_some h_b1
 have hl1 := slc_len h_b1
 have hn1 : ((vcp (Vec.rep 16 (0 : UInt64)) 0 b.length h.l).l).length = 16 := (vcp (Vec.rep 16 (0 : UInt64)) 0 b.length h.l).h
 have hc2 : 16 ≤ 16 := (Nat.le_refl _)
 obtain ⟨A, c, e_, hc3, hA, hc4⟩ := slx (some ⟨g3, 0, none⟩) (Int.toNat (8 : Int)) 16 1 (16 - Int.toNat (8 : Int)) b1.length (by omega) (by omega)
 refine MXz 2 0 (.n 15 (sl A b1.length c) (.n 16 (sl (some ⟨g4, 0, none⟩) 8 8) (.ssss (.s .a)))) (fun x hx => qp (0 ≤ (8 : Int) ∧ (8 : Int) ≤ ((16 : Nat) : Int)) (by omega) <| qo (.v (.slice A b1.length c)) <| qp (((some ⟨g3, 0, none⟩) : Option Addr).isSome = true ∧ Value.slice (slA (some ⟨g3, 0, none⟩) (Int.toNat (8 : Int)) 16 1) (16 - Int.toNat (8 : Int)) (16 - Int.toNat (8 : Int)) = .slice A b1.length c) ⟨rfl, e_⟩ <| qo (.v (.slice (some ⟨g4, 0, none⟩) 8 8)) <| qp (((some ⟨g4, 0, none⟩) : Option Addr).isSome = true ∧ Value.slice (slA (some ⟨g4, 0, none⟩) 0 8 1) (8 - 0) (8 - 0) = .slice (some ⟨g4, 0, none⟩) 8 8) ⟨rfl, slx0 _ _ _ _ _ rfl⟩ <| qe) fun _ => ?_
 refine MX_op (by kernel_rfl) rfl ?_
 have k_13 := k_12.sel (.kkkk .e)
 refine Op_vcp (E := e64) (dn := b1.length) (dc := c) (v := sl (some ⟨g4, 0, none⟩) 8 8) (src := r_.l) (lo := Int.toNat (8 : Int)) (m' := 16) mr_tf179 [] 17 2 [] [] (vcp (Vec.rep 16 (0 : UInt64)) 0 b.length h.l) (by kernel_rfl) hA k_13 rfl (Src.sl (Rd.vec (k_13.brd 3 rfl) (c := Enc.all e64 r_.l) (off := 0) (by kernel_rfl)) r_.h (by rfl)) r_.h (by have := (vcp (Vec.rep 16 (0 : UInt64)) 0 b.length h.l).h; omega) (by omega) (by omega) ?_
 intro w_8 k_14
 refine ⟨(k_14.sel (.kk (.s (.k .e)))), fun _ => ?_⟩
 refine MX_nil <| At_go <| W_seq <| W_reg ?_
 obtain ⟨x_0, zh0, hm⟩ := ob hm
 obtain ⟨x_1, zh1, hm⟩ := ob hm
 refine Wl 6 (.n 22 (.u64 (x_0 ^^^ count_Lo)) (.n 23 (.v (.pointer (ixA (some ⟨g3, 0, none⟩) (12 : Int) 1))) (.sss .a))) (qV (k_14.vrd 2 rfl e64 (vcp (vcp (Vec.rep 16 (0 : UInt64)) 0 b.length h.l) (Int.toNat (8 : Int)) b1.length r_.l) 0 (by kernel_rfl)) zh0 rfl (.u64 x_0) rfl <| qs g1 0 <| qB k_14 0 rfl 0 (.u64 count_Lo) (by kernel_rfl) <| qI g3 0 zh1 <| qe) ?_
 refine WL_op ?_
 obtain ⟨v, h_v, hm⟩ := nm hm
 refine Op_vz 2 (.u64 (x_0 ^^^ count_Lo)) [.u64 (x_0 ^^^ count_Lo)] h_v zh1 (Pt.ix0 (Pt.at g3 0) (12 : Int) 1) k_14 rfl .h rfl ?_
 intro w_9 k_15
 refine Wn <| W_seq <| W_reg ?_
 obtain ⟨x_2, zh2, hm⟩ := ob hm
 obtain ⟨x_3, zh3, hm⟩ := ob hm
 refine Wl 6 (.n 28 (.u64 (x_2 ^^^ count_Hi)) (.n 29 (.v (.pointer (ixA (some ⟨g3, 0, none⟩) (13 : Int) 1))) (.ss (.kk (.s .a))))) (qV (k_15.vrd 2 rfl e64 v 0 (by kernel_rfl)) zh2 rfl (.u64 x_2) rfl <| qs g1 0 <| qB k_15 0 rfl 1 (.u64 count_Hi) (by kernel_rfl) <| qI g3 0 zh3 <| qe) ?_
 refine WL_op ?_
 obtain ⟨v1, h_v1, hm⟩ := nm hm
 refine Op_vz 2 (.u64 (x_2 ^^^ count_Hi)) [.u64 (x_2 ^^^ count_Hi)] h_v1 zh3 (Pt.ix0 (Pt.at g3 0) (13 : Int) 1) k_15 rfl .h rfl ?_
 intro w_10 k_16
 refine Wn <| W_cut (fun L wr => ∃ (v2 : Vec UInt64 16), m_mixb_Init_j0 node v2 = some r ∧ L = [(3, .b node), (8, pt g2 0), (9, pt g3 0)] ∧ Cx F O w wr [Bx 107 g2 [.ar e64 (Vec.rep 16 (0 : UInt64))], Bx 107 g3 [.ar e64 v2]]) ?_ ?_
 ·
  refine Wz (.n 30 (.b last) (.ss (.kk (.s .a)))) ?_
  refine W_cz last (fun hc5 => ?_) fun hc5 => ?_
  · rw [if_pos hc5] at hm
    refine W_reg ?_
    obtain ⟨x_4, zh4, hm⟩ := ob hm
    obtain ⟨x_5, zh5, hm⟩ := ob hm
    refine Wl 4 (.n 33 (.u64 (18446744073709551615 ^^^ x_4)) (.n 34 (.v (.pointer (ixA (some ⟨g3, 0, none⟩) (14 : Int) 1))) (.s .a))) (qV (k_16.vrd 2 rfl e64 v1 0 (by kernel_rfl)) zh4 rfl (.u64 x_4) rfl <| qI g3 0 zh5 <| qe) ?_
    refine WL_op ?_
    obtain ⟨v3, h_v3, hm⟩ := nm hm
    refine Op_vz 2 (.u64 (18446744073709551615 ^^^ x_4)) [.u64 (18446744073709551615 ^^^ x_4)] h_v3 zh5 (Pt.ix0 (Pt.at g3 0) (14 : Int) 1) k_16 rfl .h rfl ?_
    intro w_11 k_17
    refine WL_nil ?_
    have k_18 := k_17.sel (.s (.kk .z))
    exact At_cz ⟨v3, hm, rfl, k_18⟩
  rw [if_neg (by rw [hc5]; decide)] at hm
  refine W_skip ?_
  have k_19 := k_16.sel (.s (.kk .z))
  exact At_cz ⟨v1, hm, rfl, k_19⟩
 rintro L_ w_12 ⟨v2, hm, rfl, k_20⟩
 simp only [m_mixb_Init_j0] at hm
 refine W_cut (fun L wr => ∃ (v4 : Vec UInt64 16), m_mixb_Init_j1 v4 = some r ∧ L = [(8, pt g2 0), (9, pt g3 0)] ∧ Cx F O w wr [Bx 107 g2 [.ar e64 (Vec.rep 16 (0 : UInt64))], Bx 107 g3 [.ar e64 v4]]) ?_ ?_
 ·
  refine Wz (.n 35 (.b node) (.s .a)) ?_
  refine W_cz node (fun hc6 => ?_) fun hc6 => ?_
  · rw [if_pos hc6] at hm
    refine W_reg ?_
    obtain ⟨x_6, zh6, hm⟩ := ob hm
    obtain ⟨x_7, zh7, hm⟩ := ob hm
    refine Wl 4 (.n 38 (.u64 (18446744073709551615 ^^^ x_6)) (.n 39 (.v (.pointer (ixA (some ⟨g3, 0, none⟩) (15 : Int) 1))) (.s .a))) (qV (k_20.vrd 1 rfl e64 v2 0 (by kernel_rfl)) zh6 rfl (.u64 x_6) rfl <| qI g3 0 zh7 <| qe) ?_
    refine WL_op ?_
    obtain ⟨v5, h_v5, hm⟩ := nm hm
    refine Op_vz 1 (.u64 (18446744073709551615 ^^^ x_6)) [.u64 (18446744073709551615 ^^^ x_6)] h_v5 zh7 (Pt.ix0 (Pt.at g3 0) (15 : Int) 1) k_20 rfl .h rfl ?_
    intro w_13 k_21
    refine WL_nil ?_
    exact At_cz ⟨v5, hm, rfl, k_21⟩
  rw [if_neg (by rw [hc6]; decide)] at hm
  refine W_skip ?_
  exact At_cz ⟨v2, hm, rfl, k_20⟩
 rintro L_ w_14 ⟨v4, hm, rfl, k_22⟩
 simp only [m_mixb_Init_j1] at hm
 refine W_seq <| W_reg <| Wl 1 (.n 40 (.agg [.ar e64 v4]) (.k .z)) (qT k_22 1 rfl 0 16 [.ar e64 v4] (by kernel_rfl) (by decide) <| qe) ?_
 refine WL_op <| Op_bz 0 (.agg [.ar e64 v4]) [.ar e64 v4] (Pt.at g2 0) k_22 rfl .all ?_
 intro w_15 k_23
 have k_24 := k_23.sel (.k .z)
 refine Wn <| W_ret ?_
 obtain rfl := si hm
 refine At_rz [.agg [.ar e64 v4]] (qo (.agg [.ar e64 v4]) <| qc (fun w => Rd w (some ⟨g2, 0, none⟩) (SV.cl [.ar e64 v4])) (k_24.brd 0 rfl) <| qe) ?_
 have k_25 := k_24.sel .z
 exact ⟨rfl, k_25⟩
theorem c_mixb_Sigma (round : Int) (k : Cx F O w w []) (r : (Vec Int 16)) (hm : m_mixb_Sigma round = some r) :
    Calls Tryz.prog 138 (vals [I round]) w (fun e w' => e = .returned (SV.val (.agg [.ar eI r])) ∧ Cx F O w w' []) := by
 unfold m_mixb_Sigma at hm
 refine calz [I round] Tryz.func138 rfl ?_
 refine W_seq <| W_reg <| WL_op <| Op_alloc [] 2 [.ar eI (Vec.rep 16 (0 : Int))] (by kernel_rfl) k ?_
 intro g w_ k_
 refine Wn <| W_seq <| W_reg <| We 11 (.n 14 (.agg [.ar (eV eI 16) (⟨[(⟨[(0 : Int), (1 : Int), (2 : Int), (3 : Int), (4 : Int), (5 : Int), (6 : Int), (7 : Int), (8 : Int), (9 : Int), (10 : Int), (11 : Int), (12 : Int), (13 : Int), (14 : Int), (15 : Int)], rfl⟩ : Vec Int 16), (⟨[(14 : Int), (10 : Int), (4 : Int), (8 : Int), (9 : Int), (15 : Int), (13 : Int), (6 : Int), (1 : Int), (12 : Int), (0 : Int), (2 : Int), (11 : Int), (7 : Int), (5 : Int), (3 : Int)], rfl⟩ : Vec Int 16), (⟨[(11 : Int), (8 : Int), (12 : Int), (0 : Int), (5 : Int), (2 : Int), (15 : Int), (13 : Int), (10 : Int), (14 : Int), (3 : Int), (6 : Int), (7 : Int), (1 : Int), (9 : Int), (4 : Int)], rfl⟩ : Vec Int 16), (⟨[(7 : Int), (9 : Int), (3 : Int), (1 : Int), (13 : Int), (12 : Int), (11 : Int), (14 : Int), (2 : Int), (6 : Int), (5 : Int), (10 : Int), (4 : Int), (0 : Int), (15 : Int), (8 : Int)], rfl⟩ : Vec Int 16), (⟨[(9 : Int), (0 : Int), (5 : Int), (7 : Int), (2 : Int), (4 : Int), (10 : Int), (15 : Int), (14 : Int), (1 : Int), (11 : Int), (12 : Int), (6 : Int), (8 : Int), (3 : Int), (13 : Int)], rfl⟩ : Vec Int 16), (⟨[(2 : Int), (12 : Int), (6 : Int), (10 : Int), (0 : Int), (11 : Int), (8 : Int), (3 : Int), (4 : Int), (13 : Int), (7 : Int), (5 : Int), (15 : Int), (14 : Int), (1 : Int), (9 : Int)], rfl⟩ : Vec Int 16), (⟨[(12 : Int), (5 : Int), (1 : Int), (15 : Int), (14 : Int), (13 : Int), (4 : Int), (10 : Int), (0 : Int), (7 : Int), (6 : Int), (3 : Int), (9 : Int), (2 : Int), (8 : Int), (11 : Int)], rfl⟩ : Vec Int 16), (⟨[(13 : Int), (11 : Int), (7 : Int), (14 : Int), (12 : Int), (1 : Int), (3 : Int), (9 : Int), (5 : Int), (0 : Int), (15 : Int), (4 : Int), (8 : Int), (6 : Int), (2 : Int), (10 : Int)], rfl⟩ : Vec Int 16), (⟨[(6 : Int), (15 : Int), (14 : Int), (9 : Int), (11 : Int), (3 : Int), (0 : Int), (8 : Int), (12 : Int), (2 : Int), (13 : Int), (7 : Int), (1 : Int), (4 : Int), (10 : Int), (5 : Int)], rfl⟩ : Vec Int 16), (⟨[(10 : Int), (2 : Int), (8 : Int), (4 : Int), (7 : Int), (6 : Int), (1 : Int), (5 : Int), (15 : Int), (11 : Int), (9 : Int), (14 : Int), (3 : Int), (12 : Int), (13 : Int), (0 : Int)], rfl⟩ : Vec Int 16)], rfl⟩ : Vec (Vec Int 16) 10)]) .a) ?_
 refine WL_op <| Op_alloc [] 3 [.ar (eV eI 16) (Vec.rep 10 (Vec.rep 16 (0 : Int)))] (by kernel_rfl) k_ ?_
 intro g1 w_1 k_1
 refine WL_op <| Op_bz 1 (.agg [.ar (eV eI 16) (⟨[(⟨[(0 : Int), (1 : Int), (2 : Int), (3 : Int), (4 : Int), (5 : Int), (6 : Int), (7 : Int), (8 : Int), (9 : Int), (10 : Int), (11 : Int), (12 : Int), (13 : Int), (14 : Int), (15 : Int)], rfl⟩ : Vec Int 16), (⟨[(14 : Int), (10 : Int), (4 : Int), (8 : Int), (9 : Int), (15 : Int), (13 : Int), (6 : Int), (1 : Int), (12 : Int), (0 : Int), (2 : Int), (11 : Int), (7 : Int), (5 : Int), (3 : Int)], rfl⟩ : Vec Int 16), (⟨[(11 : Int), (8 : Int), (12 : Int), (0 : Int), (5 : Int), (2 : Int), (15 : Int), (13 : Int), (10 : Int), (14 : Int), (3 : Int), (6 : Int), (7 : Int), (1 : Int), (9 : Int), (4 : Int)], rfl⟩ : Vec Int 16), (⟨[(7 : Int), (9 : Int), (3 : Int), (1 : Int), (13 : Int), (12 : Int), (11 : Int), (14 : Int), (2 : Int), (6 : Int), (5 : Int), (10 : Int), (4 : Int), (0 : Int), (15 : Int), (8 : Int)], rfl⟩ : Vec Int 16), (⟨[(9 : Int), (0 : Int), (5 : Int), (7 : Int), (2 : Int), (4 : Int), (10 : Int), (15 : Int), (14 : Int), (1 : Int), (11 : Int), (12 : Int), (6 : Int), (8 : Int), (3 : Int), (13 : Int)], rfl⟩ : Vec Int 16), (⟨[(2 : Int), (12 : Int), (6 : Int), (10 : Int), (0 : Int), (11 : Int), (8 : Int), (3 : Int), (4 : Int), (13 : Int), (7 : Int), (5 : Int), (15 : Int), (14 : Int), (1 : Int), (9 : Int)], rfl⟩ : Vec Int 16), (⟨[(12 : Int), (5 : Int), (1 : Int), (15 : Int), (14 : Int), (13 : Int), (4 : Int), (10 : Int), (0 : Int), (7 : Int), (6 : Int), (3 : Int), (9 : Int), (2 : Int), (8 : Int), (11 : Int)], rfl⟩ : Vec Int 16), (⟨[(13 : Int), (11 : Int), (7 : Int), (14 : Int), (12 : Int), (1 : Int), (3 : Int), (9 : Int), (5 : Int), (0 : Int), (15 : Int), (4 : Int), (8 : Int), (6 : Int), (2 : Int), (10 : Int)], rfl⟩ : Vec Int 16), (⟨[(6 : Int), (15 : Int), (14 : Int), (9 : Int), (11 : Int), (3 : Int), (0 : Int), (8 : Int), (12 : Int), (2 : Int), (13 : Int), (7 : Int), (1 : Int), (4 : Int), (10 : Int), (5 : Int)], rfl⟩ : Vec Int 16), (⟨[(10 : Int), (2 : Int), (8 : Int), (4 : Int), (7 : Int), (6 : Int), (1 : Int), (5 : Int), (15 : Int), (11 : Int), (9 : Int), (14 : Int), (3 : Int), (12 : Int), (13 : Int), (0 : Int)], rfl⟩ : Vec Int 16)], rfl⟩ : Vec (Vec Int 16) 10)]) [.ar (eV eI 16) (⟨[(⟨[(0 : Int), (1 : Int), (2 : Int), (3 : Int), (4 : Int), (5 : Int), (6 : Int), (7 : Int), (8 : Int), (9 : Int), (10 : Int), (11 : Int), (12 : Int), (13 : Int), (14 : Int), (15 : Int)], rfl⟩ : Vec Int 16), (⟨[(14 : Int), (10 : Int), (4 : Int), (8 : Int), (9 : Int), (15 : Int), (13 : Int), (6 : Int), (1 : Int), (12 : Int), (0 : Int), (2 : Int), (11 : Int), (7 : Int), (5 : Int), (3 : Int)], rfl⟩ : Vec Int 16), (⟨[(11 : Int), (8 : Int), (12 : Int), (0 : Int), (5 : Int), (2 : Int), (15 : Int), (13 : Int), (10 : Int), (14 : Int), (3 : Int), (6 : Int), (7 : Int), (1 : Int), (9 : Int), (4 : Int)], rfl⟩ : Vec Int 16), (⟨[(7 : Int), (9 : Int), (3 : Int), (1 : Int), (13 : Int), (12 : Int), (11 : Int), (14 : Int), (2 : Int), (6 : Int), (5 : Int), (10 : Int), (4 : Int), (0 : Int), (15 : Int), (8 : Int)], rfl⟩ : Vec Int 16), (⟨[(9 : Int), (0 : Int), (5 : Int), (7 : Int), (2 : Int), (4 : Int), (10 : Int), (15 : Int), (14 : Int), (1 : Int), (11 : Int), (12 : Int), (6 : Int), (8 : Int), (3 : Int), (13 : Int)], rfl⟩ : Vec Int 16), (⟨[(2 : Int), (12 : Int), (6 : Int), (10 : Int), (0 : Int), (11 : Int), (8 : Int), (3 : Int), (4 : Int), (13 : Int), (7 : Int), (5 : Int), (15 : Int), (14 : Int), (1 : Int), (9 : Int)], rfl⟩ : Vec Int 16), (⟨[(12 : Int), (5 : Int), (1 : Int), (15 : Int), (14 : Int), (13 : Int), (4 : Int), (10 : Int), (0 : Int), (7 : Int), (6 : Int), (3 : Int), (9 : Int), (2 : Int), (8 : Int), (11 : Int)], rfl⟩ : Vec Int 16), (⟨[(13 : Int), (11 : Int), (7 : Int), (14 : Int), (12 : Int), (1 : Int), (3 : Int), (9 : Int), (5 : Int), (0 : Int), (15 : Int), (4 : Int), (8 : Int), (6 : Int), (2 : Int), (10 : Int)], rfl⟩ : Vec Int 16), (⟨[(6 : Int), (15 : Int), (14 : Int), (9 : Int), (11 : Int), (3 : Int), (0 : Int), (8 : Int), (12 : Int), (2 : Int), (13 : Int), (7 : Int), (1 : Int), (4 : Int), (10 : Int), (5 : Int)], rfl⟩ : Vec Int 16), (⟨[(10 : Int), (2 : Int), (8 : Int), (4 : Int), (7 : Int), (6 : Int), (1 : Int), (5 : Int), (15 : Int), (11 : Int), (9 : Int), (14 : Int), (3 : Int), (12 : Int), (13 : Int), (0 : Int)], rfl⟩ : Vec Int 16)], rfl⟩ : Vec (Vec Int 16) 10)] (Pt.at g1 0) k_1 rfl .all ?_
 intro w_2 k_2
 refine Wn <| W_seq <| W_reg ?_
 obtain ⟨x_0, zh0, hm⟩ := ob hm
 refine Wl 6 (.n 20 (.agg [.ar eI x_0]) (.ss (.k .z))) (qp ((10 : Int) ≠ (0 : Int)) (by omega) <| qp ((10 : Int) ≠ (0 : Int)) (by omega) <| qI g1 0 zh0 <| qR [.ar eI x_0] (Rd.elV (k_2.vrd 1 rfl (eV eI 16) (⟨[(⟨[(0 : Int), (1 : Int), (2 : Int), (3 : Int), (4 : Int), (5 : Int), (6 : Int), (7 : Int), (8 : Int), (9 : Int), (10 : Int), (11 : Int), (12 : Int), (13 : Int), (14 : Int), (15 : Int)], rfl⟩ : Vec Int 16), (⟨[(14 : Int), (10 : Int), (4 : Int), (8 : Int), (9 : Int), (15 : Int), (13 : Int), (6 : Int), (1 : Int), (12 : Int), (0 : Int), (2 : Int), (11 : Int), (7 : Int), (5 : Int), (3 : Int)], rfl⟩ : Vec Int 16), (⟨[(11 : Int), (8 : Int), (12 : Int), (0 : Int), (5 : Int), (2 : Int), (15 : Int), (13 : Int), (10 : Int), (14 : Int), (3 : Int), (6 : Int), (7 : Int), (1 : Int), (9 : Int), (4 : Int)], rfl⟩ : Vec Int 16), (⟨[(7 : Int), (9 : Int), (3 : Int), (1 : Int), (13 : Int), (12 : Int), (11 : Int), (14 : Int), (2 : Int), (6 : Int), (5 : Int), (10 : Int), (4 : Int), (0 : Int), (15 : Int), (8 : Int)], rfl⟩ : Vec Int 16), (⟨[(9 : Int), (0 : Int), (5 : Int), (7 : Int), (2 : Int), (4 : Int), (10 : Int), (15 : Int), (14 : Int), (1 : Int), (11 : Int), (12 : Int), (6 : Int), (8 : Int), (3 : Int), (13 : Int)], rfl⟩ : Vec Int 16), (⟨[(2 : Int), (12 : Int), (6 : Int), (10 : Int), (0 : Int), (11 : Int), (8 : Int), (3 : Int), (4 : Int), (13 : Int), (7 : Int), (5 : Int), (15 : Int), (14 : Int), (1 : Int), (9 : Int)], rfl⟩ : Vec Int 16), (⟨[(12 : Int), (5 : Int), (1 : Int), (15 : Int), (14 : Int), (13 : Int), (4 : Int), (10 : Int), (0 : Int), (7 : Int), (6 : Int), (3 : Int), (9 : Int), (2 : Int), (8 : Int), (11 : Int)], rfl⟩ : Vec Int 16), (⟨[(13 : Int), (11 : Int), (7 : Int), (14 : Int), (12 : Int), (1 : Int), (3 : Int), (9 : Int), (5 : Int), (0 : Int), (15 : Int), (4 : Int), (8 : Int), (6 : Int), (2 : Int), (10 : Int)], rfl⟩ : Vec Int 16), (⟨[(6 : Int), (15 : Int), (14 : Int), (9 : Int), (11 : Int), (3 : Int), (0 : Int), (8 : Int), (12 : Int), (2 : Int), (13 : Int), (7 : Int), (1 : Int), (4 : Int), (10 : Int), (5 : Int)], rfl⟩ : Vec Int 16), (⟨[(10 : Int), (2 : Int), (8 : Int), (4 : Int), (7 : Int), (6 : Int), (1 : Int), (5 : Int), (15 : Int), (11 : Int), (9 : Int), (14 : Int), (3 : Int), (12 : Int), (13 : Int), (0 : Int)], rfl⟩ : Vec Int 16)], rfl⟩ : Vec (Vec Int 16) 10) 0 (by kernel_rfl)) zh0 (Pt.ix1 (some ⟨g1, 0, none⟩) (Int.tmod (w64 ((Int.tmod round 10) + 10)) 10) 16) (by decide)) <| qe) ?_
 refine WL_op <| Op_bz 0 (.agg [.ar eI x_0]) [.ar eI x_0] (Pt.at g 0) k_2 rfl .all ?_
 intro w_3 k_3
 have k_4 := k_3.sel (.k .z)
 refine Wn <| W_ret ?_
 obtain rfl := si hm
 refine At_rz [.agg [.ar eI x_0]] (qo (.agg [.ar eI x_0]) <| qc (fun w => Rd w (some ⟨g, 0, none⟩) (SV.cl [.ar eI x_0])) (k_4.brd 0 rfl) <| qe) ?_
 have k_5 := k_4.sel .z
 exact ⟨rfl, k_5⟩
theorem c_mixb_places (k : Cx F O w w []) (r : (Vec (Vec Int 4) 8)) (hm : m_mixb_places = some r) :
    Calls Tryz.prog 139 (vals []) w (fun e w' => e = .returned (SV.val (.agg [.ar (eV eI 4) r])) ∧ Cx F O w w' []) := by
 unfold m_mixb_places at hm
 refine calz [] Tryz.func139 rfl ?_
 refine W_seq <| W_reg <| WL_op <| Op_alloc [] 0 [.ar (eV eI 4) (Vec.rep 8 (Vec.rep 4 (0 : Int)))] (by kernel_rfl) k ?_
 intro g w_ k_
 refine Wn <| W_seq <| W_reg <| We 9 (.n 9 (.agg [.ar (eV eI 4) (⟨[(⟨[(0 : Int), (4 : Int), (8 : Int), (12 : Int)], rfl⟩ : Vec Int 4), (⟨[(1 : Int), (5 : Int), (9 : Int), (13 : Int)], rfl⟩ : Vec Int 4), (⟨[(2 : Int), (6 : Int), (10 : Int), (14 : Int)], rfl⟩ : Vec Int 4), (⟨[(3 : Int), (7 : Int), (11 : Int), (15 : Int)], rfl⟩ : Vec Int 4), (⟨[(0 : Int), (5 : Int), (10 : Int), (15 : Int)], rfl⟩ : Vec Int 4), (⟨[(1 : Int), (6 : Int), (11 : Int), (12 : Int)], rfl⟩ : Vec Int 4), (⟨[(2 : Int), (7 : Int), (8 : Int), (13 : Int)], rfl⟩ : Vec Int 4), (⟨[(3 : Int), (4 : Int), (9 : Int), (14 : Int)], rfl⟩ : Vec Int 4)], rfl⟩ : Vec (Vec Int 4) 8)]) .a) ?_
 refine WL_op <| Op_bz 0 (.agg [.ar (eV eI 4) (⟨[(⟨[(0 : Int), (4 : Int), (8 : Int), (12 : Int)], rfl⟩ : Vec Int 4), (⟨[(1 : Int), (5 : Int), (9 : Int), (13 : Int)], rfl⟩ : Vec Int 4), (⟨[(2 : Int), (6 : Int), (10 : Int), (14 : Int)], rfl⟩ : Vec Int 4), (⟨[(3 : Int), (7 : Int), (11 : Int), (15 : Int)], rfl⟩ : Vec Int 4), (⟨[(0 : Int), (5 : Int), (10 : Int), (15 : Int)], rfl⟩ : Vec Int 4), (⟨[(1 : Int), (6 : Int), (11 : Int), (12 : Int)], rfl⟩ : Vec Int 4), (⟨[(2 : Int), (7 : Int), (8 : Int), (13 : Int)], rfl⟩ : Vec Int 4), (⟨[(3 : Int), (4 : Int), (9 : Int), (14 : Int)], rfl⟩ : Vec Int 4)], rfl⟩ : Vec (Vec Int 4) 8)]) [.ar (eV eI 4) (⟨[(⟨[(0 : Int), (4 : Int), (8 : Int), (12 : Int)], rfl⟩ : Vec Int 4), (⟨[(1 : Int), (5 : Int), (9 : Int), (13 : Int)], rfl⟩ : Vec Int 4), (⟨[(2 : Int), (6 : Int), (10 : Int), (14 : Int)], rfl⟩ : Vec Int 4), (⟨[(3 : Int), (7 : Int), (11 : Int), (15 : Int)], rfl⟩ : Vec Int 4), (⟨[(0 : Int), (5 : Int), (10 : Int), (15 : Int)], rfl⟩ : Vec Int 4), (⟨[(1 : Int), (6 : Int), (11 : Int), (12 : Int)], rfl⟩ : Vec Int 4), (⟨[(2 : Int), (7 : Int), (8 : Int), (13 : Int)], rfl⟩ : Vec Int 4), (⟨[(3 : Int), (4 : Int), (9 : Int), (14 : Int)], rfl⟩ : Vec Int 4)], rfl⟩ : Vec (Vec Int 4) 8)] (Pt.at g 0) k_ rfl .all ?_
 intro w_1 k_1
 refine Wn <| W_ret ?_
 obtain rfl := si hm
 refine At_rz [.agg [.ar (eV eI 4) (⟨[(⟨[(0 : Int), (4 : Int), (8 : Int), (12 : Int)], rfl⟩ : Vec Int 4), (⟨[(1 : Int), (5 : Int), (9 : Int), (13 : Int)], rfl⟩ : Vec Int 4), (⟨[(2 : Int), (6 : Int), (10 : Int), (14 : Int)], rfl⟩ : Vec Int 4), (⟨[(3 : Int), (7 : Int), (11 : Int), (15 : Int)], rfl⟩ : Vec Int 4), (⟨[(0 : Int), (5 : Int), (10 : Int), (15 : Int)], rfl⟩ : Vec Int 4), (⟨[(1 : Int), (6 : Int), (11 : Int), (12 : Int)], rfl⟩ : Vec Int 4), (⟨[(2 : Int), (7 : Int), (8 : Int), (13 : Int)], rfl⟩ : Vec Int 4), (⟨[(3 : Int), (4 : Int), (9 : Int), (14 : Int)], rfl⟩ : Vec Int 4)], rfl⟩ : Vec (Vec Int 4) 8)]] (qo (.agg [.ar (eV eI 4) (⟨[(⟨[(0 : Int), (4 : Int), (8 : Int), (12 : Int)], rfl⟩ : Vec Int 4), (⟨[(1 : Int), (5 : Int), (9 : Int), (13 : Int)], rfl⟩ : Vec Int 4), (⟨[(2 : Int), (6 : Int), (10 : Int), (14 : Int)], rfl⟩ : Vec Int 4), (⟨[(3 : Int), (7 : Int), (11 : Int), (15 : Int)], rfl⟩ : Vec Int 4), (⟨[(0 : Int), (5 : Int), (10 : Int), (15 : Int)], rfl⟩ : Vec Int 4), (⟨[(1 : Int), (6 : Int), (11 : Int), (12 : Int)], rfl⟩ : Vec Int 4), (⟨[(2 : Int), (7 : Int), (8 : Int), (13 : Int)], rfl⟩ : Vec Int 4), (⟨[(3 : Int), (4 : Int), (9 : Int), (14 : Int)], rfl⟩ : Vec Int 4)], rfl⟩ : Vec (Vec Int 4) 8)]) <| qc (fun w => Rd w (some ⟨g, 0, none⟩) (SV.cl [.ar (eV eI 4) (⟨[(⟨[(0 : Int), (4 : Int), (8 : Int), (12 : Int)], rfl⟩ : Vec Int 4), (⟨[(1 : Int), (5 : Int), (9 : Int), (13 : Int)], rfl⟩ : Vec Int 4), (⟨[(2 : Int), (6 : Int), (10 : Int), (14 : Int)], rfl⟩ : Vec Int 4), (⟨[(3 : Int), (7 : Int), (11 : Int), (15 : Int)], rfl⟩ : Vec Int 4), (⟨[(0 : Int), (5 : Int), (10 : Int), (15 : Int)], rfl⟩ : Vec Int 4), (⟨[(1 : Int), (6 : Int), (11 : Int), (12 : Int)], rfl⟩ : Vec Int 4), (⟨[(2 : Int), (7 : Int), (8 : Int), (13 : Int)], rfl⟩ : Vec Int 4), (⟨[(3 : Int), (4 : Int), (9 : Int), (14 : Int)], rfl⟩ : Vec Int 4)], rfl⟩ : Vec (Vec Int 4) 8)])) (k_1.brd 0 rfl) <| qe) ?_
 have k_2 := k_1.sel .z
 exact ⟨rfl, k_2⟩
theorem c_bits_RotateLeft64 (x_ : UInt64) (k_ : Int) (k : Cx F O w w []) (r : UInt64) (hm : m_bits_RotateLeft64 x_ k_ = some r) :
    Calls Tryz.prog 143 (vals [.u64 x_, I k_]) w (fun e w' => e = .returned (SV.val (.u64 r)) ∧ Cx F O w w' []) := by
 unfold m_bits_RotateLeft64 at hm
 refine calz [.u64 x_, I k_] Tryz.func143 rfl ?_
 refine Wz .a ?_
 refine Wz (.n 5 (.u64 ((UInt64.ofInt k_) &&& 63)) (.k .z)) ?_
 refine Wz (.n 4 (.u64 ((shl64 x_ (((UInt64.ofInt k_) &&& 63).toNat)) ||| (shr64 x_ (((64 : UInt64) - ((UInt64.ofInt k_) &&& 63)).toNat)))) .z) ?_
 refine W_ret ?_
 obtain rfl := si hm
 refine At_rz [.u64 ((shl64 x_ (((UInt64.ofInt k_) &&& 63).toNat)) ||| (shr64 x_ (((64 : UInt64) - ((UInt64.ofInt k_) &&& 63)).toNat)))] qe ?_
 exact ⟨rfl, k⟩
theorem c_mixb_step (v : Vec UInt64 16) (p : Vec Int 4) (x_ : UInt64) (y_ : UInt64) (g_v : Nat) (k : Cx F O w w [Bx 107 g_v [.ar e64 v]]) (r : (Vec UInt64 16)) (hm : m_mixb_step v p x_ y_ = some r) :
    Calls Tryz.prog 140 (vals [pt g_v 0, .agg [.ar eI p], .u64 x_, .u64 y_]) w (fun e w' => e = .returned (SV.val (.tup [])) ∧ Cx F O w w' [Bx 107 g_v [.ar e64 r]]) := by
 unfold m_mixb_step at hm
 refine calz [pt g_v 0, .agg [.ar eI p], .u64 x_, .u64 y_] Tryz.func140 rfl ?_
 refine W_seq <| W_reg <| WL_op <| Op_box [] 5 (.agg [.ar eI p]) [.ar eI p] (by kernel_rfl) k ?_
 intro g w_ k_
 refine Wn <| W_seq ?_
 obtain ⟨x_2, zh2, hm⟩ := ob hm
 obtain ⟨x_3, zh3, hm⟩ := ob hm
 obtain ⟨x_4, zh4, hm⟩ := ob hm
 obtain ⟨x_5, zh5, hm⟩ := ob hm
 refine W_d mr_mixed (by kernel_rfl) (.n 8 (I x_2) (.n 9 (I x_3) (.n 10 (I x_4) (.n 11 (I x_5) (.s (.k (.s .a))))))) (fun m => qV ((k_.drew m).vrd 1 rfl eI p 0 (by kernel_rfl)) zh2 rfl (I x_2) rfl <| qV ((k_.drew m).vrd 1 rfl eI p 0 (by kernel_rfl)) zh3 rfl (I x_3) rfl <| qV ((k_.drew m).vrd 1 rfl eI p 0 (by kernel_rfl)) zh4 rfl (I x_4) rfl <| qV ((k_.drew m).vrd 1 rfl eI p 0 (by kernel_rfl)) zh5 rfl (I x_5) rfl <| qe) (by kernel_rfl) (fun m_ => ?_)
 have k_1 := k_.drew m_
 refine At_go <| W_seq ?_
 have k_2 := k_1.drew 1
 refine W_m mr_mixed (.q 0 0 (.q 1 0 (.q 2 0 (.q 3 0 (.q 4 0 (.q 5 0 (.q 6 0 (.q 7 0 (.q 8 0 (.q 9 0 (.q 10 0 (.q 11 0 (.q 12 0 (.q 13 1 (.q 14 0 (.op 15 .nil)))))))))))))))) [15] k_2 (.c (.s (.k .e)) .l) (by kernel_rfl) (fun _ => ?_)
 obtain ⟨x_6, zh6, hm⟩ := ob hm
 obtain ⟨x_7, zh7, hm⟩ := ob hm
 refine MXz 13 0 (.n 20 (pt g_v 0) (.n 21 (I x_2) (.n 32 (.u64 (x_6 + (x_7 + x_))) (.kkkk (.k (.s .a)))))) (fun x hx => qs g_v 0 <| qV (hx.vrd 0 rfl e64 v 0 (by kernel_rfl)) zh6 rfl (.u64 x_6) rfl <| qs g_v 0 <| qV (hx.vrd 0 rfl e64 v 0 (by kernel_rfl)) zh7 rfl (.u64 x_7) rfl <| qe) fun _ => ?_
 refine MXz 1 1 (.n 33 (pt g_v 0) (.s .a)) (fun x hx => qs g_v 0 <| qe) fun _ => ?_
 obtain ⟨x_8, zh8, hm⟩ := ob hm
 refine MXz 1 0 (.n 34 (.v (.pointer (ixA (some ⟨g_v, 0, none⟩) x_2 1))) (.ss .a)) (fun x hx => qI g_v 0 zh8 <| qe) fun _ => ?_
 refine MX_op (by kernel_rfl) rfl ?_
 obtain ⟨v1, h_v1, hm⟩ := nm hm
 refine Op_vz 0 (.u64 (x_6 + (x_7 + x_))) [.u64 (x_6 + (x_7 + x_))] h_v1 zh8 (Pt.ix0 (Pt.at g_v 0) x_2 1) k_2 rfl .h rfl ?_
 intro w_1 k_3
 refine ⟨(k_3.sel (.s (.k .e))), fun _ => ?_⟩
 refine MX_nil <| At_go <| W_seq ?_
 have k_4 := k_3.drew 1
 refine W_m mr_mixed (.q 0 1 (.q 1 1 (.q 2 1 (.q 3 1 (.q 4 1 (.q 5 1 (.q 6 1 (.q 7 1 (.q 8 1 (.q 9 1 (.q 10 1 (.q 11 1 (.q 12 0 (.q 14 2 (.op 13 (.q 15 1 (.op 16 .nil))))))))))))))))) [13, 16] k_4 (.c (.kk .e) (.c (.s (.k .e)) .l)) (by kernel_rfl) (fun _ => ?_)
 obtain ⟨x_9, zh9, hm⟩ := ob hm
 obtain ⟨x_10, zh10, hm⟩ := ob hm
 refine MXz 12 1 (.n 35 (pt g_v 0) (.n 36 (I x_5) (.n 41 (.u64 x_9) (.n 46 (.u64 x_10) (.ss .a))))) (fun x hx => qs g_v 0 <| qV (hx.vrd 0 rfl e64 v1 0 (by kernel_rfl)) zh9 rfl (.u64 x_9) rfl <| qs g_v 0 <| qV (hx.vrd 0 rfl e64 v1 0 (by kernel_rfl)) zh10 rfl (.u64 x_10) rfl <| qe) fun _ => ?_
 refine MXz 1 0 (.n 47 (.u64 (x_9 ^^^ x_10)) (.kk (.ss .a))) (fun x hx => qe) fun _ => ?_
 refine MXz 1 2 (.n 49 (pt g_v 0) (.k (.s .a))) (fun x hx => qs g_v 0 <| qe) fun _ => ?_
 refine MX_op (by kernel_rfl) rfl ?_
 obtain ⟨r_, h_r_, hm⟩ := ob hm
 refine Op_cz 48 mr_go143 (c_bits_RotateLeft64 (F := N0) (O := N0) _ _ (Cx.refl _) _ h_r_) ?_
 rintro e_ w_2 ⟨rfl, k_5⟩
 have k_6 := k_4.call k_5
 refine ⟨.u64 r_, rfl, ?_⟩
 refine ⟨k_6, fun _ => ?_⟩
 obtain ⟨x_11, zh11, hm⟩ := ob hm
 refine MXz 1 1 (.n 50 (.v (.pointer (ixA (some ⟨g_v, 0, none⟩) x_5 1))) (.k (.sss .a))) (fun x hx => qI g_v 0 zh11 <| qe) fun _ => ?_
 refine MX_op (by kernel_rfl) rfl ?_
 obtain ⟨v2, h_v2, hm⟩ := nm hm
 refine Op_vz 0 (.u64 r_) [.u64 r_] h_v2 zh11 (Pt.ix0 (Pt.at g_v 0) x_5 1) k_6 rfl .h rfl ?_
 intro w_3 k_7
 refine ⟨(k_7.sel (.s (.k .e))), fun _ => ?_⟩
 refine MX_nil <| At_go <| W_seq ?_
 have k_8 := k_7.drew 1
 refine W_m mr_mixed (.q 0 0 (.q 1 0 (.q 2 0 (.q 3 0 (.q 4 0 (.q 5 0 (.q 6 0 (.q 7 0 (.q 8 0 (.q 9 0 (.q 10 0 (.q 11 1 (.q 12 0 (.op 13 .nil)))))))))))))) [13] k_8 (.c (.s (.k .e)) .l) (by kernel_rfl) (fun _ => ?_)
 obtain ⟨x_12, zh12, hm⟩ := ob hm
 obtain ⟨x_13, zh13, hm⟩ := ob hm
 refine MXz 11 0 (.n 51 (pt g_v 0) (.n 52 (I x_4) (.n 61 (.u64 (x_12 + x_13)) (.ss .a)))) (fun x hx => qs g_v 0 <| qV (hx.vrd 0 rfl e64 v2 0 (by kernel_rfl)) zh12 rfl (.u64 x_12) rfl <| qs g_v 0 <| qV (hx.vrd 0 rfl e64 v2 0 (by kernel_rfl)) zh13 rfl (.u64 x_13) rfl <| qe) fun _ => ?_
 refine MXz 1 1 (.n 62 (pt g_v 0) (.s .a)) (fun x hx => qs g_v 0 <| qe) fun _ => ?_
 obtain ⟨x_14, zh14, hm⟩ := ob hm
 refine MXz 1 0 (.n 63 (.v (.pointer (ixA (some ⟨g_v, 0, none⟩) x_4 1))) (.ss .a)) (fun x hx => qI g_v 0 zh14 <| qe) fun _ => ?_
 refine MX_op (by kernel_rfl) rfl ?_
 have k_9 := k_8.sel (.kk .e)
 obtain ⟨v3, h_v3, hm⟩ := nm hm
 refine Op_vz 0 (.u64 (x_12 + x_13)) [.u64 (x_12 + x_13)] h_v3 zh14 (Pt.ix0 (Pt.at g_v 0) x_4 1) k_9 rfl .h rfl ?_
 intro w_4 k_10
 refine ⟨(k_10.sel (.s (.k .e))), fun _ => ?_⟩
 refine MX_nil <| At_go <| W_seq ?_
 have k_11 := k_10.drew 1
 refine W_m mr_mixed (.q 0 1 (.q 1 1 (.q 2 1 (.q 3 1 (.q 4 1 (.q 5 1 (.q 6 1 (.q 7 1 (.q 8 1 (.q 9 1 (.q 10 1 (.q 11 1 (.q 12 0 (.q 14 2 (.op 13 (.q 15 1 (.op 16 .nil))))))))))))))))) [13, 16] k_11 (.c (.kk .e) (.c (.s (.k .e)) .l)) (by kernel_rfl) (fun _ => ?_)
 obtain ⟨x_15, zh15, hm⟩ := ob hm
 obtain ⟨x_16, zh16, hm⟩ := ob hm
 refine MXz 12 1 (.n 64 (pt g_v 0) (.n 65 (I x_3) (.n 70 (.u64 x_15) (.n 75 (.u64 x_16) (.ss .a))))) (fun x hx => qs g_v 0 <| qV (hx.vrd 0 rfl e64 v3 0 (by kernel_rfl)) zh15 rfl (.u64 x_15) rfl <| qs g_v 0 <| qV (hx.vrd 0 rfl e64 v3 0 (by kernel_rfl)) zh16 rfl (.u64 x_16) rfl <| qe) fun _ => ?_
 refine MXz 1 0 (.n 76 (.u64 (x_15 ^^^ x_16)) (.kk (.ss .a))) (fun x hx => qe) fun _ => ?_
 refine MXz 1 2 (.n 78 (pt g_v 0) (.k (.s .a))) (fun x hx => qs g_v 0 <| qe) fun _ => ?_
 refine MX_op (by kernel_rfl) rfl ?_
 obtain ⟨r_1, h_r_1, hm⟩ := ob hm
 refine Op_cz 77 mr_go143 (c_bits_RotateLeft64 (F := N0) (O := N0) _ _ (Cx.refl _) _ h_r_1) ?_
 rintro e_ w_5 ⟨rfl, k_12⟩
 have k_13 := k_11.call k_12
 refine ⟨.u64 r_1, rfl, ?_⟩
 refine ⟨k_13, fun _ => ?_⟩
 obtain ⟨x_17, zh17, hm⟩ := ob hm
 refine MXz 1 1 (.n 79 (.v (.pointer (ixA (some ⟨g_v, 0, none⟩) x_3 1))) (.k (.sss .a))) (fun x hx => qI g_v 0 zh17 <| qe) fun _ => ?_
 refine MX_op (by kernel_rfl) rfl ?_
 obtain ⟨v4, h_v4, hm⟩ := nm hm
 refine Op_vz 0 (.u64 r_1) [.u64 r_1] h_v4 zh17 (Pt.ix0 (Pt.at g_v 0) x_3 1) k_13 rfl .h rfl ?_
 intro w_6 k_14
 refine ⟨(k_14.sel (.s (.k .e))), fun _ => ?_⟩
 refine MX_nil <| At_go <| W_seq ?_
 have k_15 := k_14.drew 1
 refine W_m mr_mixed (.q 0 0 (.q 1 0 (.q 2 0 (.q 3 0 (.q 4 0 (.q 5 0 (.q 6 0 (.q 7 0 (.q 8 0 (.q 9 0 (.q 10 0 (.q 11 0 (.q 12 0 (.q 13 1 (.q 14 0 (.op 15 .nil)))))))))))))))) [15] k_15 (.c (.s (.k .e)) .l) (by kernel_rfl) (fun _ => ?_)
 obtain ⟨x_18, zh18, hm⟩ := ob hm
 obtain ⟨x_19, zh19, hm⟩ := ob hm
 refine MXz 13 0 (.n 80 (pt g_v 0) (.n 81 (I x_2) (.n 92 (.u64 (x_18 + (x_19 + y_))) (.ss (.kkkk (.k .z)))))) (fun x hx => qs g_v 0 <| qV (hx.vrd 0 rfl e64 v4 0 (by kernel_rfl)) zh18 rfl (.u64 x_18) rfl <| qs g_v 0 <| qV (hx.vrd 0 rfl e64 v4 0 (by kernel_rfl)) zh19 rfl (.u64 x_19) rfl <| qe) fun _ => ?_
 refine MXz 1 1 (.n 93 (pt g_v 0) (.s .a)) (fun x hx => qs g_v 0 <| qe) fun _ => ?_
 obtain ⟨x_20, zh20, hm⟩ := ob hm
 refine MXz 1 0 (.n 94 (.v (.pointer (ixA (some ⟨g_v, 0, none⟩) x_2 1))) (.ss .a)) (fun x hx => qI g_v 0 zh20 <| qe) fun _ => ?_
 refine MX_op (by kernel_rfl) rfl ?_
 obtain ⟨v5, h_v5, hm⟩ := nm hm
 refine Op_vz 0 (.u64 (x_18 + (x_19 + y_))) [.u64 (x_18 + (x_19 + y_))] h_v5 zh20 (Pt.ix0 (Pt.at g_v 0) x_2 1) k_15 rfl .h rfl ?_
 intro w_7 k_16
 refine ⟨(k_16.sel (.s (.k .e))), fun _ => ?_⟩
 refine MX_nil <| At_go <| W_seq ?_
 have k_17 := k_16.drew 1
 refine W_m mr_mixed (.q 0 1 (.q 1 1 (.q 2 1 (.q 3 1 (.q 4 1 (.q 5 1 (.q 6 1 (.q 7 1 (.q 8 1 (.q 9 1 (.q 10 1 (.q 11 1 (.q 12 0 (.q 14 2 (.op 13 (.q 15 1 (.op 16 .nil))))))))))))))))) [13, 16] k_17 (.c (.kk .e) (.c (.s (.k .e)) .l)) (by kernel_rfl) (fun _ => ?_)
 obtain ⟨x_21, zh21, hm⟩ := ob hm
 obtain ⟨x_22, zh22, hm⟩ := ob hm
 refine MXz 12 1 (.n 95 (pt g_v 0) (.n 96 (I x_5) (.n 101 (.u64 x_21) (.n 106 (.u64 x_22) (.sss .a))))) (fun x hx => qs g_v 0 <| qV (hx.vrd 0 rfl e64 v5 0 (by kernel_rfl)) zh21 rfl (.u64 x_21) rfl <| qs g_v 0 <| qV (hx.vrd 0 rfl e64 v5 0 (by kernel_rfl)) zh22 rfl (.u64 x_22) rfl <| qe) fun _ => ?_
 refine MXz 1 0 (.n 107 (.u64 (x_21 ^^^ x_22)) (.kk (.ss .a))) (fun x hx => qe) fun _ => ?_
 refine MXz 1 2 (.n 109 (pt g_v 0) (.k (.s .a))) (fun x hx => qs g_v 0 <| qe) fun _ => ?_
 refine MX_op (by kernel_rfl) rfl ?_
 have k_18 := k_17.sel (.kk .e)
 obtain ⟨r_2, h_r_2, hm⟩ := ob hm
 refine Op_cz 108 mr_go143 (c_bits_RotateLeft64 (F := N0) (O := N0) _ _ (Cx.refl _) _ h_r_2) ?_
 rintro e_ w_8 ⟨rfl, k_19⟩
 have k_20 := k_18.call k_19
 refine ⟨.u64 r_2, rfl, ?_⟩
 refine ⟨k_20, fun _ => ?_⟩
 obtain ⟨x_23, zh23, hm⟩ := ob hm
 refine MXz 1 1 (.n 110 (.v (.pointer (ixA (some ⟨g_v, 0, none⟩) x_5 1))) (.k (.sss .a))) (fun x hx => qI g_v 0 zh23 <| qe) fun _ => ?_
 refine MX_op (by kernel_rfl) rfl ?_
 obtain ⟨v6, h_v6, hm⟩ := nm hm
 refine Op_vz 0 (.u64 r_2) [.u64 r_2] h_v6 zh23 (Pt.ix0 (Pt.at g_v 0) x_5 1) k_20 rfl .h rfl ?_
 intro w_9 k_21
 refine ⟨(k_21.sel (.s (.k .e))), fun _ => ?_⟩
 refine MX_nil <| At_go <| W_seq ?_
 have k_22 := k_21.drew 1
 refine W_m mr_mixed (.q 0 0 (.q 1 0 (.q 2 0 (.q 3 0 (.q 4 0 (.q 5 0 (.q 6 0 (.q 7 0 (.q 8 0 (.q 9 0 (.q 10 0 (.q 11 1 (.q 12 0 (.op 13 .nil)))))))))))))) [13] k_22 (.c (.s (.k .e)) .l) (by kernel_rfl) (fun _ => ?_)
 obtain ⟨x_24, zh24, hm⟩ := ob hm
 obtain ⟨x_25, zh25, hm⟩ := ob hm
 refine MXz 11 0 (.n 111 (pt g_v 0) (.n 112 (I x_4) (.n 121 (.u64 (x_24 + x_25)) (.ss (.kk (.s .a)))))) (fun x hx => qs g_v 0 <| qV (hx.vrd 0 rfl e64 v6 0 (by kernel_rfl)) zh24 rfl (.u64 x_24) rfl <| qs g_v 0 <| qV (hx.vrd 0 rfl e64 v6 0 (by kernel_rfl)) zh25 rfl (.u64 x_25) rfl <| qe) fun _ => ?_
 refine MXz 1 1 (.n 122 (pt g_v 0) (.s .a)) (fun x hx => qs g_v 0 <| qe) fun _ => ?_
 obtain ⟨x_26, zh26, hm⟩ := ob hm
 refine MXz 1 0 (.n 123 (.v (.pointer (ixA (some ⟨g_v, 0, none⟩) x_4 1))) (.ss .a)) (fun x hx => qI g_v 0 zh26 <| qe) fun _ => ?_
 refine MX_op (by kernel_rfl) rfl ?_
 obtain ⟨v7, h_v7, hm⟩ := nm hm
 refine Op_vz 0 (.u64 (x_24 + x_25)) [.u64 (x_24 + x_25)] h_v7 zh26 (Pt.ix0 (Pt.at g_v 0) x_4 1) k_22 rfl .h rfl ?_
 intro w_10 k_23
 refine ⟨(k_23.sel (.s (.k .e))), fun _ => ?_⟩
 refine MX_nil <| At_go ?_
 have k_24 := k_23.drew 1
 refine W_m mr_mixed (.q 0 1 (.q 1 1 (.q 2 1 (.q 3 1 (.q 4 1 (.q 5 1 (.q 6 1 (.q 7 1 (.q 8 1 (.q 9 1 (.q 10 1 (.q 11 1 (.q 12 0 (.q 14 2 (.op 13 (.q 15 1 (.op 16 .nil))))))))))))))))) [13, 16] k_24 (.c (.kk .e) (.c (.s (.k .e)) .l)) (by kernel_rfl) (fun _ => ?_)
 obtain ⟨x_27, zh27, hm⟩ := ob hm
 obtain ⟨x_28, zh28, hm⟩ := ob hm
 refine MXz 12 1 (.n 124 (pt g_v 0) (.n 125 (I x_3) (.n 130 (.u64 x_27) (.n 135 (.u64 x_28) .z)))) (fun x hx => qs g_v 0 <| qV (hx.vrd 0 rfl e64 v7 0 (by kernel_rfl)) zh27 rfl (.u64 x_27) rfl <| qs g_v 0 <| qV (hx.vrd 0 rfl e64 v7 0 (by kernel_rfl)) zh28 rfl (.u64 x_28) rfl <| qe) fun _ => ?_
 refine MXz 1 0 (.n 136 (.u64 (x_27 ^^^ x_28)) (.kk .z)) (fun x hx => qe) fun _ => ?_
 refine MXz 1 2 (.n 138 (pt g_v 0) (.k (.s .a))) (fun x hx => qs g_v 0 <| qe) fun _ => ?_
 refine MX_op (by kernel_rfl) rfl ?_
 obtain ⟨r_3, h_r_3, hm⟩ := ob hm
 refine Op_cz 137 mr_go143 (c_bits_RotateLeft64 (F := N0) (O := N0) _ _ (Cx.refl _) _ h_r_3) ?_
 rintro e_ w_11 ⟨rfl, k_25⟩
 have k_26 := k_24.call k_25
 refine ⟨.u64 r_3, rfl, ?_⟩
 refine ⟨k_26, fun _ => ?_⟩
 obtain ⟨x_29, zh29, hm⟩ := ob hm
 refine MXz 1 1 (.n 139 (.v (.pointer (ixA (some ⟨g_v, 0, none⟩) x_3 1))) (.k .z)) (fun x hx => qI g_v 0 zh29 <| qe) fun _ => ?_
 refine MX_op (by kernel_rfl) rfl ?_
 have k_27 := k_26.sel (.kk .e)
 obtain ⟨v8, h_v8, hm⟩ := nm hm
 refine Op_vz 0 (.u64 r_3) [.u64 r_3] h_v8 zh29 (Pt.ix0 (Pt.at g_v 0) x_3 1) k_27 rfl .h rfl ?_
 intro w_12 k_28
 refine ⟨(k_28.sel (.s (.k .e))), fun _ => ?_⟩
 refine MX_nil ?_
 obtain rfl := si hm
 refine At_en [] qe (by kernel_rfl) ?_
 have k_29 := k_28.sel (.k .z)
 exact ⟨rfl, k_29⟩
theorem c_mixb_turn (v : Vec UInt64 16) (m_ : Vec UInt64 16) (round : Int) (g_v : Nat) (g_m : Nat) (k : Cx F O w w [Bx 107 g_v [.ar e64 v], Bx 107 g_m [.ar e64 m_]]) (r : (Vec UInt64 16 × Vec UInt64 16)) (hm : m_mixb_turn v m_ round = some r) :
    Calls Tryz.prog 133 (vals [pt g_v 0, pt g_m 0, I round]) w (fun e w' => e = .returned (SV.val (.tup [])) ∧ Cx F O w w' [Bx 107 g_v [.ar e64 r.1], Bx 107 g_m [.ar e64 r.2]]) := by
 unfold m_mixb_turn at hm
 refine calz [pt g_v 0, pt g_m 0, I round] Tryz.func133 rfl ?_
 refine W_seq <| W_reg <| We 1 (.n 9 (I round) (.kk .z)) ?_
 refine WL_op ?_
 obtain ⟨r_, h_r_, hm⟩ := ob hm
 refine Op_cz 10 mr_go138 (c_mixb_Sigma (F := N0) (O := N0) _ (Cx.refl _) _ h_r_) ?_
 rintro e_ w_ ⟨rfl, k_⟩
 have k_1 := k.call k_
 refine ⟨.agg [.ar eI r_], rfl, ?_⟩
 refine WL_op <| Op_alloc [] 6 [.ar eI (Vec.rep 16 (0 : Int))] (by kernel_rfl) k_1 ?_
 intro g w_1 k_2
 refine WL_op <| Op_bz 2 (.agg [.ar eI r_]) [.ar eI r_] (Pt.at g 0) k_2 rfl .all ?_
 intro w_2 k_3
 refine Wn <| W_seq <| W_reg <| WL_op ?_
 obtain ⟨r_1, h_r_1, hm⟩ := ob hm
 refine Op_cz 11 mr_go139 (c_mixb_places (F := N0) (O := N0)  (Cx.refl _) _ h_r_1) ?_
 rintro e_ w_3 ⟨rfl, k_4⟩
 have k_5 := k_3.call k_4
 refine ⟨.agg [.ar (eV eI 4) r_1], rfl, ?_⟩
 refine We 1 (.n 12 (I 0) (.kk (.ss .a))) ?_
 refine Wn <| W_block <| W_lp (m_mixb_turn_l0 m_ r_ r_1) (fun s L wr => ∃ (v1 : Vec UInt64 16) (x_0 : Int), (v1, x_0) = s ∧ L = [(0, pt g_v 0), (1, pt g_m 0), (6, pt g 0), (11, .agg [.ar (eV eI 4) r_1]), (12, I x_0)] ∧ Cx F O w wr [Bx 107 g_v [.ar e64 v1], Bx 107 g_m [.ar e64 m_], Bx 217 g [.ar eI r_]]) (v, (0 : Int)) r hm ⟨v, (0 : Int), rfl, rfl, k_5⟩ (by kernel_rfl) ?_
 intro s0_ L_ w_4 y0 hrel hstep hr0
 obtain ⟨v1, x_0, rfl, rfl, k_6⟩ := hrel
 have hm := hstep; simp only [m_mixb_turn_l0] at hm
 clear hstep
 refine Wz (.n 13 (.b (decide (x_0 < 8))) .a) ?_
 refine W_seq <| W_pz (x_0 < 8) (fun hc => ?_) fun hc => ?_
 · rw [if_pos hc] at hm
   refine W_skip <| At_go <| W_seq <| W_block <| W_seq <| W_reg ?_
   obtain ⟨x_2, zh2, hm⟩ := ob hm
   refine Wl 2 (.n 14 (I x_0) (.n 15 (.agg [.ar eI x_2]) (.s .a))) (qo (.agg [.ar eI x_2]) <| qp ((0 ≤ x_0 ∧ x_0 < ((8 : Nat) : Int)) ∧ ((SV.cl [.ar (eV eI 4) r_1]).drop (Int.toNat x_0 * 4)).take 4 = SV.cl [.ar eI x_2]) (ar_ixV (E := eI) zh2) <| qe) ?_
   refine WL_op <| Op_alloc [] 8 [.ar eI (Vec.rep 4 (0 : Int))] (by kernel_rfl) k_6 ?_
   intro g1 w_5 k_7
   refine We 1 (.n 7 (I x_0) (.k (.s .a))) ?_
   refine WL_op <| Op_bz 3 (.agg [.ar eI x_2]) [.ar eI x_2] (Pt.at g1 0) k_7 rfl .all ?_
   intro w_6 k_8
   refine WL_nil <| At_go ?_
   have k_9 := k_8.drew 1
   refine W_m mr_mixed (.q 0 0 (.q 1 0 (.q 2 1 (.q 3 1 (.q 4 1 (.q 5 1 (.q 6 1 (.q 7 1 (.q 8 1 (.q 9 0 (.q 10 1 (.q 11 1 (.q 12 1 (.q 13 1 (.q 14 1 (.q 15 1 (.q 16 1 (.q 17 1 (.q 18 0 (.op 19 .nil)))))))))))))))))))) [19] k_9 (.c (.s (.kk (.k .e))) .l) (by kernel_rfl) (fun _ => ?_)
   refine MXz 2 0 (.n 16 (pt g_v 0) (.n 17 (.agg [.ar eI x_2]) (.k (.ss .a)))) (fun x hx => qT hx 3 rfl 0 4 [.ar eI x_2] (by kernel_rfl) (by decide) <| qe) fun _ => ?_
   obtain ⟨x_3, zh3, hm⟩ := ob hm
   obtain ⟨x_4, zh4, hm⟩ := ob hm
   refine MXz 7 1 (.n 24 (.v (.pointer (ixA (some ⟨g_m, 0, none⟩) x_3 1))) .a) (fun x hx => qV (hx.vrd 1 rfl eI r_ 0 (by kernel_rfl)) zh3 rfl (I x_3) rfl <| qs g_m 0 <| qI g_m 0 zh4 <| qe) fun _ => ?_
   refine MXz 1 0 (.n 25 (.u64 x_4) (.s .a)) (fun x hx => qC (.u64 x_4) (Rd.el (k := 0) (hx.vrd 1 rfl e64 m_ 0 (by kernel_rfl)) zh4 (Pt.ix1 (some ⟨g_m, 0, none⟩) x_3 1) rfl) <| qe) fun _ => ?_
   obtain ⟨x_5, zh5, hm⟩ := ob hm
   obtain ⟨x_6, zh6, hm⟩ := ob hm
   refine MXz 8 1 (.n 33 (.v (.pointer (ixA (some ⟨g_m, 0, none⟩) x_5 1))) (.kkk (.s .a))) (fun x hx => qV (hx.vrd 1 rfl eI r_ 0 (by kernel_rfl)) zh5 rfl (I x_5) rfl <| qs g_m 0 <| qI g_m 0 zh6 <| qe) fun _ => ?_
   refine MXz 1 0 (.n 34 (.u64 x_6) (.s .a)) (fun x hx => qC (.u64 x_6) (Rd.el (k := 0) (hx.vrd 1 rfl e64 m_ 0 (by kernel_rfl)) zh6 (Pt.ix1 (some ⟨g_m, 0, none⟩) x_5 1) rfl) <| qe) fun _ => ?_
   refine MX_op (by kernel_rfl) rfl ?_
   obtain ⟨r_2, h_r_2, hm⟩ := ob hm
   obtain ⟨F1, O1, kin, hO, hre, hF, hb⟩ := k_9.go (.i (.r (.r (.r .e))))
   refine Op_cz 35 mr_go140 (c_mixb_step (F := F1) (O := O1) _ _ _ _ _ kin _ h_r_2) ?_
   rintro e_ w_7 ⟨rfl, k_10⟩
   have k_11 := hb w_7 _ _ k_10 (.c .n)
   refine ⟨.tup [], rfl, ?_⟩
   refine ⟨(k_11.sel (.s (.kk (.k .e)))), fun _ => ?_⟩
   refine MX_nil <| At_in <| At_go <| W_q [] (.n 12 (I (w64 (x_0 + 1))) (.ssss (.s (.kkkk .z)))) qe (by kernel_rfl) ?_
   have k_12 := k_11.sel (.kk (.k .z))
   exact At_rd (r_2, w64 (x_0 + 1)) (Option.some.inj hm).symm ⟨r_2, w64 (x_0 + 1), rfl, rfl, k_12⟩ (by kernel_rfl)
 rw [if_neg hc] at hm
 refine W_exit (At_te (At_te (At_ie ?_)))
 have hm := exit_of hm hr0
 obtain rfl := si hm
 refine At_en [] qe (by kernel_rfl) ?_
 have k_13 := k_6.sel (.kk .z)
 exact ⟨rfl, k_13⟩
theorem c_mixb_F (h : Vec UInt64 8) (m_ : Vec UInt64 16) (count_Lo : UInt64) (count_Hi : UInt64) (last : Bool) (node : Bool) (k : Cx F O w w []) (r : (Vec UInt64 8)) (hm : m_mixb_F h m_ count_Lo count_Hi last node = some r) :
    Calls Tryz.prog 118 (vals [.agg [.ar e64 h], .agg [.ar e64 m_], .agg [.u64 count_Lo, .u64 count_Hi], .b last, .b node]) w (fun e w' => e = .returned (SV.val (.agg [.ar e64 r])) ∧ Cx F O w w' []) := by
 unfold m_mixb_F at hm
 refine calz [.agg [.ar e64 h], .agg [.ar e64 m_], .agg [.u64 count_Lo, .u64 count_Hi], .b last, .b node] Tryz.func118 rfl ?_
 refine W_seq <| W_reg <| WL_op <| Op_box [] 5 (.agg [.ar e64 h]) [.ar e64 h] (by kernel_rfl) k ?_
 intro g w_ k_
 refine WL_op <| Op_box [] 6 (.agg [.ar e64 m_]) [.ar e64 m_] (by kernel_rfl) k_ ?_
 intro g1 w_1 k_1
 refine WL_op <| Op_box [] 7 (.agg [.u64 count_Lo, .u64 count_Hi]) [.u64 count_Lo, .u64 count_Hi] (by kernel_rfl) k_1 ?_
 intro g2 w_2 k_2
 refine WL_op <| Op_alloc [] 10 [.ar e64 (Vec.rep 8 (0 : UInt64))] (by kernel_rfl) k_2 ?_
 intro g3 w_3 k_3
 refine Wn <| W_seq <| W_reg <| Wl 4 (.n 14 (.agg [.ar e64 h]) (.n 15 (.agg [.u64 count_Lo, .u64 count_Hi]) (.n 16 (.b last) (.n 17 (.b node) (.k (.s (.kk .z))))))) (qT k_3 0 rfl 0 8 [.ar e64 h] (by kernel_rfl) (by decide) <| qT k_3 2 rfl 0 2 [.u64 count_Lo, .u64 count_Hi] (by kernel_rfl) (by decide) <| qe) ?_
 refine WL_op ?_
 have k_4 := k_3.sel (.kkkk .e)
 obtain ⟨r_, h_r_, hm⟩ := ob hm
 refine Op_cz 18 mr_go132 (c_mixb_Init (F := N0) (O := N0) _ _ _ _ _ (Cx.refl _) _ h_r_) ?_
 rintro e_ w_4 ⟨rfl, k_5⟩
 have k_6 := k_4.call k_5
 refine ⟨.agg [.ar e64 r_], rfl, ?_⟩
 have k_7 := k_6.sel (.kk (.s (.k .e)))
 refine WL_op <| Op_alloc [] 11 [.ar e64 (Vec.rep 16 (0 : UInt64))] (by kernel_rfl) k_7 ?_
 intro g4 w_5 k_8
 refine WL_op <| Op_bz 3 (.agg [.ar e64 r_]) [.ar e64 r_] (Pt.at g4 0) k_8 rfl .all ?_
 intro w_6 k_9
 refine Wn <| W_seq <| Wz (.n 19 (I 0) (.k (.ssss (.s .a)))) ?_
 refine W_block <| W_lp (m_mixb_F_l0 h) (fun s L wr => ∃ (m_1 : Vec UInt64 16) (v : Vec UInt64 16) (x_0 : Int), (m_1, v, x_0) = s ∧ L = [(5, pt g 0), (6, pt g1 0), (10, pt g3 0), (11, pt g4 0), (19, I x_0)] ∧ Cx F O w wr [Bx 139 g [.ar e64 h], Bx 107 g1 [.ar e64 m_1], Bx 139 g3 [.ar e64 (Vec.rep 8 (0 : UInt64))], Bx 107 g4 [.ar e64 v]]) (m_, r_, (0 : Int)) r hm ⟨m_, r_, (0 : Int), rfl, rfl, k_9⟩ (by kernel_rfl) ?_
 intro s0_ L_ w_7 y0 hrel hstep hr0
 obtain ⟨m_1, v, x_0, rfl, rfl, k_10⟩ := hrel
 have hm := hstep; simp only [m_mixb_F_l0] at hm
 clear hstep
 refine Wz (.n 20 (.b (decide (x_0 < 12))) .a) ?_
 refine W_seq <| W_pz (x_0 < 12) (fun hc => ?_) fun hc => ?_
 · rw [if_pos hc] at hm
   refine W_skip <| At_go <| W_seq <| W_block <| Wz (.n 12 (I x_0) (.s .a)) ?_
   refine W_reg <| We 1 (.n 22 (I x_0) (.s .a)) ?_
   refine WL_op ?_
   obtain ⟨r_1, h_r_1, hm⟩ := ob hm
   have k_11 := (((k_10.pk (.t (.t .h))).pk (.t .h)).pk (.t (.t .h))).pk (.t (.t (.t .h)))
   obtain ⟨F1, O1, kin, hO, hre, hF, hb⟩ := k_11.go (.i (.i (.r (.r .e))))
   refine Op_cz 23 mr_go133 (c_mixb_turn (F := F1) (O := O1) _ _ _ _ _ kin _ h_r_1) ?_
   rintro e_ w_8 ⟨rfl, k_12⟩
   have k_13 := hb w_8 _ _ k_12 (.c (.c .n))
   refine ⟨.tup [], rfl, ?_⟩
   refine WL_nil <| At_in <| At_go <| W_q [] (.n 19 (I (w64 (x_0 + 1))) (.ss (.kkkk .z))) qe (by kernel_rfl) ?_
   have k_14 := (((k_13.pk .h).pk (.t (.t (.t .h)))).pk (.t (.t .h))).pk (.t (.t (.t .h)))
   exact At_rd (r_1.2, r_1.1, w64 (x_0 + 1)) (Option.some.inj hm).symm ⟨r_1.2, r_1.1, w64 (x_0 + 1), rfl, rfl, k_14⟩ (by kernel_rfl)
 rw [if_neg hc] at hm
 refine W_exit (At_te (At_te (At_ie ?_)))
 have hm := exit_of hm hr0
 refine At_go <| W_seq <| Wz (.n 25 (I 0) (.s (.k (.s (.kk .z))))) ?_
 refine W_block ?_
 have k_16 := k_10.sel (.k (.s (.kk .e)))
 refine W_lp (m_mixb_F_l1 v) (fun s L wr => ∃ (h1 : Vec UInt64 8) (x_1 : Int), (h1, x_1) = s ∧ L = [(5, pt g 0), (10, pt g3 0), (11, pt g4 0), (25, I x_1)] ∧ Cx F O w wr [Bx 139 g [.ar e64 h1], Bx 139 g3 [.ar e64 (Vec.rep 8 (0 : UInt64))], Bx 107 g4 [.ar e64 v]]) (h, (0 : Int)) r hm ⟨h, (0 : Int), rfl, rfl, k_16⟩ (by kernel_rfl) ?_
 intro s0_ L_ w_9 y0 hrel hstep hr0
 obtain ⟨h1, x_1, rfl, rfl, k_15⟩ := hrel
 have hm := hstep; simp only [m_mixb_F_l1] at hm
 clear hstep
 refine Wz (.n 26 (.b (decide (x_1 < 8))) .a) ?_
 refine W_seq <| W_pz (x_1 < 8) (fun hc1 => ?_) fun hc1 => ?_
 · rw [if_pos hc1] at hm
   refine W_skip <| At_go <| W_seq <| W_block <| W_seq <| W_q [] (.n 13 (I x_1) (.s .a)) qe (by kernel_rfl) ?_
   refine At_go ?_
   have k_17 := k_15.drew 1
   refine W_m mr_mixed (.q 0 0 (.q 1 0 (.q 2 0 (.q 3 0 (.q 4 0 (.q 5 0 (.q 6 0 (.q 7 0 (.q 8 0 (.q 9 0 (.q 10 0 (.q 11 0 (.q 12 0 (.op 13 .nil)))))))))))))) [13] k_17 (.c (.s (.kk .e)) .l) (by kernel_rfl) (fun _ => ?_)
   obtain ⟨x_2, zh2, hm⟩ := ob hm
   obtain ⟨x_3, zh3, hm⟩ := ob hm
   obtain ⟨x_4, zh4, hm⟩ := ob hm
   obtain ⟨x_5, zh5, hm⟩ := ob hm
   refine MXz 13 0 (.n 39 (.u64 (x_2 ^^^ (x_3 ^^^ x_4))) (.n 40 (.v (.pointer (ixA (some ⟨g, 0, none⟩) x_1 1))) (.s .a))) (fun x hx => qV (hx.vrd 0 rfl e64 h1 0 (by kernel_rfl)) zh2 rfl (.u64 x_2) rfl <| qV (hx.vrd 2 rfl e64 v 0 (by kernel_rfl)) zh3 rfl (.u64 x_3) rfl <| qV (hx.vrd 2 rfl e64 v 0 (by kernel_rfl)) zh4 rfl (.u64 x_4) rfl <| qI g 0 zh5 <| qe) fun _ => ?_
   refine MX_op (by kernel_rfl) rfl ?_
   obtain ⟨v1, h_v1, hm⟩ := nm hm
   refine Op_vz 0 (.u64 (x_2 ^^^ (x_3 ^^^ x_4))) [.u64 (x_2 ^^^ (x_3 ^^^ x_4))] h_v1 zh5 (Pt.ix0 (Pt.at g 0) x_1 1) k_17 rfl .h rfl ?_
   intro w_10 k_18
   refine ⟨(k_18.sel (.s (.kk .e))), fun _ => ?_⟩
   refine MX_nil <| At_in <| At_go <| W_q [] (.n 25 (I (w64 (x_1 + 1))) (.ss (.kkk .z))) qe (by kernel_rfl) ?_
   exact At_rd (v1, w64 (x_1 + 1)) (Option.some.inj hm).symm ⟨v1, w64 (x_1 + 1), rfl, rfl, k_18⟩ (by kernel_rfl)
 rw [if_neg hc1] at hm
 refine W_exit (At_te (At_te (At_ie ?_)))
 have hm := exit_of hm hr0
 refine At_go <| W_seq <| W_reg <| Wl 1 (.n 42 (.agg [.ar e64 h1]) (.ss (.k .z))) (qT k_15 0 rfl 0 8 [.ar e64 h1] (by kernel_rfl) (by decide) <| qe) ?_
 refine WL_op <| Op_bz 1 (.agg [.ar e64 h1]) [.ar e64 h1] (Pt.at g3 0) k_15 rfl .all ?_
 intro w_11 k_19
 have k_20 := k_19.sel (.s (.k .z))
 refine Wn <| W_ret ?_
 obtain rfl := si hm
 refine At_rz [.agg [.ar e64 h1]] (qo (.agg [.ar e64 h1]) <| qc (fun w => Rd w (some ⟨g3, 0, none⟩) (SV.cl [.ar e64 h1])) (k_20.brd 0 rfl) <| qe) ?_
 have k_21 := k_20.sel .z
 exact ⟨rfl, k_21⟩
theorem c_node_mixBig (h : Vec UInt64 8) (b : List UInt8) (c_Lo : UInt64) (c_Hi : UInt64) (last : Bool) (node : Bool) (A_b : Option Addr) (n_b : Nat) (c_b : Nat) (h_b : Ro F w A_b (e8.all b)) (hn_b : b.length = n_b) (hc_b : n_b ≤ c_b) (k : Cx F O w w []) (r : (Vec UInt64 8)) (hm : m_node_mixBig h b c_Lo c_Hi last node = some r) :
    Calls Tryz.prog 100 (vals [.agg [.ar e64 h], sl A_b n_b c_b, .agg [.u64 c_Lo, .u64 c_Hi], .b last, .b node]) w (fun e w' => e = .returned (SV.val (.agg [.ar e64 r])) ∧ Cx F O w w' []) := by
 unfold m_node_mixBig at hm
 subst hn_b
 refine calz [.agg [.ar e64 h], sl A_b b.length c_b, .agg [.u64 c_Lo, .u64 c_Hi], .b last, .b node] Tryz.func100 rfl ?_
 refine W_seq <| W_reg <| WL_op <| Op_box [] 5 (.agg [.ar e64 h]) [.ar e64 h] (by kernel_rfl) k ?_
 intro g w_ k_
 refine WL_op <| Op_box [] 7 (.agg [.u64 c_Lo, .u64 c_Hi]) [.u64 c_Lo, .u64 c_Hi] (by kernel_rfl) k_ ?_
 intro g1 w_1 k_1
 refine WL_op <| Op_alloc [] 10 [.ar e64 (Vec.rep 8 (0 : UInt64))] (by kernel_rfl) k_1 ?_
 intro g2 w_2 k_2
 refine Wn <| W_seq <| W_reg <| We 1 (.n 14 (sl A_b b.length c_b) (.kkk (.sss .a))) ?_
 refine WL_op ?_
 obtain ⟨r_, h_r_, hm⟩ := ob hm
 refine Op_cz 15 mr_go117 (c_mixb_Words (F := N0) (O := N0) _ _ _ _ (Ro.n0 (h_b.cx k_2)) rfl hc_b (Cx.refl _) _ h_r_) ?_
 rintro e_ w_3 ⟨rfl, k_3⟩
 have k_4 := k_2.call k_3
 refine ⟨.tup [.agg [.ar e64 r_.1], I r_.2], rfl, ?_⟩
 refine We 3 (.n 16 (.agg [.ar e64 r_.1]) (.n 17 (I r_.2) (.ss .a))) ?_
 refine WL_op ?_
 have k_5 := k_4.sel (.kk (.k .e))
 refine Op_alloc [] 11 [.ar e64 (Vec.rep 16 (0 : UInt64))] (by kernel_rfl) k_5 ?_
 intro g3 w_4 k_6
 refine WL_op <| Op_bz 3 (.agg [.ar e64 r_.1]) [.ar e64 r_.1] (Pt.at g3 0) k_6 rfl .all ?_
 intro w_5 k_7
 refine We 1 (.k (.ss .a)) ?_
 refine Wn <| W_seq <| W_reg <| Wl 5 (.n 18 (.agg [.ar e64 h]) (.n 19 (.agg [.ar e64 r_.1]) (.n 20 (.agg [.u64 c_Lo, .u64 c_Hi]) (.n 21 (.b last) (.n 22 (.b node) (.s (.k .z))))))) (qT k_7 0 rfl 0 8 [.ar e64 h] (by kernel_rfl) (by decide) <| qT k_7 3 rfl 0 16 [.ar e64 r_.1] (by kernel_rfl) (by decide) <| qT k_7 1 rfl 0 2 [.u64 c_Lo, .u64 c_Hi] (by kernel_rfl) (by decide) <| qe) ?_
 refine WL_op ?_
 obtain ⟨r_1, h_r_1, hm⟩ := ob hm
 refine Op_cz 23 mr_go118 (c_mixb_F (F := N0) (O := N0) _ _ _ _ _ _ (Cx.refl _) _ h_r_1) ?_
 rintro e_ w_6 ⟨rfl, k_8⟩
 have k_9 := k_7.call k_8
 refine ⟨.agg [.ar e64 r_1], rfl, ?_⟩
 have k_10 := k_9.sel (.ss (.k .z))
 refine WL_op <| Op_bz 0 (.agg [.ar e64 r_1]) [.ar e64 r_1] (Pt.at g2 0) k_10 rfl .all ?_
 intro w_7 k_11
 refine Wn <| W_ret ?_
 obtain rfl := si hm
 refine At_rz [.agg [.ar e64 r_1]] (qo (.agg [.ar e64 r_1]) <| qc (fun w => Rd w (some ⟨g2, 0, none⟩) (SV.cl [.ar e64 r_1])) (k_11.brd 0 rfl) <| qe) ?_
 have k_12 := k_11.sel .z
 exact ⟨rfl, k_12⟩
theorem c_node_half_uint64_write (x_h : Vec UInt64 8) (x_count_Lo : UInt64) (x_count_Hi : UInt64) (x_held : List UInt8) (x_block : Int) (b : List UInt8) (g_x : Nat) (A_x_held : Option Addr) (n_x_held : Nat) (c_x_held : Nat) (A_b : Option Addr) (n_b : Nat) (c_b : Nat) (h_b : Ro F w A_b (e8.all b)) (hn_b : b.length = n_b) (hc_b : n_b ≤ c_b) (k : Cx F O w w [Bx 171 g_x [.ar e64 x_h, .u64 x_count_Lo, .u64 x_count_Hi, sl A_x_held n_x_held c_x_held, I x_block, .v (.func (.func 100) ⟨SV.vals []⟩ ⟨SV.vals []⟩), .v (.func (.func 101) ⟨SV.vals []⟩ ⟨SV.vals []⟩)], Ow e8 A_x_held n_x_held c_x_held x_held]) (r : (Vec UInt64 8 × UInt64 × UInt64 × List UInt8 × Int)) (hm : m_node_half_uint64_write x_h x_count_Lo x_count_Hi x_held x_block b = some r) :
    Calls Tryz.prog 165 (vals [pt g_x 0, sl A_b n_b c_b]) w (fun e w' => ∃ A n c, r.2.2.2.1.length = n ∧ e = .returned (SV.val (.tup [])) ∧ Cx F O w w' [Bx 171 g_x [.ar e64 r.1, .u64 r.2.1, .u64 r.2.2.1, sl A n c, I r.2.2.2.2, .v (.func (.func 100) ⟨SV.vals []⟩ ⟨SV.vals []⟩), .v (.func (.func 101) ⟨SV.vals []⟩ ⟨SV.vals []⟩)], Ow e8 A n c r.2.2.2.1]) := by
 unfold m_node_half_uint64_write at hm
 obtain rfl := k.len 1 rfl
 subst hn_b
 refine calz [pt g_x 0, sl A_b b.length c_b] Tryz.func165 rfl ?_
 refine W_block <| W_lp (m_node_half_uint64_write_l0 x_block) (fun s L wr => ∃ (x_0 : Vec UInt64 8) (x_5 : UInt64) (x_6 : UInt64) (x_7 : List UInt8) (b1 : List UInt8) (A0 : Option Addr) (n0 : Nat) (c0 : Nat) (A1 : Option Addr) (c1 : Nat), (x_0, x_5, x_6, x_7, b1) = s ∧ L = [(0, pt g_x 0), (1, sl A1 b1.length c1)] ∧ x_7.length = n0 ∧ Ro F w A1 (e8.all b1) ∧ b1.length ≤ c1 ∧ Cx F O w wr [Bx 171 g_x [.ar e64 x_0, .u64 x_5, .u64 x_6, sl A0 n0 c0, I x_block, .v (.func (.func 100) ⟨SV.vals []⟩ ⟨SV.vals []⟩), .v (.func (.func 101) ⟨SV.vals []⟩ ⟨SV.vals []⟩)], Ow e8 A0 n0 c0 x_7]) (x_h, x_count_Lo, x_count_Hi, x_held, b) r hm ⟨x_h, x_count_Lo, x_count_Hi, x_held, b, A_x_held, x_held.length, c_x_held, A_b, c_b, rfl, rfl, k.len 1 rfl, h_b, hc_b, k⟩ (by kernel_rfl) ?_
 intro s0_ L_ w_ y0 hrel hstep hr0
 obtain ⟨x_0, x_5, x_6, x_7, b1, A0, _, c0, A1, c1, rfl, rfl, rfl, h, hc, k_⟩ := hrel
 have hm := hstep; simp only [m_node_half_uint64_write_l0] at hm
 clear hstep
 refine W_seq <| Wz (.n 7 (.b (decide (0 < (b1.length : Int)))) .a) ?_
 refine W_pz (0 < (b1.length : Int)) (fun hc1 => ?_) fun hc1 => ?_
 · rw [if_pos hc1] at hm
   refine W_skip <| At_go <| W_block <| W_cut (fun L wr => ∃ (x_8 : Vec UInt64 8) (x_9 : UInt64) (x_10 : UInt64) (x_11 : List UInt8) (A2 : Option Addr) (n1 : Nat) (c2 : Nat), m_node_half_uint64_write_j0 x_block b1 x_8 x_9 x_10 x_11 = some y0 ∧ L = [(0, pt g_x 0), (1, sl A1 b1.length c1)] ∧ x_11.length = n1 ∧ Cx F O w wr [Bx 171 g_x [.ar e64 x_8, .u64 x_9, .u64 x_10, sl A2 n1 c2, I x_block, .v (.func (.func 100) ⟨SV.vals []⟩ ⟨SV.vals []⟩), .v (.func (.func 101) ⟨SV.vals []⟩ ⟨SV.vals []⟩)], Ow e8 A2 n1 c2 x_11]) ?_ ?_
   ·
    refine W_seq <| W_d mr_mixed (by kernel_rfl) (.n 17 (.b (decide ((x_7.length : Int) = x_block))) (.s .a)) (fun m => qs g_x 0 <| qs g_x 0 <| qB (k_.drew m) 0 rfl 10 (sl A0 x_7.length c0) (by kernel_rfl) <| qs g_x 0 <| qs g_x 0 <| qB (k_.drew m) 0 rfl 11 (I x_block) (by kernel_rfl) <| qe) (by kernel_rfl) (fun m_ => ?_)
    have k_1 := k_.drew m_
    refine At_go <| W_pz ((x_7.length : Int) = x_block) (fun hc2 => ?_) fun hc2 => ?_
    · rw [if_pos hc2] at hm
      refine W_seq ?_
      have k_2 := k_1.drew 1
      refine W_m mr_mixed (.q 0 1 (.q 1 1 (.q 2 1 (.q 3 1 (.q 4 0 (.q 5 1 (.q 6 1 (.q 7 1 (.q 8 1 (.q 9 0 (.op 10 (.q 11 1 (.q 12 1 (.q 13 2 (.q 14 2 (.q 15 1 (.op 16 .nil))))))))))))))))) [10, 16] k_2 (.c (.kk .e) (.c (.s (.k .e)) .l)) (by kernel_rfl) (fun _ => ?_)
      refine MXz 4 1 (.n 19 (pt g_x 0) (.n 22 (pt g_x 8) (.s .a))) (fun x hx => qs g_x 0 <| qs g_x 0 <| qe) fun _ => ?_
      refine MXz 1 0 (.n 23 (.agg [.u64 x_5, .u64 x_6]) (.k (.s .a))) (fun x hx => qT hx 0 rfl 8 2 [.u64 x_5, .u64 x_6] (by kernel_rfl) (by decide) <| qe) fun _ => ?_
      refine MXz 4 1 (.n 27 (I x_block) .a) (fun x hx => qs g_x 0 <| qs g_x 0 <| qB hx 0 rfl 11 (I x_block) (by kernel_rfl) <| qe) fun _ => ?_
      refine MXz 1 0 (.n 28 (.u64 (UInt64.ofInt x_block)) (.s .a)) (fun x hx => qe) fun _ => ?_
      refine MX_op (by kernel_rfl) rfl ?_
      obtain ⟨r_, h_r_, hm⟩ := ob hm
      refine Op_cz 29 mr_go166 (c_word_Add (F := N0) (O := N0) _ _ _ (Cx.refl _) _ h_r_) ?_
      rintro e_ w_1 ⟨rfl, k_3⟩
      have k_4 := k_2.call k_3
      refine ⟨.tup [.agg [.u64 r_.1, .u64 r_.2.1], .b r_.2.2], rfl, ?_⟩
      refine ⟨k_4, fun _ => ?_⟩
      refine MXz 2 1 (.n 18 (.tup [.agg [.u64 r_.1, .u64 r_.2.1], .b r_.2.2]) (.n 30 (.agg [.u64 r_.1, .u64 r_.2.1]) (.sss .a))) (fun x hx => qe) fun _ => ?_
      refine MXz 2 2 (.n 32 (pt g_x 0) (.s (.k (.s .a)))) (fun x hx => qs g_x 0 <| qe) fun _ => ?_
      refine MXz 1 1 (.n 33 (pt g_x 8) (.s .a)) (fun x hx => qs g_x 0 <| qe) fun _ => ?_
      refine MX_op (by kernel_rfl) rfl <| Op_bz 0 (.agg [.u64 r_.1, .u64 r_.2.1]) [.u64 r_.1, .u64 r_.2.1] (Pt.at g_x 8) k_4 rfl (.k .h2) ?_
      intro w_2 k_5
      refine ⟨(k_5.sel (.s (.k .e))), fun _ => ?_⟩
      refine MX_nil <| At_go <| W_seq ?_
      have k_6 := k_5.drew 1
      refine W_m mr_mixed (.q 0 1 (.q 1 1 (.q 2 1 (.q 3 1 (.q 4 0 (.q 5 1 (.q 6 1 (.q 7 1 (.q 8 0 (.q 9 1 (.q 10 1 (.q 11 1 (.q 12 0 (.q 13 1 (.q 14 1 (.q 15 1 (.q 16 0 (.op 17 (.q 18 2 (.q 19 1 (.op 20 .nil))))))))))))))))))))) [17, 20] k_6 (.c (.kk .e) (.c (.s (.k .e)) .l)) (by kernel_rfl) (fun _ => ?_)
      refine MXz 4 1 (.n 34 (pt g_x 0) (.n 37 (pt g_x 12) (.ss .a))) (fun x hx => qs g_x 0 <| qs g_x 0 <| qe) fun _ => ?_
      refine MXz 1 0 (.n 38 (.v (.func (.func 100) ⟨SV.vals []⟩ ⟨SV.vals []⟩)) (.k (.s .a))) (fun x hx => qB hx 0 rfl 12 (.v (.func (.func 100) ⟨SV.vals []⟩ ⟨SV.vals []⟩)) (by kernel_rfl) <| qe) fun _ => ?_
      refine MXz 3 1 (.n 41 (pt g_x 0) .a) (fun x hx => qs g_x 0 <| qs g_x 0 <| qe) fun _ => ?_
      refine MXz 1 0 (.n 42 (.agg [.ar e64 x_0]) (.s .a)) (fun x hx => qT hx 0 rfl 0 8 [.ar e64 x_0] (by kernel_rfl) (by decide) <| qe) fun _ => ?_
      refine MXz 3 1 (.n 45 (pt g_x 10) .a) (fun x hx => qs g_x 0 <| qs g_x 0 <| qe) fun _ => ?_
      refine MXz 1 0 (.n 46 (sl A0 x_7.length c0) (.s .a)) (fun x hx => qB hx 0 rfl 10 (sl A0 x_7.length c0) (by kernel_rfl) <| qe) fun _ => ?_
      refine MXz 3 1 (.n 49 (pt g_x 8) .a) (fun x hx => qs g_x 0 <| qs g_x 0 <| qe) fun _ => ?_
      refine MXz 1 0 (.n 50 (.agg [.u64 r_.1, .u64 r_.2.1]) (.s .a)) (fun x hx => qT hx 0 rfl 8 2 [.u64 r_.1, .u64 r_.2.1] (by kernel_rfl) (by decide) <| qe) fun _ => ?_
      refine MX_op (by kernel_rfl) rfl ?_
      obtain ⟨r_1, h_r_1, hm⟩ := ob hm
      refine Op_callv [] 51 [] [.agg [.ar e64 x_0], sl A0 x_7.length c0, .agg [.u64 r_.1, .u64 r_.2.1], .b false, .b false] [] mr_go100 (by kernel_rfl) (c_node_mixBig (F := N0) (O := N0) _ _ _ _ _ _ _ _ _ (Ro.n0 (k_6.rd 1 rfl)) (k_6.len 1 rfl) (k_6.lec 1 rfl) (Cx.refl _) _ h_r_1) ?_
      rintro e_ w_3 ⟨rfl, k_7⟩
      have k_8 := k_6.call k_7
      refine ⟨.agg [.ar e64 r_1], rfl, ?_⟩
      refine ⟨k_8, fun _ => ?_⟩
      refine MXz 1 2 (.n 52 (pt g_x 0) (.k (.ssss (.s .a)))) (fun x hx => qs g_x 0 <| qe) fun _ => ?_
      refine MXz 1 1 (.n 53 (pt g_x 0) (.s .a)) (fun x hx => qs g_x 0 <| qe) fun _ => ?_
      refine MX_op (by kernel_rfl) rfl <| Op_bz 0 (.agg [.ar e64 r_1]) [.ar e64 r_1] (Pt.at g_x 0) k_8 rfl .h ?_
      intro w_4 k_9
      refine ⟨(k_9.sel (.s (.k .e))), fun _ => ?_⟩
      refine MX_nil <| At_go <| W_reg ?_
      obtain ⟨b2, h_b2, hm⟩ := ob hm
      have hs := slc_some h_b2
      have hl := slc_len h_b2
      have hn : x_7.length = x_7.length := (k_9.len 1 rfl)
      have hc3 : x_7.length ≤ c0 := (k_9.lec 1 rfl)
      have hc4 : b2.length ≤ c0 := by omega
      refine Wl 8 (.n 59 (sl A0 b2.length c0) (.n 61 (pt g_x 10) (.ss .a))) (qs g_x 0 <| qs g_x 0 <| qB k_9 0 rfl 10 (sl A0 x_7.length c0) (by kernel_rfl) <| qp (0 ≤ (0 : Int) ∧ (0 : Int) ≤ (c0 : Int)) (by omega) <| qo (.v (.slice A0 b2.length c0)) <| qp (Value.slice (slA A0 0 c0 1) (Int.toNat (0 : Int) - 0) (c0 - 0) = .slice A0 b2.length c0) (slx0 _ _ _ _ _ (by omega)) <| qs g_x 0 <| qs g_x 0 <| qe) ?_
      refine WL_op ?_
      have k_10 := k_9.sel (.kk .e)
      refine Op_bz 0 (sl A0 b2.length c0) [sl A0 b2.length c0] (Pt.at g_x 10) k_10 rfl (.kk (.k .h)) ?_
      intro w_5 k_11
      refine WL_nil ?_
      have k_12 := k_11.pre 1 rfl b2.length c0 b2 (by omega) (by omega) (by omega) (slc_pre h_b2 rfl)
      exact At_cz ⟨r_1, r_.1, r_.2.1, b2, A0, b2.length, c0, hm, rfl, k_12.len 1 rfl, k_12⟩
    rw [if_neg hc2] at hm
    refine W_skip ?_
    exact At_cz ⟨x_0, x_5, x_6, x_7, A0, x_7.length, c0, hm, rfl, k_1.len 1 rfl, k_1⟩
   rintro L_ w_6 ⟨x_8, x_9, x_10, x_11, A2, _, c2, hm, rfl, rfl, k_13⟩
   simp only [m_node_half_uint64_write_j0] at hm
   refine W_seq <| W_d mr_mixed (by kernel_rfl) (.n 4 (I (if w64 (x_block - (x_11.length : Int)) < (b1.length : Int) then w64 (x_block - (x_11.length : Int)) else (b1.length : Int))) .a) (fun m => qs g_x 0 <| qs g_x 0 <| qB (k_13.drew m) 0 rfl 11 (I x_block) (by kernel_rfl) <| qs g_x 0 <| qs g_x 0 <| qB (k_13.drew m) 0 rfl 10 (sl A2 x_11.length c2) (by kernel_rfl) <| qe) (by kernel_rfl) (fun m_1 => ?_)
   have k_14 := k_13.drew m_1
   refine At_go <| W_seq ?_
   have k_15 := k_14.drew 1
   refine W_m mr_mixed (.q 0 1 (.q 1 1 (.q 2 1 (.q 3 1 (.q 4 0 (.q 5 1 (.q 6 1 (.q 7 0 (.op 8 (.q 9 2 (.q 10 1 (.op 11 .nil)))))))))))) [8, 11] k_15 (.c (.k .z) (.c (.z) .l)) (by kernel_rfl) (fun _ => ?_)
   refine MXz 4 1 (.n 75 (pt g_x 0) (.n 78 (pt g_x 10) .a)) (fun x hx => qs g_x 0 <| qs g_x 0 <| qe) fun _ => ?_
   refine MXz 1 0 (.n 79 (sl A2 x_11.length c2) (.k (.s .a))) (fun x hx => qB hx 0 rfl 10 (sl A2 x_11.length c2) (by kernel_rfl) <| qe) fun _ => ?_
   refine MXz 2 1 (.n 80 (sl A1 b1.length c1) (.n 81 (I (if w64 (x_block - (x_11.length : Int)) < (b1.length : Int) then w64 (x_block - (x_11.length : Int)) else (b1.length : Int))) .a)) (fun x hx => qe) fun _ => ?_
   obtain ⟨b3, h_b3, hm⟩ := ob hm
   have hs1 := slc_some h_b3
   have hl1 := slc_len h_b3
   have hn1 : b1.length = b1.length := rfl
   have hc5 : b1.length ≤ c1 := hc
   have hc6 : b3.length ≤ c1 := by omega
   refine MXz 1 0 (.n 82 (sl A1 b3.length c1) (.ss .a)) (fun x hx => qp (0 ≤ (if w64 (x_block - (x_11.length : Int)) < (b1.length : Int) then w64 (x_block - (x_11.length : Int)) else (b1.length : Int)) ∧ (if w64 (x_block - (x_11.length : Int)) < (b1.length : Int) then w64 (x_block - (x_11.length : Int)) else (b1.length : Int)) ≤ (c1 : Int)) (by omega) <| qo (.v (.slice A1 b3.length c1)) <| qp (Value.slice (slA A1 0 c1 1) (Int.toNat (if w64 (x_block - (x_11.length : Int)) < (b1.length : Int) then w64 (x_block - (x_11.length : Int)) else (b1.length : Int)) - 0) (c1 - 0) = .slice A1 b3.length c1) (slx0 _ _ _ _ _ (by omega)) <| qe) fun _ => ?_
   refine MX_op (by kernel_rfl) rfl ?_
   obtain ⟨b4, h_b4, hm⟩ := ob hm
   obtain ⟨hz, hl2⟩ := app_some h_b4
   refine Op_append (E := e8) (v := sl A1 b3.length c1) (ys := b3) mr_tf33 [] 83 1 (by kernel_rfl) k_15 rfl (Src.sl (Rd.pre (h.cx k_15) h_b3 rfl) rfl (by rfl)) rfl (by have := k_15.len 1 rfl; have := hm; omega) ?_
   intro A3 c3 w_7 k_16
   rw [← hl2] at k_16
   refine ⟨(k_16.sel (.k .z)), fun _ => ?_⟩
   refine MXz 1 2 (.n 84 (pt g_x 0) (.k (.sss .a))) (fun x hx => qs g_x 0 <| qe) fun _ => ?_
   refine MXz 1 1 (.n 85 (pt g_x 10) (.s .a)) (fun x hx => qs g_x 0 <| qe) fun _ => ?_
   refine MX_op (by kernel_rfl) rfl <| Op_bz 0 (sl A3 (x_11.length + b3.length) c3) [sl A3 (x_11.length + b3.length) c3] (Pt.at g_x 10) k_16 rfl (.kk (.k .h)) ?_
   intro w_8 k_17
   refine ⟨(k_17.sel .z), fun _ => ?_⟩
   refine MX_nil <| At_go ?_
   obtain ⟨b5, h_b5, hm⟩ := ob hm
   have hs2 := slc_some h_b5
   have hl3 := slc_len h_b5
   have hn2 : b1.length = b1.length := rfl
   have hc7 : b1.length ≤ c1 := hc
   obtain ⟨A4, c4, e_, hc8, hA, hc9⟩ := slx A1 (Int.toNat (if w64 (x_block - (x_11.length : Int)) < (b1.length : Int) then w64 (x_block - (x_11.length : Int)) else (b1.length : Int))) c1 1 (b1.length - Int.toNat (if w64 (x_block - (x_11.length : Int)) < (b1.length : Int) then w64 (x_block - (x_11.length : Int)) else (b1.length : Int))) b5.length (by omega) (by omega)
   refine W_q [] (.n 1 (sl A4 b5.length c4) (.sss (.k .z))) (qp (0 ≤ (if w64 (x_block - (x_11.length : Int)) < (b1.length : Int) then w64 (x_block - (x_11.length : Int)) else (b1.length : Int)) ∧ (if w64 (x_block - (x_11.length : Int)) < (b1.length : Int) then w64 (x_block - (x_11.length : Int)) else (b1.length : Int)) ≤ (b1.length : Int)) (by omega) <| qo (.v (.slice A4 b5.length c4)) <| qp (Value.slice (slA A1 (Int.toNat (if w64 (x_block - (x_11.length : Int)) < (b1.length : Int) then w64 (x_block - (x_11.length : Int)) else (b1.length : Int))) c1 1) (b1.length - Int.toNat (if w64 (x_block - (x_11.length : Int)) < (b1.length : Int) then w64 (x_block - (x_11.length : Int)) else (b1.length : Int))) (c1 - Int.toNat (if w64 (x_block - (x_11.length : Int)) < (b1.length : Int) then w64 (x_block - (x_11.length : Int)) else (b1.length : Int))) = .slice A4 b5.length c4) e_ <| qe) (by kernel_rfl) ?_
   refine At_in ?_
   exact At_rd (x_8, x_9, x_10, b4, b5) (Option.some.inj hm).symm ⟨x_8, x_9, x_10, b4, b5, A3, x_11.length + b3.length, c3, A4, c4, rfl, rfl, k_17.len 1 rfl, (Ro.cut h h_b5 rfl (by rfl) hA (by omega)), hc8, k_17⟩ (by kernel_rfl)
 rw [if_neg hc1] at hm
 refine W_exit (At_te (At_te (At_ie ?_)))
 have hm := exit_of hm hr0
 obtain rfl := si hm
 refine At_en [] qe (by kernel_rfl) ?_
 exact ⟨A0, x_7.length, c0, k_.len 1 rfl, rfl, k_⟩
theorem c_mixs_Words (b : List UInt8) (A_b : Option Addr) (n_b : Nat) (c_b : Nat) (h_b : Ro F w A_b (e8.all b)) (hn_b : b.length = n_b) (hc_b : n_b ≤ c_b) (k : Cx F O w w []) (r : (Vec UInt32 16 × Int)) (hm : m_mixs_Words b = some r) :
    Calls Tryz.prog 123 (vals [sl A_b n_b c_b]) w (fun e w' => e = .returned (SV.val (.tup [.agg [.ar e32 r.1], I r.2])) ∧ Cx F O w w' []) := by
 unfold m_mixs_Words at hm
 subst hn_b
 refine calz [sl A_b b.length c_b] Tryz.func123 rfl ?_
 refine W_seq <| W_reg <| WL_op <| Op_alloc [] 2 [.ar e32 (Vec.rep 16 (0 : UInt32))] (by kernel_rfl) k ?_
 intro g w_ k_
 refine We 1 .a ?_
 refine Wn <| W_seq <| W_reg <| WL_op <| Op_alloc [] 4 [.ar e32 (Vec.rep 16 (0 : UInt32))] (by kernel_rfl) k_ ?_
 intro g1 w_1 k_1
 refine Wn <| W_seq <| W_seq <| W_reg <| We 1 (.n 6 (sl A_b b.length c_b) .a) ?_
 refine WL_op ?_
 obtain ⟨r_, h_r_, hm⟩ := ob hm
 refine Op_cz 7 mr_go120 (c_mixs_right (F := N0) (O := N0) _ _ _ _ _ (Ro.n0 (h_b.cx k_1)) rfl hc_b (Cx.refl _) _ h_r_) ?_
 rintro e_ w_2 ⟨rfl, k_2⟩
 have k_3 := k_1.call k_2
 refine ⟨I r_, rfl, ?_⟩
 refine We 1 (.n 5 (I r_) (.ss .a)) ?_
 refine Wn <| Wz (.n 9 (.b (decide (r_ ≠ 0))) .a) ?_
 refine W_pz (r_ ≠ 0) (fun hc => ?_) fun hc => ?_
 · rw [if_pos hc] at hm
   refine W_seq <| W_reg <| Wl 2 (.n 10 (.agg [.ar e32 (Vec.rep 16 (0 : UInt32))]) (.n 11 (I r_) (.sss (.k .z)))) (qT k_3 1 rfl 0 16 [.ar e32 (Vec.rep 16 (0 : UInt32))] (by kernel_rfl) (by decide) <| qe) ?_
   refine WL_op <| Op_bz 0 (.agg [.ar e32 (Vec.rep 16 (0 : UInt32))]) [.ar e32 (Vec.rep 16 (0 : UInt32))] (Pt.at g 0) k_3 rfl .all ?_
   intro w_3 k_4
   have k_5 := k_4.sel (.k .z)
   refine We 1 (.n 3 (I r_) (.ss .a)) ?_
   refine Wn <| W_ret (At_tr ?_)
   obtain rfl := si hm
   refine At_rz [.agg [.ar e32 (Vec.rep 16 (0 : UInt32))], I r_] (qo (.agg [.ar e32 (Vec.rep 16 (0 : UInt32))]) <| qc (fun w => Rd w (some ⟨g, 0, none⟩) (SV.cl [.ar e32 (Vec.rep 16 (0 : UInt32))])) (k_5.brd 0 rfl) <| qe) ?_
   have k_6 := k_5.sel .z
   exact ⟨rfl, k_6⟩
 rw [if_neg hc] at hm
 refine W_skip <| At_go <| W_seq <| W_reg <| Wl 2 (.n 12 (sl (some ⟨g1, 0, none⟩) 16 16) (.n 13 (sl A_b b.length c_b) (.ss (.kk .z)))) (qo (.v (.slice (some ⟨g1, 0, none⟩) 16 16)) <| qp (((some ⟨g1, 0, none⟩) : Option Addr).isSome = true ∧ Value.slice (slA (some ⟨g1, 0, none⟩) 0 16 1) (16 - 0) (16 - 0) = .slice (some ⟨g1, 0, none⟩) 16 16) ⟨rfl, slx0 _ _ _ _ _ rfl⟩ <| qe) ?_
 refine WL_op ?_
 have k_7 := k_3.openV [] [] 1 rfl
 obtain ⟨r_1, h_r_1, hm⟩ := ob hm
 obtain ⟨F1, O1, kin, hO, hre, hF, hb⟩ := k_7.go (.r (.i .e))
 refine Op_cz 14 mr_go121 (c_mixs_words (F := F1) (O := O1) _ _ _ _ _ _ _ _ _ (Nat.le_refl _) (Ro.of_old h_b k_7 hF) rfl hc_b kin _ h_r_1) ?_
 rintro e_ w_4 ⟨rfl, k_8⟩
 have k_9 := hb w_4 _ _ k_8 (.c .n)
 refine ⟨.tup [], rfl, ?_⟩
 have k_10 := k_9.shutV [] [] 0 rfl (Vec.of 16 r_1) (Vec.of_l (k_9.mlen 0 rfl))
 refine Wn <| W_seq <| W_reg <| Wl 1 (.n 15 (.agg [.ar e32 (Vec.of 16 r_1)]) (.ssss .a)) (qT k_10 0 rfl 0 16 [.ar e32 (Vec.of 16 r_1)] (by kernel_rfl) (by decide) <| qe) ?_
 refine WL_op ?_
 have k_11 := k_10.sel (.kk .e)
 refine Op_bz 1 (.agg [.ar e32 (Vec.of 16 r_1)]) [.ar e32 (Vec.of 16 r_1)] (Pt.at g 0) k_11 rfl .all ?_
 intro w_5 k_12
 have k_13 := k_12.sel (.s (.k .e))
 refine We 1 (.n 3 (I 0) (.s .a)) ?_
 refine Wn <| W_ret ?_
 obtain rfl := si hm
 refine At_rz [.agg [.ar e32 (Vec.of 16 r_1)], I 0] (qo (.agg [.ar e32 (Vec.of 16 r_1)]) <| qc (fun w => Rd w (some ⟨g, 0, none⟩) (SV.cl [.ar e32 (Vec.of 16 r_1)])) (k_13.brd 0 rfl) <| qe) ?_
 have k_14 := k_13.sel .z
 exact ⟨rfl, k_14⟩
theorem c_mixs_Begin (h : Vec UInt32 8) (count : UInt64) (last : Bool) (node : Bool) (k : Cx F O w w []) (r : (Vec UInt32 16)) (hm : m_mixs_Begin h count last node = some r) :
    Calls Tryz.prog 135 (vals [.agg [.ar e32 h], .u64 count, .b last, .b node]) w (fun e w' => e = .returned (SV.val (.agg [.ar e32 r])) ∧ Cx F O w w' []) := by
 unfold m_mixs_Begin at hm
 refine calz [.agg [.ar e32 h], .u64 count, .b last, .b node] Tryz.func135 rfl ?_
 refine W_seq <| W_reg <| WL_op <| Op_box [] 4 (.agg [.ar e32 h]) [.ar e32 h] (by kernel_rfl) k ?_
 intro g w_ k_
 refine WL_op <| Op_alloc [] 8 [.ar e32 (Vec.rep 16 (0 : UInt32))] (by kernel_rfl) k_ ?_
 intro g1 w_1 k_1
 refine Wn <| W_seq <| W_reg <| WL_op <| Op_alloc [] 9 [.ar e32 (Vec.rep 16 (0 : UInt32))] (by kernel_rfl) k_1 ?_
 intro g2 w_2 k_2
 refine Wn <| W_seq <| W_reg <| WL_op ?_
 obtain ⟨r_, h_r_, hm⟩ := ob hm
 refine Op_cz 11 mr_go122 (c_mixs_IV (F := N0) (O := N0)  (Cx.refl _) _ h_r_) ?_
 rintro e_ w_3 ⟨rfl, k_3⟩
 have k_4 := k_2.call k_3
 refine ⟨.agg [.ar e32 r_], rfl, ?_⟩
 refine WL_op ?_
 have k_5 := k_4.sel (.kk (.k .e))
 refine Op_alloc [] 10 [.ar e32 (Vec.rep 8 (0 : UInt32))] (by kernel_rfl) k_5 ?_
 intro g3 w_4 k_6
 refine WL_op <| Op_bz 3 (.agg [.ar e32 r_]) [.ar e32 r_] (Pt.at g3 0) k_6 rfl .all ?_
 intro w_5 k_7
 refine Wn <| W_seq ?_
 have k_8 := k_7.drew 1
 refine W_m mr_mixed (.q 0 0 (.q 1 0 (.op 2 .nil))) [2] k_8 (.c (.kk (.s (.k .e))) .l) (by kernel_rfl) (fun _ => ?_)
 obtain ⟨b, h_b, hm⟩ := ob hm
 have hs := slc_some h_b
 have hl := slc_len h_b
 have hn : ((Vec.rep 16 (0 : UInt32)).l).length = 16 := (Vec.rep 16 (0 : UInt32)).h
 have hc : 16 ≤ 16 := (Nat.le_refl _)
 have hc1 : b.length ≤ 16 := by omega
 refine MXz 2 0 (.n 12 (sl (some ⟨g2, 0, none⟩) b.length 16) (.n 13 (sl (some ⟨g, 0, none⟩) 8 8) (.k (.s (.kk (.ss .a)))))) (fun x hx => qp (0 ≤ (8 : Int) ∧ (8 : Int) ≤ ((16 : Nat) : Int)) (by omega) <| qo (.v (.slice (some ⟨g2, 0, none⟩) b.length 16)) <| qp (((some ⟨g2, 0, none⟩) : Option Addr).isSome = true ∧ Value.slice (slA (some ⟨g2, 0, none⟩) 0 16 1) (Int.toNat (8 : Int) - 0) (16 - 0) = .slice (some ⟨g2, 0, none⟩) b.length 16) ⟨rfl, slx0 _ _ _ _ _ (by omega)⟩ <| qo (.v (.slice (some ⟨g, 0, none⟩) 8 8)) <| qp (((some ⟨g, 0, none⟩) : Option Addr).isSome = true ∧ Value.slice (slA (some ⟨g, 0, none⟩) 0 8 1) (8 - 0) (8 - 0) = .slice (some ⟨g, 0, none⟩) 8 8) ⟨rfl, slx0 _ _ _ _ _ rfl⟩ <| qe) fun _ => ?_
 refine MX_op (by kernel_rfl) rfl <| Op_vcp (E := e32) (dn := b.length) (dc := 16) (v := sl (some ⟨g, 0, none⟩) 8 8) (src := h.l) (lo := 0) (m' := 16) mr_tf199 [] 14 2 [] [] (Vec.rep 16 (0 : UInt32)) (by kernel_rfl) (slA_zero _ _ _).symm k_8 rfl (Src.sl (Rd.vec (k_8.brd 0 rfl) (c := Enc.all e32 h.l) (off := 0) (by kernel_rfl)) h.h (by rfl)) h.h (by have := (Vec.rep 16 (0 : UInt32)).h; omega) (by omega) (by omega) ?_
 intro w_6 k_9
 refine ⟨(k_9.sel (.kk (.s (.k .e)))), fun _ => ?_⟩
 refine MX_nil <| At_go <| W_seq ?_
 have k_10 := k_9.drew 1
 refine W_m mr_mixed (.q 0 0 (.q 1 0 (.op 2 .nil))) [2] k_10 (.c (.kk (.s (.k .e))) .l) (by kernel_rfl) (fun _ => ?_)
 obtain ⟨b1, h_b1, hm⟩ := ob hm
 have hs1 := slc_some h_b1
 have hl1 := slc_len h_b1
 have hn1 : ((vcp (Vec.rep 16 (0 : UInt32)) 0 b.length h.l).l).length = 16 := (vcp (Vec.rep 16 (0 : UInt32)) 0 b.length h.l).h
 have hc2 : 16 ≤ 16 := (Nat.le_refl _)
 obtain ⟨A, c, e_, hc3, hA, hc4⟩ := slx (some ⟨g2, 0, none⟩) (Int.toNat (8 : Int)) 16 1 (16 - Int.toNat (8 : Int)) b1.length (by omega) (by omega)
 refine MXz 2 0 (.n 15 (sl A b1.length c) (.n 16 (sl (some ⟨g3, 0, none⟩) 8 8) (.ssss .a))) (fun x hx => qp (0 ≤ (8 : Int) ∧ (8 : Int) ≤ ((16 : Nat) : Int)) (by omega) <| qo (.v (.slice A b1.length c)) <| qp (((some ⟨g2, 0, none⟩) : Option Addr).isSome = true ∧ Value.slice (slA (some ⟨g2, 0, none⟩) (Int.toNat (8 : Int)) 16 1) (16 - Int.toNat (8 : Int)) (16 - Int.toNat (8 : Int)) = .slice A b1.length c) ⟨rfl, e_⟩ <| qo (.v (.slice (some ⟨g3, 0, none⟩) 8 8)) <| qp (((some ⟨g3, 0, none⟩) : Option Addr).isSome = true ∧ Value.slice (slA (some ⟨g3, 0, none⟩) 0 8 1) (8 - 0) (8 - 0) = .slice (some ⟨g3, 0, none⟩) 8 8) ⟨rfl, slx0 _ _ _ _ _ rfl⟩ <| qe) fun _ => ?_
 refine MX_op (by kernel_rfl) rfl <| Op_vcp (E := e32) (dn := b1.length) (dc := c) (v := sl (some ⟨g3, 0, none⟩) 8 8) (src := r_.l) (lo := Int.toNat (8 : Int)) (m' := 16) mr_tf199 [] 17 2 [] [] (vcp (Vec.rep 16 (0 : UInt32)) 0 b.length h.l) (by kernel_rfl) hA k_10 rfl (Src.sl (Rd.vec (k_10.brd 3 rfl) (c := Enc.all e32 r_.l) (off := 0) (by kernel_rfl)) r_.h (by rfl)) r_.h (by have := (vcp (Vec.rep 16 (0 : UInt32)) 0 b.length h.l).h; omega) (by omega) (by omega) ?_
 intro w_7 k_11
 refine ⟨(k_11.sel (.kk (.s (.k .e)))), fun _ => ?_⟩
 refine MX_nil <| At_go <| W_seq <| W_reg ?_
 obtain ⟨x_0, zh0, hm⟩ := ob hm
 obtain ⟨x_1, zh1, hm⟩ := ob hm
 refine Wl 6 (.n 22 (.u32 (x_0 ^^^ (UInt32.ofNat count.toNat))) (.n 23 (.v (.pointer (ixA (some ⟨g2, 0, none⟩) (12 : Int) 1))) (.sss .a))) (qV (k_11.vrd 2 rfl e32 (vcp (vcp (Vec.rep 16 (0 : UInt32)) 0 b.length h.l) (Int.toNat (8 : Int)) b1.length r_.l) 0 (by kernel_rfl)) zh0 rfl (.u32 x_0) rfl <| qI g2 0 zh1 <| qe) ?_
 refine WL_op ?_
 have k_12 := k_11.sel (.kkkk .e)
 obtain ⟨v, h_v, hm⟩ := nm hm
 refine Op_vz 2 (.u32 (x_0 ^^^ (UInt32.ofNat count.toNat))) [.u32 (x_0 ^^^ (UInt32.ofNat count.toNat))] h_v zh1 (Pt.ix0 (Pt.at g2 0) (12 : Int) 1) k_12 rfl .h rfl ?_
 intro w_8 k_13
 refine Wn <| W_seq <| W_reg ?_
 obtain ⟨x_2, zh2, hm⟩ := ob hm
 obtain ⟨x_3, zh3, hm⟩ := ob hm
 refine Wl 7 (.n 29 (.u32 (x_2 ^^^ (UInt32.ofNat (shr64 count ((32 : UInt64).toNat)).toNat))) (.n 30 (.v (.pointer (ixA (some ⟨g2, 0, none⟩) (13 : Int) 1))) (.ss (.kk (.s .a))))) (qV (k_13.vrd 2 rfl e32 v 0 (by kernel_rfl)) zh2 rfl (.u32 x_2) rfl <| qI g2 0 zh3 <| qe) ?_
 refine WL_op ?_
 obtain ⟨v1, h_v1, hm⟩ := nm hm
 refine Op_vz 2 (.u32 (x_2 ^^^ (UInt32.ofNat (shr64 count ((32 : UInt64).toNat)).toNat))) [.u32 (x_2 ^^^ (UInt32.ofNat (shr64 count ((32 : UInt64).toNat)).toNat))] h_v1 zh3 (Pt.ix0 (Pt.at g2 0) (13 : Int) 1) k_13 rfl .h rfl ?_
 intro w_9 k_14
 refine Wn <| W_cut (fun L wr => ∃ (v2 : Vec UInt32 16), m_mixs_Begin_j0 node v2 = some r ∧ L = [(3, .b node), (8, pt g1 0), (9, pt g2 0)] ∧ Cx F O w wr [Bx 144 g1 [.ar e32 (Vec.rep 16 (0 : UInt32))], Bx 144 g2 [.ar e32 v2]]) ?_ ?_
 ·
  refine Wz (.n 31 (.b last) (.ss (.kk (.s .a)))) ?_
  refine W_cz last (fun hc5 => ?_) fun hc5 => ?_
  · rw [if_pos hc5] at hm
    refine W_reg ?_
    obtain ⟨x_4, zh4, hm⟩ := ob hm
    obtain ⟨x_5, zh5, hm⟩ := ob hm
    refine Wl 4 (.n 34 (.u32 (4294967295 ^^^ x_4)) (.n 35 (.v (.pointer (ixA (some ⟨g2, 0, none⟩) (14 : Int) 1))) (.s .a))) (qV (k_14.vrd 2 rfl e32 v1 0 (by kernel_rfl)) zh4 rfl (.u32 x_4) rfl <| qI g2 0 zh5 <| qe) ?_
    refine WL_op ?_
    obtain ⟨v3, h_v3, hm⟩ := nm hm
    refine Op_vz 2 (.u32 (4294967295 ^^^ x_4)) [.u32 (4294967295 ^^^ x_4)] h_v3 zh5 (Pt.ix0 (Pt.at g2 0) (14 : Int) 1) k_14 rfl .h rfl ?_
    intro w_10 k_15
    refine WL_nil ?_
    have k_16 := k_15.sel (.s (.kk .z))
    exact At_cz ⟨v3, hm, rfl, k_16⟩
  rw [if_neg (by rw [hc5]; decide)] at hm
  refine W_skip ?_
  have k_17 := k_14.sel (.s (.kk .z))
  exact At_cz ⟨v1, hm, rfl, k_17⟩
 rintro L_ w_11 ⟨v2, hm, rfl, k_18⟩
 simp only [m_mixs_Begin_j0] at hm
 refine W_cut (fun L wr => ∃ (v4 : Vec UInt32 16), m_mixs_Begin_j1 v4 = some r ∧ L = [(8, pt g1 0), (9, pt g2 0)] ∧ Cx F O w wr [Bx 144 g1 [.ar e32 (Vec.rep 16 (0 : UInt32))], Bx 144 g2 [.ar e32 v4]]) ?_ ?_
 ·
  refine Wz (.n 36 (.b node) (.s .a)) ?_
  refine W_cz node (fun hc6 => ?_) fun hc6 => ?_
  · rw [if_pos hc6] at hm
    refine W_reg ?_
    obtain ⟨x_6, zh6, hm⟩ := ob hm
    obtain ⟨x_7, zh7, hm⟩ := ob hm
    refine Wl 4 (.n 39 (.u32 (4294967295 ^^^ x_6)) (.n 40 (.v (.pointer (ixA (some ⟨g2, 0, none⟩) (15 : Int) 1))) (.s .a))) (qV (k_18.vrd 1 rfl e32 v2 0 (by kernel_rfl)) zh6 rfl (.u32 x_6) rfl <| qI g2 0 zh7 <| qe) ?_
    refine WL_op ?_
    obtain ⟨v5, h_v5, hm⟩ := nm hm
    refine Op_vz 1 (.u32 (4294967295 ^^^ x_6)) [.u32 (4294967295 ^^^ x_6)] h_v5 zh7 (Pt.ix0 (Pt.at g2 0) (15 : Int) 1) k_18 rfl .h rfl ?_
    intro w_12 k_19
    refine WL_nil ?_
    exact At_cz ⟨v5, hm, rfl, k_19⟩
  rw [if_neg (by rw [hc6]; decide)] at hm
  refine W_skip ?_
  exact At_cz ⟨v2, hm, rfl, k_18⟩
 rintro L_ w_13 ⟨v4, hm, rfl, k_20⟩
 simp only [m_mixs_Begin_j1] at hm
 refine W_seq <| W_reg <| Wl 1 (.n 41 (.agg [.ar e32 v4]) (.k .z)) (qT k_20 1 rfl 0 16 [.ar e32 v4] (by kernel_rfl) (by decide) <| qe) ?_
 refine WL_op <| Op_bz 0 (.agg [.ar e32 v4]) [.ar e32 v4] (Pt.at g1 0) k_20 rfl .all ?_
 intro w_14 k_21
 have k_22 := k_21.sel (.k .z)
 refine Wn <| W_ret ?_
 obtain rfl := si hm
 refine At_rz [.agg [.ar e32 v4]] (qo (.agg [.ar e32 v4]) <| qc (fun w => Rd w (some ⟨g1, 0, none⟩) (SV.cl [.ar e32 v4])) (k_22.brd 0 rfl) <| qe) ?_
 have k_23 := k_22.sel .z
 exact ⟨rfl, k_23⟩
theorem c_mixs_places (k : Cx F O w w []) (r : (Vec (Vec Int 4) 8)) (hm : m_mixs_places = some r) :
    Calls Tryz.prog 141 (vals []) w (fun e w' => e = .returned (SV.val (.agg [.ar (eV eI 4) r])) ∧ Cx F O w w' []) := by
 unfold m_mixs_places at hm
 refine calz [] Tryz.func141 rfl ?_
 refine W_seq <| W_reg <| WL_op <| Op_alloc [] 0 [.ar (eV eI 4) (Vec.rep 8 (Vec.rep 4 (0 : Int)))] (by kernel_rfl) k ?_
 intro g w_ k_
 refine Wn <| W_seq <| W_reg <| We 9 (.n 9 (.agg [.ar (eV eI 4) (⟨[(⟨[(0 : Int), (4 : Int), (8 : Int), (12 : Int)], rfl⟩ : Vec Int 4), (⟨[(1 : Int), (5 : Int), (9 : Int), (13 : Int)], rfl⟩ : Vec Int 4), (⟨[(2 : Int), (6 : Int), (10 : Int), (14 : Int)], rfl⟩ : Vec Int 4), (⟨[(3 : Int), (7 : Int), (11 : Int), (15 : Int)], rfl⟩ : Vec Int 4), (⟨[(0 : Int), (5 : Int), (10 : Int), (15 : Int)], rfl⟩ : Vec Int 4), (⟨[(1 : Int), (6 : Int), (11 : Int), (12 : Int)], rfl⟩ : Vec Int 4), (⟨[(2 : Int), (7 : Int), (8 : Int), (13 : Int)], rfl⟩ : Vec Int 4), (⟨[(3 : Int), (4 : Int), (9 : Int), (14 : Int)], rfl⟩ : Vec Int 4)], rfl⟩ : Vec (Vec Int 4) 8)]) .a) ?_
 refine WL_op <| Op_bz 0 (.agg [.ar (eV eI 4) (⟨[(⟨[(0 : Int), (4 : Int), (8 : Int), (12 : Int)], rfl⟩ : Vec Int 4), (⟨[(1 : Int), (5 : Int), (9 : Int), (13 : Int)], rfl⟩ : Vec Int 4), (⟨[(2 : Int), (6 : Int), (10 : Int), (14 : Int)], rfl⟩ : Vec Int 4), (⟨[(3 : Int), (7 : Int), (11 : Int), (15 : Int)], rfl⟩ : Vec Int 4), (⟨[(0 : Int), (5 : Int), (10 : Int), (15 : Int)], rfl⟩ : Vec Int 4), (⟨[(1 : Int), (6 : Int), (11 : Int), (12 : Int)], rfl⟩ : Vec Int 4), (⟨[(2 : Int), (7 : Int), (8 : Int), (13 : Int)], rfl⟩ : Vec Int 4), (⟨[(3 : Int), (4 : Int), (9 : Int), (14 : Int)], rfl⟩ : Vec Int 4)], rfl⟩ : Vec (Vec Int 4) 8)]) [.ar (eV eI 4) (⟨[(⟨[(0 : Int), (4 : Int), (8 : Int), (12 : Int)], rfl⟩ : Vec Int 4), (⟨[(1 : Int), (5 : Int), (9 : Int), (13 : Int)], rfl⟩ : Vec Int 4), (⟨[(2 : Int), (6 : Int), (10 : Int), (14 : Int)], rfl⟩ : Vec Int 4), (⟨[(3 : Int), (7 : Int), (11 : Int), (15 : Int)], rfl⟩ : Vec Int 4), (⟨[(0 : Int), (5 : Int), (10 : Int), (15 : Int)], rfl⟩ : Vec Int 4), (⟨[(1 : Int), (6 : Int), (11 : Int), (12 : Int)], rfl⟩ : Vec Int 4), (⟨[(2 : Int), (7 : Int), (8 : Int), (13 : Int)], rfl⟩ : Vec Int 4), (⟨[(3 : Int), (4 : Int), (9 : Int), (14 : Int)], rfl⟩ : Vec Int 4)], rfl⟩ : Vec (Vec Int 4) 8)] (Pt.at g 0) k_ rfl .all ?_
 intro w_1 k_1
 refine Wn <| W_ret ?_
 obtain rfl := si hm
 refine At_rz [.agg [.ar (eV eI 4) (⟨[(⟨[(0 : Int), (4 : Int), (8 : Int), (12 : Int)], rfl⟩ : Vec Int 4), (⟨[(1 : Int), (5 : Int), (9 : Int), (13 : Int)], rfl⟩ : Vec Int 4), (⟨[(2 : Int), (6 : Int), (10 : Int), (14 : Int)], rfl⟩ : Vec Int 4), (⟨[(3 : Int), (7 : Int), (11 : Int), (15 : Int)], rfl⟩ : Vec Int 4), (⟨[(0 : Int), (5 : Int), (10 : Int), (15 : Int)], rfl⟩ : Vec Int 4), (⟨[(1 : Int), (6 : Int), (11 : Int), (12 : Int)], rfl⟩ : Vec Int 4), (⟨[(2 : Int), (7 : Int), (8 : Int), (13 : Int)], rfl⟩ : Vec Int 4), (⟨[(3 : Int), (4 : Int), (9 : Int), (14 : Int)], rfl⟩ : Vec Int 4)], rfl⟩ : Vec (Vec Int 4) 8)]] (qo (.agg [.ar (eV eI 4) (⟨[(⟨[(0 : Int), (4 : Int), (8 : Int), (12 : Int)], rfl⟩ : Vec Int 4), (⟨[(1 : Int), (5 : Int), (9 : Int), (13 : Int)], rfl⟩ : Vec Int 4), (⟨[(2 : Int), (6 : Int), (10 : Int), (14 : Int)], rfl⟩ : Vec Int 4), (⟨[(3 : Int), (7 : Int), (11 : Int), (15 : Int)], rfl⟩ : Vec Int 4), (⟨[(0 : Int), (5 : Int), (10 : Int), (15 : Int)], rfl⟩ : Vec Int 4), (⟨[(1 : Int), (6 : Int), (11 : Int), (12 : Int)], rfl⟩ : Vec Int 4), (⟨[(2 : Int), (7 : Int), (8 : Int), (13 : Int)], rfl⟩ : Vec Int 4), (⟨[(3 : Int), (4 : Int), (9 : Int), (14 : Int)], rfl⟩ : Vec Int 4)], rfl⟩ : Vec (Vec Int 4) 8)]) <| qc (fun w => Rd w (some ⟨g, 0, none⟩) (SV.cl [.ar (eV eI 4) (⟨[(⟨[(0 : Int), (4 : Int), (8 : Int), (12 : Int)], rfl⟩ : Vec Int 4), (⟨[(1 : Int), (5 : Int), (9 : Int), (13 : Int)], rfl⟩ : Vec Int 4), (⟨[(2 : Int), (6 : Int), (10 : Int), (14 : Int)], rfl⟩ : Vec Int 4), (⟨[(3 : Int), (7 : Int), (11 : Int), (15 : Int)], rfl⟩ : Vec Int 4), (⟨[(0 : Int), (5 : Int), (10 : Int), (15 : Int)], rfl⟩ : Vec Int 4), (⟨[(1 : Int), (6 : Int), (11 : Int), (12 : Int)], rfl⟩ : Vec Int 4), (⟨[(2 : Int), (7 : Int), (8 : Int), (13 : Int)], rfl⟩ : Vec Int 4), (⟨[(3 : Int), (4 : Int), (9 : Int), (14 : Int)], rfl⟩ : Vec Int 4)], rfl⟩ : Vec (Vec Int 4) 8)])) (k_1.brd 0 rfl) <| qe) ?_
 have k_2 := k_1.sel .z
 exact ⟨rfl, k_2⟩
theorem c_bits_RotateLeft32 (x_ : UInt32) (k_ : Int) (k : Cx F O w w []) (r : UInt32) (hm : m_bits_RotateLeft32 x_ k_ = some r) :
    Calls Tryz.prog 144 (vals [.u32 x_, I k_]) w (fun e w' => e = .returned (SV.val (.u32 r)) ∧ Cx F O w w' []) := by
 unfold m_bits_RotateLeft32 at hm
 refine calz [.u32 x_, I k_] Tryz.func144 rfl ?_
 refine Wz .a ?_
 refine Wz (.n 5 (.u64 ((UInt64.ofInt k_) &&& 31)) (.k .z)) ?_
 refine Wz (.n 4 (.u32 ((shl32 x_ (((UInt64.ofInt k_) &&& 31).toNat)) ||| (shr32 x_ (((32 : UInt64) - ((UInt64.ofInt k_) &&& 31)).toNat)))) .z) ?_
 refine W_ret ?_
 obtain rfl := si hm
 refine At_rz [.u32 ((shl32 x_ (((UInt64.ofInt k_) &&& 31).toNat)) ||| (shr32 x_ (((32 : UInt64) - ((UInt64.ofInt k_) &&& 31)).toNat)))] qe ?_
 exact ⟨rfl, k⟩
theorem c_mixs_mix (v : Vec UInt32 16) (a_ : Int) (b : Int) (c : Int) (d : Int) (x_ : UInt32) (y_ : UInt32) (g_v : Nat) (k : Cx F O w w [Bx 144 g_v [.ar e32 v]]) (r : (Vec UInt32 16)) (hm : m_mixs_mix v a_ b c d x_ y_ = some r) :
    Calls Tryz.prog 142 (vals [pt g_v 0, I a_, I b, I c, I d, .u32 x_, .u32 y_]) w (fun e w' => e = .returned (SV.val (.tup [])) ∧ Cx F O w w' [Bx 144 g_v [.ar e32 r]]) := by
 unfold m_mixs_mix at hm
 refine calz [pt g_v 0, I a_, I b, I c, I d, .u32 x_, .u32 y_] Tryz.func142 rfl ?_
 refine W_seq ?_
 have k_ := k.drew 1
 refine W_m mr_mixed (.q 0 0 (.q 1 0 (.q 2 0 (.q 3 0 (.q 4 0 (.q 5 0 (.q 6 0 (.q 7 0 (.q 8 0 (.q 9 0 (.q 10 0 (.q 11 0 (.q 12 0 (.q 13 1 (.q 14 0 (.op 15 .nil)))))))))))))))) [15] k_ (.c (.z) .l) (by kernel_rfl) (fun _ => ?_)
 obtain ⟨x_2, zh2, hm⟩ := ob hm
 obtain ⟨x_3, zh3, hm⟩ := ob hm
 refine MXz 13 0 (.n 14 (pt g_v 0) (.n 15 (I a_) (.n 26 (.u32 (x_2 + (x_3 + x_))) (.kkkk (.k (.s .a)))))) (fun x hx => qs g_v 0 <| qV (hx.vrd 0 rfl e32 v 0 (by kernel_rfl)) zh2 rfl (.u32 x_2) rfl <| qs g_v 0 <| qV (hx.vrd 0 rfl e32 v 0 (by kernel_rfl)) zh3 rfl (.u32 x_3) rfl <| qe) fun _ => ?_
 refine MXz 1 1 (.n 27 (pt g_v 0) (.s .a)) (fun x hx => qs g_v 0 <| qe) fun _ => ?_
 obtain ⟨x_4, zh4, hm⟩ := ob hm
 refine MXz 1 0 (.n 28 (.v (.pointer (ixA (some ⟨g_v, 0, none⟩) a_ 1))) (.ss .a)) (fun x hx => qI g_v 0 zh4 <| qe) fun _ => ?_
 refine MX_op (by kernel_rfl) rfl ?_
 obtain ⟨v1, h_v1, hm⟩ := nm hm
 refine Op_vz 0 (.u32 (x_2 + (x_3 + x_))) [.u32 (x_2 + (x_3 + x_))] h_v1 zh4 (Pt.ix0 (Pt.at g_v 0) a_ 1) k_ rfl .h rfl ?_
 intro w_ k_1
 refine ⟨(k_1.sel .z), fun _ => ?_⟩
 refine MX_nil <| At_go <| W_seq ?_
 have k_2 := k_1.drew 1
 refine W_m mr_mixed (.q 0 1 (.q 1 1 (.q 2 1 (.q 3 1 (.q 4 1 (.q 5 1 (.q 6 1 (.q 7 1 (.q 8 1 (.q 9 1 (.q 10 1 (.q 11 1 (.q 12 0 (.q 14 2 (.op 13 (.q 15 1 (.op 16 .nil))))))))))))))))) [13, 16] k_2 (.c (.k .e) (.c (.z) .l)) (by kernel_rfl) (fun _ => ?_)
 obtain ⟨x_5, zh5, hm⟩ := ob hm
 obtain ⟨x_6, zh6, hm⟩ := ob hm
 refine MXz 12 1 (.n 29 (pt g_v 0) (.n 30 (I d) (.n 35 (.u32 x_5) (.n 40 (.u32 x_6) (.ss .a))))) (fun x hx => qs g_v 0 <| qV (hx.vrd 0 rfl e32 v1 0 (by kernel_rfl)) zh5 rfl (.u32 x_5) rfl <| qs g_v 0 <| qV (hx.vrd 0 rfl e32 v1 0 (by kernel_rfl)) zh6 rfl (.u32 x_6) rfl <| qe) fun _ => ?_
 refine MXz 1 0 (.n 41 (.u32 (x_5 ^^^ x_6)) (.kk (.ss .a))) (fun x hx => qe) fun _ => ?_
 refine MXz 1 2 (.n 43 (pt g_v 0) (.k (.s .a))) (fun x hx => qs g_v 0 <| qe) fun _ => ?_
 refine MX_op (by kernel_rfl) rfl ?_
 obtain ⟨r_, h_r_, hm⟩ := ob hm
 refine Op_cz 42 mr_go144 (c_bits_RotateLeft32 (F := N0) (O := N0) _ _ (Cx.refl _) _ h_r_) ?_
 rintro e_ w_1 ⟨rfl, k_3⟩
 have k_4 := k_2.call k_3
 refine ⟨.u32 r_, rfl, ?_⟩
 refine ⟨k_4, fun _ => ?_⟩
 obtain ⟨x_7, zh7, hm⟩ := ob hm
 refine MXz 1 1 (.n 44 (.v (.pointer (ixA (some ⟨g_v, 0, none⟩) d 1))) (.k (.sss .a))) (fun x hx => qI g_v 0 zh7 <| qe) fun _ => ?_
 refine MX_op (by kernel_rfl) rfl ?_
 obtain ⟨v2, h_v2, hm⟩ := nm hm
 refine Op_vz 0 (.u32 r_) [.u32 r_] h_v2 zh7 (Pt.ix0 (Pt.at g_v 0) d 1) k_4 rfl .h rfl ?_
 intro w_2 k_5
 refine ⟨(k_5.sel .z), fun _ => ?_⟩
 refine MX_nil <| At_go <| W_seq ?_
 have k_6 := k_5.drew 1
 refine W_m mr_mixed (.q 0 0 (.q 1 0 (.q 2 0 (.q 3 0 (.q 4 0 (.q 5 0 (.q 6 0 (.q 7 0 (.q 8 0 (.q 9 0 (.q 10 0 (.q 11 1 (.q 12 0 (.op 13 .nil)))))))))))))) [13] k_6 (.c (.z) .l) (by kernel_rfl) (fun _ => ?_)
 obtain ⟨x_8, zh8, hm⟩ := ob hm
 obtain ⟨x_9, zh9, hm⟩ := ob hm
 refine MXz 11 0 (.n 45 (pt g_v 0) (.n 46 (I c) (.n 55 (.u32 (x_8 + x_9)) (.ss .a)))) (fun x hx => qs g_v 0 <| qV (hx.vrd 0 rfl e32 v2 0 (by kernel_rfl)) zh8 rfl (.u32 x_8) rfl <| qs g_v 0 <| qV (hx.vrd 0 rfl e32 v2 0 (by kernel_rfl)) zh9 rfl (.u32 x_9) rfl <| qe) fun _ => ?_
 refine MXz 1 1 (.n 56 (pt g_v 0) (.s .a)) (fun x hx => qs g_v 0 <| qe) fun _ => ?_
 obtain ⟨x_10, zh10, hm⟩ := ob hm
 refine MXz 1 0 (.n 57 (.v (.pointer (ixA (some ⟨g_v, 0, none⟩) c 1))) (.ss .a)) (fun x hx => qI g_v 0 zh10 <| qe) fun _ => ?_
 refine MX_op (by kernel_rfl) rfl ?_
 obtain ⟨v3, h_v3, hm⟩ := nm hm
 refine Op_vz 0 (.u32 (x_8 + x_9)) [.u32 (x_8 + x_9)] h_v3 zh10 (Pt.ix0 (Pt.at g_v 0) c 1) k_6 rfl .h rfl ?_
 intro w_3 k_7
 refine ⟨(k_7.sel .z), fun _ => ?_⟩
 refine MX_nil <| At_go <| W_seq ?_
 have k_8 := k_7.drew 1
 refine W_m mr_mixed (.q 0 1 (.q 1 1 (.q 2 1 (.q 3 1 (.q 4 1 (.q 5 1 (.q 6 1 (.q 7 1 (.q 8 1 (.q 9 1 (.q 10 1 (.q 11 1 (.q 12 0 (.q 14 2 (.op 13 (.q 15 1 (.op 16 .nil))))))))))))))))) [13, 16] k_8 (.c (.k .e) (.c (.z) .l)) (by kernel_rfl) (fun _ => ?_)
 obtain ⟨x_11, zh11, hm⟩ := ob hm
 obtain ⟨x_12, zh12, hm⟩ := ob hm
 refine MXz 12 1 (.n 58 (pt g_v 0) (.n 59 (I b) (.n 64 (.u32 x_11) (.n 69 (.u32 x_12) (.ss .a))))) (fun x hx => qs g_v 0 <| qV (hx.vrd 0 rfl e32 v3 0 (by kernel_rfl)) zh11 rfl (.u32 x_11) rfl <| qs g_v 0 <| qV (hx.vrd 0 rfl e32 v3 0 (by kernel_rfl)) zh12 rfl (.u32 x_12) rfl <| qe) fun _ => ?_
 refine MXz 1 0 (.n 70 (.u32 (x_11 ^^^ x_12)) (.kk (.ss .a))) (fun x hx => qe) fun _ => ?_
 refine MXz 1 2 (.n 72 (pt g_v 0) (.k (.s .a))) (fun x hx => qs g_v 0 <| qe) fun _ => ?_
 refine MX_op (by kernel_rfl) rfl ?_
 have k_9 := k_8.sel (.k .e)
 obtain ⟨r_1, h_r_1, hm⟩ := ob hm
 refine Op_cz 71 mr_go144 (c_bits_RotateLeft32 (F := N0) (O := N0) _ _ (Cx.refl _) _ h_r_1) ?_
 rintro e_ w_4 ⟨rfl, k_10⟩
 have k_11 := k_9.call k_10
 refine ⟨.u32 r_1, rfl, ?_⟩
 refine ⟨k_11, fun _ => ?_⟩
 obtain ⟨x_13, zh13, hm⟩ := ob hm
 refine MXz 1 1 (.n 73 (.v (.pointer (ixA (some ⟨g_v, 0, none⟩) b 1))) (.k (.sss .a))) (fun x hx => qI g_v 0 zh13 <| qe) fun _ => ?_
 refine MX_op (by kernel_rfl) rfl ?_
 obtain ⟨v4, h_v4, hm⟩ := nm hm
 refine Op_vz 0 (.u32 r_1) [.u32 r_1] h_v4 zh13 (Pt.ix0 (Pt.at g_v 0) b 1) k_11 rfl .h rfl ?_
 intro w_5 k_12
 refine ⟨(k_12.sel .z), fun _ => ?_⟩
 refine MX_nil <| At_go <| W_seq ?_
 have k_13 := k_12.drew 1
 refine W_m mr_mixed (.q 0 0 (.q 1 0 (.q 2 0 (.q 3 0 (.q 4 0 (.q 5 0 (.q 6 0 (.q 7 0 (.q 8 0 (.q 9 0 (.q 10 0 (.q 11 0 (.q 12 0 (.q 13 1 (.q 14 0 (.op 15 .nil)))))))))))))))) [15] k_13 (.c (.z) .l) (by kernel_rfl) (fun _ => ?_)
 obtain ⟨x_14, zh14, hm⟩ := ob hm
 obtain ⟨x_15, zh15, hm⟩ := ob hm
 refine MXz 13 0 (.n 74 (pt g_v 0) (.n 75 (I a_) (.n 86 (.u32 (x_14 + (x_15 + y_))) (.ss (.kkkk (.k .z)))))) (fun x hx => qs g_v 0 <| qV (hx.vrd 0 rfl e32 v4 0 (by kernel_rfl)) zh14 rfl (.u32 x_14) rfl <| qs g_v 0 <| qV (hx.vrd 0 rfl e32 v4 0 (by kernel_rfl)) zh15 rfl (.u32 x_15) rfl <| qe) fun _ => ?_
 refine MXz 1 1 (.n 87 (pt g_v 0) (.s .a)) (fun x hx => qs g_v 0 <| qe) fun _ => ?_
 obtain ⟨x_16, zh16, hm⟩ := ob hm
 refine MXz 1 0 (.n 88 (.v (.pointer (ixA (some ⟨g_v, 0, none⟩) a_ 1))) (.ss .a)) (fun x hx => qI g_v 0 zh16 <| qe) fun _ => ?_
 refine MX_op (by kernel_rfl) rfl ?_
 obtain ⟨v5, h_v5, hm⟩ := nm hm
 refine Op_vz 0 (.u32 (x_14 + (x_15 + y_))) [.u32 (x_14 + (x_15 + y_))] h_v5 zh16 (Pt.ix0 (Pt.at g_v 0) a_ 1) k_13 rfl .h rfl ?_
 intro w_6 k_14
 refine ⟨(k_14.sel .z), fun _ => ?_⟩
 refine MX_nil <| At_go <| W_seq ?_
 have k_15 := k_14.drew 1
 refine W_m mr_mixed (.q 0 1 (.q 1 1 (.q 2 1 (.q 3 1 (.q 4 1 (.q 5 1 (.q 6 1 (.q 7 1 (.q 8 1 (.q 9 1 (.q 10 1 (.q 11 1 (.q 12 0 (.q 14 2 (.op 13 (.q 15 1 (.op 16 .nil))))))))))))))))) [13, 16] k_15 (.c (.k .e) (.c (.z) .l)) (by kernel_rfl) (fun _ => ?_)
 obtain ⟨x_17, zh17, hm⟩ := ob hm
 obtain ⟨x_18, zh18, hm⟩ := ob hm
 refine MXz 12 1 (.n 89 (pt g_v 0) (.n 90 (I d) (.n 95 (.u32 x_17) (.n 100 (.u32 x_18) (.ss (.k (.s .a))))))) (fun x hx => qs g_v 0 <| qV (hx.vrd 0 rfl e32 v5 0 (by kernel_rfl)) zh17 rfl (.u32 x_17) rfl <| qs g_v 0 <| qV (hx.vrd 0 rfl e32 v5 0 (by kernel_rfl)) zh18 rfl (.u32 x_18) rfl <| qe) fun _ => ?_
 refine MXz 1 0 (.n 101 (.u32 (x_17 ^^^ x_18)) (.kk (.ss .a))) (fun x hx => qe) fun _ => ?_
 refine MXz 1 2 (.n 103 (pt g_v 0) (.k (.s .a))) (fun x hx => qs g_v 0 <| qe) fun _ => ?_
 refine MX_op (by kernel_rfl) rfl ?_
 obtain ⟨r_2, h_r_2, hm⟩ := ob hm
 refine Op_cz 102 mr_go144 (c_bits_RotateLeft32 (F := N0) (O := N0) _ _ (Cx.refl _) _ h_r_2) ?_
 rintro e_ w_7 ⟨rfl, k_16⟩
 have k_17 := k_15.call k_16
 refine ⟨.u32 r_2, rfl, ?_⟩
 refine ⟨k_17, fun _ => ?_⟩
 obtain ⟨x_19, zh19, hm⟩ := ob hm
 refine MXz 1 1 (.n 104 (.v (.pointer (ixA (some ⟨g_v, 0, none⟩) d 1))) (.k (.sss .a))) (fun x hx => qI g_v 0 zh19 <| qe) fun _ => ?_
 refine MX_op (by kernel_rfl) rfl ?_
 have k_18 := k_17.sel (.k .e)
 obtain ⟨v6, h_v6, hm⟩ := nm hm
 refine Op_vz 0 (.u32 r_2) [.u32 r_2] h_v6 zh19 (Pt.ix0 (Pt.at g_v 0) d 1) k_18 rfl .h rfl ?_
 intro w_8 k_19
 refine ⟨(k_19.sel .z), fun _ => ?_⟩
 refine MX_nil <| At_go <| W_seq ?_
 have k_20 := k_19.drew 1
 refine W_m mr_mixed (.q 0 0 (.q 1 0 (.q 2 0 (.q 3 0 (.q 4 0 (.q 5 0 (.q 6 0 (.q 7 0 (.q 8 0 (.q 9 0 (.q 10 0 (.q 11 1 (.q 12 0 (.op 13 .nil)))))))))))))) [13] k_20 (.c (.z) .l) (by kernel_rfl) (fun _ => ?_)
 obtain ⟨x_20, zh20, hm⟩ := ob hm
 obtain ⟨x_21, zh21, hm⟩ := ob hm
 refine MXz 11 0 (.n 105 (pt g_v 0) (.n 106 (I c) (.n 115 (.u32 (x_20 + x_21)) (.ss (.kkk .z))))) (fun x hx => qs g_v 0 <| qV (hx.vrd 0 rfl e32 v6 0 (by kernel_rfl)) zh20 rfl (.u32 x_20) rfl <| qs g_v 0 <| qV (hx.vrd 0 rfl e32 v6 0 (by kernel_rfl)) zh21 rfl (.u32 x_21) rfl <| qe) fun _ => ?_
 refine MXz 1 1 (.n 116 (pt g_v 0) (.s .a)) (fun x hx => qs g_v 0 <| qe) fun _ => ?_
 obtain ⟨x_22, zh22, hm⟩ := ob hm
 refine MXz 1 0 (.n 117 (.v (.pointer (ixA (some ⟨g_v, 0, none⟩) c 1))) (.ss .a)) (fun x hx => qI g_v 0 zh22 <| qe) fun _ => ?_
 refine MX_op (by kernel_rfl) rfl ?_
 obtain ⟨v7, h_v7, hm⟩ := nm hm
 refine Op_vz 0 (.u32 (x_20 + x_21)) [.u32 (x_20 + x_21)] h_v7 zh22 (Pt.ix0 (Pt.at g_v 0) c 1) k_20 rfl .h rfl ?_
 intro w_9 k_21
 refine ⟨(k_21.sel .z), fun _ => ?_⟩
 refine MX_nil <| At_go ?_
 have k_22 := k_21.drew 1
 refine W_m mr_mixed (.q 0 1 (.q 1 1 (.q 2 1 (.q 3 1 (.q 4 1 (.q 5 1 (.q 6 1 (.q 7 1 (.q 8 1 (.q 9 1 (.q 10 1 (.q 11 1 (.q 12 0 (.q 14 2 (.op 13 (.q 15 1 (.op 16 .nil))))))))))))))))) [13, 16] k_22 (.c (.k .e) (.c (.z) .l)) (by kernel_rfl) (fun _ => ?_)
 obtain ⟨x_23, zh23, hm⟩ := ob hm
 obtain ⟨x_24, zh24, hm⟩ := ob hm
 refine MXz 12 1 (.n 118 (pt g_v 0) (.n 119 (I b) (.n 124 (.u32 x_23) (.n 129 (.u32 x_24) .z)))) (fun x hx => qs g_v 0 <| qV (hx.vrd 0 rfl e32 v7 0 (by kernel_rfl)) zh23 rfl (.u32 x_23) rfl <| qs g_v 0 <| qV (hx.vrd 0 rfl e32 v7 0 (by kernel_rfl)) zh24 rfl (.u32 x_24) rfl <| qe) fun _ => ?_
 refine MXz 1 0 (.n 130 (.u32 (x_23 ^^^ x_24)) (.kk .z)) (fun x hx => qe) fun _ => ?_
 refine MXz 1 2 (.n 132 (pt g_v 0) (.k (.s .a))) (fun x hx => qs g_v 0 <| qe) fun _ => ?_
 refine MX_op (by kernel_rfl) rfl ?_
 obtain ⟨r_3, h_r_3, hm⟩ := ob hm
 refine Op_cz 131 mr_go144 (c_bits_RotateLeft32 (F := N0) (O := N0) _ _ (Cx.refl _) _ h_r_3) ?_
 rintro e_ w_10 ⟨rfl, k_23⟩
 have k_24 := k_22.call k_23
 refine ⟨.u32 r_3, rfl, ?_⟩
 refine ⟨k_24, fun _ => ?_⟩
 obtain ⟨x_25, zh25, hm⟩ := ob hm
 refine MXz 1 1 (.n 133 (.v (.pointer (ixA (some ⟨g_v, 0, none⟩) b 1))) (.k .z)) (fun x hx => qI g_v 0 zh25 <| qe) fun _ => ?_
 refine MX_op (by kernel_rfl) rfl ?_
 obtain ⟨v8, h_v8, hm⟩ := nm hm
 refine Op_vz 0 (.u32 r_3) [.u32 r_3] h_v8 zh25 (Pt.ix0 (Pt.at g_v 0) b 1) k_24 rfl .h rfl ?_
 intro w_11 k_25
 refine ⟨(k_25.sel .z), fun _ => ?_⟩
 refine MX_nil ?_
 obtain rfl := si hm
 refine At_en [] qe (by kernel_rfl) ?_
 exact ⟨rfl, k_25⟩
theorem c_mixs_round (v : Vec UInt32 16) (m_ : Vec UInt32 16) (r_ : Int) (g_v : Nat) (g_m : Nat) (k : Cx F O w w [Bx 144 g_v [.ar e32 v], Bx 144 g_m [.ar e32 m_]]) (r : (Vec UInt32 16 × Vec UInt32 16)) (hm : m_mixs_round v m_ r_ = some r) :
    Calls Tryz.prog 136 (vals [pt g_v 0, pt g_m 0, I r_]) w (fun e w' => e = .returned (SV.val (.tup [])) ∧ Cx F O w w' [Bx 144 g_v [.ar e32 r.1], Bx 144 g_m [.ar e32 r.2]]) := by
 unfold m_mixs_round at hm
 refine calz [pt g_v 0, pt g_m 0, I r_] Tryz.func136 rfl ?_
 refine W_seq <| W_reg <| We 1 (.n 9 (I r_) (.kk .z)) ?_
 refine WL_op ?_
 obtain ⟨r_1, h_r_1, hm⟩ := ob hm
 refine Op_cz 10 mr_go138 (c_mixb_Sigma (F := N0) (O := N0) _ (Cx.refl _) _ h_r_1) ?_
 rintro e_ w_ ⟨rfl, k_⟩
 have k_1 := k.call k_
 refine ⟨.agg [.ar eI r_1], rfl, ?_⟩
 refine WL_op <| Op_alloc [] 6 [.ar eI (Vec.rep 16 (0 : Int))] (by kernel_rfl) k_1 ?_
 intro g w_1 k_2
 refine WL_op <| Op_bz 2 (.agg [.ar eI r_1]) [.ar eI r_1] (Pt.at g 0) k_2 rfl .all ?_
 intro w_2 k_3
 refine Wn <| W_seq <| W_reg <| WL_op ?_
 obtain ⟨r_2, h_r_2, hm⟩ := ob hm
 refine Op_cz 11 mr_go141 (c_mixs_places (F := N0) (O := N0)  (Cx.refl _) _ h_r_2) ?_
 rintro e_ w_3 ⟨rfl, k_4⟩
 have k_5 := k_3.call k_4
 refine ⟨.agg [.ar (eV eI 4) r_2], rfl, ?_⟩
 refine We 1 (.n 12 (I 0) (.kk (.ss .a))) ?_
 refine Wn <| W_block <| W_lp (m_mixs_round_l0 m_ r_1 r_2) (fun s L wr => ∃ (v1 : Vec UInt32 16) (x_0 : Int), (v1, x_0) = s ∧ L = [(0, pt g_v 0), (1, pt g_m 0), (6, pt g 0), (11, .agg [.ar (eV eI 4) r_2]), (12, I x_0)] ∧ Cx F O w wr [Bx 144 g_v [.ar e32 v1], Bx 144 g_m [.ar e32 m_], Bx 217 g [.ar eI r_1]]) (v, (0 : Int)) r hm ⟨v, (0 : Int), rfl, rfl, k_5⟩ (by kernel_rfl) ?_
 intro s0_ L_ w_4 y0 hrel hstep hr0
 obtain ⟨v1, x_0, rfl, rfl, k_6⟩ := hrel
 have hm := hstep; simp only [m_mixs_round_l0] at hm
 clear hstep
 refine Wz (.n 13 (.b (decide (x_0 < 8))) .a) ?_
 refine W_seq <| W_pz (x_0 < 8) (fun hc => ?_) fun hc => ?_
 · rw [if_pos hc] at hm
   refine W_skip <| At_go <| W_seq <| W_block <| W_seq <| W_reg ?_
   obtain ⟨x_2, zh2, hm⟩ := ob hm
   refine Wl 2 (.n 14 (I x_0) (.n 15 (.agg [.ar eI x_2]) (.s .a))) (qo (.agg [.ar eI x_2]) <| qp ((0 ≤ x_0 ∧ x_0 < ((8 : Nat) : Int)) ∧ ((SV.cl [.ar (eV eI 4) r_2]).drop (Int.toNat x_0 * 4)).take 4 = SV.cl [.ar eI x_2]) (ar_ixV (E := eI) zh2) <| qe) ?_
   refine WL_op <| Op_alloc [] 8 [.ar eI (Vec.rep 4 (0 : Int))] (by kernel_rfl) k_6 ?_
   intro g1 w_5 k_7
   refine We 1 (.n 7 (I x_0) (.k (.s .a))) ?_
   refine WL_op <| Op_bz 3 (.agg [.ar eI x_2]) [.ar eI x_2] (Pt.at g1 0) k_7 rfl .all ?_
   intro w_6 k_8
   refine WL_nil <| At_go ?_
   have k_9 := k_8.drew 1
   refine W_m mr_mixed (.q 0 0 (.q 1 1 (.q 2 0 (.q 3 1 (.q 4 0 (.q 5 1 (.q 6 0 (.q 7 1 (.q 8 0 (.q 9 1 (.q 10 1 (.q 11 1 (.q 12 1 (.q 13 1 (.q 14 1 (.q 15 1 (.q 16 0 (.q 17 1 (.q 18 1 (.q 19 1 (.q 20 1 (.q 21 1 (.q 22 1 (.q 23 1 (.q 24 1 (.q 25 0 (.op 26 .nil))))))))))))))))))))))))))) [26] k_9 (.c (.s (.kk (.k .e))) .l) (by kernel_rfl) (fun _ => ?_)
   refine MXz 1 0 (.n 16 (pt g_v 0) (.kk (.s .a))) (fun x hx => qe) fun _ => ?_
   obtain ⟨x_3, zh3, hm⟩ := ob hm
   refine MXz 1 1 (.n 17 (.v (.pointer (ixA (some ⟨g1, 0, none⟩) (0 : Int) 1))) .a) (fun x hx => qI g1 0 zh3 <| qe) fun _ => ?_
   refine MXz 1 0 (.n 18 (I x_3) (.s .a)) (fun x hx => qC (I x_3) (Rd.el (k := 0) (hx.vrd 3 rfl eI x_2 0 (by kernel_rfl)) zh3 (Pt.ix1 (some ⟨g1, 0, none⟩) (0 : Int) 1) rfl) <| qe) fun _ => ?_
   obtain ⟨x_4, zh4, hm⟩ := ob hm
   refine MXz 1 1 (.n 19 (.v (.pointer (ixA (some ⟨g1, 0, none⟩) (1 : Int) 1))) .a) (fun x hx => qI g1 0 zh4 <| qe) fun _ => ?_
   refine MXz 1 0 (.n 20 (I x_4) (.s .a)) (fun x hx => qC (I x_4) (Rd.el (k := 0) (hx.vrd 3 rfl eI x_2 0 (by kernel_rfl)) zh4 (Pt.ix1 (some ⟨g1, 0, none⟩) (1 : Int) 1) rfl) <| qe) fun _ => ?_
   obtain ⟨x_5, zh5, hm⟩ := ob hm
   refine MXz 1 1 (.n 21 (.v (.pointer (ixA (some ⟨g1, 0, none⟩) (2 : Int) 1))) .a) (fun x hx => qI g1 0 zh5 <| qe) fun _ => ?_
   refine MXz 1 0 (.n 22 (I x_5) (.s .a)) (fun x hx => qC (I x_5) (Rd.el (k := 0) (hx.vrd 3 rfl eI x_2 0 (by kernel_rfl)) zh5 (Pt.ix1 (some ⟨g1, 0, none⟩) (2 : Int) 1) rfl) <| qe) fun _ => ?_
   obtain ⟨x_6, zh6, hm⟩ := ob hm
   refine MXz 1 1 (.n 23 (.v (.pointer (ixA (some ⟨g1, 0, none⟩) (3 : Int) 1))) (.kkkk (.k (.s .a)))) (fun x hx => qI g1 0 zh6 <| qe) fun _ => ?_
   refine MXz 1 0 (.n 24 (I x_6) (.s .a)) (fun x hx => qC (I x_6) (Rd.el (k := 0) (hx.vrd 3 rfl eI x_2 0 (by kernel_rfl)) zh6 (Pt.ix1 (some ⟨g1, 0, none⟩) (3 : Int) 1) rfl) <| qe) fun _ => ?_
   obtain ⟨x_7, zh7, hm⟩ := ob hm
   obtain ⟨x_8, zh8, hm⟩ := ob hm
   refine MXz 7 1 (.n 31 (.v (.pointer (ixA (some ⟨g_m, 0, none⟩) x_7 1))) .a) (fun x hx => qV (hx.vrd 1 rfl eI r_1 0 (by kernel_rfl)) zh7 rfl (I x_7) rfl <| qs g_m 0 <| qI g_m 0 zh8 <| qe) fun _ => ?_
   refine MXz 1 0 (.n 32 (.u32 x_8) (.s .a)) (fun x hx => qC (.u32 x_8) (Rd.el (k := 0) (hx.vrd 1 rfl e32 m_ 0 (by kernel_rfl)) zh8 (Pt.ix1 (some ⟨g_m, 0, none⟩) x_7 1) rfl) <| qe) fun _ => ?_
   obtain ⟨x_9, zh9, hm⟩ := ob hm
   obtain ⟨x_10, zh10, hm⟩ := ob hm
   refine MXz 8 1 (.n 40 (.v (.pointer (ixA (some ⟨g_m, 0, none⟩) x_9 1))) (.kkkk (.kk (.s .a)))) (fun x hx => qV (hx.vrd 1 rfl eI r_1 0 (by kernel_rfl)) zh9 rfl (I x_9) rfl <| qs g_m 0 <| qI g_m 0 zh10 <| qe) fun _ => ?_
   refine MXz 1 0 (.n 41 (.u32 x_10) (.s .a)) (fun x hx => qC (.u32 x_10) (Rd.el (k := 0) (hx.vrd 1 rfl e32 m_ 0 (by kernel_rfl)) zh10 (Pt.ix1 (some ⟨g_m, 0, none⟩) x_9 1) rfl) <| qe) fun _ => ?_
   refine MX_op (by kernel_rfl) rfl ?_
   obtain ⟨r_3, h_r_3, hm⟩ := ob hm
   obtain ⟨F1, O1, kin, hO, hre, hF, hb⟩ := k_9.go (.i (.r (.r (.r .e))))
   refine Op_cz 42 mr_go142 (c_mixs_mix (F := F1) (O := O1) _ _ _ _ _ _ _ _ kin _ h_r_3) ?_
   rintro e_ w_7 ⟨rfl, k_10⟩
   have k_11 := hb w_7 _ _ k_10 (.c .n)
   refine ⟨.tup [], rfl, ?_⟩
   refine ⟨(k_11.sel (.s (.kk (.k .e)))), fun _ => ?_⟩
   refine MX_nil <| At_in <| At_go <| W_q [] (.n 12 (I (w64 (x_0 + 1))) (.ssss (.ssss (.kkkk .z)))) qe (by kernel_rfl) ?_
   have k_12 := k_11.sel (.kk (.k .z))
   exact At_rd (r_3, w64 (x_0 + 1)) (Option.some.inj hm).symm ⟨r_3, w64 (x_0 + 1), rfl, rfl, k_12⟩ (by kernel_rfl)
 rw [if_neg hc] at hm
 refine W_exit (At_te (At_te (At_ie ?_)))
 have hm := exit_of hm hr0
 obtain rfl := si hm
 refine At_en [] qe (by kernel_rfl) ?_
 have k_13 := k_6.sel (.kk .z)
 exact ⟨rfl, k_13⟩
theorem c_mixs_End (h : Vec UInt32 8) (v : Vec UInt32 16) (k : Cx F O w w []) (r : (Vec UInt32 8)) (hm : m_mixs_End h v = some r) :
    Calls Tryz.prog 137 (vals [.agg [.ar e32 h], .agg [.ar e32 v]]) w (fun e w' => e = .returned (SV.val (.agg [.ar e32 r])) ∧ Cx F O w w' []) := by
 unfold m_mixs_End at hm
 refine calz [.agg [.ar e32 h], .agg [.ar e32 v]] Tryz.func137 rfl ?_
 refine W_seq <| W_reg <| WL_op <| Op_box [] 2 (.agg [.ar e32 h]) [.ar e32 h] (by kernel_rfl) k ?_
 intro g w_ k_
 refine WL_op <| Op_box [] 3 (.agg [.ar e32 v]) [.ar e32 v] (by kernel_rfl) k_ ?_
 intro g1 w_1 k_1
 refine WL_op <| Op_alloc [] 4 [.ar e32 (Vec.rep 8 (0 : UInt32))] (by kernel_rfl) k_1 ?_
 intro g2 w_2 k_2
 refine Wn <| W_seq <| Wz (.n 6 (I 0) (.kkk .z)) ?_
 refine W_block <| W_lp (m_mixs_End_l0 v) (fun s L wr => ∃ (h1 : Vec UInt32 8) (x_0 : Int), (h1, x_0) = s ∧ L = [(2, pt g 0), (3, pt g1 0), (4, pt g2 0), (6, I x_0)] ∧ Cx F O w wr [Bx 143 g [.ar e32 h1], Bx 144 g1 [.ar e32 v], Bx 143 g2 [.ar e32 (Vec.rep 8 (0 : UInt32))]]) (h, (0 : Int)) r hm ⟨h, (0 : Int), rfl, rfl, k_2⟩ (by kernel_rfl) ?_
 intro s0_ L_ w_3 y0 hrel hstep hr0
 obtain ⟨h1, x_0, rfl, rfl, k_3⟩ := hrel
 have hm := hstep; simp only [m_mixs_End_l0] at hm
 clear hstep
 refine Wz (.n 7 (.b (decide (x_0 < 8))) .a) ?_
 refine W_seq <| W_pz (x_0 < 8) (fun hc => ?_) fun hc => ?_
 · rw [if_pos hc] at hm
   refine W_skip <| At_go <| W_seq <| W_block <| W_seq <| W_q [] (.n 5 (I x_0) (.s .a)) qe (by kernel_rfl) ?_
   refine At_go ?_
   have k_4 := k_3.drew 1
   refine W_m mr_mixed (.q 0 0 (.q 1 0 (.q 2 0 (.q 3 0 (.q 4 0 (.q 5 0 (.q 6 0 (.q 7 0 (.q 8 0 (.q 9 0 (.q 10 0 (.q 11 0 (.q 12 0 (.op 13 .nil)))))))))))))) [13] k_4 (.c (.s (.kk .e)) .l) (by kernel_rfl) (fun _ => ?_)
   obtain ⟨x_1, zh1, hm⟩ := ob hm
   obtain ⟨x_2, zh2, hm⟩ := ob hm
   obtain ⟨x_3, zh3, hm⟩ := ob hm
   obtain ⟨x_4, zh4, hm⟩ := ob hm
   refine MXz 13 0 (.n 20 (.u32 (x_1 ^^^ (x_2 ^^^ x_3))) (.n 21 (.v (.pointer (ixA (some ⟨g, 0, none⟩) x_0 1))) (.s .a))) (fun x hx => qV (hx.vrd 0 rfl e32 h1 0 (by kernel_rfl)) zh1 rfl (.u32 x_1) rfl <| qV (hx.vrd 1 rfl e32 v 0 (by kernel_rfl)) zh2 rfl (.u32 x_2) rfl <| qV (hx.vrd 1 rfl e32 v 0 (by kernel_rfl)) zh3 rfl (.u32 x_3) rfl <| qI g 0 zh4 <| qe) fun _ => ?_
   refine MX_op (by kernel_rfl) rfl ?_
   obtain ⟨v1, h_v1, hm⟩ := nm hm
   refine Op_vz 0 (.u32 (x_1 ^^^ (x_2 ^^^ x_3))) [.u32 (x_1 ^^^ (x_2 ^^^ x_3))] h_v1 zh4 (Pt.ix0 (Pt.at g 0) x_0 1) k_4 rfl .h rfl ?_
   intro w_4 k_5
   refine ⟨(k_5.sel (.s (.kk .e))), fun _ => ?_⟩
   refine MX_nil <| At_in <| At_go <| W_q [] (.n 6 (I (w64 (x_0 + 1))) (.ss (.kkk .z))) qe (by kernel_rfl) ?_
   exact At_rd (v1, w64 (x_0 + 1)) (Option.some.inj hm).symm ⟨v1, w64 (x_0 + 1), rfl, rfl, k_5⟩ (by kernel_rfl)
 rw [if_neg hc] at hm
 refine W_exit (At_te (At_te (At_ie ?_)))
 have hm := exit_of hm hr0
 refine At_go <| W_seq <| W_reg <| Wl 1 (.n 23 (.agg [.ar e32 h1]) (.sss (.k .z))) (qT k_3 0 rfl 0 8 [.ar e32 h1] (by kernel_rfl) (by decide) <| qe) ?_
 refine WL_op <| Op_bz 2 (.agg [.ar e32 h1]) [.ar e32 h1] (Pt.at g2 0) k_3 rfl .all ?_
 intro w_5 k_6
 have k_7 := k_6.sel (.ss (.k .e))
 refine Wn <| W_ret ?_
 obtain rfl := si hm
 refine At_rz [.agg [.ar e32 h1]] (qo (.agg [.ar e32 h1]) <| qc (fun w => Rd w (some ⟨g2, 0, none⟩) (SV.cl [.ar e32 h1])) (k_7.brd 0 rfl) <| qe) ?_
 have k_8 := k_7.sel .z
 exact ⟨rfl, k_8⟩
theorem c_mixs_F (h : Vec UInt32 8) (m_ : Vec UInt32 16) (count : UInt64) (last : Bool) (node : Bool) (k : Cx F O w w []) (r : (Vec UInt32 8)) (hm : m_mixs_F h m_ count last node = some r) :
    Calls Tryz.prog 124 (vals [.agg [.ar e32 h], .agg [.ar e32 m_], .u64 count, .b last, .b node]) w (fun e w' => e = .returned (SV.val (.agg [.ar e32 r])) ∧ Cx F O w w' []) := by
 unfold m_mixs_F at hm
 refine calz [.agg [.ar e32 h], .agg [.ar e32 m_], .u64 count, .b last, .b node] Tryz.func124 rfl ?_
 refine W_seq <| W_reg <| WL_op <| Op_box [] 5 (.agg [.ar e32 h]) [.ar e32 h] (by kernel_rfl) k ?_
 intro g w_ k_
 refine WL_op <| Op_box [] 6 (.agg [.ar e32 m_]) [.ar e32 m_] (by kernel_rfl) k_ ?_
 intro g1 w_1 k_1
 refine WL_op <| Op_alloc [] 10 [.ar e32 (Vec.rep 8 (0 : UInt32))] (by kernel_rfl) k_1 ?_
 intro g2 w_2 k_2
 refine Wn <| W_seq <| W_reg <| Wl 4 (.n 13 (.agg [.ar e32 h]) (.n 14 (.u64 count) (.n 15 (.b last) (.n 16 (.b node) (.kkk .z))))) (qT k_2 0 rfl 0 8 [.ar e32 h] (by kernel_rfl) (by decide) <| qe) ?_
 refine WL_op ?_
 obtain ⟨r_, h_r_, hm⟩ := ob hm
 refine Op_cz 17 mr_go135 (c_mixs_Begin (F := N0) (O := N0) _ _ _ _ (Cx.refl _) _ h_r_) ?_
 rintro e_ w_3 ⟨rfl, k_3⟩
 have k_4 := k_2.call k_3
 refine ⟨.agg [.ar e32 r_], rfl, ?_⟩
 refine WL_op ?_
 have k_5 := k_4.sel (.kk (.k .e))
 refine Op_alloc [] 11 [.ar e32 (Vec.rep 16 (0 : UInt32))] (by kernel_rfl) k_5 ?_
 intro g3 w_4 k_6
 refine WL_op <| Op_bz 3 (.agg [.ar e32 r_]) [.ar e32 r_] (Pt.at g3 0) k_6 rfl .all ?_
 intro w_5 k_7
 refine Wn <| W_seq <| Wz (.n 18 (I 0) (.k (.ssss (.s .a)))) ?_
 refine W_block <| W_lp (m_mixs_F_l0 h) (fun s L wr => ∃ (m_1 : Vec UInt32 16) (v : Vec UInt32 16) (x_0 : Int), (m_1, v, x_0) = s ∧ L = [(5, pt g 0), (6, pt g1 0), (10, pt g2 0), (11, pt g3 0), (18, I x_0)] ∧ Cx F O w wr [Bx 143 g [.ar e32 h], Bx 144 g1 [.ar e32 m_1], Bx 143 g2 [.ar e32 (Vec.rep 8 (0 : UInt32))], Bx 144 g3 [.ar e32 v]]) (m_, r_, (0 : Int)) r hm ⟨m_, r_, (0 : Int), rfl, rfl, k_7⟩ (by kernel_rfl) ?_
 intro s0_ L_ w_6 y0 hrel hstep hr0
 obtain ⟨m_1, v, x_0, rfl, rfl, k_8⟩ := hrel
 have hm := hstep; simp only [m_mixs_F_l0] at hm
 clear hstep
 refine Wz (.n 19 (.b (decide (x_0 < 10))) .a) ?_
 refine W_seq <| W_pz (x_0 < 10) (fun hc => ?_) fun hc => ?_
 · rw [if_pos hc] at hm
   refine W_skip <| At_go <| W_seq <| W_block <| Wz (.n 12 (I x_0) (.s .a)) ?_
   refine W_reg <| We 1 (.n 21 (I x_0) (.s .a)) ?_
   refine WL_op ?_
   obtain ⟨r_1, h_r_1, hm⟩ := ob hm
   have k_9 := (((k_8.pk (.t (.t .h))).pk (.t .h)).pk (.t (.t .h))).pk (.t (.t (.t .h)))
   obtain ⟨F1, O1, kin, hO, hre, hF, hb⟩ := k_9.go (.i (.i (.r (.r .e))))
   refine Op_cz 22 mr_go136 (c_mixs_round (F := F1) (O := O1) _ _ _ _ _ kin _ h_r_1) ?_
   rintro e_ w_7 ⟨rfl, k_10⟩
   have k_11 := hb w_7 _ _ k_10 (.c (.c .n))
   refine ⟨.tup [], rfl, ?_⟩
   refine WL_nil <| At_in <| At_go <| W_q [] (.n 18 (I (w64 (x_0 + 1))) (.ss (.kkkk .z))) qe (by kernel_rfl) ?_
   have k_12 := (((k_11.pk .h).pk (.t (.t (.t .h)))).pk (.t (.t .h))).pk (.t (.t (.t .h)))
   exact At_rd (r_1.2, r_1.1, w64 (x_0 + 1)) (Option.some.inj hm).symm ⟨r_1.2, r_1.1, w64 (x_0 + 1), rfl, rfl, k_12⟩ (by kernel_rfl)
 rw [if_neg hc] at hm
 refine W_exit (At_te (At_te (At_ie ?_)))
 have hm := exit_of hm hr0
 refine At_go <| W_seq <| W_reg <| Wl 2 (.n 24 (.agg [.ar e32 h]) (.n 25 (.agg [.ar e32 v]) (.sss (.k .z)))) (qT k_8 0 rfl 0 8 [.ar e32 h] (by kernel_rfl) (by decide) <| qT k_8 3 rfl 0 16 [.ar e32 v] (by kernel_rfl) (by decide) <| qe) ?_
 refine WL_op ?_
 obtain ⟨r_2, h_r_2, hm⟩ := ob hm
 refine Op_cz 26 mr_go137 (c_mixs_End (F := N0) (O := N0) _ _ (Cx.refl _) _ h_r_2) ?_
 rintro e_ w_8 ⟨rfl, k_13⟩
 have k_14 := k_8.call k_13
 refine ⟨.agg [.ar e32 r_2], rfl, ?_⟩
 have k_15 := k_14.sel (.ss (.k .z))
 refine WL_op <| Op_bz 0 (.agg [.ar e32 r_2]) [.ar e32 r_2] (Pt.at g2 0) k_15 rfl .all ?_
 intro w_9 k_16
 refine Wn <| W_ret ?_
 obtain rfl := si hm
 refine At_rz [.agg [.ar e32 r_2]] (qo (.agg [.ar e32 r_2]) <| qc (fun w => Rd w (some ⟨g2, 0, none⟩) (SV.cl [.ar e32 r_2])) (k_16.brd 0 rfl) <| qe) ?_
 have k_17 := k_16.sel .z
 exact ⟨rfl, k_17⟩
theorem c_node_mixSmall (h : Vec UInt32 8) (b : List UInt8) (c_Lo : UInt64) (c_Hi : UInt64) (last : Bool) (node : Bool) (A_b : Option Addr) (n_b : Nat) (c_b : Nat) (h_b : Ro F w A_b (e8.all b)) (hn_b : b.length = n_b) (hc_b : n_b ≤ c_b) (k : Cx F O w w []) (r : (Vec UInt32 8)) (hm : m_node_mixSmall h b c_Lo c_Hi last node = some r) :
    Calls Tryz.prog 103 (vals [.agg [.ar e32 h], sl A_b n_b c_b, .agg [.u64 c_Lo, .u64 c_Hi], .b last, .b node]) w (fun e w' => e = .returned (SV.val (.agg [.ar e32 r])) ∧ Cx F O w w' []) := by
 unfold m_node_mixSmall at hm
 subst hn_b
 refine calz [.agg [.ar e32 h], sl A_b b.length c_b, .agg [.u64 c_Lo, .u64 c_Hi], .b last, .b node] Tryz.func103 rfl ?_
 refine W_seq <| W_reg <| WL_op <| Op_box [] 5 (.agg [.ar e32 h]) [.ar e32 h] (by kernel_rfl) k ?_
 intro g w_ k_
 refine WL_op <| Op_box [] 7 (.agg [.u64 c_Lo, .u64 c_Hi]) [.u64 c_Lo, .u64 c_Hi] (by kernel_rfl) k_ ?_
 intro g1 w_1 k_1
 refine WL_op <| Op_alloc [] 10 [.ar e32 (Vec.rep 8 (0 : UInt32))] (by kernel_rfl) k_1 ?_
 intro g2 w_2 k_2
 refine Wn <| W_seq <| W_reg <| We 1 (.n 14 (sl A_b b.length c_b) (.kkk (.sss .a))) ?_
 refine WL_op ?_
 obtain ⟨r_, h_r_, hm⟩ := ob hm
 refine Op_cz 15 mr_go123 (c_mixs_Words (F := N0) (O := N0) _ _ _ _ (Ro.n0 (h_b.cx k_2)) rfl hc_b (Cx.refl _) _ h_r_) ?_
 rintro e_ w_3 ⟨rfl, k_3⟩
 have k_4 := k_2.call k_3
 refine ⟨.tup [.agg [.ar e32 r_.1], I r_.2], rfl, ?_⟩
 refine We 3 (.n 16 (.agg [.ar e32 r_.1]) (.n 17 (I r_.2) (.ss .a))) ?_
 refine WL_op ?_
 have k_5 := k_4.sel (.kk (.k .e))
 refine Op_alloc [] 11 [.ar e32 (Vec.rep 16 (0 : UInt32))] (by kernel_rfl) k_5 ?_
 intro g3 w_4 k_6
 refine WL_op <| Op_bz 3 (.agg [.ar e32 r_.1]) [.ar e32 r_.1] (Pt.at g3 0) k_6 rfl .all ?_
 intro w_5 k_7
 refine We 1 (.k (.ss .a)) ?_
 refine Wn <| W_seq <| W_reg <| Wl 6 (.n 18 (.agg [.ar e32 h]) (.n 19 (.agg [.ar e32 r_.1]) (.n 21 (.u64 c_Lo) (.n 22 (.b last) (.n 23 (.b node) (.s (.k .z))))))) (qT k_7 0 rfl 0 8 [.ar e32 h] (by kernel_rfl) (by decide) <| qT k_7 3 rfl 0 16 [.ar e32 r_.1] (by kernel_rfl) (by decide) <| qs g1 0 <| qB k_7 1 rfl 0 (.u64 c_Lo) (by kernel_rfl) <| qe) ?_
 refine WL_op ?_
 obtain ⟨r_1, h_r_1, hm⟩ := ob hm
 refine Op_cz 24 mr_go124 (c_mixs_F (F := N0) (O := N0) _ _ _ _ _ (Cx.refl _) _ h_r_1) ?_
 rintro e_ w_6 ⟨rfl, k_8⟩
 have k_9 := k_7.call k_8
 refine ⟨.agg [.ar e32 r_1], rfl, ?_⟩
 have k_10 := k_9.sel (.ss (.k .z))
 refine WL_op <| Op_bz 0 (.agg [.ar e32 r_1]) [.ar e32 r_1] (Pt.at g2 0) k_10 rfl .all ?_
 intro w_7 k_11
 refine Wn <| W_ret ?_
 obtain rfl := si hm
 refine At_rz [.agg [.ar e32 r_1]] (qo (.agg [.ar e32 r_1]) <| qc (fun w => Rd w (some ⟨g2, 0, none⟩) (SV.cl [.ar e32 r_1])) (k_11.brd 0 rfl) <| qe) ?_
 have k_12 := k_11.sel .z
 exact ⟨rfl, k_12⟩
theorem c_node_half_uint32_write (x_h : Vec UInt32 8) (x_count_Lo : UInt64) (x_count_Hi : UInt64) (x_held : List UInt8) (x_block : Int) (b : List UInt8) (g_x : Nat) (A_x_held : Option Addr) (n_x_held : Nat) (c_x_held : Nat) (A_b : Option Addr) (n_b : Nat) (c_b : Nat) (h_b : Ro F w A_b (e8.all b)) (hn_b : b.length = n_b) (hc_b : n_b ≤ c_b) (k : Cx F O w w [Bx 178 g_x [.ar e32 x_h, .u64 x_count_Lo, .u64 x_count_Hi, sl A_x_held n_x_held c_x_held, I x_block, .v (.func (.func 103) ⟨SV.vals []⟩ ⟨SV.vals []⟩), .v (.func (.func 104) ⟨SV.vals []⟩ ⟨SV.vals []⟩)], Ow e8 A_x_held n_x_held c_x_held x_held]) (r : (Vec UInt32 8 × UInt64 × UInt64 × List UInt8 × Int)) (hm : m_node_half_uint32_write x_h x_count_Lo x_count_Hi x_held x_block b = some r) :
    Calls Tryz.prog 171 (vals [pt g_x 0, sl A_b n_b c_b]) w (fun e w' => ∃ A n c, r.2.2.2.1.length = n ∧ e = .returned (SV.val (.tup [])) ∧ Cx F O w w' [Bx 178 g_x [.ar e32 r.1, .u64 r.2.1, .u64 r.2.2.1, sl A n c, I r.2.2.2.2, .v (.func (.func 103) ⟨SV.vals []⟩ ⟨SV.vals []⟩), .v (.func (.func 104) ⟨SV.vals []⟩ ⟨SV.vals []⟩)], Ow e8 A n c r.2.2.2.1]) := by
 unfold m_node_half_uint32_write at hm
 obtain rfl := k.len 1 rfl
 subst hn_b
 refine calz [pt g_x 0, sl A_b b.length c_b] Tryz.func171 rfl ?_
 refine W_block <| W_lp (m_node_half_uint32_write_l0 x_block) (fun s L wr => ∃ (x_0 : Vec UInt32 8) (x_5 : UInt64) (x_6 : UInt64) (x_7 : List UInt8) (b1 : List UInt8) (A0 : Option Addr) (n0 : Nat) (c0 : Nat) (A1 : Option Addr) (c1 : Nat), (x_0, x_5, x_6, x_7, b1) = s ∧ L = [(0, pt g_x 0), (1, sl A1 b1.length c1)] ∧ x_7.length = n0 ∧ Ro F w A1 (e8.all b1) ∧ b1.length ≤ c1 ∧ Cx F O w wr [Bx 178 g_x [.ar e32 x_0, .u64 x_5, .u64 x_6, sl A0 n0 c0, I x_block, .v (.func (.func 103) ⟨SV.vals []⟩ ⟨SV.vals []⟩), .v (.func (.func 104) ⟨SV.vals []⟩ ⟨SV.vals []⟩)], Ow e8 A0 n0 c0 x_7]) (x_h, x_count_Lo, x_count_Hi, x_held, b) r hm ⟨x_h, x_count_Lo, x_count_Hi, x_held, b, A_x_held, x_held.length, c_x_held, A_b, c_b, rfl, rfl, k.len 1 rfl, h_b, hc_b, k⟩ (by kernel_rfl) ?_
 intro s0_ L_ w_ y0 hrel hstep hr0
 obtain ⟨x_0, x_5, x_6, x_7, b1, A0, _, c0, A1, c1, rfl, rfl, rfl, h, hc, k_⟩ := hrel
 have hm := hstep; simp only [m_node_half_uint32_write_l0] at hm
 clear hstep
 refine W_seq <| Wz (.n 7 (.b (decide (0 < (b1.length : Int)))) .a) ?_
 refine W_pz (0 < (b1.length : Int)) (fun hc1 => ?_) fun hc1 => ?_
 · rw [if_pos hc1] at hm
   refine W_skip <| At_go <| W_block <| W_cut (fun L wr => ∃ (x_8 : Vec UInt32 8) (x_9 : UInt64) (x_10 : UInt64) (x_11 : List UInt8) (A2 : Option Addr) (n1 : Nat) (c2 : Nat), m_node_half_uint32_write_j0 x_block b1 x_8 x_9 x_10 x_11 = some y0 ∧ L = [(0, pt g_x 0), (1, sl A1 b1.length c1)] ∧ x_11.length = n1 ∧ Cx F O w wr [Bx 178 g_x [.ar e32 x_8, .u64 x_9, .u64 x_10, sl A2 n1 c2, I x_block, .v (.func (.func 103) ⟨SV.vals []⟩ ⟨SV.vals []⟩), .v (.func (.func 104) ⟨SV.vals []⟩ ⟨SV.vals []⟩)], Ow e8 A2 n1 c2 x_11]) ?_ ?_
   ·
    refine W_seq <| W_d mr_mixed (by kernel_rfl) (.n 17 (.b (decide ((x_7.length : Int) = x_block))) (.s .a)) (fun m => qs g_x 0 <| qs g_x 0 <| qB (k_.drew m) 0 rfl 10 (sl A0 x_7.length c0) (by kernel_rfl) <| qs g_x 0 <| qs g_x 0 <| qB (k_.drew m) 0 rfl 11 (I x_block) (by kernel_rfl) <| qe) (by kernel_rfl) (fun m_ => ?_)
    have k_1 := k_.drew m_
    refine At_go <| W_pz ((x_7.length : Int) = x_block) (fun hc2 => ?_) fun hc2 => ?_
    · rw [if_pos hc2] at hm
      refine W_seq ?_
      have k_2 := k_1.drew 1
      refine W_m mr_mixed (.q 0 1 (.q 1 1 (.q 2 1 (.q 3 1 (.q 4 0 (.q 5 1 (.q 6 1 (.q 7 1 (.q 8 1 (.q 9 0 (.op 10 (.q 11 1 (.q 12 1 (.q 13 2 (.q 14 2 (.q 15 1 (.op 16 .nil))))))))))))))))) [10, 16] k_2 (.c (.kk .e) (.c (.s (.k .e)) .l)) (by kernel_rfl) (fun _ => ?_)
      refine MXz 4 1 (.n 19 (pt g_x 0) (.n 22 (pt g_x 8) (.s .a))) (fun x hx => qs g_x 0 <| qs g_x 0 <| qe) fun _ => ?_
      refine MXz 1 0 (.n 23 (.agg [.u64 x_5, .u64 x_6]) (.k (.s .a))) (fun x hx => qT hx 0 rfl 8 2 [.u64 x_5, .u64 x_6] (by kernel_rfl) (by decide) <| qe) fun _ => ?_
      refine MXz 4 1 (.n 27 (I x_block) .a) (fun x hx => qs g_x 0 <| qs g_x 0 <| qB hx 0 rfl 11 (I x_block) (by kernel_rfl) <| qe) fun _ => ?_
      refine MXz 1 0 (.n 28 (.u64 (UInt64.ofInt x_block)) (.s .a)) (fun x hx => qe) fun _ => ?_
      refine MX_op (by kernel_rfl) rfl ?_
      obtain ⟨r_, h_r_, hm⟩ := ob hm
      refine Op_cz 29 mr_go166 (c_word_Add (F := N0) (O := N0) _ _ _ (Cx.refl _) _ h_r_) ?_
      rintro e_ w_1 ⟨rfl, k_3⟩
      have k_4 := k_2.call k_3
      refine ⟨.tup [.agg [.u64 r_.1, .u64 r_.2.1], .b r_.2.2], rfl, ?_⟩
      refine ⟨k_4, fun _ => ?_⟩
      refine MXz 2 1 (.n 18 (.tup [.agg [.u64 r_.1, .u64 r_.2.1], .b r_.2.2]) (.n 30 (.agg [.u64 r_.1, .u64 r_.2.1]) (.sss .a))) (fun x hx => qe) fun _ => ?_
      refine MXz 2 2 (.n 32 (pt g_x 0) (.s (.k (.s .a)))) (fun x hx => qs g_x 0 <| qe) fun _ => ?_
      refine MXz 1 1 (.n 33 (pt g_x 8) (.s .a)) (fun x hx => qs g_x 0 <| qe) fun _ => ?_
      refine MX_op (by kernel_rfl) rfl <| Op_bz 0 (.agg [.u64 r_.1, .u64 r_.2.1]) [.u64 r_.1, .u64 r_.2.1] (Pt.at g_x 8) k_4 rfl (.k .h2) ?_
      intro w_2 k_5
      refine ⟨(k_5.sel (.s (.k .e))), fun _ => ?_⟩
      refine MX_nil <| At_go <| W_seq ?_
      have k_6 := k_5.drew 1
      refine W_m mr_mixed (.q 0 1 (.q 1 1 (.q 2 1 (.q 3 1 (.q 4 0 (.q 5 1 (.q 6 1 (.q 7 1 (.q 8 0 (.q 9 1 (.q 10 1 (.q 11 1 (.q 12 0 (.q 13 1 (.q 14 1 (.q 15 1 (.q 16 0 (.op 17 (.q 18 2 (.q 19 1 (.op 20 .nil))))))))))))))))))))) [17, 20] k_6 (.c (.kk .e) (.c (.s (.k .e)) .l)) (by kernel_rfl) (fun _ => ?_)
      refine MXz 4 1 (.n 34 (pt g_x 0) (.n 37 (pt g_x 12) (.ss .a))) (fun x hx => qs g_x 0 <| qs g_x 0 <| qe) fun _ => ?_
      refine MXz 1 0 (.n 38 (.v (.func (.func 103) ⟨SV.vals []⟩ ⟨SV.vals []⟩)) (.k (.s .a))) (fun x hx => qB hx 0 rfl 12 (.v (.func (.func 103) ⟨SV.vals []⟩ ⟨SV.vals []⟩)) (by kernel_rfl) <| qe) fun _ => ?_
      refine MXz 3 1 (.n 41 (pt g_x 0) .a) (fun x hx => qs g_x 0 <| qs g_x 0 <| qe) fun _ => ?_
      refine MXz 1 0 (.n 42 (.agg [.ar e32 x_0]) (.s .a)) (fun x hx => qT hx 0 rfl 0 8 [.ar e32 x_0] (by kernel_rfl) (by decide) <| qe) fun _ => ?_
      refine MXz 3 1 (.n 45 (pt g_x 10) .a) (fun x hx => qs g_x 0 <| qs g_x 0 <| qe) fun _ => ?_
      refine MXz 1 0 (.n 46 (sl A0 x_7.length c0) (.s .a)) (fun x hx => qB hx 0 rfl 10 (sl A0 x_7.length c0) (by kernel_rfl) <| qe) fun _ => ?_
      refine MXz 3 1 (.n 49 (pt g_x 8) .a) (fun x hx => qs g_x 0 <| qs g_x 0 <| qe) fun _ => ?_
      refine MXz 1 0 (.n 50 (.agg [.u64 r_.1, .u64 r_.2.1]) (.s .a)) (fun x hx => qT hx 0 rfl 8 2 [.u64 r_.1, .u64 r_.2.1] (by kernel_rfl) (by decide) <| qe) fun _ => ?_
      refine MX_op (by kernel_rfl) rfl ?_
      obtain ⟨r_1, h_r_1, hm⟩ := ob hm
      refine Op_callv [] 51 [] [.agg [.ar e32 x_0], sl A0 x_7.length c0, .agg [.u64 r_.1, .u64 r_.2.1], .b false, .b false] [] mr_go103 (by kernel_rfl) (c_node_mixSmall (F := N0) (O := N0) _ _ _ _ _ _ _ _ _ (Ro.n0 (k_6.rd 1 rfl)) (k_6.len 1 rfl) (k_6.lec 1 rfl) (Cx.refl _) _ h_r_1) ?_
      rintro e_ w_3 ⟨rfl, k_7⟩
      have k_8 := k_6.call k_7
      refine ⟨.agg [.ar e32 r_1], rfl, ?_⟩
      refine ⟨k_8, fun _ => ?_⟩
      refine MXz 1 2 (.n 52 (pt g_x 0) (.k (.ssss (.s .a)))) (fun x hx => qs g_x 0 <| qe) fun _ => ?_
      refine MXz 1 1 (.n 53 (pt g_x 0) (.s .a)) (fun x hx => qs g_x 0 <| qe) fun _ => ?_
      refine MX_op (by kernel_rfl) rfl <| Op_bz 0 (.agg [.ar e32 r_1]) [.ar e32 r_1] (Pt.at g_x 0) k_8 rfl .h ?_
      intro w_4 k_9
      refine ⟨(k_9.sel (.s (.k .e))), fun _ => ?_⟩
      refine MX_nil <| At_go <| W_reg ?_
      obtain ⟨b2, h_b2, hm⟩ := ob hm
      have hs := slc_some h_b2
      have hl := slc_len h_b2
      have hn : x_7.length = x_7.length := (k_9.len 1 rfl)
      have hc3 : x_7.length ≤ c0 := (k_9.lec 1 rfl)
      have hc4 : b2.length ≤ c0 := by omega
      refine Wl 8 (.n 59 (sl A0 b2.length c0) (.n 61 (pt g_x 10) (.ss .a))) (qs g_x 0 <| qs g_x 0 <| qB k_9 0 rfl 10 (sl A0 x_7.length c0) (by kernel_rfl) <| qp (0 ≤ (0 : Int) ∧ (0 : Int) ≤ (c0 : Int)) (by omega) <| qo (.v (.slice A0 b2.length c0)) <| qp (Value.slice (slA A0 0 c0 1) (Int.toNat (0 : Int) - 0) (c0 - 0) = .slice A0 b2.length c0) (slx0 _ _ _ _ _ (by omega)) <| qs g_x 0 <| qs g_x 0 <| qe) ?_
      refine WL_op ?_
      have k_10 := k_9.sel (.kk .e)
      refine Op_bz 0 (sl A0 b2.length c0) [sl A0 b2.length c0] (Pt.at g_x 10) k_10 rfl (.kk (.k .h)) ?_
      intro w_5 k_11
      refine WL_nil ?_
      have k_12 := k_11.pre 1 rfl b2.length c0 b2 (by omega) (by omega) (by omega) (slc_pre h_b2 rfl)
      exact At_cz ⟨r_1, r_.1, r_.2.1, b2, A0, b2.length, c0, hm, rfl, k_12.len 1 rfl, k_12⟩
    rw [if_neg hc2] at hm
    refine W_skip ?_
    exact At_cz ⟨x_0, x_5, x_6, x_7, A0, x_7.length, c0, hm, rfl, k_1.len 1 rfl, k_1⟩
   rintro L_ w_6 ⟨x_8, x_9, x_10, x_11, A2, _, c2, hm, rfl, rfl, k_13⟩
   simp only [m_node_half_uint32_write_j0] at hm
   refine W_seq <| W_d mr_mixed (by kernel_rfl) (.n 4 (I (if w64 (x_block - (x_11.length : Int)) < (b1.length : Int) then w64 (x_block - (x_11.length : Int)) else (b1.length : Int))) .a) (fun m => qs g_x 0 <| qs g_x 0 <| qB (k_13.drew m) 0 rfl 11 (I x_block) (by kernel_rfl) <| qs g_x 0 <| qs g_x 0 <| qB (k_13.drew m) 0 rfl 10 (sl A2 x_11.length c2) (by kernel_rfl) <| qe) (by kernel_rfl) (fun m_1 => ?_)
   have k_14 := k_13.drew m_1
   refine At_go <| W_seq ?_
   have k_15 := k_14.drew 1
   refine W_m mr_mixed (.q 0 1 (.q 1 1 (.q 2 1 (.q 3 1 (.q 4 0 (.q 5 1 (.q 6 1 (.q 7 0 (.op 8 (.q 9 2 (.q 10 1 (.op 11 .nil)))))))))))) [8, 11] k_15 (.c (.k .z) (.c (.z) .l)) (by kernel_rfl) (fun _ => ?_)
   refine MXz 4 1 (.n 75 (pt g_x 0) (.n 78 (pt g_x 10) .a)) (fun x hx => qs g_x 0 <| qs g_x 0 <| qe) fun _ => ?_
   refine MXz 1 0 (.n 79 (sl A2 x_11.length c2) (.k (.s .a))) (fun x hx => qB hx 0 rfl 10 (sl A2 x_11.length c2) (by kernel_rfl) <| qe) fun _ => ?_
   refine MXz 2 1 (.n 80 (sl A1 b1.length c1) (.n 81 (I (if w64 (x_block - (x_11.length : Int)) < (b1.length : Int) then w64 (x_block - (x_11.length : Int)) else (b1.length : Int))) .a)) (fun x hx => qe) fun _ => ?_
   obtain ⟨b3, h_b3, hm⟩ := ob hm
   have hs1 := slc_some h_b3
   have hl1 := slc_len h_b3
   have hn1 : b1.length = b1.length := rfl
   have hc5 : b1.length ≤ c1 := hc
   have hc6 : b3.length ≤ c1 := by omega
   refine MXz 1 0 (.n 82 (sl A1 b3.length c1) (.ss .a)) (fun x hx => qp (0 ≤ (if w64 (x_block - (x_11.length : Int)) < (b1.length : Int) then w64 (x_block - (x_11.length : Int)) else (b1.length : Int)) ∧ (if w64 (x_block - (x_11.length : Int)) < (b1.length : Int) then w64 (x_block - (x_11.length : Int)) else (b1.length : Int)) ≤ (c1 : Int)) (by omega) <| qo (.v (.slice A1 b3.length c1)) <| qp (Value.slice (slA A1 0 c1 1) (Int.toNat (if w64 (x_block - (x_11.length : Int)) < (b1.length : Int) then w64 (x_block - (x_11.length : Int)) else (b1.length : Int)) - 0) (c1 - 0) = .slice A1 b3.length c1) (slx0 _ _ _ _ _ (by omega)) <| qe) fun _ => ?_
   refine MX_op (by kernel_rfl) rfl ?_
   obtain ⟨b4, h_b4, hm⟩ := ob hm
   obtain ⟨hz, hl2⟩ := app_some h_b4
   refine Op_append (E := e8) (v := sl A1 b3.length c1) (ys := b3) mr_tf33 [] 83 1 (by kernel_rfl) k_15 rfl (Src.sl (Rd.pre (h.cx k_15) h_b3 rfl) rfl (by rfl)) rfl (by have := k_15.len 1 rfl; have := hm; omega) ?_
   intro A3 c3 w_7 k_16
   rw [← hl2] at k_16
   refine ⟨(k_16.sel (.k .z)), fun _ => ?_⟩
   refine MXz 1 2 (.n 84 (pt g_x 0) (.k (.sss .a))) (fun x hx => qs g_x 0 <| qe) fun _ => ?_
   refine MXz 1 1 (.n 85 (pt g_x 10) (.s .a)) (fun x hx => qs g_x 0 <| qe) fun _ => ?_
   refine MX_op (by kernel_rfl) rfl <| Op_bz 0 (sl A3 (x_11.length + b3.length) c3) [sl A3 (x_11.length + b3.length) c3] (Pt.at g_x 10) k_16 rfl (.kk (.k .h)) ?_
   intro w_8 k_17
   refine ⟨(k_17.sel .z), fun _ => ?_⟩
   refine MX_nil <| At_go ?_
   obtain ⟨b5, h_b5, hm⟩ := ob hm
   have hs2 := slc_some h_b5
   have hl3 := slc_len h_b5
   have hn2 : b1.length = b1.length := rfl
   have hc7 : b1.length ≤ c1 := hc
   obtain ⟨A4, c4, e_, hc8, hA, hc9⟩ := slx A1 (Int.toNat (if w64 (x_block - (x_11.length : Int)) < (b1.length : Int) then w64 (x_block - (x_11.length : Int)) else (b1.length : Int))) c1 1 (b1.length - Int.toNat (if w64 (x_block - (x_11.length : Int)) < (b1.length : Int) then w64 (x_block - (x_11.length : Int)) else (b1.length : Int))) b5.length (by omega) (by omega)
   refine W_q [] (.n 1 (sl A4 b5.length c4) (.sss (.k .z))) (qp (0 ≤ (if w64 (x_block - (x_11.length : Int)) < (b1.length : Int) then w64 (x_block - (x_11.length : Int)) else (b1.length : Int)) ∧ (if w64 (x_block - (x_11.length : Int)) < (b1.length : Int) then w64 (x_block - (x_11.length : Int)) else (b1.length : Int)) ≤ (b1.length : Int)) (by omega) <| qo (.v (.slice A4 b5.length c4)) <| qp (Value.slice (slA A1 (Int.toNat (if w64 (x_block - (x_11.length : Int)) < (b1.length : Int) then w64 (x_block - (x_11.length : Int)) else (b1.length : Int))) c1 1) (b1.length - Int.toNat (if w64 (x_block - (x_11.length : Int)) < (b1.length : Int) then w64 (x_block - (x_11.length : Int)) else (b1.length : Int))) (c1 - Int.toNat (if w64 (x_block - (x_11.length : Int)) < (b1.length : Int) then w64 (x_block - (x_11.length : Int)) else (b1.length : Int))) = .slice A4 b5.length c4) e_ <| qe) (by kernel_rfl) ?_
   refine At_in ?_
   exact At_rd (x_8, x_9, x_10, b4, b5) (Option.some.inj hm).symm ⟨x_8, x_9, x_10, b4, b5, A3, x_11.length + b3.length, c3, A4, c4, rfl, rfl, k_17.len 1 rfl, (Ro.cut h h_b5 rfl (by rfl) hA (by omega)), hc8, k_17⟩ (by kernel_rfl)
 rw [if_neg hc1] at hm
 refine W_exit (At_te (At_te (At_ie ?_)))
 have hm := exit_of hm hr0
 obtain rfl := si hm
 refine At_en [] qe (by kernel_rfl) ?_
 exact ⟨A0, x_7.length, c0, k_.len 1 rfl, rfl, k_⟩
theorem c_node_Node_begin (n_kind : Int) (n_digest : Int) (n_block : List UInt8) (n_key : List UInt8) (n_last : Bool) (n_written : UInt64) (g_n : Nat) (A_n_block : Option Addr) (n_n_block : Nat) (c_n_block : Nat) (A_n_key : Option Addr) (n_n_key : Nat) (c_n_key : Nat) (k : Cx F O w w [Bx 102 g_n [I n_kind, I n_digest, sl A_n_block n_n_block c_n_block, sl A_n_key n_n_key c_n_key, .b n_last, .u64 n_written, .v .nilIface], Ow e8 A_n_block n_n_block c_n_block n_block, Ow e8 A_n_key n_n_key c_n_key n_key]) (r : (Int × Int × List UInt8 × List UInt8 × Vec UInt64 8 × UInt64 × UInt64 × List UInt8 × Int) ⊕ (Int × Int × List UInt8 × List UInt8 × Vec UInt32 8 × UInt64 × UInt64 × List UInt8 × Int)) (hm : m_node_Node_begin n_kind n_digest n_block n_key n_last n_written = some r) :
    Calls Tryz.prog 80 (vals [pt g_n 0]) w (fun e w' => match r with | .inl r0 => ∃ A n c A1 n1 c1 g A2 n2 c2, r0.2.2.1.length = n ∧ r0.2.2.2.1.length = n1 ∧ r0.2.2.2.2.2.2.2.1.length = n2 ∧ e = .returned (SV.val (.tup [])) ∧ Cx F O w w' [Bx 102 g_n [I r0.1, I r0.2.1, sl A n c, sl A1 n1 c1, .b false, .u64 0, .v (.iface 165 (SV.val (pt g 0)))], Ow e8 A n c r0.2.2.1, Ow e8 A1 n1 c1 r0.2.2.2.1, Bx 171 g [.ar e64 r0.2.2.2.2.1, .u64 r0.2.2.2.2.2.1, .u64 r0.2.2.2.2.2.2.1, sl A2 n2 c2, I r0.2.2.2.2.2.2.2.2, .v (.func (.func 100) ⟨SV.vals []⟩ ⟨SV.vals []⟩), .v (.func (.func 101) ⟨SV.vals []⟩ ⟨SV.vals []⟩)], Ow e8 A2 n2 c2 r0.2.2.2.2.2.2.2.1] | .inr r1 => ∃ A3 n3 c3 A4 n4 c4 g1 A5 n5 c5, r1.2.2.1.length = n3 ∧ r1.2.2.2.1.length = n4 ∧ r1.2.2.2.2.2.2.2.1.length = n5 ∧ e = .returned (SV.val (.tup [])) ∧ Cx F O w w' [Bx 102 g_n [I r1.1, I r1.2.1, sl A3 n3 c3, sl A4 n4 c4, .b false, .u64 0, .v (.iface 174 (SV.val (pt g1 0)))], Ow e8 A3 n3 c3 r1.2.2.1, Ow e8 A4 n4 c4 r1.2.2.2.1, Bx 178 g1 [.ar e32 r1.2.2.2.2.1, .u64 r1.2.2.2.2.2.1, .u64 r1.2.2.2.2.2.2.1, sl A5 n5 c5, I r1.2.2.2.2.2.2.2.2, .v (.func (.func 103) ⟨SV.vals []⟩ ⟨SV.vals []⟩), .v (.func (.func 104) ⟨SV.vals []⟩ ⟨SV.vals []⟩)], Ow e8 A5 n5 c5 r1.2.2.2.2.2.2.2.1]) := by
 unfold m_node_Node_begin at hm
 obtain rfl := k.len 1 rfl
 obtain rfl := k.len 2 rfl
 refine calz [pt g_n 0] Tryz.func80 rfl ?_
 refine W_seq ?_
 have k_ := k.drew 1
 refine W_m mr_mixed (.q 0 1 (.q 1 1 (.q 2 1 (.q 3 1 (.q 4 0 (.q 5 1 (.q 6 1 (.q 7 1 (.q 8 0 (.op 9 (.q 10 2 (.q 11 1 (.op 12 .nil))))))))))))) [9, 12] k_ (.c (.kk (.k .e)) (.c (.s (.kk .e)) .l)) (by kernel_rfl) (fun _ => ?_)
 refine MXz 4 1 (.n 2 (pt g_n 0) (.n 5 (pt g_n 0) .a)) (fun x hx => qs g_n 0 <| qs g_n 0 <| qe) fun _ => ?_
 refine MXz 1 0 (.n 6 (I n_kind) (.k (.s .a))) (fun x hx => qB hx 0 rfl 0 (I n_kind) (by kernel_rfl) <| qe) fun _ => ?_
 refine MXz 3 1 (.n 9 (pt g_n 2) .a) (fun x hx => qs g_n 0 <| qs g_n 0 <| qe) fun _ => ?_
 refine MXz 1 0 (.n 10 (sl A_n_block n_block.length c_n_block) (.s .a)) (fun x hx => qB hx 0 rfl 2 (sl A_n_block n_block.length c_n_block) (by kernel_rfl) <| qe) fun _ => ?_
 refine MX_op (by kernel_rfl) rfl ?_
 obtain ⟨r_, h_r_, hm⟩ := ob hm
 refine Op_cz 11 mr_go87 (c_node_begun (F := N0) (O := N0) _ _ _ _ _ (Ro.n0 (k_.rd 1 rfl)) (k_.len 1 rfl) (k_.lec 1 rfl) (Cx.refl _) _ h_r_) ?_
 rcases r_ with r_1 | r_2
 · simp only [Sum.elim_inl, Sum.elim_inr] at hm
   rintro e_ w_ ⟨g0, A0, _, c0, rfl, rfl, k_1⟩
   have k_2 := k_.call k_1
   refine ⟨.v (.iface 165 (SV.val (pt g0 0))), rfl, ?_⟩
   refine ⟨(k_2.sel (.kk (.k .z))), fun _ => ?_⟩
   refine MXz 1 2 (.n 12 (pt g_n 0) (.k (.sss .a))) (fun x hx => qs g_n 0 <| qe) fun _ => ?_
   refine MXz 1 1 (.n 13 (pt g_n 6) (.s .a)) (fun x hx => qs g_n 0 <| qe) fun _ => ?_
   refine MX_op (by kernel_rfl) rfl <| Op_bz 0 (.v (.iface 165 (SV.val (pt g0 0)))) [.v (.iface 165 (SV.val (pt g0 0)))] (Pt.at g_n 6) k_2 rfl (.kkkk (.kk .h)) ?_
   intro w_1 k_3
   refine ⟨(k_3.sel (.s (.kk .z))), fun _ => ?_⟩
   refine MX_nil <| At_go <| W_seq <| W_reg <| Wl 3 (.n 16 (pt g_n 4) (.ss .a)) (qs g_n 0 <| qs g_n 0 <| qe) ?_
   refine WL_op <| Op_bz 0 (.b false) [.b false] (Pt.at g_n 4) k_3 rfl (.kkkk .h) ?_
   intro w_2 k_4
   refine Wn <| W_seq <| W_reg <| Wl 3 (.n 19 (pt g_n 5) (.s .a)) (qs g_n 0 <| qs g_n 0 <| qe) ?_
   refine WL_op <| Op_bz 0 (.u64 0) [.u64 0] (Pt.at g_n 5) k_4 rfl (.kkkk (.k .h)) ?_
   intro w_3 k_5
   refine Wn <| W_seq <| Wa (.n 25 (.b (decide (0 < (n_key.length : Int)))) (.s .a)) (qs g_n 0 <| qs g_n 0 <| qB k_5 0 rfl 3 (sl A_n_key n_key.length c_n_key) (by kernel_rfl) <| qe) ?_
   refine W_pz (0 < (n_key.length : Int)) (fun hc => ?_) fun hc => ?_
   · rw [if_pos hc] at hm
     have k_6 := k_5.drew 1
     refine W_m mr_mixed (.q 0 3 (.q 1 3 (.q 2 3 (.q 3 3 (.q 4 3 (.q 5 3 (.q 6 3 (.q 7 2 (.q 8 3 (.q 9 3 (.q 10 3 (.q 11 2 (.q 14 3 (.q 15 2 (.op 12 (.op 13 (.op 16 .nil))))))))))))))))) [12, 13, 16] k_6 (.c (.kkkk (.k .e)) (.c (.kkkk (.k .e)) (.c (.kk (.k .z)) .l))) (by kernel_rfl) (fun _ => ?_)
     refine MXz 7 3 (.n 29 (.v (.iface 165 (SV.val (pt g0 0)))) (.n 32 (pt g_n 3) (.s .a))) (fun x hx => qs g_n 0 <| qs g_n 0 <| qB hx 0 rfl 6 (.v (.iface 165 (SV.val (pt g0 0)))) (by kernel_rfl) <| qs g_n 0 <| qs g_n 0 <| qe) fun _ => ?_
     refine MXz 1 2 (.n 33 (sl A_n_key n_key.length c_n_key) (.k (.s .a))) (fun x hx => qB hx 0 rfl 3 (sl A_n_key n_key.length c_n_key) (by kernel_rfl) <| qe) fun _ => ?_
     refine MXz 3 3 (.n 36 (pt g_n 0) (.kk .z)) (fun x hx => qs g_n 0 <| qs g_n 0 <| qe) fun _ => ?_
     refine MXz 1 2 (.n 37 (I n_kind) (.s .a)) (fun x hx => qB hx 0 rfl 0 (I n_kind) (by kernel_rfl) <| qe) fun _ => ?_
     refine MXz 1 3 .a (fun x hx => qe) fun _ => ?_
     refine MXz 1 2 (.n 41 (.v (.iface 165 (SV.val (pt g0 0)))) (.kk .z)) (fun x hx => qe) fun _ => ?_
     refine MX_op (by kernel_rfl) rfl ?_
     have k_7 := k_6.sel (.kkkk (.k .e))
     obtain ⟨r_3, h_r_3, hm⟩ := ob hm
     refine Op_cz 38 mr_go68 (c_node_blockOf (F := N0) (O := N0) _ (Cx.refl _) _ h_r_3) ?_
     rintro e_ w_4 ⟨rfl, k_8⟩
     have k_9 := k_7.call k_8
     refine ⟨I r_3, rfl, ?_⟩
     refine ⟨k_9, fun _ => ?_⟩
     refine MX_op (by kernel_rfl) rfl ?_
     obtain ⟨r_4, h_r_4, hm⟩ := ob hm
     refine Op_cz 39 mr_go88 (c_node_padded (F := N0) (O := N0) _ _ _ _ _ (Ro.n0 (k_9.rd 2 rfl)) (k_9.len 2 rfl) (k_9.lec 2 rfl) (Cx.refl _) _ h_r_4) ?_
     rintro e_ w_5 ⟨A6, _, c6, rfl, rfl, k_10⟩
     have k_11 := k_9.call k_10
     refine ⟨sl A6 r_4.length c6, rfl, ?_⟩
     refine ⟨(k_11.sel (.kkkk (.k .z))), fun _ => ?_⟩
     refine MX_op (by kernel_rfl) rfl ?_
     obtain ⟨r_5, h_r_5, hm⟩ := ob hm
     obtain ⟨F1, O1, kin, hO, hre, hF, hb⟩ := k_11.go (.r (.r (.r (.i (.i (.r .e))))))
     refine Op_invoke [] 42 165 (pt g0 0) [sl A6 r_4.length c6] mr_inv165_node_write rfl (by kernel_rfl) (c_node_half_uint64_write (F := F1) (O := O1) _ _ _ _ _ _ _ _ _ _ _ _ _ (Ro.of_rest hre 3 rfl) (k_11.len 5 rfl) (k_11.lec 5 rfl) kin _ h_r_5) ?_
     rintro e_ w_6 ⟨A7, _, c7, rfl, rfl, k_12⟩
     have k_13 := hb w_6 _ _ k_12 (.c (.c .n))
     refine ⟨.tup [], rfl, ?_⟩
     have k_14 := k_13.sel (.kkkk (.k .z))
     refine ⟨(k_14.sel (.ss (.kk (.k .e)))), fun _ => ?_⟩
     refine MX_nil ?_
     obtain rfl := si hm
     refine At_en [] qe (by kernel_rfl) ?_
     have k_15 := ((((k_14.pk (.t .h)).pk (.t .h)).pk (.t (.t (.t (.t .h))))).pk (.t (.t (.t (.t .h))))).pk (.t (.t (.t (.t .h))))
     exact ⟨A_n_block, n_block.length, c_n_block, A_n_key, n_key.length, c_n_key, g0, A7, r_5.2.2.2.1.length, c7, k_15.len 1 rfl, k_15.len 2 rfl, k_15.len 4 rfl, rfl, k_15⟩
   rw [if_neg hc] at hm
   refine W_skip ?_
   obtain rfl := si hm
   refine At_en [] qe (by kernel_rfl) ?_
   exact ⟨A_n_block, n_block.length, c_n_block, A_n_key, n_key.length, c_n_key, g0, A0, r_1.2.length, c0, k_5.len 1 rfl, k_5.len 2 rfl, k_5.len 4 rfl, rfl, k_5⟩
 · simp only [Sum.elim_inl, Sum.elim_inr] at hm
   rintro e_ w_0 ⟨g2, A8, _, c8, rfl, rfl, k_16⟩
   have k_17 := k_.call k_16
   refine ⟨.v (.iface 174 (SV.val (pt g2 0))), rfl, ?_⟩
   refine ⟨(k_17.sel (.kk (.k .z))), fun _ => ?_⟩
   refine MXz 1 2 (.n 12 (pt g_n 0) (.k (.sss .a))) (fun x hx => qs g_n 0 <| qe) fun _ => ?_
   refine MXz 1 1 (.n 13 (pt g_n 6) (.s .a)) (fun x hx => qs g_n 0 <| qe) fun _ => ?_
   refine MX_op (by kernel_rfl) rfl <| Op_bz 0 (.v (.iface 174 (SV.val (pt g2 0)))) [.v (.iface 174 (SV.val (pt g2 0)))] (Pt.at g_n 6) k_17 rfl (.kkkk (.kk .h)) ?_
   intro w_7 k_18
   refine ⟨(k_18.sel (.s (.kk .z))), fun _ => ?_⟩
   refine MX_nil <| At_go <| W_seq <| W_reg <| Wl 3 (.n 16 (pt g_n 4) (.ss .a)) (qs g_n 0 <| qs g_n 0 <| qe) ?_
   refine WL_op <| Op_bz 0 (.b false) [.b false] (Pt.at g_n 4) k_18 rfl (.kkkk .h) ?_
   intro w_8 k_19
   refine Wn <| W_seq <| W_reg <| Wl 3 (.n 19 (pt g_n 5) (.s .a)) (qs g_n 0 <| qs g_n 0 <| qe) ?_
   refine WL_op <| Op_bz 0 (.u64 0) [.u64 0] (Pt.at g_n 5) k_19 rfl (.kkkk (.k .h)) ?_
   intro w_9 k_20
   refine Wn <| W_seq <| Wa (.n 25 (.b (decide (0 < (n_key.length : Int)))) (.s .a)) (qs g_n 0 <| qs g_n 0 <| qB k_20 0 rfl 3 (sl A_n_key n_key.length c_n_key) (by kernel_rfl) <| qe) ?_
   refine W_pz (0 < (n_key.length : Int)) (fun hc0 => ?_) fun hc0 => ?_
   · rw [if_pos hc0] at hm
     have k_21 := k_20.drew 1
     refine W_m mr_mixed (.q 0 3 (.q 1 3 (.q 2 3 (.q 3 3 (.q 4 3 (.q 5 3 (.q 6 3 (.q 7 2 (.q 8 3 (.q 9 3 (.q 10 3 (.q 11 2 (.q 14 3 (.q 15 2 (.op 12 (.op 13 (.op 16 .nil))))))))))))))))) [12, 13, 16] k_21 (.c (.kkkk (.k .e)) (.c (.kkkk (.k .e)) (.c (.kk (.k .z)) .l))) (by kernel_rfl) (fun _ => ?_)
     refine MXz 7 3 (.n 29 (.v (.iface 174 (SV.val (pt g2 0)))) (.n 32 (pt g_n 3) (.s .a))) (fun x hx => qs g_n 0 <| qs g_n 0 <| qB hx 0 rfl 6 (.v (.iface 174 (SV.val (pt g2 0)))) (by kernel_rfl) <| qs g_n 0 <| qs g_n 0 <| qe) fun _ => ?_
     refine MXz 1 2 (.n 33 (sl A_n_key n_key.length c_n_key) (.k (.s .a))) (fun x hx => qB hx 0 rfl 3 (sl A_n_key n_key.length c_n_key) (by kernel_rfl) <| qe) fun _ => ?_
     refine MXz 3 3 (.n 36 (pt g_n 0) (.kk .z)) (fun x hx => qs g_n 0 <| qs g_n 0 <| qe) fun _ => ?_
     refine MXz 1 2 (.n 37 (I n_kind) (.s .a)) (fun x hx => qB hx 0 rfl 0 (I n_kind) (by kernel_rfl) <| qe) fun _ => ?_
     refine MXz 1 3 .a (fun x hx => qe) fun _ => ?_
     refine MXz 1 2 (.n 41 (.v (.iface 174 (SV.val (pt g2 0)))) (.kk .z)) (fun x hx => qe) fun _ => ?_
     refine MX_op (by kernel_rfl) rfl ?_
     have k_22 := k_21.sel (.kkkk (.k .e))
     obtain ⟨r_6, h_r_6, hm⟩ := ob hm
     refine Op_cz 38 mr_go68 (c_node_blockOf (F := N0) (O := N0) _ (Cx.refl _) _ h_r_6) ?_
     rintro e_ w_10 ⟨rfl, k_23⟩
     have k_24 := k_22.call k_23
     refine ⟨I r_6, rfl, ?_⟩
     refine ⟨k_24, fun _ => ?_⟩
     refine MX_op (by kernel_rfl) rfl ?_
     obtain ⟨r_7, h_r_7, hm⟩ := ob hm
     refine Op_cz 39 mr_go88 (c_node_padded (F := N0) (O := N0) _ _ _ _ _ (Ro.n0 (k_24.rd 2 rfl)) (k_24.len 2 rfl) (k_24.lec 2 rfl) (Cx.refl _) _ h_r_7) ?_
     rintro e_ w_11 ⟨A9, _, c9, rfl, rfl, k_25⟩
     have k_26 := k_24.call k_25
     refine ⟨sl A9 r_7.length c9, rfl, ?_⟩
     refine ⟨(k_26.sel (.kkkk (.k .z))), fun _ => ?_⟩
     refine MX_op (by kernel_rfl) rfl ?_
     obtain ⟨r_8, h_r_8, hm⟩ := ob hm
     obtain ⟨F10, O10, kin0, hO0, hre0, hF0, hb0⟩ := k_26.go (.r (.r (.r (.i (.i (.r .e))))))
     refine Op_invoke [] 42 174 (pt g2 0) [sl A9 r_7.length c9] mr_inv174_node_write rfl (by kernel_rfl) (c_node_half_uint32_write (F := F10) (O := O10) _ _ _ _ _ _ _ _ _ _ _ _ _ (Ro.of_rest hre0 3 rfl) (k_26.len 5 rfl) (k_26.lec 5 rfl) kin0 _ h_r_8) ?_
     rintro e_ w_12 ⟨A10, _, c10, rfl, rfl, k_27⟩
     have k_28 := hb0 w_12 _ _ k_27 (.c (.c .n))
     refine ⟨.tup [], rfl, ?_⟩
     have k_29 := k_28.sel (.kkkk (.k .z))
     refine ⟨(k_29.sel (.ss (.kk (.k .e)))), fun _ => ?_⟩
     refine MX_nil ?_
     obtain rfl := si hm
     refine At_en [] qe (by kernel_rfl) ?_
     have k_30 := ((((k_29.pk (.t .h)).pk (.t .h)).pk (.t (.t (.t (.t .h))))).pk (.t (.t (.t (.t .h))))).pk (.t (.t (.t (.t .h))))
     exact ⟨A_n_block, n_block.length, c_n_block, A_n_key, n_key.length, c_n_key, g2, A10, r_8.2.2.2.1.length, c10, k_30.len 1 rfl, k_30.len 2 rfl, k_30.len 4 rfl, rfl, k_30⟩
   rw [if_neg hc0] at hm
   refine W_skip ?_
   obtain rfl := si hm
   refine At_en [] qe (by kernel_rfl) ?_
   exact ⟨A_n_block, n_block.length, c_n_block, A_n_key, n_key.length, c_n_key, g2, A8, r_2.2.length, c8, k_20.len 1 rfl, k_20.len 2 rfl, k_20.len 4 rfl, rfl, k_20⟩
theorem c_node_made (k_ : Int) (block : List UInt8) (digest : Int) (key : List UInt8) (A_block : Option Addr) (n_block : Nat) (c_block : Nat) (A_key : Option Addr) (n_key : Nat) (c_key : Nat) (h_block : Ro F w A_block (e8.all block)) (hn_block : block.length = n_block) (hc_block : n_block ≤ c_block) (h_key : Ro F w A_key (e8.all key)) (hn_key : key.length = n_key) (hc_key : n_key ≤ c_key) (k : Cx F O w w []) (r : (Int × Int × List UInt8 × List UInt8 × Vec UInt64 8 × UInt64 × UInt64 × List UInt8 × Int) ⊕ (Int × Int × List UInt8 × List UInt8 × Vec UInt32 8 × UInt64 × UInt64 × List UInt8 × Int)) (hm : m_node_made k_ block digest key = some r) :
    Calls Tryz.prog 66 (vals [I k_, sl A_block n_block c_block, I digest, sl A_key n_key c_key]) w (fun e w' => match r with | .inl r0 => ∃ g A n c A1 n1 c1 g1 A2 n2 c2, r0.2.2.1.length = n ∧ r0.2.2.2.1.length = n1 ∧ r0.2.2.2.2.2.2.2.1.length = n2 ∧ e = .returned (SV.val (pt g 0)) ∧ Cx F O w w' [Bx 102 g [I r0.1, I r0.2.1, sl A n c, sl A1 n1 c1, .b false, .u64 0, .v (.iface 165 (SV.val (pt g1 0)))], Ow e8 A n c r0.2.2.1, Ow e8 A1 n1 c1 r0.2.2.2.1, Bx 171 g1 [.ar e64 r0.2.2.2.2.1, .u64 r0.2.2.2.2.2.1, .u64 r0.2.2.2.2.2.2.1, sl A2 n2 c2, I r0.2.2.2.2.2.2.2.2, .v (.func (.func 100) ⟨SV.vals []⟩ ⟨SV.vals []⟩), .v (.func (.func 101) ⟨SV.vals []⟩ ⟨SV.vals []⟩)], Ow e8 A2 n2 c2 r0.2.2.2.2.2.2.2.1] | .inr r1 => ∃ g2 A3 n3 c3 A4 n4 c4 g3 A5 n5 c5, r1.2.2.1.length = n3 ∧ r1.2.2.2.1.length = n4 ∧ r1.2.2.2.2.2.2.2.1.length = n5 ∧ e = .returned (SV.val (pt g2 0)) ∧ Cx F O w w' [Bx 102 g2 [I r1.1, I r1.2.1, sl A3 n3 c3, sl A4 n4 c4, .b false, .u64 0, .v (.iface 174 (SV.val (pt g3 0)))], Ow e8 A3 n3 c3 r1.2.2.1, Ow e8 A4 n4 c4 r1.2.2.2.1, Bx 178 g3 [.ar e32 r1.2.2.2.2.1, .u64 r1.2.2.2.2.2.1, .u64 r1.2.2.2.2.2.2.1, sl A5 n5 c5, I r1.2.2.2.2.2.2.2.2, .v (.func (.func 103) ⟨SV.vals []⟩ ⟨SV.vals []⟩), .v (.func (.func 104) ⟨SV.vals []⟩ ⟨SV.vals []⟩)], Ow e8 A5 n5 c5 r1.2.2.2.2.2.2.2.1]) := by
 unfold m_node_made at hm
 subst hn_block
 subst hn_key
 refine calz [I k_, sl A_block block.length c_block, I digest, sl A_key key.length c_key] Tryz.func66 rfl ?_
 refine Wz .a ?_
 refine W_seq <| W_reg <| We 3 (.n 10 (I k_) (.n 11 (I digest) (.n 12 (sl A_block block.length c_block) (.sss .a)))) ?_
 refine WL_op ?_
 have k_1 := k.nil e8
 obtain ⟨b, h_b, hm⟩ := ob hm
 obtain ⟨hz, hl⟩ := app_some h_b
 refine Op_append (E := e8) (v := sl A_block block.length c_block) (ys := block) mr_tf33 [] 13 0 (by kernel_rfl) k_1 rfl (Src.sl (h_block.cx k_1) rfl (by rfl)) rfl (by have := k_1.len 0 rfl; have := hm; omega) ?_
 intro A0 c0 w_ k_2
 rw [← hl] at k_2
 refine We 1 (.n 14 (sl A_key key.length c_key) (.kkk .z)) ?_
 refine WL_op ?_
 have k_3 := k_2.nil e8
 obtain ⟨b1, h_b1, hm⟩ := ob hm
 obtain ⟨hz1, hl1⟩ := app_some h_b1
 refine Op_append (E := e8) (v := sl A_key key.length c_key) (ys := key) mr_tf33 [] 15 1 (by kernel_rfl) k_3 rfl (Src.sl (h_key.cx k_3) rfl (by rfl)) rfl (by have := k_3.len 1 rfl; have := hm; omega) ?_
 intro A6 c6 w_1 k_4
 rw [← hl1] at k_4
 refine We 1 (.n 16 (.agg [I k_, I digest, sl A0 (0 + block.length) c0, sl A6 (0 + key.length) c6, .b false, .u64 0, .v .nilIface]) .z) ?_
 refine WL_op <| Op_box [] 17 (.agg [I k_, I digest, sl A0 (0 + block.length) c0, sl A6 (0 + key.length) c6, .b false, .u64 0, .v .nilIface]) [I k_, I digest, sl A0 (0 + block.length) c0, sl A6 (0 + key.length) c6, .b false, .u64 0, .v .nilIface] (by kernel_rfl) k_4 ?_
 intro g0 w_2 k_5
 refine We 1 (.n 9 (pt g0 0) .z) ?_
 refine Wn <| W_seq <| W_reg <| We 1 (.n 18 (pt g0 0) .a) ?_
 refine WL_op ?_
 obtain ⟨r_, h_r_, hm⟩ := ob hm
 have k_6 := ((k_5.pk (.t .h)).pk (.t .h)).pk (.t (.t .h))
 obtain ⟨F1, O1, kin, hO, hre, hF, hb⟩ := k_6.go (.i (.i (.i .e)))
 refine Op_cz 19 mr_go80 (c_node_Node_begin (F := F1) (O := O1) _ _ _ _ _ _ _ _ _ _ _ _ _ kin _ h_r_) ?_
 rcases r_ with r_1 | r_2
 · simp only [Sum.elim_inl, Sum.elim_inr] at hm
   rintro e_ w_3 ⟨A7, _, c7, A8, _, c8, g4, A9, _, c9, rfl, rfl, rfl, rfl, k_7⟩
   have k_8 := hb w_3 _ _ k_7 (.c (.c (.c (.c (.c .n)))))
   refine ⟨.tup [], rfl, ?_⟩
   refine Wn <| Wz (.n 8 (pt g0 0) .z) ?_
   refine W_ret ?_
   obtain rfl := si hm
   refine At_rz [pt g0 0] qe ?_
   exact ⟨g0, A7, r_1.2.2.1.length, c7, A8, r_1.2.2.2.1.length, c8, g4, A9, r_1.2.2.2.2.2.2.2.1.length, c9, k_8.len 1 rfl, k_8.len 2 rfl, k_8.len 4 rfl, rfl, k_8⟩
 · simp only [Sum.elim_inl, Sum.elim_inr] at hm
   rintro e_ w_4 ⟨A10, _, c10, A11, _, c11, g5, A12, _, c12, rfl, rfl, rfl, rfl, k_9⟩
   have k_10 := hb w_4 _ _ k_9 (.c (.c (.c (.c (.c .n)))))
   refine ⟨.tup [], rfl, ?_⟩
   refine Wn <| Wz (.n 8 (pt g0 0) .z) ?_
   refine W_ret ?_
   obtain rfl := si hm
   refine At_rz [pt g0 0] qe ?_
   exact ⟨g0, A10, r_2.2.2.1.length, c10, A11, r_2.2.2.2.1.length, c11, g5, A12, r_2.2.2.2.2.2.2.2.1.length, c12, k_10.len 1 rfl, k_10.len 2 rfl, k_10.len 4 rfl, rfl, k_10⟩
theorem c_node_New (k_ : Int) (p_Digest : Int) (p_Key : Int) (p_Fanout : Int) (p_Depth : Int) (p_Leaf : UInt32) (p_Offset : UInt64) (p_Xof : UInt32) (p_NodeDepth : Int) (p_Inner : Int) (p_Salt : List UInt8) (p_Personal : List UInt8) (key : List UInt8) (A_p_Salt : Option Addr) (n_p_Salt : Nat) (c_p_Salt : Nat) (A_p_Personal : Option Addr) (n_p_Personal : Nat) (c_p_Personal : Nat) (A_key : Option Addr) (n_key : Nat) (c_key : Nat) (h_p_Salt : Ro F w A_p_Salt (e8.all p_Salt)) (hn_p_Salt : p_Salt.length = n_p_Salt) (hc_p_Salt : n_p_Salt ≤ c_p_Salt) (h_p_Personal : Ro F w A_p_Personal (e8.all p_Personal)) (hn_p_Personal : p_Personal.length = n_p_Personal) (hc_p_Personal : n_p_Personal ≤ c_p_Personal) (h_key : Ro F w A_key (e8.all key)) (hn_key : key.length = n_key) (hc_key : n_key ≤ c_key) (k : Cx F O w w []) (r : Int ⊕ (Int × Int × List UInt8 × List UInt8 × Vec UInt64 8 × UInt64 × UInt64 × List UInt8 × Int) ⊕ (Int × Int × List UInt8 × List UInt8 × Vec UInt32 8 × UInt64 × UInt64 × List UInt8 × Int)) (hm : m_node_New k_ p_Digest p_Key p_Fanout p_Depth p_Leaf p_Offset p_Xof p_NodeDepth p_Inner p_Salt p_Personal key = some r) :
    Calls Tryz.prog 53 (vals [I k_, .agg [I p_Digest, I p_Key, I p_Fanout, I p_Depth, .u32 p_Leaf, .u64 p_Offset, .u32 p_Xof, I p_NodeDepth, I p_Inner, sl A_p_Salt n_p_Salt c_p_Salt, sl A_p_Personal n_p_Personal c_p_Personal], sl A_key n_key c_key]) w (fun e w' => match r with | .inl r0 => e = .returned (SV.val (.tup [.v (.pointer none), I r0])) ∧ Cx F O w w' [] | .inr (.inl r1) => ∃ g A n c A1 n1 c1 g1 A2 n2 c2, r1.2.2.1.length = n ∧ r1.2.2.2.1.length = n1 ∧ r1.2.2.2.2.2.2.2.1.length = n2 ∧ e = .returned (SV.val (.tup [pt g 0, I 0])) ∧ Cx F O w w' [Bx 102 g [I r1.1, I r1.2.1, sl A n c, sl A1 n1 c1, .b false, .u64 0, .v (.iface 165 (SV.val (pt g1 0)))], Ow e8 A n c r1.2.2.1, Ow e8 A1 n1 c1 r1.2.2.2.1, Bx 171 g1 [.ar e64 r1.2.2.2.2.1, .u64 r1.2.2.2.2.2.1, .u64 r1.2.2.2.2.2.2.1, sl A2 n2 c2, I r1.2.2.2.2.2.2.2.2, .v (.func (.func 100) ⟨SV.vals []⟩ ⟨SV.vals []⟩), .v (.func (.func 101) ⟨SV.vals []⟩ ⟨SV.vals []⟩)], Ow e8 A2 n2 c2 r1.2.2.2.2.2.2.2.1] | .inr (.inr r2) => ∃ g2 A3 n3 c3 A4 n4 c4 g3 A5 n5 c5, r2.2.2.1.length = n3 ∧ r2.2.2.2.1.length = n4 ∧ r2.2.2.2.2.2.2.2.1.length = n5 ∧ e = .returned (SV.val (.tup [pt g2 0, I 0])) ∧ Cx F O w w' [Bx 102 g2 [I r2.1, I r2.2.1, sl A3 n3 c3, sl A4 n4 c4, .b false, .u64 0, .v (.iface 174 (SV.val (pt g3 0)))], Ow e8 A3 n3 c3 r2.2.2.1, Ow e8 A4 n4 c4 r2.2.2.2.1, Bx 178 g3 [.ar e32 r2.2.2.2.2.1, .u64 r2.2.2.2.2.2.1, .u64 r2.2.2.2.2.2.2.1, sl A5 n5 c5, I r2.2.2.2.2.2.2.2.2, .v (.func (.func 103) ⟨SV.vals []⟩ ⟨SV.vals []⟩), .v (.func (.func 104) ⟨SV.vals []⟩ ⟨SV.vals []⟩)], Ow e8 A5 n5 c5 r2.2.2.2.2.2.2.2.1]) := by
 unfold m_node_New at hm
 subst hn_p_Salt
 subst hn_p_Personal
 subst hn_key
 refine calz [I k_, .agg [I p_Digest, I p_Key, I p_Fanout, I p_Depth, .u32 p_Leaf, .u64 p_Offset, .u32 p_Xof, I p_NodeDepth, I p_Inner, sl A_p_Salt p_Salt.length c_p_Salt, sl A_p_Personal p_Personal.length c_p_Personal], sl A_key key.length c_key] Tryz.func53 rfl ?_
 refine W_seq <| W_reg <| WL_op <| Op_box [] 4 (.agg [I p_Digest, I p_Key, I p_Fanout, I p_Depth, .u32 p_Leaf, .u64 p_Offset, .u32 p_Xof, I p_NodeDepth, I p_Inner, sl A_p_Salt p_Salt.length c_p_Salt, sl A_p_Personal p_Personal.length c_p_Personal]) [I p_Digest, I p_Key, I p_Fanout, I p_Depth, .u32 p_Leaf, .u64 p_Offset, .u32 p_Xof, I p_NodeDepth, I p_Inner, sl A_p_Salt p_Salt.length c_p_Salt, sl A_p_Personal p_Personal.length c_p_Personal] (by kernel_rfl) k ?_
 intro g0 w_ k_1
 refine We 2 (.kk (.s .a)) ?_
 refine Wn <| W_seq <| W_reg <| Wl 2 (.n 11 (I k_) (.n 12 (.agg [I p_Digest, I p_Key, I p_Fanout, I p_Depth, .u32 p_Leaf, .u64 p_Offset, .u32 p_Xof, I p_NodeDepth, I p_Inner, sl A_p_Salt p_Salt.length c_p_Salt, sl A_p_Personal p_Personal.length c_p_Personal]) .a)) (qT k_1 0 rfl 0 11 [I p_Digest, I p_Key, I p_Fanout, I p_Depth, .u32 p_Leaf, .u64 p_Offset, .u32 p_Xof, I p_NodeDepth, I p_Inner, sl A_p_Salt p_Salt.length c_p_Salt, sl A_p_Personal p_Personal.length c_p_Personal] (by kernel_rfl) (by decide) <| qe) ?_
 refine WL_op ?_
 obtain ⟨r_, h_r_, hm⟩ := ob hm
 refine Op_cz 13 mr_go65 (c_param_Encode (F := N0) (O := N0) _ _ _ _ _ _ _ _ _ _ _ _ _ _ _ _ _ _ (Ro.n0 (h_p_Salt.cx k_1)) rfl hc_p_Salt (Ro.n0 (h_p_Personal.cx k_1)) rfl hc_p_Personal (Cx.refl _) _ h_r_) ?_
 rintro e_ w_1 ⟨A0, _, c0, rfl, rfl, k_2⟩
 have k_3 := k_1.call k_2
 refine ⟨.tup [sl A0 r_.1.length c0, I r_.2], rfl, ?_⟩
 refine We 5 (.n 8 (sl A0 r_.1.length c0) (.n 9 (I r_.2) (.sss .a))) ?_
 refine Wn <| W_seq <| Wz (.n 17 (.b (decide (r_.2 ≠ 0))) .a) ?_
 refine W_pz (r_.2 ≠ 0) (fun hc => ?_) fun hc => ?_
 · rw [if_pos hc] at hm
   refine Wz (.n 6 (.v (.pointer none)) (.n 7 (I r_.2) .z)) ?_
   refine W_ret (At_tr ?_)
   obtain rfl := si hm
   refine At_rz [.v (.pointer none), I r_.2] qe ?_
   have k_4 := k_3.sel .z
   exact ⟨rfl, k_4⟩
 rw [if_neg hc] at hm
 refine W_skip <| At_go <| W_seq <| W_seq <| Wa (.n 28 (.b ((decide ((key.length : Int) ≠ 0)) && (decide ((key.length : Int) ≠ p_Key)))) (.s (.k (.s .a)))) (qp ((decide ((key.length : Int) ≠ 0)) = true → (some ⟨g0, 0, none⟩ : Option Addr).isSome = true) (fun hg0 => rfl) <| qo (I p_Key) <| qc (fun w => (decide ((key.length : Int) ≠ 0)) = true → ∃ a, (some ⟨g0, 1, none⟩ : Option Addr) = some a ∧ w.cell? a = some (SV.val (I p_Key))) (fun hg0 => k_3.bld 0 rfl 1 (I p_Key) (by kernel_rfl)) <| qe) ?_
 refine W_cz ((decide ((key.length : Int) ≠ 0)) && (decide ((key.length : Int) ≠ p_Key))) (fun hc1 => ?_) fun hc1 => ?_
 · rw [if_pos hc1] at hm
   refine Wz (.n 6 (.v (.pointer none)) (.n 7 (I 8) .z)) ?_
   refine W_ret (At_tr ?_)
   obtain rfl := si hm
   refine At_rz [.v (.pointer none), I 8] qe ?_
   have k_5 := k_3.sel .z
   exact ⟨rfl, k_5⟩
 rw [if_neg (by rw [hc1]; decide)] at hm
 refine W_skip <| At_go <| W_seq <| W_reg <| Wl 5 (.n 29 (I k_) (.n 30 (sl A0 r_.1.length c0) (.n 32 (I p_Digest) (.n 33 (sl A_key key.length c_key) .z)))) (qs g0 0 <| qB k_3 0 rfl 0 (I p_Digest) (by kernel_rfl) <| qe) ?_
 refine WL_op ?_
 obtain ⟨r_1, h_r_1, hm⟩ := ob hm
 refine Op_cz 34 mr_go66 (c_node_made (F := N0) (O := N0) _ _ _ _ _ _ _ _ _ _ (Ro.n0 (k_3.rd 1 rfl)) (k_3.len 1 rfl) (k_3.lec 1 rfl) (Ro.n0 (h_key.cx k_3)) rfl hc_key (Cx.refl _) _ h_r_1) ?_
 rcases r_1 with r_2 | r_3
 · simp only [Sum.elim_inl, Sum.elim_inr] at hm
   rintro e_ w_2 ⟨g4, A6, _, c6, A7, _, c7, g5, A8, _, c8, rfl, rfl, rfl, rfl, k_6⟩
   have k_7 := k_3.call k_6
   refine ⟨pt g4 0, rfl, ?_⟩
   have k_8 := k_7.sel (.ss (.kkkk (.k .e)))
   refine We 2 (.n 6 (pt g4 0) (.n 7 (I 0) .z)) ?_
   refine Wn <| W_ret ?_
   obtain rfl := si hm
   refine At_rz [pt g4 0, I 0] qe ?_
   exact ⟨g4, A6, r_2.2.2.1.length, c6, A7, r_2.2.2.2.1.length, c7, g5, A8, r_2.2.2.2.2.2.2.2.1.length, c8, k_8.len 1 rfl, k_8.len 2 rfl, k_8.len 4 rfl, rfl, k_8⟩
 · simp only [Sum.elim_inl, Sum.elim_inr] at hm
   rintro e_ w_3 ⟨g6, A9, _, c9, A10, _, c10, g7, A11, _, c11, rfl, rfl, rfl, rfl, k_9⟩
   have k_10 := k_3.call k_9
   refine ⟨pt g6 0, rfl, ?_⟩
   have k_11 := k_10.sel (.ss (.kkkk (.k .e)))
   refine We 2 (.n 6 (pt g6 0) (.n 7 (I 0) .z)) ?_
   refine Wn <| W_ret ?_
   obtain rfl := si hm
   refine At_rz [pt g6 0, I 0] qe ?_
   exact ⟨g6, A9, r_3.2.2.1.length, c9, A10, r_3.2.2.2.1.length, c10, g7, A11, r_3.2.2.2.2.2.2.2.1.length, c11, k_11.len 1 rfl, k_11.len 2 rfl, k_11.len 4 rfl, rfl, k_11⟩
theorem c_node_Node_none (n_kind : Int) (n_digest : Int) (n_block : List UInt8) (n_key : List UInt8) (n_last : Bool) (n_written : UInt64) (n_e_h : Vec UInt64 8) (n_e_count_Lo : UInt64) (n_e_count_Hi : UInt64) (n_e_held : List UInt8) (n_e_block : Int) (g_n : Nat) (A_n_block : Option Addr) (n_n_block : Nat) (c_n_block : Nat) (A_n_key : Option Addr) (n_n_key : Nat) (c_n_key : Nat) (g_n_e : Nat) (A_n_e_held : Option Addr) (n_n_e_held : Nat) (c_n_e_held : Nat) (k : Cx F O w w [Bx 102 g_n [I n_kind, I n_digest, sl A_n_block n_n_block c_n_block, sl A_n_key n_n_key c_n_key, .b n_last, .u64 n_written, .v (.iface 165 (SV.val (pt g_n_e 0)))], Ow e8 A_n_block n_n_block c_n_block n_block, Ow e8 A_n_key n_n_key c_n_key n_key, Bx 171 g_n_e [.ar e64 n_e_h, .u64 n_e_count_Lo, .u64 n_e_count_Hi, sl A_n_e_held n_n_e_held c_n_e_held, I n_e_block, .v (.func (.func 100) ⟨SV.vals []⟩ ⟨SV.vals []⟩), .v (.func (.func 101) ⟨SV.vals []⟩ ⟨SV.vals []⟩)], Ow e8 A_n_e_held n_n_e_held c_n_e_held n_e_held]) (r : (Vec UInt64 8 × UInt64 × UInt64 × List UInt8 × Int × Int × Int × List UInt8 × List UInt8 × Bool × UInt64)) (hm : m_node_Node_none n_kind n_digest n_block n_key n_last n_written n_e_h n_e_count_Lo n_e_count_Hi n_e_held n_e_block = some r) :
    Calls Tryz.prog 67 (vals [pt g_n 0]) w (fun e w' => ∃ A n c A1 n1 c1 A2 n2 c2, r.2.2.2.1.length = n ∧ r.2.2.2.2.2.2.2.1.length = n1 ∧ r.2.2.2.2.2.2.2.2.1.length = n2 ∧ e = .returned (SV.val (.b false)) ∧ Cx F O w w' [Bx 171 g_n_e [.ar e64 r.1, .u64 r.2.1, .u64 r.2.2.1, sl A n c, I r.2.2.2.2.1, .v (.func (.func 100) ⟨SV.vals []⟩ ⟨SV.vals []⟩), .v (.func (.func 101) ⟨SV.vals []⟩ ⟨SV.vals []⟩)], Ow e8 A n c r.2.2.2.1, Bx 102 g_n [I r.2.2.2.2.2.1, I r.2.2.2.2.2.2.1, sl A1 n1 c1, sl A2 n2 c2, .b r.2.2.2.2.2.2.2.2.2.1, .u64 r.2.2.2.2.2.2.2.2.2.2, .v (.iface 165 (SV.val (pt g_n_e 0)))], Ow e8 A1 n1 c1 r.2.2.2.2.2.2.2.1, Ow e8 A2 n2 c2 r.2.2.2.2.2.2.2.2.1]) := by
 unfold m_node_Node_none at hm
 obtain rfl := k.len 1 rfl
 obtain rfl := k.len 2 rfl
 obtain rfl := k.len 4 rfl
 refine calz [pt g_n 0] Tryz.func67 rfl ?_
 refine Wz .a ?_
 refine W_seq <| W_q [5] (.n 2 (.b false) .z) (qs g_n 0 <| qs g_n 0 <| qB k 0 rfl 6 (.v (.iface 165 (SV.val (pt g_n_e 0)))) (by kernel_rfl) <| qe) (by kernel_rfl) ?_
 refine At_go <| W_ret ?_
 obtain rfl := si hm
 refine At_rz [.b false] qe ?_
 have k_ := ((((k.pk (.t (.t .h))).pk (.t (.t .h))).pk (.t (.t .h))).pk (.t (.t (.t (.t .h))))).pk (.t (.t (.t (.t .h))))
 exact ⟨A_n_e_held, n_e_held.length, c_n_e_held, A_n_block, n_block.length, c_n_block, A_n_key, n_key.length, c_n_key, k_.len 1 rfl, k_.len 3 rfl, k_.len 4 rfl, rfl, k_⟩
theorem c_word_Store64 (w_ : UInt64) (k : Cx F O w w []) (r : (List UInt8)) (hm : m_word_Store64 w_ = some r) :
    Calls Tryz.prog 119 (vals [.u64 w_]) w (fun e w' => ∃ A n c, r.length = n ∧ e = .returned (SV.val (sl A n c)) ∧ Cx F O w w' [Ow e8 A n c r]) := by
 unfold m_word_Store64 at hm
 refine calz [.u64 w_] Tryz.func119 rfl ?_
 refine Wz .a ?_
 refine W_seq <| W_reg <| WL_op <| Op_make mr_tf33 e8 (0 : UInt8) rfl [] 5 (I 8) (I 8) (8 : Int) (8 : Int) (by kernel_rfl) (by omega) (by omega) (by omega) k ?_
 intro A0 w_1 k_
 refine We 1 (.n 3 (sl A0 (Int.toNat (8 : Int)) (Int.toNat (8 : Int))) (.s .a)) ?_
 refine Wn <| W_seq <| Wz (.n 6 (I 0) .a) ?_
 refine W_block <| W_lp (m_word_Store64_l0 w_) (fun s L wr => ∃ (b : List UInt8) (x_0 : Int), (b, x_0) = s ∧ L = [(0, .u64 w_), (3, sl A0 (Int.toNat (8 : Int)) (Int.toNat (8 : Int))), (6, I x_0)] ∧ Cx F O w wr [Ow e8 A0 (Int.toNat (8 : Int)) (Int.toNat (8 : Int)) b]) (List.replicate (Int.toNat (8 : Int)) (0 : UInt8), (0 : Int)) r hm ⟨List.replicate (Int.toNat (8 : Int)) (0 : UInt8), (0 : Int), rfl, rfl, k_⟩ (by kernel_rfl) ?_
 intro s0_ L_ w_2 y0 hrel hstep hr0
 obtain ⟨b, x_0, rfl, rfl, k_1⟩ := hrel
 have hm := hstep; simp only [m_word_Store64_l0] at hm
 clear hstep
 refine Wz (.n 7 (.b (decide (x_0 < 8))) .a) ?_
 refine W_seq <| W_pz (x_0 < 8) (fun hc => ?_) fun hc => ?_
 · rw [if_pos hc] at hm
   refine W_skip <| At_go <| W_seq <| W_block <| Wz (.n 4 (I x_0) (.s .a)) ?_
   refine W_reg ?_
   obtain ⟨u, h_u, hm⟩ := ob hm
   obtain ⟨x_1, zh1, hm⟩ := ob hm
   refine Wl 8 (.n 15 (.u8 (UInt8.ofNat (shr64 w_ (Int.toNat (w64 (8 * x_0)))).toNat)) (.n 16 (.v (.pointer (ixA A0 x_0 1))) (.s .a))) (qp (0 ≤ w64 (8 * x_0)) (need_some h_u) <| qJ (k_1.rd 0 rfl) zh1 (k_1.len 0 rfl) <| qe) ?_
   refine WL_op <| Op_ost (E := e8) (kk := 0) (sv := .u8 (UInt8.ofNat (shr64 w_ (Int.toNat (w64 (8 * x_0)))).toNat)) (svs := [.u8 (UInt8.ofNat (shr64 w_ (Int.toNat (w64 (8 * x_0)))).toNat)]) [] 0 (UInt8.ofNat (shr64 w_ (Int.toNat (w64 (8 * x_0)))).toNat) (by kernel_rfl) (Pt.ix1 A0 x_0 1) k_1 rfl (geti_some zh1).2 (E_ix (E := e8) (k_1.rd 0 rfl) (by decide) (geti_lt zh1).1 (geti_some zh1).2) rfl (Nat.le_of_ble_eq_true (by kernel_rfl)) ?_
   intro w_3 k_2
   refine WL_nil <| At_in <| At_go <| W_q [] (.n 6 (I (w64 (x_0 + 1))) (.ss (.kk .z))) qe (by kernel_rfl) ?_
   exact At_rd (b.set (Int.toNat x_0) (UInt8.ofNat (shr64 w_ (Int.toNat (w64 (8 * x_0)))).toNat), w64 (x_0 + 1)) (Option.some.inj hm).symm ⟨b.set (Int.toNat x_0) (UInt8.ofNat (shr64 w_ (Int.toNat (w64 (8 * x_0)))).toNat), w64 (x_0 + 1), rfl, rfl, k_2⟩ (by kernel_rfl)
 rw [if_neg hc] at hm
 refine W_exit (At_te (At_te (At_ie ?_)))
 have hm := exit_of hm hr0
 refine At_go <| Wz (.n 2 (sl A0 (Int.toNat (8 : Int)) (Int.toNat (8 : Int))) .z) ?_
 refine W_ret ?_
 obtain rfl := si hm
 refine At_rz [sl A0 (Int.toNat (8 : Int)) (Int.toNat (8 : Int))] qe ?_
 exact ⟨A0, Int.toNat (8 : Int), Int.toNat (8 : Int), k_1.len 0 rfl, rfl, k_1⟩
theorem c_mixb_Bytes (h : Vec UInt64 8) (k : Cx F O w w []) (r : (List UInt8)) (hm : m_mixb_Bytes h = some r) :
    Calls Tryz.prog 101 (vals [.agg [.ar e64 h]]) w (fun e w' => ∃ A n c, r.length = n ∧ e = .returned (SV.val (sl A n c)) ∧ Cx F O w w' [Ow e8 A n c r]) := by
 unfold m_mixb_Bytes at hm
 refine calz [.agg [.ar e64 h]] Tryz.func101 rfl ?_
 refine W_seq <| W_reg <| WL_op <| Op_box [] 1 (.agg [.ar e64 h]) [.ar e64 h] (by kernel_rfl) k ?_
 intro g w_ k_
 refine We 1 (.k .z) ?_
 refine Wn <| W_seq <| W_reg <| WL_op <| Op_make mr_tf33 e8 (0 : UInt8) rfl [] 6 (I 0) (I 64) (0 : Int) (64 : Int) (by kernel_rfl) (by omega) (by omega) (by omega) k_ ?_
 intro A0 w_1 k_1
 refine We 1 (.n 3 (sl A0 (Int.toNat (0 : Int)) (Int.toNat (64 : Int))) (.s .a)) ?_
 refine Wn <| W_seq <| W_seq <| Wa (.n 7 (.agg [.ar e64 h]) (.n 8 (I 0) (.k .z))) (qT k_1 0 rfl 0 8 [.ar e64 h] (by kernel_rfl) (by decide) <| qe) ?_
 refine W_block ?_
 have k_3 := k_1.sel (.s (.k .e))
 refine W_lp (m_mixb_Bytes_l0 h) (fun s L wr => ∃ (b : List UInt8) (x_0 : Int) (A1 : Option Addr) (n0 : Nat) (c0 : Nat), (b, x_0) = s ∧ L = [(3, sl A1 n0 c0), (7, .agg [.ar e64 h]), (8, I x_0)] ∧ b.length = n0 ∧ Cx F O w wr [Ow e8 A1 n0 c0 b]) (List.replicate (Int.toNat (0 : Int)) (0 : UInt8), (0 : Int)) r hm ⟨List.replicate (Int.toNat (0 : Int)) (0 : UInt8), (0 : Int), A0, Int.toNat (0 : Int), Int.toNat (64 : Int), rfl, rfl, k_3.len 0 rfl, k_3⟩ (by kernel_rfl) ?_
 intro s0_ L_ w_2 y0 hrel hstep hr0
 obtain ⟨b, x_0, A1, _, c0, rfl, rfl, rfl, k_2⟩ := hrel
 have hm := hstep; simp only [m_mixb_Bytes_l0] at hm
 clear hstep
 refine Wz (.n 9 (.b (decide (x_0 < 8))) .a) ?_
 refine W_seq <| W_pz (x_0 < 8) (fun hc => ?_) fun hc => ?_
 · rw [if_pos hc] at hm
   refine W_skip <| At_go <| W_seq <| W_block <| W_seq ?_
   obtain ⟨x_1, zh1, hm⟩ := ob hm
   refine Wa (.n 5 (.u64 x_1) (.s .a)) (qo (.u64 x_1) <| qp ((0 ≤ x_0 ∧ x_0 < ((8 : Nat) : Int)) ∧ (SV.cl [.ar e64 h])[Int.toNat x_0 * 1]? = some (SV.val (.u64 x_1))) (ar_ix (E := e64) zh1 rfl) <| qe) ?_
   refine W_reg <| We 2 (.n 11 (sl A1 b.length c0) (.n 12 (.u64 x_1) (.s .a))) ?_
   refine WL_op ?_
   obtain ⟨r_, h_r_, hm⟩ := ob hm
   refine Op_cz 13 mr_go119 (c_word_Store64 (F := N0) (O := N0) _ (Cx.refl _) _ h_r_) ?_
   rintro e_ w_3 ⟨A2, _, c1, rfl, rfl, k_4⟩
   have k_5 := k_2.call k_4
   refine ⟨sl A2 r_.length c1, rfl, ?_⟩
   refine WL_op ?_
   obtain ⟨b1, h_b1, hm⟩ := ob hm
   obtain ⟨hz, hl⟩ := app_some h_b1
   refine Op_append (E := e8) (v := sl A2 r_.length c1) (ys := r_) mr_tf33 [] 14 0 (by kernel_rfl) k_5 rfl (Src.sl (k_5.rd 1 rfl) (k_5.len 1 rfl) (by rfl)) (k_5.len 1 rfl) (by have := k_5.len 0 rfl; have := (k_5.len 1 rfl); omega) ?_
   intro A3 c2 w_4 k_6
   rw [← hl] at k_6
   have k_7 := k_6.sel (.k .z)
   refine We 1 (.n 3 (sl A3 (b.length + r_.length) c2) (.ssss (.s .a))) ?_
   refine WL_nil <| At_in <| At_go <| W_q [] (.n 8 (I (w64 (x_0 + 1))) (.kk .z)) qe (by kernel_rfl) ?_
   exact At_rd (b1, w64 (x_0 + 1)) (Option.some.inj hm).symm ⟨b1, w64 (x_0 + 1), A3, b.length + r_.length, c2, rfl, rfl, k_7.len 0 rfl, k_7⟩ (by kernel_rfl)
 rw [if_neg hc] at hm
 refine W_exit (At_te (At_te (At_ie ?_)))
 have hm := exit_of hm hr0
 refine At_go <| Wz (.n 2 (sl A1 b.length c0) .z) ?_
 refine W_ret ?_
 obtain rfl := si hm
 refine At_rz [sl A1 b.length c0] qe ?_
 exact ⟨A1, b.length, c0, k_2.len 0 rfl, rfl, k_2⟩
theorem c_node_half_uint64_out (x_h : Vec UInt64 8) (x_count_Lo : UInt64) (x_count_Hi : UInt64) (x_held : List UInt8) (x_block : Int) (node : Bool) (g_x : Nat) (A_x_held : Option Addr) (n_x_held : Nat) (c_x_held : Nat) (k : Cx F O w w [Bx 171 g_x [.ar e64 x_h, .u64 x_count_Lo, .u64 x_count_Hi, sl A_x_held n_x_held c_x_held, I x_block, .v (.func (.func 100) ⟨SV.vals []⟩ ⟨SV.vals []⟩), .v (.func (.func 101) ⟨SV.vals []⟩ ⟨SV.vals []⟩)], Ow e8 A_x_held n_x_held c_x_held x_held]) (r : (List UInt8 × Vec UInt64 8 × UInt64 × UInt64 × List UInt8 × Int)) (hm : m_node_half_uint64_out x_h x_count_Lo x_count_Hi x_held x_block node = some r) :
    Calls Tryz.prog 163 (vals [pt g_x 0, .b node]) w (fun e w' => ∃ A n c A1 n1 c1, r.1.length = n ∧ r.2.2.2.2.1.length = n1 ∧ e = .returned (SV.val (sl A n c)) ∧ Cx F O w w' [Ow e8 A n c r.1, Bx 171 g_x [.ar e64 r.2.1, .u64 r.2.2.1, .u64 r.2.2.2.1, sl A1 n1 c1, I r.2.2.2.2.2, .v (.func (.func 100) ⟨SV.vals []⟩ ⟨SV.vals []⟩), .v (.func (.func 101) ⟨SV.vals []⟩ ⟨SV.vals []⟩)], Ow e8 A1 n1 c1 r.2.2.2.2.1]) := by
 unfold m_node_half_uint64_out at hm
 obtain rfl := k.len 1 rfl
 refine calz [pt g_x 0, .b node] Tryz.func163 rfl ?_
 refine Wz .a ?_
 refine W_seq <| W_cutr (fun L wr => ∃ (c0 : UInt64) (c2 : UInt64) (g : Nat), m_node_half_uint64_out_j0 x_h x_count_Lo x_count_Hi x_held x_block node c0 c2 = some r ∧ L = [(0, pt g_x 0), (1, .b node), (5, pt g 0)] ∧ Cx F O w wr [Bx 171 g_x [.ar e64 x_h, .u64 x_count_Lo, .u64 x_count_Hi, sl A_x_held x_held.length c_x_held, I x_block, .v (.func (.func 100) ⟨SV.vals []⟩ ⟨SV.vals []⟩), .v (.func (.func 101) ⟨SV.vals []⟩ ⟨SV.vals []⟩)], Ow e8 A_x_held x_held.length c_x_held x_held, Bx 169 g [.u64 c0, .u64 c2]]) ?_ ?_
 ·
  have k_ := k.drew 1
  refine W_m mr_mixed (.q 0 2 (.q 1 2 (.q 2 2 (.q 3 1 (.q 4 2 (.q 5 2 (.q 6 2 (.q 7 2 (.q 8 2 (.q 9 1 (.br 10 14 (.q 11 2 (.q 12 2 (.q 13 3 (.op 14 (.op 15 (.q 16 3 .nil)))))) (.op 10 (.q 11 2 (.q 12 2 (.q 13 3 (.op 15 (.q 16 3 .nil))))))))))))))))) [10, 14, 15] k_ (.c (.kk .e) (.c (.kk .e) (.c (.kk .e) .l))) (by kernel_rfl) (fun _ => ?_)
  refine MXz 3 2 (.n 10 (pt g_x 8) .a) (fun x hx => qs g_x 0 <| qs g_x 0 <| qe) fun _ => ?_
  refine MXz 1 1 (.n 11 (.agg [.u64 x_count_Lo, .u64 x_count_Hi]) (.s .a)) (fun x hx => qT hx 0 rfl 8 2 [.u64 x_count_Lo, .u64 x_count_Hi] (by kernel_rfl) (by decide) <| qe) fun _ => ?_
  refine MXz 5 2 (.n 16 (I (x_held.length : Int)) .a) (fun x hx => qs g_x 0 <| qs g_x 0 <| qB hx 0 rfl 10 (sl A_x_held x_held.length c_x_held) (by kernel_rfl) <| qe) fun _ => ?_
  refine MXz 1 1 (.n 17 (.u64 (UInt64.ofInt (x_held.length : Int))) (.s .a)) (fun x hx => qe) fun _ => ?_
  refine MX_br (by kernel_rfl) (by kernel_rfl) rfl rfl ?_ ?_
  ·
   obtain ⟨r_, h_r_, hm⟩ := ob hm
   refine Op_cz 18 mr_go166 (c_word_Add (F := N0) (O := N0) _ _ _ (Cx.refl _) _ h_r_) ?_
   rintro e_ w_ ⟨rfl, k_1⟩
   have k_2 := k_.call k_1
   refine ⟨.tup [.agg [.u64 r_.1, .u64 r_.2.1], .b r_.2.2], rfl, ?_⟩
   refine ⟨k_2, fun _ => ?_⟩
   refine MXz 2 2 (.n 7 (.tup [.agg [.u64 r_.1, .u64 r_.2.1], .b r_.2.2]) (.n 19 (.agg [.u64 r_.1, .u64 r_.2.1]) (.sss .a))) (fun x hx => qe) fun _ => ?_
   refine MXz 1 3 (.n 20 (.b r_.2.2) (.s .a)) (fun x hx => qe) fun _ => ?_
   refine MX_op (by kernel_rfl) rfl <| Op_alloc [] 5 [.u64 0, .u64 0] (by kernel_rfl) k_2 ?_
   intro g1 w_1 k_3
   refine ⟨(k_3.sel (.kk .z)), fun _ => ?_⟩
   refine MX_op (by kernel_rfl) rfl <| Op_bz 2 (.agg [.u64 r_.1, .u64 r_.2.1]) [.u64 r_.1, .u64 r_.2.1] (Pt.at g1 0) k_3 rfl .all ?_
   intro w_2 k_4
   refine ⟨(k_4.sel (.kk .z)), fun _ => ?_⟩
   refine MXz 1 3 (.k (.ss .a)) (fun x hx => qe) fun _ => ?_
   refine MX_nil ?_
   exact At_cz ⟨r_.1, r_.2.1, g1, hm, rfl, k_4⟩
  ·
   refine Op_alloc [] 5 [.u64 0, .u64 0] (by kernel_rfl) k_ ?_
   intro g1 w_ k_1
   refine ⟨(k_1.sel (.kk .z)), fun _ => ?_⟩
   refine MX_op (by kernel_rfl) rfl ?_
   obtain ⟨r_, h_r_, hm⟩ := ob hm
   refine Op_cz 18 mr_go166 (c_word_Add (F := N0) (O := N0) _ _ _ (Cx.refl _) _ h_r_) ?_
   rintro e_ w_1 ⟨rfl, k_2⟩
   have k_3 := k_1.call k_2
   refine ⟨.tup [.agg [.u64 r_.1, .u64 r_.2.1], .b r_.2.2], rfl, ?_⟩
   refine ⟨(k_3.sel (.kk .z)), fun _ => ?_⟩
   refine MXz 2 2 (.n 7 (.tup [.agg [.u64 r_.1, .u64 r_.2.1], .b r_.2.2]) (.n 19 (.agg [.u64 r_.1, .u64 r_.2.1]) (.s (.k (.ss .a))))) (fun x hx => qe) fun _ => ?_
   refine MXz 1 3 (.n 20 (.b r_.2.2) (.s .a)) (fun x hx => qe) fun _ => ?_
   refine MX_op (by kernel_rfl) rfl <| Op_bz 2 (.agg [.u64 r_.1, .u64 r_.2.1]) [.u64 r_.1, .u64 r_.2.1] (Pt.at g1 0) k_3 rfl .all ?_
   intro w_2 k_4
   refine ⟨(k_4.sel (.kk .z)), fun _ => ?_⟩
   refine MXz 1 3 (.ss .a) (fun x hx => qe) fun _ => ?_
   refine MX_nil ?_
   exact At_cz ⟨r_.1, r_.2.1, g1, hm, rfl, k_4⟩
 rintro L_ w_3 ⟨c0, c2, g, hm, rfl, k_5⟩
 simp only [m_node_half_uint64_out_j0] at hm
 refine At_go <| W_seq ?_
 have k_6 := k_5.drew 1
 refine W_m mr_mixed (.q 21 2 (.q 22 2 (.q 0 3 (.q 1 3 (.q 2 3 (.q 3 2 (.q 4 3 (.q 5 3 (.q 6 3 (.q 7 2 (.q 8 3 (.q 9 3 (.q 10 3 (.q 11 2 (.q 12 3 (.q 13 3 (.q 14 3 (.q 15 2 (.q 16 3 (.q 17 3 (.q 18 3 (.q 19 2 (.op 20 (.op 23 (.op 24 (.q 25 3 .nil)))))))))))))))))))))))))) [20, 23, 24] k_6 (.c (.kk (.k .e)) (.c (.kk (.k .e)) (.c (.kk (.k .e)) .l))) (by kernel_rfl) (fun _ => ?_)
 refine MXz 2 2 (.n 42 (.agg [.u64 c0, .u64 c2]) (.n 43 (.b node) (.k .z))) (fun x hx => qT hx 2 rfl 0 2 [.u64 c0, .u64 c2] (by kernel_rfl) (by decide) <| qe) fun _ => ?_
 refine MXz 3 3 (.n 23 (pt g_x 13) .a) (fun x hx => qs g_x 0 <| qs g_x 0 <| qe) fun _ => ?_
 refine MXz 1 2 (.n 24 (.v (.func (.func 101) ⟨SV.vals []⟩ ⟨SV.vals []⟩)) (.s .a)) (fun x hx => qB hx 0 rfl 13 (.v (.func (.func 101) ⟨SV.vals []⟩ ⟨SV.vals []⟩)) (by kernel_rfl) <| qe) fun _ => ?_
 refine MXz 3 3 (.n 27 (pt g_x 12) .a) (fun x hx => qs g_x 0 <| qs g_x 0 <| qe) fun _ => ?_
 refine MXz 1 2 (.n 28 (.v (.func (.func 100) ⟨SV.vals []⟩ ⟨SV.vals []⟩)) (.s .a)) (fun x hx => qB hx 0 rfl 12 (.v (.func (.func 100) ⟨SV.vals []⟩ ⟨SV.vals []⟩)) (by kernel_rfl) <| qe) fun _ => ?_
 refine MXz 3 3 (.n 31 (pt g_x 0) .a) (fun x hx => qs g_x 0 <| qs g_x 0 <| qe) fun _ => ?_
 refine MXz 1 2 (.n 32 (.agg [.ar e64 x_h]) (.s .a)) (fun x hx => qT hx 0 rfl 0 8 [.ar e64 x_h] (by kernel_rfl) (by decide) <| qe) fun _ => ?_
 refine MXz 3 3 (.n 35 (pt g_x 10) .a) (fun x hx => qs g_x 0 <| qs g_x 0 <| qe) fun _ => ?_
 refine MXz 1 2 (.n 36 (sl A_x_held x_held.length c_x_held) (.s .a)) (fun x hx => qB hx 0 rfl 10 (sl A_x_held x_held.length c_x_held) (by kernel_rfl) <| qe) fun _ => ?_
 refine MXz 3 3 (.n 39 (pt g_x 11) (.kkkk (.kk .z))) (fun x hx => qs g_x 0 <| qs g_x 0 <| qe) fun _ => ?_
 refine MXz 1 2 (.n 40 (I x_block) (.s .a)) (fun x hx => qB hx 0 rfl 11 (I x_block) (by kernel_rfl) <| qe) fun _ => ?_
 refine MX_op (by kernel_rfl) rfl ?_
 obtain ⟨r_1, h_r_1, hm⟩ := ob hm
 refine Op_cz 41 mr_go88 (c_node_padded (F := N0) (O := N0) _ _ _ _ _ (Ro.n0 (k_6.rd 1 rfl)) (k_6.len 1 rfl) (k_6.lec 1 rfl) (Cx.refl _) _ h_r_1) ?_
 rintro e_ w_4 ⟨A0, _, c3, rfl, rfl, k_7⟩
 have k_8 := k_6.call k_7
 refine ⟨sl A0 r_1.length c3, rfl, ?_⟩
 refine ⟨(k_8.sel (.kk (.k .z))), fun _ => ?_⟩
 refine MX_op (by kernel_rfl) rfl ?_
 obtain ⟨r_2, h_r_2, hm⟩ := ob hm
 refine Op_callv [] 44 [] [.agg [.ar e64 x_h], sl A0 r_1.length c3, .agg [.u64 c0, .u64 c2], .b true, .b node] [] mr_go100 (by kernel_rfl) (c_node_mixBig (F := N0) (O := N0) _ _ _ _ _ _ _ _ _ (Ro.n0 (k_8.rd 3 rfl)) (k_8.len 3 rfl) (k_8.lec 3 rfl) (Cx.refl _) _ h_r_2) ?_
 rintro e_ w_5 ⟨rfl, k_9⟩
 have k_10 := k_8.call k_9
 refine ⟨.agg [.ar e64 r_2], rfl, ?_⟩
 have k_11 := k_10.sel (.kk (.k .z))
 refine ⟨k_11, fun _ => ?_⟩
 refine MX_op (by kernel_rfl) rfl ?_
 obtain ⟨r_3, h_r_3, hm⟩ := ob hm
 refine Op_callv [] 45 [] [.agg [.ar e64 r_2]] [] mr_go101 (by kernel_rfl) (c_mixb_Bytes (F := N0) (O := N0) _ (Cx.refl _) _ h_r_3) ?_
 rintro e_ w_6 ⟨A2, _, c4, rfl, rfl, k_12⟩
 have k_13 := k_11.call k_12
 refine ⟨sl A2 r_3.length c4, rfl, ?_⟩
 refine ⟨(k_13.sel (.kk (.k .z))), fun _ => ?_⟩
 refine MXz 1 3 (.n 4 (sl A2 r_3.length c4) .z) (fun x hx => qe) fun _ => ?_
 refine MX_nil <| At_go <| W_ret ?_
 obtain rfl := si hm
 refine At_rz [sl A2 r_3.length c4] qe ?_
 have k_14 := (((k_13.pk (.t .h)).pk (.t .h)).pk (.t (.t (.t .h)))).sel (.kk (.k .z))
 exact ⟨A2, r_3.length, c4, A_x_held, x_held.length, c_x_held, k_14.len 0 rfl, k_14.len 2 rfl, rfl, k_14⟩
theorem c_node_Node_Out (n_kind : Int) (n_digest : Int) (n_block : List UInt8) (n_key : List UInt8) (n_last : Bool) (n_written : UInt64) (n_e_h : Vec UInt64 8) (n_e_count_Lo : UInt64) (n_e_count_Hi : UInt64) (n_e_held : List UInt8) (n_e_block : Int) (most : Int) (g_n : Nat) (A_n_block : Option Addr) (n_n_block : Nat) (c_n_block : Nat) (A_n_key : Option Addr) (n_n_key : Nat) (c_n_key : Nat) (g_n_e : Nat) (A_n_e_held : Option Addr) (n_n_e_held : Nat) (c_n_e_held : Nat) (k : Cx F O w w [Bx 102 g_n [I n_kind, I n_digest, sl A_n_block n_n_block c_n_block, sl A_n_key n_n_key c_n_key, .b n_last, .u64 n_written, .v (.iface 165 (SV.val (pt g_n_e 0)))], Ow e8 A_n_block n_n_block c_n_block n_block, Ow e8 A_n_key n_n_key c_n_key n_key, Bx 171 g_n_e [.ar e64 n_e_h, .u64 n_e_count_Lo, .u64 n_e_count_Hi, sl A_n_e_held n_n_e_held c_n_e_held, I n_e_block, .v (.func (.func 100) ⟨SV.vals []⟩ ⟨SV.vals []⟩), .v (.func (.func 101) ⟨SV.vals []⟩ ⟨SV.vals []⟩)], Ow e8 A_n_e_held n_n_e_held c_n_e_held n_e_held]) (r : (List UInt8 × Int × Vec UInt64 8 × UInt64 × UInt64 × List UInt8 × Int × Int × Int × List UInt8 × List UInt8 × Bool × UInt64)) (hm : m_node_Node_Out n_kind n_digest n_block n_key n_last n_written n_e_h n_e_count_Lo n_e_count_Hi n_e_held n_e_block most = some r) :
    Calls Tryz.prog 54 (vals [pt g_n 0, I most]) w (fun e w' => ∃ A n c A1 n1 c1 A2 n2 c2 A3 n3 c3, r.1.length = n ∧ r.2.2.2.2.2.1.length = n1 ∧ r.2.2.2.2.2.2.2.2.2.1.length = n2 ∧ r.2.2.2.2.2.2.2.2.2.2.1.length = n3 ∧ e = .returned (SV.val (.tup [sl A n c, I r.2.1])) ∧ Cx F O w w' [Ow e8 A n c r.1, Bx 171 g_n_e [.ar e64 r.2.2.1, .u64 r.2.2.2.1, .u64 r.2.2.2.2.1, sl A1 n1 c1, I r.2.2.2.2.2.2.1, .v (.func (.func 100) ⟨SV.vals []⟩ ⟨SV.vals []⟩), .v (.func (.func 101) ⟨SV.vals []⟩ ⟨SV.vals []⟩)], Ow e8 A1 n1 c1 r.2.2.2.2.2.1, Bx 102 g_n [I r.2.2.2.2.2.2.2.1, I r.2.2.2.2.2.2.2.2.1, sl A2 n2 c2, sl A3 n3 c3, .b r.2.2.2.2.2.2.2.2.2.2.2.1, .u64 r.2.2.2.2.2.2.2.2.2.2.2.2, .v (.iface 165 (SV.val (pt g_n_e 0)))], Ow e8 A2 n2 c2 r.2.2.2.2.2.2.2.2.2.1, Ow e8 A3 n3 c3 r.2.2.2.2.2.2.2.2.2.2.1]) := by
 unfold m_node_Node_Out at hm
 obtain rfl := k.len 1 rfl
 obtain rfl := k.len 2 rfl
 obtain rfl := k.len 4 rfl
 refine calz [pt g_n 0, I most] Tryz.func54 rfl ?_
 refine Wz .a ?_
 refine W_seq <| W_seq <| W_reg <| We 1 (.n 6 (pt g_n 0) .a) ?_
 refine WL_op ?_
 obtain ⟨r_, h_r_, hm⟩ := ob hm
 obtain ⟨F1, O1, kin, hO, hre, hF, hb⟩ := k.go (.i (.i (.i (.i (.i .e)))))
 refine Op_cz 7 mr_go67 (c_node_Node_none (F := F1) (O := O1) _ _ _ _ _ _ _ _ _ _ _ _ _ _ _ _ _ _ _ _ _ _ kin _ h_r_) ?_
 rintro e_ w_ ⟨A0, _, c0, A4, _, c4, A5, _, c5, rfl, rfl, rfl, rfl, k_⟩
 have k_1 := hb w_ _ _ k_ (.c (.c (.c (.c (.c .n)))))
 refine ⟨.b false, rfl, ?_⟩
 refine Wn <| W_cond false (by kernel_rfl) (fun h => by cases h) (fun _ => ?_)
 refine W_skip <| At_go <| W_seq <| W_seq <| W_reg <| We 3 (.n 10 (.b (decide (most < 1))) (.ss .a)) ?_
 refine WL_sp 10 (decide (most < 1)) (.s .a) (by kernel_rfl) (fun hg => ?_) (fun hg => ?_)
 · rw [if_pos (of_decide_eq_true hg)] at hm
   refine WLs 9 [10] (.n 19 (.b true) (.s .a)) qe (by kernel_rfl) ?_
   refine Wn <| W_cond true (by kernel_rfl) (fun _ => ?_) (fun h => by cases h)
   refine Wz (.n 4 (sl none 0 0) (.n 5 (I 1) .z)) ?_
   refine W_ret (At_tr ?_)
   have k_2 := k_1.nil e8
   obtain rfl := si hm
   refine At_rz [sl none 0 0, I 1] qe ?_
   have k_3 := (((((k_2.pk (.t (.t (.t (.t .h))))).pk (.t (.t (.t (.t .h))))).pk (.t (.t (.t (.t .h))))).pk (.t (.t (.t (.t .h))))).pk (.t (.t (.t (.t .h))))).pk (.t (.t (.t (.t (.t .h)))))
   exact ⟨none, 0, 0, A0, r_.2.2.2.1.length, c0, A4, r_.2.2.2.2.2.2.2.1.length, c4, A5, r_.2.2.2.2.2.2.2.2.1.length, c5, k_3.len 0 rfl, k_3.len 2 rfl, k_3.len 4 rfl, k_3.len 5 rfl, rfl, k_3⟩
 · rw [if_neg (of_decide_eq_false hg)] at hm
   refine WLs 5 [10] (.n 11 (I most) (.n 15 (I r_.2.2.2.2.2.1) .a)) (qs g_n 0 <| qs g_n 0 <| qB k_1 2 rfl 0 (I r_.2.2.2.2.2.1) (by kernel_rfl) <| qe) (by kernel_rfl) ?_
   refine WL_op ?_
   obtain ⟨r_1, h_r_1, hm⟩ := ob hm
   refine Op_call [10] 16 _ mr_go68 (by kernel_rfl) (c_node_blockOf (F := N0) (O := N0) _ (Cx.refl _) _ h_r_1) ?_
   rintro e_ w_1 ⟨rfl, k_4⟩
   have k_5 := k_1.call k_4
   refine ⟨I r_1, rfl, ?_⟩
   refine WLs 3 [10] (.n 19 (.b (decide ((w64 (Int.tdiv r_1 2)) < most))) (.ssss .a)) (qp ((2 : Int) ≠ (0 : Int)) (by omega) <| qe) (by kernel_rfl) ?_
   refine Wn <| W_pz ((w64 (Int.tdiv r_1 2)) < most) (fun hc => ?_) fun hc => ?_
   · rw [if_pos hc] at hm
     refine Wz (.n 4 (sl none 0 0) (.n 5 (I 1) .z)) ?_
     refine W_ret (At_tr ?_)
     have k_6 := k_5.nil e8
     obtain rfl := si hm
     refine At_rz [sl none 0 0, I 1] qe ?_
     have k_7 := (((((k_6.pk (.t (.t (.t (.t .h))))).pk (.t (.t (.t (.t .h))))).pk (.t (.t (.t (.t .h))))).pk (.t (.t (.t (.t .h))))).pk (.t (.t (.t (.t .h))))).pk (.t (.t (.t (.t (.t .h)))))
     exact ⟨none, 0, 0, A0, r_.2.2.2.1.length, c0, A4, r_.2.2.2.2.2.2.2.1.length, c4, A5, r_.2.2.2.2.2.2.2.2.1.length, c5, k_7.len 0 rfl, k_7.len 2 rfl, k_7.len 4 rfl, k_7.len 5 rfl, rfl, k_7⟩
   rw [if_neg hc] at hm
   refine W_skip <| At_go <| W_seq ?_
   have k_8 := k_5.drew 1
   refine W_m mr_mixed (.q 0 1 (.q 1 1 (.q 2 1 (.q 3 1 (.q 4 1 (.q 5 1 (.q 6 1 (.q 7 0 (.q 8 1 (.q 9 0 (.q 11 1 (.q 12 1 (.op 10 (.q 13 1 (.q 14 1 (.q 15 1 .nil)))))))))))))))) [10] k_8 (.c (.ss (.kk (.k .e))) .l) (by kernel_rfl) (fun _ => ?_)
   refine MXz 7 1 (.n 23 (.v (.iface 165 (SV.val (pt g_n_e 0)))) (.n 26 (pt g_n 4) (.ss .a))) (fun x hx => qs g_n 0 <| qs g_n 0 <| qB hx 0 rfl 6 (.v (.iface 165 (SV.val (pt g_n_e 0)))) (by kernel_rfl) <| qs g_n 0 <| qs g_n 0 <| qe) fun _ => ?_
   refine MXz 1 0 (.n 27 (.b r_.2.2.2.2.2.2.2.2.2.1) (.k (.s .a))) (fun x hx => qB hx 2 rfl 4 (.b r_.2.2.2.2.2.2.2.2.2.1) (by kernel_rfl) <| qe) fun _ => ?_
   refine MXz 1 1 .a (fun x hx => qe) fun _ => ?_
   refine MXz 1 0 (.n 29 (.v (.iface 165 (SV.val (pt g_n_e 0)))) (.k (.s .a))) (fun x hx => qe) fun _ => ?_
   refine MXz 2 1 (.n 31 (I most) (.n 32 (I most) (.kk .z))) (fun x hx => qe) fun _ => ?_
   refine MX_op (by kernel_rfl) rfl ?_
   obtain ⟨r_2, h_r_2, hm⟩ := ob hm
   obtain ⟨F11, O11, kin1, hO1, hre1, hF1, hb1⟩ := k_8.go (.i (.i (.r (.r (.r .e)))))
   refine Op_invoke [] 30 165 (pt g_n_e 0) [.b r_.2.2.2.2.2.2.2.2.2.1] mr_inv165_node_out rfl (by kernel_rfl) (c_node_half_uint64_out (F := F11) (O := O11) _ _ _ _ _ _ _ _ _ _ kin1 _ h_r_2) ?_
   rintro e_ w_2 ⟨A6, _, c6, A7, _, c7, rfl, rfl, rfl, k_9⟩
   have k_10 := hb1 w_2 _ _ k_9 (.c (.c (.c .n)))
   refine ⟨sl A6 r_2.1.length c6, rfl, ?_⟩
   refine ⟨(k_10.sel (.ss (.s (.kk (.k .e))))), fun _ => ?_⟩
   obtain ⟨b, h_b, hm⟩ := ob hm
   have hs := slc_some h_b
   have hl := slc_len h_b
   have hn : r_2.1.length = r_2.1.length := (k_10.len 0 rfl)
   have hc1 : r_2.1.length ≤ c6 := (k_10.lec 0 rfl)
   obtain ⟨u, h_u, hm⟩ := ob hm
   have hq := need_some h_u
   have hc2 : b.length ≤ Int.toNat most := by omega
   refine MXz 3 1 (.n 4 (sl A6 b.length (Int.toNat most)) (.n 5 (I 0) .z)) (fun x hx => qp (0 ≤ most ∧ most ≤ (c6 : Int)) (by omega) <| qp (0 ≤ most ∧ most ≤ ((Int.toNat most : Nat) : Int)) (by omega) <| qo (.v (.slice A6 b.length (Int.toNat most))) <| qp (Value.slice (slA A6 0 (Int.toNat most) 1) (Int.toNat most - 0) (Int.toNat most - 0) = .slice A6 b.length (Int.toNat most)) (slx0 _ _ _ _ _ (by omega)) <| qe) fun _ => ?_
   refine MX_nil <| At_go <| W_ret ?_
   have k_11 := k_10.pre 0 rfl b.length (Int.toNat most) b (by omega) (by omega) (by omega) (slc_pre h_b rfl)
   obtain rfl := si hm
   refine At_rz [sl A6 b.length (Int.toNat most), I 0] qe ?_
   exact ⟨A6, b.length, Int.toNat most, A7, r_2.2.2.2.2.1.length, c7, A4, r_.2.2.2.2.2.2.2.1.length, c4, A5, r_.2.2.2.2.2.2.2.2.1.length, c5, k_11.len 0 rfl, k_11.len 2 rfl, k_11.len 4 rfl, k_11.len 5 rfl, rfl, k_11⟩
theorem c_node_Node_none_s1 (n_kind : Int) (n_digest : Int) (n_block : List UInt8) (n_key : List UInt8) (n_last : Bool) (n_written : UInt64) (n_e_h : Vec UInt32 8) (n_e_count_Lo : UInt64) (n_e_count_Hi : UInt64) (n_e_held : List UInt8) (n_e_block : Int) (g_n : Nat) (A_n_block : Option Addr) (n_n_block : Nat) (c_n_block : Nat) (A_n_key : Option Addr) (n_n_key : Nat) (c_n_key : Nat) (g_n_e : Nat) (A_n_e_held : Option Addr) (n_n_e_held : Nat) (c_n_e_held : Nat) (k : Cx F O w w [Bx 102 g_n [I n_kind, I n_digest, sl A_n_block n_n_block c_n_block, sl A_n_key n_n_key c_n_key, .b n_last, .u64 n_written, .v (.iface 174 (SV.val (pt g_n_e 0)))], Ow e8 A_n_block n_n_block c_n_block n_block, Ow e8 A_n_key n_n_key c_n_key n_key, Bx 178 g_n_e [.ar e32 n_e_h, .u64 n_e_count_Lo, .u64 n_e_count_Hi, sl A_n_e_held n_n_e_held c_n_e_held, I n_e_block, .v (.func (.func 103) ⟨SV.vals []⟩ ⟨SV.vals []⟩), .v (.func (.func 104) ⟨SV.vals []⟩ ⟨SV.vals []⟩)], Ow e8 A_n_e_held n_n_e_held c_n_e_held n_e_held]) (r : (Vec UInt32 8 × UInt64 × UInt64 × List UInt8 × Int × Int × Int × List UInt8 × List UInt8 × Bool × UInt64)) (hm : m_node_Node_none_s1 n_kind n_digest n_block n_key n_last n_written n_e_h n_e_count_Lo n_e_count_Hi n_e_held n_e_block = some r) :
    Calls Tryz.prog 67 (vals [pt g_n 0]) w (fun e w' => ∃ A n c A1 n1 c1 A2 n2 c2, r.2.2.2.1.length = n ∧ r.2.2.2.2.2.2.2.1.length = n1 ∧ r.2.2.2.2.2.2.2.2.1.length = n2 ∧ e = .returned (SV.val (.b false)) ∧ Cx F O w w' [Bx 178 g_n_e [.ar e32 r.1, .u64 r.2.1, .u64 r.2.2.1, sl A n c, I r.2.2.2.2.1, .v (.func (.func 103) ⟨SV.vals []⟩ ⟨SV.vals []⟩), .v (.func (.func 104) ⟨SV.vals []⟩ ⟨SV.vals []⟩)], Ow e8 A n c r.2.2.2.1, Bx 102 g_n [I r.2.2.2.2.2.1, I r.2.2.2.2.2.2.1, sl A1 n1 c1, sl A2 n2 c2, .b r.2.2.2.2.2.2.2.2.2.1, .u64 r.2.2.2.2.2.2.2.2.2.2, .v (.iface 174 (SV.val (pt g_n_e 0)))], Ow e8 A1 n1 c1 r.2.2.2.2.2.2.2.1, Ow e8 A2 n2 c2 r.2.2.2.2.2.2.2.2.1]) := by
 unfold m_node_Node_none_s1 at hm
 obtain rfl := k.len 1 rfl
 obtain rfl := k.len 2 rfl
 obtain rfl := k.len 4 rfl
 refine calz [pt g_n 0] Tryz.func67 rfl ?_
 refine Wz .a ?_
 refine W_seq <| W_q [5] (.n 2 (.b false) .z) (qs g_n 0 <| qs g_n 0 <| qB k 0 rfl 6 (.v (.iface 174 (SV.val (pt g_n_e 0)))) (by kernel_rfl) <| qe) (by kernel_rfl) ?_
 refine At_go <| W_ret ?_
 obtain rfl := si hm
 refine At_rz [.b false] qe ?_
 have k_ := ((((k.pk (.t (.t .h))).pk (.t (.t .h))).pk (.t (.t .h))).pk (.t (.t (.t (.t .h))))).pk (.t (.t (.t (.t .h))))
 exact ⟨A_n_e_held, n_e_held.length, c_n_e_held, A_n_block, n_block.length, c_n_block, A_n_key, n_key.length, c_n_key, k_.len 1 rfl, k_.len 3 rfl, k_.len 4 rfl, rfl, k_⟩
theorem c_mixs_Bytes (h : Vec UInt32 8) (k : Cx F O w w []) (r : (List UInt8)) (hm : m_mixs_Bytes h = some r) :
    Calls Tryz.prog 104 (vals [.agg [.ar e32 h]]) w (fun e w' => ∃ A n c, r.length = n ∧ e = .returned (SV.val (sl A n c)) ∧ Cx F O w w' [Ow e8 A n c r]) := by
 unfold m_mixs_Bytes at hm
 refine calz [.agg [.ar e32 h]] Tryz.func104 rfl ?_
 refine W_seq <| W_reg <| WL_op <| Op_box [] 1 (.agg [.ar e32 h]) [.ar e32 h] (by kernel_rfl) k ?_
 intro g w_ k_
 refine We 1 (.k .z) ?_
 refine Wn <| W_seq <| W_reg <| WL_op <| Op_make mr_tf33 e8 (0 : UInt8) rfl [] 6 (I 0) (I 32) (0 : Int) (32 : Int) (by kernel_rfl) (by omega) (by omega) (by omega) k_ ?_
 intro A0 w_1 k_1
 refine We 1 (.n 3 (sl A0 (Int.toNat (0 : Int)) (Int.toNat (32 : Int))) (.s .a)) ?_
 refine Wn <| W_seq <| W_seq <| Wa (.n 7 (.agg [.ar e32 h]) (.n 8 (I 0) (.k .z))) (qT k_1 0 rfl 0 8 [.ar e32 h] (by kernel_rfl) (by decide) <| qe) ?_
 refine W_block ?_
 have k_3 := k_1.sel (.s (.k .e))
 refine W_lp (m_mixs_Bytes_l0 h) (fun s L wr => ∃ (b : List UInt8) (x_0 : Int) (A1 : Option Addr) (n0 : Nat) (c0 : Nat), (b, x_0) = s ∧ L = [(3, sl A1 n0 c0), (7, .agg [.ar e32 h]), (8, I x_0)] ∧ b.length = n0 ∧ Cx F O w wr [Ow e8 A1 n0 c0 b]) (List.replicate (Int.toNat (0 : Int)) (0 : UInt8), (0 : Int)) r hm ⟨List.replicate (Int.toNat (0 : Int)) (0 : UInt8), (0 : Int), A0, Int.toNat (0 : Int), Int.toNat (32 : Int), rfl, rfl, k_3.len 0 rfl, k_3⟩ (by kernel_rfl) ?_
 intro s0_ L_ w_2 y0 hrel hstep hr0
 obtain ⟨b, x_0, A1, _, c0, rfl, rfl, rfl, k_2⟩ := hrel
 have hm := hstep; simp only [m_mixs_Bytes_l0] at hm
 clear hstep
 refine Wz (.n 9 (.b (decide (x_0 < 8))) .a) ?_
 refine W_seq <| W_pz (x_0 < 8) (fun hc => ?_) fun hc => ?_
 · rw [if_pos hc] at hm
   refine W_skip <| At_go <| W_seq <| W_block <| W_seq ?_
   obtain ⟨x_1, zh1, hm⟩ := ob hm
   refine Wa (.n 5 (.u32 x_1) (.s .a)) (qo (.u32 x_1) <| qp ((0 ≤ x_0 ∧ x_0 < ((8 : Nat) : Int)) ∧ (SV.cl [.ar e32 h])[Int.toNat x_0 * 1]? = some (SV.val (.u32 x_1))) (ar_ix (E := e32) zh1 rfl) <| qe) ?_
   refine W_reg <| We 12 (.n 11 (sl A1 b.length c0) (.n 13 (.u8 (UInt8.ofNat x_1.toNat)) (.n 16 (.u8 (UInt8.ofNat (shr32 x_1 ((8 : UInt64).toNat)).toNat)) (.n 19 (.u8 (UInt8.ofNat (shr32 x_1 ((16 : UInt64).toNat)).toNat)) (.n 22 (.u8 (UInt8.ofNat (shr32 x_1 ((24 : UInt64).toNat)).toNat)) (.s .a)))))) ?_
   refine WL_op <| Op_mk mr_tf33 e8 [] 23 ([UInt8.ofNat x_1.toNat, UInt8.ofNat (shr32 x_1 ((8 : UInt64).toNat)).toNat, UInt8.ofNat (shr32 x_1 ((16 : UInt64).toNat)).toNat, UInt8.ofNat (shr32 x_1 ((24 : UInt64).toNat)).toNat] : List UInt8) [(0, .u8 (UInt8.ofNat x_1.toNat)), (1, .u8 (UInt8.ofNat (shr32 x_1 ((8 : UInt64).toNat)).toNat)), (2, .u8 (UInt8.ofNat (shr32 x_1 ((16 : UInt64).toNat)).toNat)), (3, .u8 (UInt8.ofNat (shr32 x_1 ((24 : UInt64).toNat)).toNat))] [.u8 (UInt8.ofNat x_1.toNat), .u8 (UInt8.ofNat (shr32 x_1 ((8 : UInt64).toNat)).toNat), .u8 (UInt8.ofNat (shr32 x_1 ((16 : UInt64).toNat)).toNat), .u8 (UInt8.ofNat (shr32 x_1 ((24 : UInt64).toNat)).toNat)] (by kernel_rfl) (by kernel_rfl) (by kernel_rfl) k_2 ?_
   intro A2 w_3 k_4
   refine WL_op ?_
   obtain ⟨b1, h_b1, hm⟩ := ob hm
   obtain ⟨hz, hl⟩ := app_some h_b1
   refine Op_append (E := e8) (v := sl A2 4 4) (ys := ([UInt8.ofNat x_1.toNat, UInt8.ofNat (shr32 x_1 ((8 : UInt64).toNat)).toNat, UInt8.ofNat (shr32 x_1 ((16 : UInt64).toNat)).toNat, UInt8.ofNat (shr32 x_1 ((24 : UInt64).toNat)).toNat] : List UInt8)) mr_tf33 [] 24 0 (by kernel_rfl) k_4 rfl (Src.sl (k_4.rd 1 rfl) (k_4.len 1 rfl) (by rfl)) (k_4.len 1 rfl) (by have := k_4.len 0 rfl; have := (k_4.len 1 rfl); omega) ?_
   intro A3 c1 w_4 k_5
   rw [← hl] at k_5
   have k_6 := k_5.sel (.k .z)
   refine We 1 (.n 3 (sl A3 (b.length + 4) c1) (.ssss (.ssss .a))) ?_
   refine WL_nil <| At_in <| At_go <| W_q [] (.n 8 (I (w64 (x_0 + 1))) (.kk .z)) qe (by kernel_rfl) ?_
   exact At_rd (b1, w64 (x_0 + 1)) (Option.some.inj hm).symm ⟨b1, w64 (x_0 + 1), A3, b.length + 4, c1, rfl, rfl, k_6.len 0 rfl, k_6⟩ (by kernel_rfl)
 rw [if_neg hc] at hm
 refine W_exit (At_te (At_te (At_ie ?_)))
 have hm := exit_of hm hr0
 refine At_go <| Wz (.n 2 (sl A1 b.length c0) .z) ?_
 refine W_ret ?_
 obtain rfl := si hm
 refine At_rz [sl A1 b.length c0] qe ?_
 exact ⟨A1, b.length, c0, k_2.len 0 rfl, rfl, k_2⟩
theorem c_node_half_uint32_out (x_h : Vec UInt32 8) (x_count_Lo : UInt64) (x_count_Hi : UInt64) (x_held : List UInt8) (x_block : Int) (node : Bool) (g_x : Nat) (A_x_held : Option Addr) (n_x_held : Nat) (c_x_held : Nat) (k : Cx F O w w [Bx 178 g_x [.ar e32 x_h, .u64 x_count_Lo, .u64 x_count_Hi, sl A_x_held n_x_held c_x_held, I x_block, .v (.func (.func 103) ⟨SV.vals []⟩ ⟨SV.vals []⟩), .v (.func (.func 104) ⟨SV.vals []⟩ ⟨SV.vals []⟩)], Ow e8 A_x_held n_x_held c_x_held x_held]) (r : (List UInt8 × Vec UInt32 8 × UInt64 × UInt64 × List UInt8 × Int)) (hm : m_node_half_uint32_out x_h x_count_Lo x_count_Hi x_held x_block node = some r) :
    Calls Tryz.prog 169 (vals [pt g_x 0, .b node]) w (fun e w' => ∃ A n c A1 n1 c1, r.1.length = n ∧ r.2.2.2.2.1.length = n1 ∧ e = .returned (SV.val (sl A n c)) ∧ Cx F O w w' [Ow e8 A n c r.1, Bx 178 g_x [.ar e32 r.2.1, .u64 r.2.2.1, .u64 r.2.2.2.1, sl A1 n1 c1, I r.2.2.2.2.2, .v (.func (.func 103) ⟨SV.vals []⟩ ⟨SV.vals []⟩), .v (.func (.func 104) ⟨SV.vals []⟩ ⟨SV.vals []⟩)], Ow e8 A1 n1 c1 r.2.2.2.2.1]) := by
 unfold m_node_half_uint32_out at hm
 obtain rfl := k.len 1 rfl
 refine calz [pt g_x 0, .b node] Tryz.func169 rfl ?_
 refine Wz .a ?_
 refine W_seq <| W_cutr (fun L wr => ∃ (c0 : UInt64) (c2 : UInt64) (g : Nat), m_node_half_uint32_out_j0 x_h x_count_Lo x_count_Hi x_held x_block node c0 c2 = some r ∧ L = [(0, pt g_x 0), (1, .b node), (5, pt g 0)] ∧ Cx F O w wr [Bx 178 g_x [.ar e32 x_h, .u64 x_count_Lo, .u64 x_count_Hi, sl A_x_held x_held.length c_x_held, I x_block, .v (.func (.func 103) ⟨SV.vals []⟩ ⟨SV.vals []⟩), .v (.func (.func 104) ⟨SV.vals []⟩ ⟨SV.vals []⟩)], Ow e8 A_x_held x_held.length c_x_held x_held, Bx 169 g [.u64 c0, .u64 c2]]) ?_ ?_
 ·
  have k_ := k.drew 1
  refine W_m mr_mixed (.q 0 2 (.q 1 2 (.q 2 2 (.q 3 1 (.q 4 2 (.q 5 2 (.q 6 2 (.q 7 2 (.q 8 2 (.q 9 1 (.br 10 14 (.q 11 2 (.q 12 2 (.q 13 3 (.op 14 (.op 15 (.q 16 3 .nil)))))) (.op 10 (.q 11 2 (.q 12 2 (.q 13 3 (.op 15 (.q 16 3 .nil))))))))))))))))) [10, 14, 15] k_ (.c (.kk .e) (.c (.kk .e) (.c (.kk .e) .l))) (by kernel_rfl) (fun _ => ?_)
  refine MXz 3 2 (.n 10 (pt g_x 8) .a) (fun x hx => qs g_x 0 <| qs g_x 0 <| qe) fun _ => ?_
  refine MXz 1 1 (.n 11 (.agg [.u64 x_count_Lo, .u64 x_count_Hi]) (.s .a)) (fun x hx => qT hx 0 rfl 8 2 [.u64 x_count_Lo, .u64 x_count_Hi] (by kernel_rfl) (by decide) <| qe) fun _ => ?_
  refine MXz 5 2 (.n 16 (I (x_held.length : Int)) .a) (fun x hx => qs g_x 0 <| qs g_x 0 <| qB hx 0 rfl 10 (sl A_x_held x_held.length c_x_held) (by kernel_rfl) <| qe) fun _ => ?_
  refine MXz 1 1 (.n 17 (.u64 (UInt64.ofInt (x_held.length : Int))) (.s .a)) (fun x hx => qe) fun _ => ?_
  refine MX_br (by kernel_rfl) (by kernel_rfl) rfl rfl ?_ ?_
  ·
   obtain ⟨r_, h_r_, hm⟩ := ob hm
   refine Op_cz 18 mr_go166 (c_word_Add (F := N0) (O := N0) _ _ _ (Cx.refl _) _ h_r_) ?_
   rintro e_ w_ ⟨rfl, k_1⟩
   have k_2 := k_.call k_1
   refine ⟨.tup [.agg [.u64 r_.1, .u64 r_.2.1], .b r_.2.2], rfl, ?_⟩
   refine ⟨k_2, fun _ => ?_⟩
   refine MXz 2 2 (.n 7 (.tup [.agg [.u64 r_.1, .u64 r_.2.1], .b r_.2.2]) (.n 19 (.agg [.u64 r_.1, .u64 r_.2.1]) (.sss .a))) (fun x hx => qe) fun _ => ?_
   refine MXz 1 3 (.n 20 (.b r_.2.2) (.s .a)) (fun x hx => qe) fun _ => ?_
   refine MX_op (by kernel_rfl) rfl <| Op_alloc [] 5 [.u64 0, .u64 0] (by kernel_rfl) k_2 ?_
   intro g1 w_1 k_3
   refine ⟨(k_3.sel (.kk .z)), fun _ => ?_⟩
   refine MX_op (by kernel_rfl) rfl <| Op_bz 2 (.agg [.u64 r_.1, .u64 r_.2.1]) [.u64 r_.1, .u64 r_.2.1] (Pt.at g1 0) k_3 rfl .all ?_
   intro w_2 k_4
   refine ⟨(k_4.sel (.kk .z)), fun _ => ?_⟩
   refine MXz 1 3 (.k (.ss .a)) (fun x hx => qe) fun _ => ?_
   refine MX_nil ?_
   exact At_cz ⟨r_.1, r_.2.1, g1, hm, rfl, k_4⟩
  ·
   refine Op_alloc [] 5 [.u64 0, .u64 0] (by kernel_rfl) k_ ?_
   intro g1 w_ k_1
   refine ⟨(k_1.sel (.kk .z)), fun _ => ?_⟩
   refine MX_op (by kernel_rfl) rfl ?_
   obtain ⟨r_, h_r_, hm⟩ := ob hm
   refine Op_cz 18 mr_go166 (c_word_Add (F := N0) (O := N0) _ _ _ (Cx.refl _) _ h_r_) ?_
   rintro e_ w_1 ⟨rfl, k_2⟩
   have k_3 := k_1.call k_2
   refine ⟨.tup [.agg [.u64 r_.1, .u64 r_.2.1], .b r_.2.2], rfl, ?_⟩
   refine ⟨(k_3.sel (.kk .z)), fun _ => ?_⟩
   refine MXz 2 2 (.n 7 (.tup [.agg [.u64 r_.1, .u64 r_.2.1], .b r_.2.2]) (.n 19 (.agg [.u64 r_.1, .u64 r_.2.1]) (.s (.k (.ss .a))))) (fun x hx => qe) fun _ => ?_
   refine MXz 1 3 (.n 20 (.b r_.2.2) (.s .a)) (fun x hx => qe) fun _ => ?_
   refine MX_op (by kernel_rfl) rfl <| Op_bz 2 (.agg [.u64 r_.1, .u64 r_.2.1]) [.u64 r_.1, .u64 r_.2.1] (Pt.at g1 0) k_3 rfl .all ?_
   intro w_2 k_4
   refine ⟨(k_4.sel (.kk .z)), fun _ => ?_⟩
   refine MXz 1 3 (.ss .a) (fun x hx => qe) fun _ => ?_
   refine MX_nil ?_
   exact At_cz ⟨r_.1, r_.2.1, g1, hm, rfl, k_4⟩
 rintro L_ w_3 ⟨c0, c2, g, hm, rfl, k_5⟩
 simp only [m_node_half_uint32_out_j0] at hm
 refine At_go <| W_seq ?_
 have k_6 := k_5.drew 1
 refine W_m mr_mixed (.q 21 2 (.q 22 2 (.q 0 3 (.q 1 3 (.q 2 3 (.q 3 2 (.q 4 3 (.q 5 3 (.q 6 3 (.q 7 2 (.q 8 3 (.q 9 3 (.q 10 3 (.q 11 2 (.q 12 3 (.q 13 3 (.q 14 3 (.q 15 2 (.q 16 3 (.q 17 3 (.q 18 3 (.q 19 2 (.op 20 (.op 23 (.op 24 (.q 25 3 .nil)))))))))))))))))))))))))) [20, 23, 24] k_6 (.c (.kk (.k .e)) (.c (.kk (.k .e)) (.c (.kk (.k .e)) .l))) (by kernel_rfl) (fun _ => ?_)
 refine MXz 2 2 (.n 42 (.agg [.u64 c0, .u64 c2]) (.n 43 (.b node) (.k .z))) (fun x hx => qT hx 2 rfl 0 2 [.u64 c0, .u64 c2] (by kernel_rfl) (by decide) <| qe) fun _ => ?_
 refine MXz 3 3 (.n 23 (pt g_x 13) .a) (fun x hx => qs g_x 0 <| qs g_x 0 <| qe) fun _ => ?_
 refine MXz 1 2 (.n 24 (.v (.func (.func 104) ⟨SV.vals []⟩ ⟨SV.vals []⟩)) (.s .a)) (fun x hx => qB hx 0 rfl 13 (.v (.func (.func 104) ⟨SV.vals []⟩ ⟨SV.vals []⟩)) (by kernel_rfl) <| qe) fun _ => ?_
 refine MXz 3 3 (.n 27 (pt g_x 12) .a) (fun x hx => qs g_x 0 <| qs g_x 0 <| qe) fun _ => ?_
 refine MXz 1 2 (.n 28 (.v (.func (.func 103) ⟨SV.vals []⟩ ⟨SV.vals []⟩)) (.s .a)) (fun x hx => qB hx 0 rfl 12 (.v (.func (.func 103) ⟨SV.vals []⟩ ⟨SV.vals []⟩)) (by kernel_rfl) <| qe) fun _ => ?_
 refine MXz 3 3 (.n 31 (pt g_x 0) .a) (fun x hx => qs g_x 0 <| qs g_x 0 <| qe) fun _ => ?_
 refine MXz 1 2 (.n 32 (.agg [.ar e32 x_h]) (.s .a)) (fun x hx => qT hx 0 rfl 0 8 [.ar e32 x_h] (by kernel_rfl) (by decide) <| qe) fun _ => ?_
 refine MXz 3 3 (.n 35 (pt g_x 10) .a) (fun x hx => qs g_x 0 <| qs g_x 0 <| qe) fun _ => ?_
 refine MXz 1 2 (.n 36 (sl A_x_held x_held.length c_x_held) (.s .a)) (fun x hx => qB hx 0 rfl 10 (sl A_x_held x_held.length c_x_held) (by kernel_rfl) <| qe) fun _ => ?_
 refine MXz 3 3 (.n 39 (pt g_x 11) (.kkkk (.kk .z))) (fun x hx => qs g_x 0 <| qs g_x 0 <| qe) fun _ => ?_
 refine MXz 1 2 (.n 40 (I x_block) (.s .a)) (fun x hx => qB hx 0 rfl 11 (I x_block) (by kernel_rfl) <| qe) fun _ => ?_
 refine MX_op (by kernel_rfl) rfl ?_
 obtain ⟨r_1, h_r_1, hm⟩ := ob hm
 refine Op_cz 41 mr_go88 (c_node_padded (F := N0) (O := N0) _ _ _ _ _ (Ro.n0 (k_6.rd 1 rfl)) (k_6.len 1 rfl) (k_6.lec 1 rfl) (Cx.refl _) _ h_r_1) ?_
 rintro e_ w_4 ⟨A0, _, c3, rfl, rfl, k_7⟩
 have k_8 := k_6.call k_7
 refine ⟨sl A0 r_1.length c3, rfl, ?_⟩
 refine ⟨(k_8.sel (.kk (.k .z))), fun _ => ?_⟩
 refine MX_op (by kernel_rfl) rfl ?_
 obtain ⟨r_2, h_r_2, hm⟩ := ob hm
 refine Op_callv [] 44 [] [.agg [.ar e32 x_h], sl A0 r_1.length c3, .agg [.u64 c0, .u64 c2], .b true, .b node] [] mr_go103 (by kernel_rfl) (c_node_mixSmall (F := N0) (O := N0) _ _ _ _ _ _ _ _ _ (Ro.n0 (k_8.rd 3 rfl)) (k_8.len 3 rfl) (k_8.lec 3 rfl) (Cx.refl _) _ h_r_2) ?_
 rintro e_ w_5 ⟨rfl, k_9⟩
 have k_10 := k_8.call k_9
 refine ⟨.agg [.ar e32 r_2], rfl, ?_⟩
 have k_11 := k_10.sel (.kk (.k .z))
 refine ⟨k_11, fun _ => ?_⟩
 refine MX_op (by kernel_rfl) rfl ?_
 obtain ⟨r_3, h_r_3, hm⟩ := ob hm
 refine Op_callv [] 45 [] [.agg [.ar e32 r_2]] [] mr_go104 (by kernel_rfl) (c_mixs_Bytes (F := N0) (O := N0) _ (Cx.refl _) _ h_r_3) ?_
 rintro e_ w_6 ⟨A2, _, c4, rfl, rfl, k_12⟩
 have k_13 := k_11.call k_12
 refine ⟨sl A2 r_3.length c4, rfl, ?_⟩
 refine ⟨(k_13.sel (.kk (.k .z))), fun _ => ?_⟩
 refine MXz 1 3 (.n 4 (sl A2 r_3.length c4) .z) (fun x hx => qe) fun _ => ?_
 refine MX_nil <| At_go <| W_ret ?_
 obtain rfl := si hm
 refine At_rz [sl A2 r_3.length c4] qe ?_
 have k_14 := (((k_13.pk (.t .h)).pk (.t .h)).pk (.t (.t (.t .h)))).sel (.kk (.k .z))
 exact ⟨A2, r_3.length, c4, A_x_held, x_held.length, c_x_held, k_14.len 0 rfl, k_14.len 2 rfl, rfl, k_14⟩
theorem c_node_Node_Out_s1 (n_kind : Int) (n_digest : Int) (n_block : List UInt8) (n_key : List UInt8) (n_last : Bool) (n_written : UInt64) (n_e_h : Vec UInt32 8) (n_e_count_Lo : UInt64) (n_e_count_Hi : UInt64) (n_e_held : List UInt8) (n_e_block : Int) (most : Int) (g_n : Nat) (A_n_block : Option Addr) (n_n_block : Nat) (c_n_block : Nat) (A_n_key : Option Addr) (n_n_key : Nat) (c_n_key : Nat) (g_n_e : Nat) (A_n_e_held : Option Addr) (n_n_e_held : Nat) (c_n_e_held : Nat) (k : Cx F O w w [Bx 102 g_n [I n_kind, I n_digest, sl A_n_block n_n_block c_n_block, sl A_n_key n_n_key c_n_key, .b n_last, .u64 n_written, .v (.iface 174 (SV.val (pt g_n_e 0)))], Ow e8 A_n_block n_n_block c_n_block n_block, Ow e8 A_n_key n_n_key c_n_key n_key, Bx 178 g_n_e [.ar e32 n_e_h, .u64 n_e_count_Lo, .u64 n_e_count_Hi, sl A_n_e_held n_n_e_held c_n_e_held, I n_e_block, .v (.func (.func 103) ⟨SV.vals []⟩ ⟨SV.vals []⟩), .v (.func (.func 104) ⟨SV.vals []⟩ ⟨SV.vals []⟩)], Ow e8 A_n_e_held n_n_e_held c_n_e_held n_e_held]) (r : (List UInt8 × Int × Vec UInt32 8 × UInt64 × UInt64 × List UInt8 × Int × Int × Int × List UInt8 × List UInt8 × Bool × UInt64)) (hm : m_node_Node_Out_s1 n_kind n_digest n_block n_key n_last n_written n_e_h n_e_count_Lo n_e_count_Hi n_e_held n_e_block most = some r) :
    Calls Tryz.prog 54 (vals [pt g_n 0, I most]) w (fun e w' => ∃ A n c A1 n1 c1 A2 n2 c2 A3 n3 c3, r.1.length = n ∧ r.2.2.2.2.2.1.length = n1 ∧ r.2.2.2.2.2.2.2.2.2.1.length = n2 ∧ r.2.2.2.2.2.2.2.2.2.2.1.length = n3 ∧ e = .returned (SV.val (.tup [sl A n c, I r.2.1])) ∧ Cx F O w w' [Ow e8 A n c r.1, Bx 178 g_n_e [.ar e32 r.2.2.1, .u64 r.2.2.2.1, .u64 r.2.2.2.2.1, sl A1 n1 c1, I r.2.2.2.2.2.2.1, .v (.func (.func 103) ⟨SV.vals []⟩ ⟨SV.vals []⟩), .v (.func (.func 104) ⟨SV.vals []⟩ ⟨SV.vals []⟩)], Ow e8 A1 n1 c1 r.2.2.2.2.2.1, Bx 102 g_n [I r.2.2.2.2.2.2.2.1, I r.2.2.2.2.2.2.2.2.1, sl A2 n2 c2, sl A3 n3 c3, .b r.2.2.2.2.2.2.2.2.2.2.2.1, .u64 r.2.2.2.2.2.2.2.2.2.2.2.2, .v (.iface 174 (SV.val (pt g_n_e 0)))], Ow e8 A2 n2 c2 r.2.2.2.2.2.2.2.2.2.1, Ow e8 A3 n3 c3 r.2.2.2.2.2.2.2.2.2.2.1]) := by
 unfold m_node_Node_Out_s1 at hm
 obtain rfl := k.len 1 rfl
 obtain rfl := k.len 2 rfl
 obtain rfl := k.len 4 rfl
 refine calz [pt g_n 0, I most] Tryz.func54 rfl ?_
 refine Wz .a ?_
 refine W_seq <| W_seq <| W_reg <| We 1 (.n 6 (pt g_n 0) .a) ?_
 refine WL_op ?_
 obtain ⟨r_, h_r_, hm⟩ := ob hm
 obtain ⟨F1, O1, kin, hO, hre, hF, hb⟩ := k.go (.i (.i (.i (.i (.i .e)))))
 refine Op_cz 7 mr_go67 (c_node_Node_none_s1 (F := F1) (O := O1) _ _ _ _ _ _ _ _ _ _ _ _ _ _ _ _ _ _ _ _ _ _ kin _ h_r_) ?_
 rintro e_ w_ ⟨A0, _, c0, A4, _, c4, A5, _, c5, rfl, rfl, rfl, rfl, k_⟩
 have k_1 := hb w_ _ _ k_ (.c (.c (.c (.c (.c .n)))))
 refine ⟨.b false, rfl, ?_⟩
 refine Wn <| W_cond false (by kernel_rfl) (fun h => by cases h) (fun _ => ?_)
 refine W_skip <| At_go <| W_seq <| W_seq <| W_reg <| We 3 (.n 10 (.b (decide (most < 1))) (.ss .a)) ?_
 refine WL_sp 10 (decide (most < 1)) (.s .a) (by kernel_rfl) (fun hg => ?_) (fun hg => ?_)
 · rw [if_pos (of_decide_eq_true hg)] at hm
   refine WLs 9 [10] (.n 19 (.b true) (.s .a)) qe (by kernel_rfl) ?_
   refine Wn <| W_cond true (by kernel_rfl) (fun _ => ?_) (fun h => by cases h)
   refine Wz (.n 4 (sl none 0 0) (.n 5 (I 1) .z)) ?_
   refine W_ret (At_tr ?_)
   have k_2 := k_1.nil e8
   obtain rfl := si hm
   refine At_rz [sl none 0 0, I 1] qe ?_
   have k_3 := (((((k_2.pk (.t (.t (.t (.t .h))))).pk (.t (.t (.t (.t .h))))).pk (.t (.t (.t (.t .h))))).pk (.t (.t (.t (.t .h))))).pk (.t (.t (.t (.t .h))))).pk (.t (.t (.t (.t (.t .h)))))
   exact ⟨none, 0, 0, A0, r_.2.2.2.1.length, c0, A4, r_.2.2.2.2.2.2.2.1.length, c4, A5, r_.2.2.2.2.2.2.2.2.1.length, c5, k_3.len 0 rfl, k_3.len 2 rfl, k_3.len 4 rfl, k_3.len 5 rfl, rfl, k_3⟩
 · rw [if_neg (of_decide_eq_false hg)] at hm
   refine WLs 5 [10] (.n 11 (I most) (.n 15 (I r_.2.2.2.2.2.1) .a)) (qs g_n 0 <| qs g_n 0 <| qB k_1 2 rfl 0 (I r_.2.2.2.2.2.1) (by kernel_rfl) <| qe) (by kernel_rfl) ?_
   refine WL_op ?_
   obtain ⟨r_1, h_r_1, hm⟩ := ob hm
   refine Op_call [10] 16 _ mr_go68 (by kernel_rfl) (c_node_blockOf (F := N0) (O := N0) _ (Cx.refl _) _ h_r_1) ?_
   rintro e_ w_1 ⟨rfl, k_4⟩
   have k_5 := k_1.call k_4
   refine ⟨I r_1, rfl, ?_⟩
   refine WLs 3 [10] (.n 19 (.b (decide ((w64 (Int.tdiv r_1 2)) < most))) (.ssss .a)) (qp ((2 : Int) ≠ (0 : Int)) (by omega) <| qe) (by kernel_rfl) ?_
   refine Wn <| W_pz ((w64 (Int.tdiv r_1 2)) < most) (fun hc => ?_) fun hc => ?_
   · rw [if_pos hc] at hm
     refine Wz (.n 4 (sl none 0 0) (.n 5 (I 1) .z)) ?_
     refine W_ret (At_tr ?_)
     have k_6 := k_5.nil e8
     obtain rfl := si hm
     refine At_rz [sl none 0 0, I 1] qe ?_
     have k_7 := (((((k_6.pk (.t (.t (.t (.t .h))))).pk (.t (.t (.t (.t .h))))).pk (.t (.t (.t (.t .h))))).pk (.t (.t (.t (.t .h))))).pk (.t (.t (.t (.t .h))))).pk (.t (.t (.t (.t (.t .h)))))
     exact ⟨none, 0, 0, A0, r_.2.2.2.1.length, c0, A4, r_.2.2.2.2.2.2.2.1.length, c4, A5, r_.2.2.2.2.2.2.2.2.1.length, c5, k_7.len 0 rfl, k_7.len 2 rfl, k_7.len 4 rfl, k_7.len 5 rfl, rfl, k_7⟩
   rw [if_neg hc] at hm
   refine W_skip <| At_go <| W_seq ?_
   have k_8 := k_5.drew 1
   refine W_m mr_mixed (.q 0 1 (.q 1 1 (.q 2 1 (.q 3 1 (.q 4 1 (.q 5 1 (.q 6 1 (.q 7 0 (.q 8 1 (.q 9 0 (.q 11 1 (.q 12 1 (.op 10 (.q 13 1 (.q 14 1 (.q 15 1 .nil)))))))))))))))) [10] k_8 (.c (.ss (.kk (.k .e))) .l) (by kernel_rfl) (fun _ => ?_)
   refine MXz 7 1 (.n 23 (.v (.iface 174 (SV.val (pt g_n_e 0)))) (.n 26 (pt g_n 4) (.ss .a))) (fun x hx => qs g_n 0 <| qs g_n 0 <| qB hx 0 rfl 6 (.v (.iface 174 (SV.val (pt g_n_e 0)))) (by kernel_rfl) <| qs g_n 0 <| qs g_n 0 <| qe) fun _ => ?_
   refine MXz 1 0 (.n 27 (.b r_.2.2.2.2.2.2.2.2.2.1) (.k (.s .a))) (fun x hx => qB hx 2 rfl 4 (.b r_.2.2.2.2.2.2.2.2.2.1) (by kernel_rfl) <| qe) fun _ => ?_
   refine MXz 1 1 .a (fun x hx => qe) fun _ => ?_
   refine MXz 1 0 (.n 29 (.v (.iface 174 (SV.val (pt g_n_e 0)))) (.k (.s .a))) (fun x hx => qe) fun _ => ?_
   refine MXz 2 1 (.n 31 (I most) (.n 32 (I most) (.kk .z))) (fun x hx => qe) fun _ => ?_
   refine MX_op (by kernel_rfl) rfl ?_
   obtain ⟨r_2, h_r_2, hm⟩ := ob hm
   obtain ⟨F11, O11, kin1, hO1, hre1, hF1, hb1⟩ := k_8.go (.i (.i (.r (.r (.r .e)))))
   refine Op_invoke [] 30 174 (pt g_n_e 0) [.b r_.2.2.2.2.2.2.2.2.2.1] mr_inv174_node_out rfl (by kernel_rfl) (c_node_half_uint32_out (F := F11) (O := O11) _ _ _ _ _ _ _ _ _ _ kin1 _ h_r_2) ?_
   rintro e_ w_2 ⟨A6, _, c6, A7, _, c7, rfl, rfl, rfl, k_9⟩
   have k_10 := hb1 w_2 _ _ k_9 (.c (.c (.c .n)))
   refine ⟨sl A6 r_2.1.length c6, rfl, ?_⟩
   refine ⟨(k_10.sel (.ss (.s (.kk (.k .e))))), fun _ => ?_⟩
   obtain ⟨b, h_b, hm⟩ := ob hm
   have hs := slc_some h_b
   have hl := slc_len h_b
   have hn : r_2.1.length = r_2.1.length := (k_10.len 0 rfl)
   have hc1 : r_2.1.length ≤ c6 := (k_10.lec 0 rfl)
   obtain ⟨u, h_u, hm⟩ := ob hm
   have hq := need_some h_u
   have hc2 : b.length ≤ Int.toNat most := by omega
   refine MXz 3 1 (.n 4 (sl A6 b.length (Int.toNat most)) (.n 5 (I 0) .z)) (fun x hx => qp (0 ≤ most ∧ most ≤ (c6 : Int)) (by omega) <| qp (0 ≤ most ∧ most ≤ ((Int.toNat most : Nat) : Int)) (by omega) <| qo (.v (.slice A6 b.length (Int.toNat most))) <| qp (Value.slice (slA A6 0 (Int.toNat most) 1) (Int.toNat most - 0) (Int.toNat most - 0) = .slice A6 b.length (Int.toNat most)) (slx0 _ _ _ _ _ (by omega)) <| qe) fun _ => ?_
   refine MX_nil <| At_go <| W_ret ?_
   have k_11 := k_10.pre 0 rfl b.length (Int.toNat most) b (by omega) (by omega) (by omega) (slc_pre h_b rfl)
   obtain rfl := si hm
   refine At_rz [sl A6 b.length (Int.toNat most), I 0] qe ?_
   exact ⟨A6, b.length, Int.toNat most, A7, r_2.2.2.2.2.1.length, c7, A4, r_.2.2.2.2.2.2.2.1.length, c4, A5, r_.2.2.2.2.2.2.2.2.1.length, c5, k_11.len 0 rfl, k_11.len 2 rfl, k_11.len 4 rfl, k_11.len 5 rfl, rfl, k_11⟩
theorem c_node_Hash (k_ : Int) (p_Digest : Int) (p_Key : Int) (p_Fanout : Int) (p_Depth : Int) (p_Leaf : UInt32) (p_Offset : UInt64) (p_Xof : UInt32) (p_NodeDepth : Int) (p_Inner : Int) (p_Salt : List UInt8) (p_Personal : List UInt8) (key : List UInt8) (last : Bool) (out : Int) (data : List UInt8) (A_p_Salt : Option Addr) (n_p_Salt : Nat) (c_p_Salt : Nat) (A_p_Personal : Option Addr) (n_p_Personal : Nat) (c_p_Personal : Nat) (A_key : Option Addr) (n_key : Nat) (c_key : Nat) (A_data : Option Addr) (n_data : Nat) (c_data : Nat) (h_p_Salt : Ro F w A_p_Salt (e8.all p_Salt)) (hn_p_Salt : p_Salt.length = n_p_Salt) (hc_p_Salt : n_p_Salt ≤ c_p_Salt) (h_p_Personal : Ro F w A_p_Personal (e8.all p_Personal)) (hn_p_Personal : p_Personal.length = n_p_Personal) (hc_p_Personal : n_p_Personal ≤ c_p_Personal) (h_key : Ro F w A_key (e8.all key)) (hn_key : key.length = n_key) (hc_key : n_key ≤ c_key) (h_data : Ro F w A_data (e8.all data)) (hn_data : data.length = n_data) (hc_data : n_data ≤ c_data) (k : Cx F O w w []) (r : (List UInt8 × Int)) (hm : m_node_Hash k_ p_Digest p_Key p_Fanout p_Depth p_Leaf p_Offset p_Xof p_NodeDepth p_Inner p_Salt p_Personal key last out data = some r) :
    Calls Tryz.prog 37 (vals [I k_, .agg [I p_Digest, I p_Key, I p_Fanout, I p_Depth, .u32 p_Leaf, .u64 p_Offset, .u32 p_Xof, I p_NodeDepth, I p_Inner, sl A_p_Salt n_p_Salt c_p_Salt, sl A_p_Personal n_p_Personal c_p_Personal], sl A_key n_key c_key, .b last, I out, sl A_data n_data c_data]) w (fun e w' => ∃ A n c, r.1.length = n ∧ e = .returned (SV.val (.tup [sl A n c, I r.2])) ∧ Cx F O w w' [Ow e8 A n c r.1]) := by
 unfold m_node_Hash at hm
 subst hn_p_Salt
 subst hn_p_Personal
 subst hn_key
 subst hn_data
 refine calz [I k_, .agg [I p_Digest, I p_Key, I p_Fanout, I p_Depth, .u32 p_Leaf, .u64 p_Offset, .u32 p_Xof, I p_NodeDepth, I p_Inner, sl A_p_Salt p_Salt.length c_p_Salt, sl A_p_Personal p_Personal.length c_p_Personal], sl A_key key.length c_key, .b last, I out, sl A_data data.length c_data] Tryz.func37 rfl ?_
 refine W_seq <| W_reg <| WL_op <| Op_box [] 7 (.agg [I p_Digest, I p_Key, I p_Fanout, I p_Depth, .u32 p_Leaf, .u64 p_Offset, .u32 p_Xof, I p_NodeDepth, I p_Inner, sl A_p_Salt p_Salt.length c_p_Salt, sl A_p_Personal p_Personal.length c_p_Personal]) [I p_Digest, I p_Key, I p_Fanout, I p_Depth, .u32 p_Leaf, .u64 p_Offset, .u32 p_Xof, I p_NodeDepth, I p_Inner, sl A_p_Salt p_Salt.length c_p_Salt, sl A_p_Personal p_Personal.length c_p_Personal] (by kernel_rfl) k ?_
 intro g w_ k_1
 refine We 2 (.kk (.s .a)) ?_
 refine Wn <| W_seq <| W_reg <| Wl 3 (.n 17 (I k_) (.n 18 (.agg [I p_Digest, I p_Key, I p_Fanout, I p_Depth, .u32 p_Leaf, .u64 p_Offset, .u32 p_Xof, I p_NodeDepth, I p_Inner, sl A_p_Salt p_Salt.length c_p_Salt, sl A_p_Personal p_Personal.length c_p_Personal]) (.n 19 (sl A_key key.length c_key) (.sss .a)))) (qT k_1 0 rfl 0 11 [I p_Digest, I p_Key, I p_Fanout, I p_Depth, .u32 p_Leaf, .u64 p_Offset, .u32 p_Xof, I p_NodeDepth, I p_Inner, sl A_p_Salt p_Salt.length c_p_Salt, sl A_p_Personal p_Personal.length c_p_Personal] (by kernel_rfl) (by decide) <| qe) ?_
 refine WL_op ?_
 obtain ⟨r_, h_r_, hm⟩ := ob hm
 refine Op_cz 20 mr_go53 (c_node_New (F := N0) (O := N0) _ _ _ _ _ _ _ _ _ _ _ _ _ _ _ _ _ _ _ _ _ _ (Ro.n0 (h_p_Salt.cx k_1)) rfl hc_p_Salt (Ro.n0 (h_p_Personal.cx k_1)) rfl hc_p_Personal (Ro.n0 (h_key.cx k_1)) rfl hc_key (Cx.refl _) _ h_r_) ?_
 rcases r_ with r_1 | r_2 | r_3
 · simp only [Sum.elim_inl, Sum.elim_inr] at hm
   rintro e_ w_1 ⟨rfl, k_2⟩
   have k_3 := k_1.call k_2
   refine ⟨.tup [.v (.pointer none), I r_1], rfl, ?_⟩
   have k_4 := k_3.sel .z
   refine We 5 (.n 14 (.v (.pointer none)) (.n 15 (I r_1) (.ssss .a))) ?_
   refine Wn <| W_seq <| Wz (.n 24 (.b (decide (r_1 ≠ 0))) .a) ?_
   refine W_pz (r_1 ≠ 0) (fun hc => ?_) fun hc => ?_
   · rw [if_pos hc] at hm
     refine Wz (.n 12 (sl none 0 0) (.n 13 (I r_1) .z)) ?_
     refine W_ret (At_tr ?_)
     have k_5 := k_4.nil e8
     obtain rfl := si hm
     refine At_rz [sl none 0 0, I r_1] qe ?_
     exact ⟨none, 0, 0, k_5.len 0 rfl, rfl, k_5⟩
   rw [if_neg hc] at hm
   cases hm
 · simp only [Sum.elim_inl, Sum.elim_inr] at hm
   rintro e_ w_2 ⟨g1, A0, _, c0, A1, _, c1, g2, A2, _, c2, rfl, rfl, rfl, rfl, k_6⟩
   have k_7 := k_1.call k_6
   refine ⟨.tup [pt g1 0, I 0], rfl, ?_⟩
   have k_8 := k_7.sel (.s (.kkkk (.k .e)))
   refine We 5 (.n 14 (pt g1 0) (.n 15 (I 0) (.ssss .a))) ?_
   refine Wn <| W_seq <| Wz (.n 24 (.b (decide (0 ≠ 0))) .a) ?_
   refine W_pz (0 ≠ 0) (fun hc0 => ?_) fun hc0 => ?_
   · rw [if_pos hc0] at hm
     refine Wz (.n 12 (sl none 0 0) (.n 13 (I 0) .z)) ?_
     refine W_ret (At_tr ?_)
     have k_9 := k_8.nil e8
     obtain rfl := si hm
     refine At_rz [sl none 0 0, I 0] qe ?_
     have k_10 := k_9.sel (.ssss (.s (.k .e)))
     exact ⟨none, 0, 0, k_10.len 0 rfl, rfl, k_10⟩
   rw [if_neg hc0] at hm
   refine W_skip <| At_go <| W_seq <| W_reg <| Wl 4 (.n 27 (.b last) (.n 29 (pt g1 4) (.s (.k (.ss .a))))) (qs g1 0 <| qs g1 0 <| qe) ?_
   refine WL_op <| Op_bz 0 (.b last) [.b last] (Pt.at g1 4) k_8 rfl (.kkkk .h) ?_
   intro w_3 k_11
   refine Wn <| W_seq <| W_reg <| Wl 5 (.n 33 (.v (.iface 165 (SV.val (pt g2 0)))) (.n 34 (sl A_data data.length c_data) (.ss (.kk .z)))) (qs g1 0 <| qs g1 0 <| qB k_11 0 rfl 6 (.v (.iface 165 (SV.val (pt g2 0)))) (by kernel_rfl) <| qe) ?_
   refine WL_op ?_
   obtain ⟨r_4, h_r_4, hm⟩ := ob hm
   obtain ⟨F1, O1, kin, hO, hre, hF, hb⟩ := k_11.go (.r (.r (.r (.i (.i .e)))))
   refine Op_invoke [] 35 165 (pt g2 0) [sl A_data data.length c_data] mr_inv165_node_write rfl (by kernel_rfl) (c_node_half_uint64_write (F := F1) (O := O1) _ _ _ _ _ _ _ _ _ _ _ _ _ (Ro.of_old h_data k_11 hF) rfl hc_data kin _ h_r_4) ?_
   rintro e_ w_4 ⟨A3, _, c3, rfl, rfl, k_12⟩
   have k_13 := hb w_4 _ _ k_12 (.c (.c .n))
   refine ⟨.tup [], rfl, ?_⟩
   refine Wn <| W_seq <| W_reg <| We 2 (.n 36 (pt g1 0) (.n 37 (I out) .z)) ?_
   refine WL_op ?_
   have k_14 := k_13.sel (.kkkk (.k .e))
   obtain ⟨r_5, h_r_5, hm⟩ := ob hm
   have k_15 := ((((k_14.pk (.t .h)).pk (.t .h)).pk (.t (.t (.t (.t .h))))).pk (.t (.t (.t (.t .h))))).pk (.t (.t (.t (.t .h))))
   obtain ⟨F11, O11, kin1, hO1, hre1, hF1, hb1⟩ := k_15.go (.i (.i (.i (.i (.i .e)))))
   refine Op_cz 38 mr_go54 (c_node_Node_Out (F := F11) (O := O11) _ _ _ _ _ _ _ _ _ _ _ _ _ _ _ _ _ _ _ _ _ _ _ kin1 _ h_r_5) ?_
   rintro e_ w_5 ⟨A4, _, c4, A5, _, c5, A6, _, c6, A7, _, c7, rfl, rfl, rfl, rfl, rfl, k_16⟩
   have k_17 := hb1 w_5 _ _ k_16 (.c (.c (.c (.c (.c (.c .n))))))
   refine ⟨.tup [sl A4 r_5.1.length c4, I r_5.2.1], rfl, ?_⟩
   have k_18 := k_17.sel (.k .z)
   refine We 4 (.n 12 (sl A4 r_5.1.length c4) (.n 13 (I r_5.2.1) .z)) ?_
   refine Wn <| W_ret ?_
   obtain rfl := si hm
   refine At_rz [sl A4 r_5.1.length c4, I r_5.2.1] qe ?_
   exact ⟨A4, r_5.1.length, c4, k_18.len 0 rfl, rfl, k_18⟩
 · simp only [Sum.elim_inl, Sum.elim_inr] at hm
   rintro e_ w_6 ⟨g3, A8, _, c8, A9, _, c9, g4, A10, _, c10, rfl, rfl, rfl, rfl, k_19⟩
   have k_20 := k_1.call k_19
   refine ⟨.tup [pt g3 0, I 0], rfl, ?_⟩
   have k_21 := k_20.sel (.s (.kkkk (.k .e)))
   refine We 5 (.n 14 (pt g3 0) (.n 15 (I 0) (.ssss .a))) ?_
   refine Wn <| W_seq <| Wz (.n 24 (.b (decide (0 ≠ 0))) .a) ?_
   refine W_pz (0 ≠ 0) (fun hc1 => ?_) fun hc1 => ?_
   · rw [if_pos hc1] at hm
     refine Wz (.n 12 (sl none 0 0) (.n 13 (I 0) .z)) ?_
     refine W_ret (At_tr ?_)
     have k_22 := k_21.nil e8
     obtain rfl := si hm
     refine At_rz [sl none 0 0, I 0] qe ?_
     have k_23 := k_22.sel (.ssss (.s (.k .e)))
     exact ⟨none, 0, 0, k_23.len 0 rfl, rfl, k_23⟩
   rw [if_neg hc1] at hm
   refine W_skip <| At_go <| W_seq <| W_reg <| Wl 4 (.n 27 (.b last) (.n 29 (pt g3 4) (.s (.k (.ss .a))))) (qs g3 0 <| qs g3 0 <| qe) ?_
   refine WL_op <| Op_bz 0 (.b last) [.b last] (Pt.at g3 4) k_21 rfl (.kkkk .h) ?_
   intro w_7 k_24
   refine Wn <| W_seq <| W_reg <| Wl 5 (.n 33 (.v (.iface 174 (SV.val (pt g4 0)))) (.n 34 (sl A_data data.length c_data) (.ss (.kk .z)))) (qs g3 0 <| qs g3 0 <| qB k_24 0 rfl 6 (.v (.iface 174 (SV.val (pt g4 0)))) (by kernel_rfl) <| qe) ?_
   refine WL_op ?_
   obtain ⟨r_6, h_r_6, hm⟩ := ob hm
   obtain ⟨F10, O10, kin0, hO0, hre0, hF0, hb0⟩ := k_24.go (.r (.r (.r (.i (.i .e)))))
   refine Op_invoke [] 35 174 (pt g4 0) [sl A_data data.length c_data] mr_inv174_node_write rfl (by kernel_rfl) (c_node_half_uint32_write (F := F10) (O := O10) _ _ _ _ _ _ _ _ _ _ _ _ _ (Ro.of_old h_data k_24 hF0) rfl hc_data kin0 _ h_r_6) ?_
   rintro e_ w_8 ⟨A11, _, c11, rfl, rfl, k_25⟩
   have k_26 := hb0 w_8 _ _ k_25 (.c (.c .n))
   refine ⟨.tup [], rfl, ?_⟩
   refine Wn <| W_seq <| W_reg <| We 2 (.n 36 (pt g3 0) (.n 37 (I out) .z)) ?_
   refine WL_op ?_
   have k_27 := k_26.sel (.kkkk (.k .e))
   obtain ⟨r_7, h_r_7, hm⟩ := ob hm
   have k_28 := ((((k_27.pk (.t .h)).pk (.t .h)).pk (.t (.t (.t (.t .h))))).pk (.t (.t (.t (.t .h))))).pk (.t (.t (.t (.t .h))))
   obtain ⟨F12, O12, kin2, hO2, hre2, hF2, hb2⟩ := k_28.go (.i (.i (.i (.i (.i .e)))))
   refine Op_cz 38 mr_go54 (c_node_Node_Out_s1 (F := F12) (O := O12) _ _ _ _ _ _ _ _ _ _ _ _ _ _ _ _ _ _ _ _ _ _ _ kin2 _ h_r_7) ?_
   rintro e_ w_9 ⟨A12, _, c12, A13, _, c13, A14, _, c14, A15, _, c15, rfl, rfl, rfl, rfl, rfl, k_29⟩
   have k_30 := hb2 w_9 _ _ k_29 (.c (.c (.c (.c (.c (.c .n))))))
   refine ⟨.tup [sl A12 r_7.1.length c12, I r_7.2.1], rfl, ?_⟩
   have k_31 := k_30.sel (.k .z)
   refine We 4 (.n 12 (sl A12 r_7.1.length c12) (.n 13 (I r_7.2.1) .z)) ?_
   refine Wn <| W_ret ?_
   obtain rfl := si hm
   refine At_rz [sl A12 r_7.1.length c12, I r_7.2.1] qe ?_
   exact ⟨A12, r_7.1.length, c12, k_31.len 0 rfl, rfl, k_31⟩
end Go.Sx

