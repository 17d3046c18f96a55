import Derived.Test.YtmknbdnofogmdaaGreatW9
namespace Go.Sx
open Go.RowKit Go.Proofs
set_option linter.unusedVariables false
set_option linter.unusedSimpArgs false
set_option maxRecDepth 20000

-- (*quern/quernref05.Node).first
noncomputable def m_r05_Node_first_l0 (n_Kind : Int) (n_P_Digest : Int) (n_P_Key : Int) (n_P_Fanout : Int) (n_P_Depth : Int) (n_P_Leaf : UInt32) (n_P_Offset : UInt64) (n_P_Xof : UInt32) (n_P_NodeDepth : Int) (n_P_Inner : Int) (n_Last : Bool) (n_From : Vec UInt64 16) (n_Old : Bool) (n_Lo : UInt64) (n_Hi : UInt64) (n_Msg : List UInt8) (n_Count : UInt64) (r_1 : (Vec UInt64 8 × Int)) : (Vec UInt64 16 × Int) → Option ((Vec UInt64 16 × Int) ⊕ (Vec UInt64 16 × Int × Int × Int × Int × Int × UInt32 × UInt64 × UInt32 × Int × Int × Bool × Vec UInt64 16 × Bool × UInt64 × UInt64 × List UInt8 × UInt64))
  | (h, i) => if i < 8 then ((geti r_1.1.l i).bind fun x_0 => (geti h.l i).bind fun x_18 => (some (vst h i x_0)).bind fun v => some (.inl (v, w64 (i + 1)))) else (Option.map Sum.inr (some (h, n_Kind, n_P_Digest, n_P_Key, n_P_Fanout, n_P_Depth, n_P_Leaf, n_P_Offset, n_P_Xof, n_P_NodeDepth, n_P_Inner, n_Last, n_From, n_Old, n_Lo, n_Hi, n_Msg, n_Count)))
noncomputable def m_r05_Node_first_l1 (n_Kind : Int) (n_P_Digest : Int) (n_P_Key : Int) (n_P_Fanout : Int) (n_P_Depth : Int) (n_P_Leaf : UInt32) (n_P_Offset : UInt64) (n_P_Xof : UInt32) (n_P_NodeDepth : Int) (n_P_Inner : Int) (n_Last : Bool) (n_From : Vec UInt64 16) (n_Old : Bool) (n_Lo : UInt64) (n_Hi : UInt64) (n_Msg : List UInt8) (n_Count : UInt64) (r_2 : (Vec UInt32 8 × Int)) : (Vec UInt64 16 × Int) → Option ((Vec UInt64 16 × Int) ⊕ (Vec UInt64 16 × Int × Int × Int × Int × Int × UInt32 × UInt64 × UInt32 × Int × Int × Bool × Vec UInt64 16 × Bool × UInt64 × UInt64 × List UInt8 × UInt64))
  | (h1, i1) => if i1 < 8 then ((geti r_2.1.l i1).bind fun x_19 => (geti h1.l i1).bind fun x_20 => (some (vst h1 i1 (UInt64.ofNat x_19.toNat))).bind fun v1 => some (.inl (v1, w64 (i1 + 1)))) else (Option.map Sum.inr (some (h1, n_Kind, n_P_Digest, n_P_Key, n_P_Fanout, n_P_Depth, n_P_Leaf, n_P_Offset, n_P_Xof, n_P_NodeDepth, n_P_Inner, n_Last, n_From, n_Old, n_Lo, n_Hi, n_Msg, n_Count)))
noncomputable def m_r05_Node_first (n_Kind : Int) (n_P_Digest : Int) (n_P_Key : Int) (n_P_Fanout : Int) (n_P_Depth : Int) (n_P_Leaf : UInt32) (n_P_Offset : UInt64) (n_P_Xof : UInt32) (n_P_NodeDepth : Int) (n_P_Inner : Int) (n_P_Salt : List UInt8) (n_P_Personal : List UInt8) (n_Key : List UInt8) (n_Last : Bool) (n_From : Vec UInt64 16) (n_Old : Bool) (n_Lo : UInt64) (n_Hi : UInt64) (n_Msg : List UInt8) (n_Count : UInt64) : Option (Vec UInt64 16 × Int × Int × Int × Int × Int × UInt32 × UInt64 × UInt32 × Int × Int × Bool × Vec UInt64 16 × Bool × UInt64 × UInt64 × List UInt8 × UInt64) :=
  if n_Old = true then (some (n_From, n_Kind, n_P_Digest, n_P_Key, n_P_Fanout, n_P_Depth, n_P_Leaf, n_P_Offset, n_P_Xof, n_P_NodeDepth, n_P_Inner, n_Last, n_From, n_Old, n_Lo, n_Hi, n_Msg, n_Count)) else ((m_r02_Encode n_Kind n_P_Digest n_P_Key n_P_Fanout n_P_Depth n_P_Leaf n_P_Offset n_P_Xof n_P_NodeDepth n_P_Inner n_P_Salt n_P_Personal).bind fun r_ => if n_Kind = 1 then ((m_r03_Start r_.1).bind fun r_1 => whileO (m_r05_Node_first_l0 n_Kind n_P_Digest n_P_Key n_P_Fanout n_P_Depth n_P_Leaf n_P_Offset n_P_Xof n_P_NodeDepth n_P_Inner n_Last n_From n_Old n_Lo n_Hi n_Msg n_Count r_1) ((Vec.rep 16 (0 : UInt64)), (0 : Int))) else ((m_r04_Start r_.1).bind fun r_2 => whileO (m_r05_Node_first_l1 n_Kind n_P_Digest n_P_Key n_P_Fanout n_P_Depth n_P_Leaf n_P_Offset n_P_Xof n_P_NodeDepth n_P_Inner n_Last n_From n_Old n_Lo n_Hi n_Msg n_Count r_2) ((Vec.rep 16 (0 : UInt64)), (0 : Int))))
theorem c_r05_Node_first {F O : Nat → Prop} {w : World} (n_Kind : Int) (n_P_Digest : Int) (n_P_Key : Int) (n_P_Fanout : Int) (n_P_Depth : Int) (n_P_Leaf : UInt32) (n_P_Offset : UInt64) (n_P_Xof : UInt32) (n_P_NodeDepth : Int) (n_P_Inner : Int) (n_P_Salt : List UInt8) (n_P_Personal : List UInt8) (n_Key : List UInt8) (n_Last : Bool) (n_From : Vec UInt64 16) (n_Old : Bool) (n_Lo : UInt64) (n_Hi : UInt64) (n_Msg : List UInt8) (n_Count : UInt64) (g_n : Nat) (A_n_P_Salt : Option Addr) (n_n_P_Salt : Nat) (c_n_P_Salt : Nat) (A_n_P_Personal : Option Addr) (n_n_P_Personal : Nat) (c_n_P_Personal : Nat) (A_n_Key : Option Addr) (n_n_Key : Nat) (c_n_Key : Nat) (A_n_Msg : Option Addr) (n_n_Msg : Nat) (c_n_Msg : Nat) (h_n_P_Salt : Ro F w A_n_P_Salt (e8.all n_P_Salt)) (hn_n_P_Salt : n_P_Salt.length = n_n_P_Salt) (hc_n_P_Salt : n_n_P_Salt ≤ c_n_P_Salt) (h_n_P_Personal : Ro F w A_n_P_Personal (e8.all n_P_Personal)) (hn_n_P_Personal : n_P_Personal.length = n_n_P_Personal) (hc_n_P_Personal : n_n_P_Personal ≤ c_n_P_Personal) (h_n_Key : Ro F w A_n_Key (e8.all n_Key)) (hn_n_Key : n_Key.length = n_n_Key) (hc_n_Key : n_n_Key ≤ c_n_Key) (k : Cx F O w w [Bx 110 g_n [I n_Kind, I n_P_Digest, I n_P_Key, I n_P_Fanout, I n_P_Depth, .u32 n_P_Leaf, .u64 n_P_Offset, .u32 n_P_Xof, I n_P_NodeDepth, I n_P_Inner, sl A_n_P_Salt n_n_P_Salt c_n_P_Salt, sl A_n_P_Personal n_n_P_Personal c_n_P_Personal, sl A_n_Key n_n_Key c_n_Key, .b n_Last, .ar e64 n_From, .b n_Old, .u64 n_Lo, .u64 n_Hi, sl A_n_Msg n_n_Msg c_n_Msg, .u64 n_Count], Ow e8 A_n_Msg n_n_Msg c_n_Msg n_Msg]) (r : (Vec UInt64 16 × Int × Int × Int × Int × Int × UInt32 × UInt64 × UInt32 × Int × Int × Bool × Vec UInt64 16 × Bool × UInt64 × UInt64 × List UInt8 × UInt64)) (hm : m_r05_Node_first n_Kind n_P_Digest n_P_Key n_P_Fanout n_P_Depth n_P_Leaf n_P_Offset n_P_Xof n_P_NodeDepth n_P_Inner n_P_Salt n_P_Personal n_Key n_Last n_From n_Old n_Lo n_Hi n_Msg n_Count = some r) :
    Calls Tryz.prog 93 (vals [pt g_n 0]) w (fun e w' => ∃ A n c, r.2.2.2.2.2.2.2.2.2.2.2.2.2.2.2.2.1.length = n ∧ e = .returned (SV.val (.agg [.ar e64 r.1])) ∧ Cx F O w w' [Bx 110 g_n [I r.2.1, I r.2.2.1, I r.2.2.2.1, I r.2.2.2.2.1, I r.2.2.2.2.2.1, .u32 r.2.2.2.2.2.2.1, .u64 r.2.2.2.2.2.2.2.1, .u32 r.2.2.2.2.2.2.2.2.1, I r.2.2.2.2.2.2.2.2.2.1, I r.2.2.2.2.2.2.2.2.2.2.1, sl A_n_P_Salt n_n_P_Salt c_n_P_Salt, sl A_n_P_Personal n_n_P_Personal c_n_P_Personal, sl A_n_Key n_n_Key c_n_Key, .b r.2.2.2.2.2.2.2.2.2.2.2.1, .ar e64 r.2.2.2.2.2.2.2.2.2.2.2.2.1, .b r.2.2.2.2.2.2.2.2.2.2.2.2.2.1, .u64 r.2.2.2.2.2.2.2.2.2.2.2.2.2.2.1, .u64 r.2.2.2.2.2.2.2.2.2.2.2.2.2.2.2.1, sl A n c, .u64 r.2.2.2.2.2.2.2.2.2.2.2.2.2.2.2.2.2], Ow e8 A n c r.2.2.2.2.2.2.2.2.2.2.2.2.2.2.2.2.1]) := by
 unfold m_r05_Node_first at hm
 subst hn_n_P_Salt
 subst hn_n_P_Personal
 subst hn_n_Key
 obtain rfl := k.len 1 rfl
 refine calls [pt g_n 0] Tryz.func93 rfl (of_decide_eq_true (by kernel_rfl)) ?_
 refine W_seq <| W_reg <| WL_op <| Op_alloc [] 2 [.ar e64 (Vec.rep 16 (0 : UInt64))] (by kernel_rfl) k ?_
 intro g w_ k_
 refine WL_nil <| At_go <| W_seq <| W_reg <| WL_op <| Op_alloc [] 3 [.ar e64 (Vec.rep 16 (0 : UInt64))] (by kernel_rfl) k_ ?_
 intro g1 w_1 k_1
 refine WL_nil <| At_go <| W_seq <| W_seq <| W_q [] (.n 15 (.b n_Old) .a) (qs g_n 0 <| qs g_n 0 <| qB k_1 0 rfl 30 (.b n_Old) (by kernel_rfl) <| qe) (by kernel_rfl) ?_
 refine At_go <| W_cond n_Old (by kernel_rfl) (fun hc => ?_) (fun hc => ?_)
 · rw [if_pos hc] at hm
   refine W_seq <| W_reg <| WLs 4 [] (.n 19 (.agg [.ar e64 n_From]) (.ss (.k .z))) (qs g_n 0 <| qs g_n 0 <| qT k_1 0 rfl 14 16 [.ar e64 n_From] (by kernel_rfl) (by decide) <| qe) (by kernel_rfl) ?_
   refine WL_op <| Op_b [] 2 (.agg [.ar e64 n_From]) [.ar e64 n_From] (Pt.at g 0) k_1 rfl .all (by kernel_rfl) (by kernel_rfl) ?_
   intro w_2 k_2
   have k_3 := k_2.sel (.kk (.k .z))
   refine WL_nil <| At_go <| W_ret (At_tr ?_)
   obtain rfl := Option.some.inj hm
   refine At_rt [.agg [.ar e64 n_From]] (qo (.agg [.ar e64 n_From]) <| qc (fun w => Rd w (some ⟨g, 0, none⟩) (SV.cl [.ar e64 n_From])) (k_3.brd 2 rfl) <| qe) (by kernel_rfl) ?_
   have k_4 := k_3.sel (.kk .z)
   exact ⟨A_n_Msg, n_Msg.length, c_n_Msg, k_4.len 1 rfl, rfl, k_4⟩
 rw [if_neg (by rw [hc]; decide)] at hm
 refine W_skip <| At_go <| W_seq ?_
 have k_5 := k_1.drew 1
 refine W_m yz_mixed (.q 0 1 (.q 1 1 (.q 2 1 (.q 3 0 (.q 4 1 (.q 5 1 (.q 6 1 (.q 7 0 (.op 8 (.q 9 1 (.q 10 1 (.q 11 1 (.q 12 1 (.q 13 1 .nil)))))))))))))) [8] k_5 (.c (.kkkk .e) .l) (by kernel_rfl) (fun _ => ?_)
 refine MXq 3 1 [] (.n 23 (pt g_n 0) (.s .a)) (fun x hx => qs g_n 0 <| qs g_n 0 <| qe) (by kernel_rfl) (fun _ => ?_)
 refine MXq 1 0 [] (.n 24 (I n_Kind) (.s .a)) (fun x hx => qB hx 0 rfl 0 (I n_Kind) (by kernel_rfl) <| qe) (by kernel_rfl) (fun _ => ?_)
 refine MXq 3 1 [] (.n 27 (pt g_n 1) .a) (fun x hx => qs g_n 0 <| qs g_n 0 <| qe) (by kernel_rfl) (fun _ => ?_)
 refine MXq 1 0 [] (.n 28 (.agg [I n_P_Digest, I n_P_Key, I n_P_Fanout, I n_P_Depth, .u32 n_P_Leaf, .u64 n_P_Offset, .u32 n_P_Xof, I n_P_NodeDepth, I n_P_Inner, sl A_n_P_Salt n_P_Salt.length c_n_P_Salt, sl A_n_P_Personal n_P_Personal.length c_n_P_Personal]) (.s .a)) (fun x hx => qT hx 0 rfl 1 11 [I n_P_Digest, I n_P_Key, I n_P_Fanout, I n_P_Depth, .u32 n_P_Leaf, .u64 n_P_Offset, .u32 n_P_Xof, I n_P_NodeDepth, I n_P_Inner, sl A_n_P_Salt n_P_Salt.length c_n_P_Salt, sl A_n_P_Personal n_P_Personal.length c_n_P_Personal] (by kernel_rfl) (by decide) <| qe) (by kernel_rfl) (fun _ => ?_)
 refine MX_op (by kernel_rfl) rfl ?_
 obtain ⟨r_, h_r_, hm⟩ := ob hm
 refine Op_call [] 29 _ yz_go108 (by kernel_rfl) (c_r02_Encode (F := N0) (O := N0) _ _ _ _ _ _ _ _ _ _ _ _ _ _ _ _ _ _ (Ro.n0 (h_n_P_Salt.cx k_5)) rfl hc_n_P_Salt (Ro.n0 (h_n_P_Personal.cx k_5)) rfl hc_n_P_Personal (Cx.refl _) _ h_r_) ?_
 rintro e_ w_3 ⟨A0, _, c0, rfl, rfl, k_6⟩
 have k_7 := k_5.call k_6
 refine ⟨.tup [sl A0 r_.1.length c0, I r_.2], rfl, ?_⟩
 refine ⟨(k_7.sel (.kkkk .z)), fun _ => ?_⟩
 refine MXq 5 1 [] (.n 4 (sl A0 r_.1.length c0) (.sss .a)) (fun x hx => qe) (by kernel_rfl) (fun _ => ?_)
 refine MX_nil <| At_go <| W_seq <| W_seq <| W_q [] (.n 36 (.b (decide (n_Kind = 1))) (.kkk .z)) (qs g_n 0 <| qs g_n 0 <| qB k_7 0 rfl 0 (I n_Kind) (by kernel_rfl) <| qe) (by kernel_rfl) ?_
 refine At_go <| W_condp (n_Kind = 1) (by kernel_rfl) (fun hc1 => ?_) (fun hc1 => ?_)
 · rw [if_pos hc1] at hm
   refine W_seq <| W_reg <| WLs 1 [] (.n 38 (sl A0 r_.1.length c0) (.ss .a)) qe (by kernel_rfl) ?_
   refine WL_op ?_
   obtain ⟨r_1, h_r_1, hm⟩ := ob hm
   refine Op_call [] 39 _ yz_go109 (by kernel_rfl) (c_r03_Start (F := N0) (O := N0) _ _ _ _ (Ro.n0 (k_7.rd 4 rfl)) (k_7.len 4 rfl) (k_7.lec 4 rfl) (Cx.refl _) _ h_r_1) ?_
   rintro e_ w_4 ⟨rfl, k_8⟩
   have k_9 := k_7.call k_8
   refine ⟨.tup [.agg [.ar e64 r_1.1], I r_1.2], rfl, ?_⟩
   have k_10 := k_9.sel (.kkkk .z)
   refine WLs 3 [] (.n 40 (.agg [.ar e64 r_1.1]) (.n 41 (I r_1.2) (.ss .a))) qe (by kernel_rfl) ?_
   refine WL_op ?_
   have k_11 := k_10.sel (.kkkk .e)
   refine Op_alloc [] 6 [.ar e64 (Vec.rep 8 (0 : UInt64))] (by kernel_rfl) k_11 ?_
   intro g2 w_5 k_12
   refine WL_op <| Op_b [] 4 (.agg [.ar e64 r_1.1]) [.ar e64 r_1.1] (Pt.at g2 0) k_12 rfl .all (by kernel_rfl) (by kernel_rfl) ?_
   intro w_6 k_13
   refine WLs 1 [] (.k (.ss .a)) qe (by kernel_rfl) ?_
   refine WL_nil <| At_go <| W_seq <| W_seq <| W_q [] (.n 8 (I 0) .a) qe (by kernel_rfl) ?_
   refine At_go <| W_block ?_
   have k_15 := ((((k_13.pk (.t .h)).pk (.t .h)).pk (.t (.t (.t (.t .h))))).pk (.t (.t (.t (.t .h))))).pk (.t (.t (.t (.t .h))))
   refine W_lp (m_r05_Node_first_l0 n_Kind n_P_Digest n_P_Key n_P_Fanout n_P_Depth n_P_Leaf n_P_Offset n_P_Xof n_P_NodeDepth n_P_Inner n_Last n_From n_Old n_Lo n_Hi n_Msg n_Count r_1) (fun s L wr => ∃ (h : Vec UInt64 16) (i : Int), (h, i) = s ∧ L = [(2, pt g 0), (3, pt g1 0), (6, pt g2 0), (8, I i)] ∧ Cx F O w wr [Bx 108 g [.ar e64 (Vec.rep 16 (0 : UInt64))], Bx 108 g1 [.ar e64 h], Bx 150 g2 [.ar e64 r_1.1], Bx 110 g_n [I n_Kind, I n_P_Digest, I n_P_Key, I n_P_Fanout, I n_P_Depth, .u32 n_P_Leaf, .u64 n_P_Offset, .u32 n_P_Xof, I n_P_NodeDepth, I n_P_Inner, sl A_n_P_Salt n_P_Salt.length c_n_P_Salt, sl A_n_P_Personal n_P_Personal.length c_n_P_Personal, sl A_n_Key n_Key.length c_n_Key, .b n_Last, .ar e64 n_From, .b n_Old, .u64 n_Lo, .u64 n_Hi, sl A_n_Msg n_Msg.length c_n_Msg, .u64 n_Count], Ow e8 A_n_Msg n_Msg.length c_n_Msg n_Msg]) ((Vec.rep 16 (0 : UInt64)), (0 : Int)) r hm ⟨(Vec.rep 16 (0 : UInt64)), (0 : Int), rfl, rfl, k_15⟩ (by kernel_rfl) ?_
   intro s0_ L_ w_7 y0 hrel hstep hr0
   obtain ⟨h, i, rfl, rfl, k_14⟩ := hrel
   have hm := hstep; simp only [m_r05_Node_first_l0] at hm
   clear hstep
   refine W_seq <| W_seq <| W_q [] (.n 43 (.b (decide (i < 8))) .a) qe (by kernel_rfl) ?_
   refine At_go <| W_condp (i < 8) (by kernel_rfl) (fun hc2 => ?_) (fun hc2 => ?_)
   · rw [if_pos hc2] at hm
     refine W_skip <| At_go <| W_seq <| W_block <| W_reg ?_
     obtain ⟨x_0, h_x_0, hm⟩ := ob hm
     obtain ⟨x_18, h_x_18, hm⟩ := ob hm
     refine WLs 5 [] (.n 49 (.u64 x_0) (.n 50 (.v (.pointer (ixA (some ⟨g1, 0, none⟩) i 1))) (.s .a))) (qV (k_14.vrd 2 rfl e64 r_1.1 0 (by kernel_rfl)) h_x_0 rfl (.u64 x_0) rfl <| qI g1 0 h_x_18 <| qe) (by kernel_rfl) ?_
     refine WL_op ?_
     obtain ⟨v, h_v, hm⟩ := nm hm
     refine Op_vs (E := e64) (kk := 0) [] 1 (.u64 x_0) [.u64 x_0] h_v h_x_18 (Pt.ix0 (Pt.at g1 0) i 1) k_14 rfl .h rfl (by kernel_rfl) (by kernel_rfl) ?_
     intro w_8 k_16
     refine WL_nil <| At_in <| At_go <| W_q [] (.n 8 (I (w64 (i + 1))) (.ss (.kkk .z))) qe (by kernel_rfl) ?_
     exact At_rd (v, w64 (i + 1)) (Option.some.inj hm).symm ⟨v, w64 (i + 1), rfl, rfl, k_16⟩ (by kernel_rfl)
   rw [if_neg hc2] at hm
   refine W_exit (At_te (At_te (At_ie ?_)))
   have hm := exit_of hm hr0
   refine At_go <| W_seq <| W_reg <| WLs 1 [] (.n 51 (.agg [.ar e64 h]) (.s (.k .z))) (qT k_14 1 rfl 0 16 [.ar e64 h] (by kernel_rfl) (by decide) <| qe) (by kernel_rfl) ?_
   refine WL_op <| Op_b [] 0 (.agg [.ar e64 h]) [.ar e64 h] (Pt.at g 0) k_14 rfl .all (by kernel_rfl) (by kernel_rfl) ?_
   intro w_9 k_17
   have k_18 := k_17.sel (.k (.ss (.kk .e)))
   refine WL_nil <| At_go <| W_ret (At_tr ?_)
   obtain rfl := Option.some.inj hm
   refine At_rt [.agg [.ar e64 h]] (qo (.agg [.ar e64 h]) <| qc (fun w => Rd w (some ⟨g, 0, none⟩) (SV.cl [.ar e64 h])) (k_18.brd 0 rfl) <| qe) (by kernel_rfl) ?_
   have k_19 := k_18.sel (.s (.kk .e))
   exact ⟨A_n_Msg, n_Msg.length, c_n_Msg, k_19.len 1 rfl, rfl, k_19⟩
 rw [if_neg hc1] at hm
 refine W_skip <| At_go <| W_seq <| W_reg <| WLs 1 [] (.n 53 (sl A0 r_.1.length c0) (.ss .a)) qe (by kernel_rfl) ?_
 refine WL_op ?_
 obtain ⟨r_2, h_r_2, hm⟩ := ob hm
 refine Op_call [] 54 _ yz_go110 (by kernel_rfl) (c_r04_Start (F := N0) (O := N0) _ _ _ _ (Ro.n0 (k_7.rd 4 rfl)) (k_7.len 4 rfl) (k_7.lec 4 rfl) (Cx.refl _) _ h_r_2) ?_
 rintro e_ w_10 ⟨rfl, k_20⟩
 have k_21 := k_7.call k_20
 refine ⟨.tup [.agg [.ar e32 r_2.1], I r_2.2], rfl, ?_⟩
 have k_22 := k_21.sel (.kkkk .z)
 refine WLs 3 [] (.n 55 (.agg [.ar e32 r_2.1]) (.n 56 (I r_2.2) (.ss .a))) qe (by kernel_rfl) ?_
 refine WL_op ?_
 have k_23 := k_22.sel (.kkkk .e)
 refine Op_alloc [] 9 [.ar e32 (Vec.rep 8 (0 : UInt32))] (by kernel_rfl) k_23 ?_
 intro g3 w_11 k_24
 refine WL_op <| Op_b [] 4 (.agg [.ar e32 r_2.1]) [.ar e32 r_2.1] (Pt.at g3 0) k_24 rfl .all (by kernel_rfl) (by kernel_rfl) ?_
 intro w_12 k_25
 refine WLs 1 [] (.k (.ss .a)) qe (by kernel_rfl) ?_
 refine WL_nil <| At_go <| W_seq <| W_seq <| W_q [] (.n 11 (I 0) .a) qe (by kernel_rfl) ?_
 refine At_go <| W_block ?_
 have k_27 := ((((k_25.pk (.t .h)).pk (.t .h)).pk (.t (.t (.t (.t .h))))).pk (.t (.t (.t (.t .h))))).pk (.t (.t (.t (.t .h))))
 refine W_lp (m_r05_Node_first_l1 n_Kind n_P_Digest n_P_Key n_P_Fanout n_P_Depth n_P_Leaf n_P_Offset n_P_Xof n_P_NodeDepth n_P_Inner n_Last n_From n_Old n_Lo n_Hi n_Msg n_Count r_2) (fun s L wr => ∃ (h1 : Vec UInt64 16) (i1 : Int), (h1, i1) = s ∧ L = [(2, pt g 0), (3, pt g1 0), (9, pt g3 0), (11, I i1)] ∧ Cx F O w wr [Bx 108 g [.ar e64 (Vec.rep 16 (0 : UInt64))], Bx 108 g1 [.ar e64 h1], Bx 154 g3 [.ar e32 r_2.1], Bx 110 g_n [I n_Kind, I n_P_Digest, I n_P_Key, I n_P_Fanout, I n_P_Depth, .u32 n_P_Leaf, .u64 n_P_Offset, .u32 n_P_Xof, I n_P_NodeDepth, I n_P_Inner, sl A_n_P_Salt n_P_Salt.length c_n_P_Salt, sl A_n_P_Personal n_P_Personal.length c_n_P_Personal, sl A_n_Key n_Key.length c_n_Key, .b n_Last, .ar e64 n_From, .b n_Old, .u64 n_Lo, .u64 n_Hi, sl A_n_Msg n_Msg.length c_n_Msg, .u64 n_Count], Ow e8 A_n_Msg n_Msg.length c_n_Msg n_Msg]) ((Vec.rep 16 (0 : UInt64)), (0 : Int)) r hm ⟨(Vec.rep 16 (0 : UInt64)), (0 : Int), rfl, rfl, k_27⟩ (by kernel_rfl) ?_
 intro s0_ L_ w_13 y0 hrel hstep hr0
 obtain ⟨h1, i1, rfl, rfl, k_26⟩ := hrel
 have hm := hstep; simp only [m_r05_Node_first_l1] at hm
 clear hstep
 refine W_seq <| W_seq <| W_q [] (.n 58 (.b (decide (i1 < 8))) .a) qe (by kernel_rfl) ?_
 refine At_go <| W_condp (i1 < 8) (by kernel_rfl) (fun hc3 => ?_) (fun hc3 => ?_)
 · rw [if_pos hc3] at hm
   refine W_skip <| At_go <| W_seq <| W_block <| W_reg ?_
   obtain ⟨x_19, h_x_19, hm⟩ := ob hm
   obtain ⟨x_20, h_x_20, hm⟩ := ob hm
   refine WLs 6 [] (.n 65 (.u64 (UInt64.ofNat x_19.toNat)) (.n 66 (.v (.pointer (ixA (some ⟨g1, 0, none⟩) i1 1))) (.s .a))) (qV (k_26.vrd 2 rfl e32 r_2.1 0 (by kernel_rfl)) h_x_19 rfl (.u32 x_19) rfl <| qI g1 0 h_x_20 <| qe) (by kernel_rfl) ?_
   refine WL_op ?_
   obtain ⟨v1, h_v1, hm⟩ := nm hm
   refine Op_vs (E := e64) (kk := 0) [] 1 (.u64 (UInt64.ofNat x_19.toNat)) [.u64 (UInt64.ofNat x_19.toNat)] h_v1 h_x_20 (Pt.ix0 (Pt.at g1 0) i1 1) k_26 rfl .h rfl (by kernel_rfl) (by kernel_rfl) ?_
   intro w_14 k_28
   refine WL_nil <| At_in <| At_go <| W_q [] (.n 11 (I (w64 (i1 + 1))) (.ss (.kkk .z))) qe (by kernel_rfl) ?_
   exact At_rd (v1, w64 (i1 + 1)) (Option.some.inj hm).symm ⟨v1, w64 (i1 + 1), rfl, rfl, k_28⟩ (by kernel_rfl)
 rw [if_neg hc3] at hm
 refine W_exit (At_te (At_te (At_ie ?_)))
 have hm := exit_of hm hr0
 refine At_go <| W_seq <| W_reg <| WLs 1 [] (.n 67 (.agg [.ar e64 h1]) (.s (.k .z))) (qT k_26 1 rfl 0 16 [.ar e64 h1] (by kernel_rfl) (by decide) <| qe) (by kernel_rfl) ?_
 refine WL_op <| Op_b [] 0 (.agg [.ar e64 h1]) [.ar e64 h1] (Pt.at g 0) k_26 rfl .all (by kernel_rfl) (by kernel_rfl) ?_
 intro w_15 k_29
 have k_30 := k_29.sel (.k (.ss (.kk .e)))
 refine WL_nil <| At_go <| W_ret ?_
 obtain rfl := Option.some.inj hm
 refine At_rt [.agg [.ar e64 h1]] (qo (.agg [.ar e64 h1]) <| qc (fun w => Rd w (some ⟨g, 0, none⟩) (SV.cl [.ar e64 h1])) (k_30.brd 0 rfl) <| qe) (by kernel_rfl) ?_
 have k_31 := k_30.sel (.s (.kk .e))
 exact ⟨A_n_Msg, n_Msg.length, c_n_Msg, k_31.len 1 rfl, rfl, k_31⟩

-- quern/quernref01.Add
noncomputable def m_r01_Add (lo : UInt64) (hi : UInt64) (n : UInt64) : Option (UInt64 × UInt64 × Bool) :=
  if lo ≤ (lo + n) then (some (lo + n, hi, false)) else (some (lo + n, hi + 1, decide ((hi + 1) = 0)))
theorem c_r01_Add {F O : Nat → Prop} {w : World} (lo : UInt64) (hi : UInt64) (n : UInt64) (k : Cx F O w w []) (r : (UInt64 × UInt64 × Bool)) (hm : m_r01_Add lo hi n = some r) :
    Calls Tryz.prog 73 (vals [.u64 lo, .u64 hi, .u64 n]) w (fun e w' => e = .returned (SV.val (.tup [.u64 r.1, .u64 r.2.1, .b r.2.2])) ∧ Cx F O w w' []) := by
 unfold m_r01_Add at hm
 refine calls [.u64 lo, .u64 hi, .u64 n] Tryz.func73 rfl (of_decide_eq_true (by kernel_rfl)) ?_
 refine W_seq <| W_q [] .a qe (by kernel_rfl) ?_
 refine At_go <| W_seq <| W_q [] (.n 9 (.u64 (lo + n)) (.kk .z)) qe (by kernel_rfl) ?_
 refine At_go <| W_seq <| W_seq <| W_q [] (.n 15 (.b (decide (lo ≤ (lo + n)))) (.k (.s .a))) qe (by kernel_rfl) ?_
 refine At_go <| W_condp (lo ≤ (lo + n)) (by kernel_rfl) (fun hc => ?_) (fun hc => ?_)
 · rw [if_pos hc] at hm
   refine W_seq <| W_q [] (.n 6 (.u64 (lo + n)) (.n 7 (.u64 hi) (.n 8 (.b false) .z))) qe (by kernel_rfl) ?_
   refine At_go <| W_ret (At_tr ?_)
   obtain rfl := Option.some.inj hm
   refine At_rt [.u64 (lo + n), .u64 hi, .b false] qe (by kernel_rfl) ?_
   exact ⟨rfl, k⟩
 rw [if_neg hc] at hm
 refine W_skip <| At_go <| W_seq <| W_q [] (.n 6 (.u64 (lo + n)) (.n 7 (.u64 (hi + 1)) (.n 8 (.b (decide ((hi + 1) = 0))) .z))) qe (by kernel_rfl) ?_
 refine At_go <| W_ret ?_
 obtain rfl := Option.some.inj hm
 refine At_rt [.u64 (lo + n), .u64 (hi + 1), .b (decide ((hi + 1) = 0))] qe (by kernel_rfl) ?_
 exact ⟨rfl, k⟩

-- quern/quernref05.cut
noncomputable def m_r05_cut_j0 (i : Int) (out1 : List UInt8) : Option ((List UInt8 × Int) ⊕ (List UInt8)) :=
  some (.inl (out1, w64 (i + 1)))
noncomputable def m_r05_cut_j1 (out : List UInt8) (i : Int) (c2 : UInt8) : Option ((List UInt8 × Int) ⊕ (List UInt8)) :=
  (app out ([c2] : List UInt8) 1).bind fun out2 => m_r05_cut_j0 i out2
noncomputable def m_r05_cut_l0 (b : List UInt8) (at_ : Int) (size : Int) : (List UInt8 × Int) → Option ((List UInt8 × Int) ⊕ (List UInt8))
  | (out, i) => if i < size then (if (w64 (at_ + i)) < ((b.length : Nat) : Int) then ((geti b (w64 (at_ + i))).bind fun x_0 => m_r05_cut_j1 out i x_0) else (m_r05_cut_j1 out i (0 : UInt8))) else (Option.map Sum.inr (some out))
noncomputable def m_r05_cut (b : List UInt8) (at_ : Int) (size : Int) : Option (List UInt8) :=
  whileO (m_r05_cut_l0 b at_ size) (([] : List UInt8), (0 : Int))
theorem c_r05_cut {F O : Nat → Prop} {w : World} (b : List UInt8) (at_ : Int) (size : Int) (A_b : Option Addr) (n_b : Nat) (c_b : Nat) (h_b : Ro F w A_b (e8.all b)) (hn_b : b.length = n_b) (hc_b : n_b ≤ c_b) (k : Cx F O w w []) (r : (List UInt8)) (hm : m_r05_cut b at_ size = some r) :
    Calls Tryz.prog 76 (vals [sl A_b n_b c_b, I at_, I size]) w (fun e w' => ∃ A n c, r.length = n ∧ e = .returned (SV.val (sl A n c)) ∧ Cx F O w w' [Ow e8 A n c r]) := by
 unfold m_r05_cut at hm
 subst hn_b
 refine calls [sl A_b b.length c_b, I at_, I size] Tryz.func76 rfl (of_decide_eq_true (by kernel_rfl)) ?_
 refine W_seq <| W_q [] .a qe (by kernel_rfl) ?_
 refine At_go <| W_seq <| W_q [] (.n 7 (sl none 0 0) .a) qe (by kernel_rfl) ?_
 refine At_go <| W_seq <| W_seq <| W_q [] (.n 8 (I 0) .a) qe (by kernel_rfl) ?_
 refine At_go <| W_block ?_
 have k_1 := k.nil e8
 refine W_lp (m_r05_cut_l0 b at_ size) (fun s L wr => ∃ (out : List UInt8) (i : Int) (A0 : Option Addr) (n0 : Nat) (c0 : Nat), (out, i) = s ∧ L = [(0, sl A_b b.length c_b), (1, I at_), (2, I size), (7, sl A0 n0 c0), (8, I i)] ∧ out.length = n0 ∧ Cx F O w wr [Ow e8 A0 n0 c0 out]) (([] : List UInt8), (0 : Int)) r hm ⟨([] : List UInt8), (0 : Int), none, 0, 0, rfl, rfl, k_1.len 0 rfl, k_1⟩ (by kernel_rfl) ?_
 intro s0_ L_ w_ y0 hrel hstep hr0
 obtain ⟨out, i, A0, _, c0, rfl, rfl, rfl, k_⟩ := hrel
 have hm := hstep; simp only [m_r05_cut_l0] at hm
 clear hstep
 refine W_seq <| W_seq <| W_q [] (.n 12 (.b (decide (i < size))) .a) qe (by kernel_rfl) ?_
 refine At_go <| W_condp (i < size) (by kernel_rfl) (fun hc => ?_) (fun hc => ?_)
 · rw [if_pos hc] at hm
   refine W_skip <| At_go <| W_cut (fun L wr => ∃ (out1 : List UInt8) (A1 : Option Addr) (n1 : Nat) (c1 : Nat), m_r05_cut_j0 i out1 = some y0 ∧ L = [(0, sl A_b b.length c_b), (1, I at_), (2, I size), (7, sl A1 n1 c1), (8, I i)] ∧ out1.length = n1 ∧ Cx F O w wr [Ow e8 A1 n1 c1 out1]) ?_ ?_
   ·
    refine W_block <| W_seq <| W_q [] (.n 9 (.u8 0) (.s .a)) qe (by kernel_rfl) ?_
    refine At_go <| W_cut (fun L wr => ∃ (c2 : UInt8), m_r05_cut_j1 out i c2 = some y0 ∧ L = [(0, sl A_b b.length c_b), (1, I at_), (2, I size), (7, sl A0 out.length c0), (8, I i), (9, .u8 c2)] ∧ Cx F O w wr [Ow e8 A0 out.length c0 out]) ?_ ?_
    ·
     refine W_seq <| W_q [] (.n 20 (.b (decide ((w64 (at_ + i)) < ((b.length : Nat) : Int)))) .a) qe (by kernel_rfl) ?_
     refine At_go <| W_condp ((w64 (at_ + i)) < ((b.length : Nat) : Int)) (by kernel_rfl) (fun hc1 => ?_) (fun hc1 => ?_)
     · rw [if_pos hc1] at hm
       obtain ⟨x_0, h_x_0, hm⟩ := ob hm
       refine W_q [] (.n 9 (.u8 x_0) (.ss .a)) (qW (h_b.cx k_) h_x_0 rfl (.u8 x_0) rfl <| qe) (by kernel_rfl) ?_
       exact At_c ⟨x_0, hm, rfl, k_⟩ (by kernel_rfl)
     rw [if_neg hc1] at hm
     refine W_skip ?_
     exact At_c ⟨(0 : UInt8), hm, rfl, k_⟩ (by kernel_rfl)
    rintro L_ w_1 ⟨c2, hm, rfl, k_2⟩
    simp only [m_r05_cut_j1] at hm
    refine W_reg <| WLs 2 [] (.n 27 (sl A0 out.length c0) (.n 28 (.u8 c2) (.kkkk (.k .z)))) qe (by kernel_rfl) ?_
    refine WL_op <| Op_mk yz_tf22 e8 [] 29 ([c2] : List UInt8) [(0, .u8 c2)] [.u8 c2] (by kernel_rfl) (by kernel_rfl) (by kernel_rfl) k_2 ?_
    intro A2 w_2 k_3
    refine WL_op ?_
    obtain ⟨out2, h_out2, hm⟩ := ob hm
    obtain ⟨hz, hl⟩ := app_some h_out2
    refine Op_append (E := e8) (v := sl A2 1 1) (ys := ([c2] : List UInt8)) yz_tf22 [] 30 0 (by kernel_rfl) k_3 rfl (Src.sl (k_3.rd 1 rfl) (k_3.len 1 rfl) (by rfl)) (k_3.len 1 rfl) (by have := k_3.len 0 rfl; have := (k_3.len 1 rfl); omega) ?_
    intro A3 c3 w_3 k_4
    rw [← hl] at k_4
    have k_5 := k_4.sel (.k .z)
    refine WLs 1 [] (.n 7 (sl A3 (out.length + 1) c3) (.ssss (.kkk (.s .a)))) qe (by kernel_rfl) ?_
    refine WL_nil <| At_in ?_
    exact At_c ⟨out2, A3, out.length + 1, c3, hm, rfl, k_5.len 0 rfl, k_5⟩ (by kernel_rfl)
   rintro L_ w_4 ⟨out1, A1, _, c1, hm, rfl, rfl, k_6⟩
   simp only [m_r05_cut_j0] at hm
   refine W_q [] (.n 8 (I (w64 (i + 1))) (.kkkk .z)) qe (by kernel_rfl) ?_
   exact At_rd (out1, w64 (i + 1)) (Option.some.inj hm).symm ⟨out1, w64 (i + 1), A1, out1.length, c1, rfl, rfl, k_6.len 0 rfl, k_6⟩ (by kernel_rfl)
 rw [if_neg hc] at hm
 refine W_exit (At_te (At_te (At_ie ?_)))
 have hm := exit_of hm hr0
 refine At_go <| W_seq <| W_q [] (.n 6 (sl A0 out.length c0) .z) qe (by kernel_rfl) ?_
 refine At_go <| W_ret ?_
 obtain rfl := Option.some.inj hm
 refine At_rt [sl A0 out.length c0] qe (by kernel_rfl) ?_
 exact ⟨A0, out.length, c0, k_.len 0 rfl, rfl, k_⟩

-- quern/quernref03.Words
noncomputable def m_r03_Words_l0 (b : List UInt8) : (Vec UInt64 16 × Int) → Option ((Vec UInt64 16 × Int) ⊕ (Vec UInt64 16 × Int))
  | (m_, i) => if i < 16 then ((m_r01_Load b (w64 (8 * i)) (8 : Int)).bind fun r_ => (geti m_.l i).bind fun x_0 => (some (vst m_ i r_.1)).bind fun v => some (.inl (v, w64 (i + 1)))) else (Option.map Sum.inr (some (m_, (0 : Int))))
noncomputable def m_r03_Words (b : List UInt8) : Option (Vec UInt64 16 × Int) :=
  if ((b.length : Nat) : Int) ≠ 128 then (some ((Vec.rep 16 (0 : UInt64)), (1 : Int))) else (whileO (m_r03_Words_l0 b) ((Vec.rep 16 (0 : UInt64)), (0 : Int)))
theorem c_r03_Words {F O : Nat → Prop} {w : World} (b : List UInt8) (A_b : Option Addr) (n_b : Nat) (c_b : Nat) (h_b : Ro F w A_b (e8.all b)) (hn_b : b.length = n_b) (hc_b : n_b ≤ c_b) (k : Cx F O w w []) (r : (Vec UInt64 16 × Int)) (hm : m_r03_Words b = some r) :
    Calls Tryz.prog 94 (vals [sl A_b n_b c_b]) w (fun e w' => e = .returned (SV.val (.tup [.agg [.ar e64 r.1], I r.2])) ∧ Cx F O w w' []) := by
 unfold m_r03_Words at hm
 subst hn_b
 refine calls [sl A_b b.length c_b] Tryz.func94 rfl (of_decide_eq_true (by kernel_rfl)) ?_
 refine W_seq <| W_reg <| WL_op <| Op_alloc [] 2 [.ar e64 (Vec.rep 16 (0 : UInt64))] (by kernel_rfl) k ?_
 intro g w_ k_
 refine WLs 1 [] .a qe (by kernel_rfl) ?_
 refine WL_nil <| At_go <| W_seq <| W_reg <| WL_op <| Op_alloc [] 4 [.ar e64 (Vec.rep 16 (0 : UInt64))] (by kernel_rfl) k_ ?_
 intro g1 w_1 k_1
 refine WL_nil <| At_go <| W_seq <| W_seq <| W_q [] (.n 8 (.b (decide (((b.length : Nat) : Int) ≠ 128))) .a) qe (by kernel_rfl) ?_
 refine At_go <| W_condp (((b.length : Nat) : Int) ≠ 128) (by kernel_rfl) (fun hc => ?_) (fun hc => ?_)
 · rw [if_pos hc] at hm
   refine W_seq <| W_reg <| WLs 1 [] (.n 9 (.agg [.ar e64 (Vec.rep 16 (0 : UInt64))]) (.ss (.k .z))) (qT k_1 1 rfl 0 16 [.ar e64 (Vec.rep 16 (0 : UInt64))] (by kernel_rfl) (by decide) <| qe) (by kernel_rfl) ?_
   refine WL_op <| Op_b [] 0 (.agg [.ar e64 (Vec.rep 16 (0 : UInt64))]) [.ar e64 (Vec.rep 16 (0 : UInt64))] (Pt.at g 0) k_1 rfl .all (by kernel_rfl) (by kernel_rfl) ?_
   intro w_2 k_2
   have k_3 := k_2.sel (.k .z)
   refine WLs 1 [] (.n 3 (I 1) (.s .a)) qe (by kernel_rfl) ?_
   refine WL_nil <| At_go <| W_ret (At_tr ?_)
   obtain rfl := Option.some.inj hm
   refine At_rt [.agg [.ar e64 (Vec.rep 16 (0 : UInt64))], I 1] (qo (.agg [.ar e64 (Vec.rep 16 (0 : UInt64))]) <| qc (fun w => Rd w (some ⟨g, 0, none⟩) (SV.cl [.ar e64 (Vec.rep 16 (0 : UInt64))])) (k_3.brd 0 rfl) <| qe) (by kernel_rfl) ?_
   have k_4 := k_3.sel .z
   exact ⟨rfl, k_4⟩
 rw [if_neg hc] at hm
 refine W_skip <| At_go <| W_seq <| W_seq <| W_q [] (.n 5 (I 0) (.s .a)) qe (by kernel_rfl) ?_
 refine At_go <| W_block <| W_lp (m_r03_Words_l0 b) (fun s L wr => ∃ (m_ : Vec UInt64 16) (i : Int), (m_, i) = s ∧ L = [(0, sl A_b b.length c_b), (2, pt g 0), (4, pt g1 0), (5, I i)] ∧ Cx F O w wr [Bx 108 g [.ar e64 (Vec.rep 16 (0 : UInt64))], Bx 108 g1 [.ar e64 m_]]) ((Vec.rep 16 (0 : UInt64)), (0 : Int)) r hm ⟨(Vec.rep 16 (0 : UInt64)), (0 : Int), rfl, rfl, k_1⟩ (by kernel_rfl) ?_
 intro s0_ L_ w_3 y0 hrel hstep hr0
 obtain ⟨m_, i, rfl, rfl, k_5⟩ := hrel
 have hm := hstep; simp only [m_r03_Words_l0] at hm
 clear hstep
 refine W_seq <| W_seq <| W_q [] (.n 11 (.b (decide (i < 16))) .a) qe (by kernel_rfl) ?_
 refine At_go <| W_condp (i < 16) (by kernel_rfl) (fun hc1 => ?_) (fun hc1 => ?_)
 · rw [if_pos hc1] at hm
   refine W_skip <| At_go <| W_seq <| W_block <| W_reg <| WLs 4 [] (.n 15 (I i) (.n 16 (sl A_b b.length c_b) (.n 18 (I (w64 (8 * i))) (.s .a)))) qe (by kernel_rfl) ?_
   refine WL_op ?_
   obtain ⟨r_, h_r_, hm⟩ := ob hm
   refine Op_call [] 19 _ yz_go111 (by kernel_rfl) (c_r01_Load (F := N0) (O := N0) _ _ _ _ _ _ (Ro.n0 (h_b.cx k_5)) rfl hc_b (Cx.refl _) _ h_r_) ?_
   rintro e_ w_4 ⟨rfl, k_6⟩
   have k_7 := k_5.call k_6
   refine ⟨.tup [.u64 r_.1, I r_.2], rfl, ?_⟩
   obtain ⟨x_0, h_x_0, hm⟩ := ob hm
   refine WLs 4 [] (.n 20 (.u64 r_.1) (.n 22 (.v (.pointer (ixA (some ⟨g1, 0, none⟩) i 1))) (.ssss .a))) (qI g1 0 h_x_0 <| qe) (by kernel_rfl) ?_
   refine WL_op ?_
   obtain ⟨v, h_v, hm⟩ := nm hm
   refine Op_vs (E := e64) (kk := 0) [] 1 (.u64 r_.1) [.u64 r_.1] h_v h_x_0 (Pt.ix0 (Pt.at g1 0) i 1) k_7 rfl .h rfl (by kernel_rfl) (by kernel_rfl) ?_
   intro w_5 k_8
   refine WL_nil <| At_in <| At_go <| W_q [] (.n 5 (I (w64 (i + 1))) (.ss (.kkk .z))) qe (by kernel_rfl) ?_
   exact At_rd (v, w64 (i + 1)) (Option.some.inj hm).symm ⟨v, w64 (i + 1), rfl, rfl, k_8⟩ (by kernel_rfl)
 rw [if_neg hc1] at hm
 refine W_exit (At_te (At_te (At_ie ?_)))
 have hm := exit_of hm hr0
 refine At_go <| W_seq <| W_reg <| WLs 1 [] (.n 23 (.agg [.ar e64 m_]) (.ss (.k .z))) (qT k_5 1 rfl 0 16 [.ar e64 m_] (by kernel_rfl) (by decide) <| qe) (by kernel_rfl) ?_
 refine WL_op <| Op_b [] 0 (.agg [.ar e64 m_]) [.ar e64 m_] (Pt.at g 0) k_5 rfl .all (by kernel_rfl) (by kernel_rfl) ?_
 intro w_6 k_9
 have k_10 := k_9.sel (.k .z)
 refine WLs 1 [] (.n 3 (I 0) (.s .a)) qe (by kernel_rfl) ?_
 refine WL_nil <| At_go <| W_ret ?_
 obtain rfl := Option.some.inj hm
 refine At_rt [.agg [.ar e64 m_], I 0] (qo (.agg [.ar e64 m_]) <| qc (fun w => Rd w (some ⟨g, 0, none⟩) (SV.cl [.ar e64 m_])) (k_10.brd 0 rfl) <| qe) (by kernel_rfl) ?_
 have k_11 := k_10.sel .z
 exact ⟨rfl, k_11⟩

-- quern/quernref03.Init
noncomputable def m_r03_Init_j1 (v7 : Vec UInt64 16) : Option (Vec UInt64 16) :=
  some v7
noncomputable def m_r03_Init_j0 (node : Bool) (v5 : Vec UInt64 16) : Option (Vec UInt64 16) :=
  if node = true then ((geti v5.l (15 : Int)).bind fun x_9 => (geti v5.l (15 : Int)).bind fun x_10 => (some (vst v5 (15 : Int) (18446744073709551615 ^^^ x_9))).bind fun v8 => m_r03_Init_j1 v8) else (m_r03_Init_j1 v5)
noncomputable def m_r03_Init_l0 (h : Vec UInt64 8) (lo : UInt64) (hi : UInt64) (last : Bool) (node : Bool) : (Vec UInt64 16 × Int) → Option ((Vec UInt64 16 × Int) ⊕ (Vec UInt64 16))
  | (v, i) => if i < 8 then ((geti h.l i).bind fun x_0 => (geti v.l i).bind fun x_1 => (some (vst v i x_0)).bind fun v1 => (m_r03_IV i).bind fun r_ => (geti v1.l (w64 (i + 8))).bind fun x_2 => (some (vst v1 (w64 (i + 8)) r_)).bind fun v2 => some (.inl (v2, w64 (i + 1)))) else (Option.map Sum.inr ((geti v.l (12 : Int)).bind fun x_3 => (geti v.l (12 : Int)).bind fun x_4 => (some (vst v (12 : Int) (x_3 ^^^ lo))).bind fun v3 => (geti v3.l (13 : Int)).bind fun x_5 => (geti v3.l (13 : Int)).bind fun x_6 => (some (vst v3 (13 : Int) (x_5 ^^^ hi))).bind fun v4 => if last = true then ((geti v4.l (14 : Int)).bind fun x_7 => (geti v4.l (14 : Int)).bind fun x_8 => (some (vst v4 (14 : Int) (18446744073709551615 ^^^ x_7))).bind fun v6 => m_r03_Init_j0 node v6) else (m_r03_Init_j0 node v4)))
noncomputable def m_r03_Init (h : Vec UInt64 8) (lo : UInt64) (hi : UInt64) (last : Bool) (node : Bool) : Option (Vec UInt64 16) :=
  whileO (m_r03_Init_l0 h lo hi last node) ((Vec.rep 16 (0 : UInt64)), (0 : Int))
theorem c_r03_Init {F O : Nat → Prop} {w : World} (h : Vec UInt64 8) (lo : UInt64) (hi : UInt64) (last : Bool) (node : Bool) (k : Cx F O w w []) (r : (Vec UInt64 16)) (hm : m_r03_Init h lo hi last node = some r) :
    Calls Tryz.prog 112 (vals [.agg [.ar e64 h], .u64 lo, .u64 hi, .b last, .b node]) w (fun e w' => e = .returned (SV.val (.agg [.ar e64 r])) ∧ Cx F O w w' []) := by
 unfold m_r03_Init at hm
 refine calls [.agg [.ar e64 h], .u64 lo, .u64 hi, .b last, .b node] Tryz.func112 rfl (of_decide_eq_true (by kernel_rfl)) ?_
 refine W_seq <| W_reg <| WL_op <| Op_box [] 5 (.agg [.ar e64 h]) [.ar e64 h] (by kernel_rfl) k ?_
 intro g w_ k_
 refine WL_op <| Op_alloc [] 10 [.ar e64 (Vec.rep 16 (0 : UInt64))] (by kernel_rfl) k_ ?_
 intro g1 w_1 k_1
 refine WL_nil <| At_go <| W_seq <| W_reg <| WL_op <| Op_alloc [] 11 [.ar e64 (Vec.rep 16 (0 : UInt64))] (by kernel_rfl) k_1 ?_
 intro g2 w_2 k_2
 refine WL_nil <| At_go <| W_seq <| W_seq <| W_q [] (.n 12 (I 0) (.kkk (.s .a))) qe (by kernel_rfl) ?_
 refine At_go <| W_block <| W_lp (m_r03_Init_l0 h lo hi last node) (fun s L wr => ∃ (v : Vec UInt64 16) (i : Int), (v, i) = s ∧ L = [(1, .u64 lo), (2, .u64 hi), (3, .b last), (4, .b node), (5, pt g 0), (10, pt g1 0), (11, pt g2 0), (12, I i)] ∧ Cx F O w wr [Bx 150 g [.ar e64 h], Bx 108 g1 [.ar e64 (Vec.rep 16 (0 : UInt64))], Bx 108 g2 [.ar e64 v]]) ((Vec.rep 16 (0 : UInt64)), (0 : Int)) r hm ⟨(Vec.rep 16 (0 : UInt64)), (0 : Int), rfl, rfl, k_2⟩ (by kernel_rfl) ?_
 intro s0_ L_ w_3 y0 hrel hstep hr0
 obtain ⟨v, i, rfl, rfl, k_3⟩ := hrel
 have hm := hstep; simp only [m_r03_Init_l0] at hm
 clear hstep
 refine W_seq <| W_seq <| W_q [] (.n 14 (.b (decide (i < 8))) .a) qe (by kernel_rfl) ?_
 refine At_go <| W_condp (i < 8) (by kernel_rfl) (fun hc => ?_) (fun hc => ?_)
 · rw [if_pos hc] at hm
   refine W_skip <| At_go <| W_seq <| W_block <| W_seq <| W_reg ?_
   obtain ⟨x_0, h_x_0, hm⟩ := ob hm
   obtain ⟨x_1, h_x_1, hm⟩ := ob hm
   refine WLs 5 [] (.n 20 (.u64 x_0) (.n 21 (.v (.pointer (ixA (some ⟨g2, 0, none⟩) i 1))) (.s .a))) (qV (k_3.vrd 0 rfl e64 h 0 (by kernel_rfl)) h_x_0 rfl (.u64 x_0) rfl <| qI g2 0 h_x_1 <| qe) (by kernel_rfl) ?_
   refine WL_op ?_
   obtain ⟨v1, h_v1, hm⟩ := nm hm
   refine Op_vs (E := e64) (kk := 0) [] 2 (.u64 x_0) [.u64 x_0] h_v1 h_x_1 (Pt.ix0 (Pt.at g2 0) i 1) k_3 rfl .h rfl (by kernel_rfl) (by kernel_rfl) ?_
   intro w_4 k_4
   refine WL_nil <| At_go <| W_reg <| WLs 3 [] (.n 23 (I (w64 (i + 8))) (.n 24 (I i) (.ss .a))) qe (by kernel_rfl) ?_
   refine WL_op ?_
   obtain ⟨r_, h_r_, hm⟩ := ob hm
   refine Op_call [] 25 _ yz_go124 (by kernel_rfl) (c_r03_IV (F := N0) (O := N0) _ (Cx.refl _) _ h_r_) ?_
   rintro e_ w_5 ⟨rfl, k_5⟩
   have k_6 := k_4.call k_5
   refine ⟨.u64 r_, rfl, ?_⟩
   obtain ⟨x_2, h_x_2, hm⟩ := ob hm
   refine WLs 1 [] (.n 26 (.v (.pointer (ixA (some ⟨g2, 0, none⟩) (w64 (i + 8)) 1))) (.k (.ss .a))) (qI g2 0 h_x_2 <| qe) (by kernel_rfl) ?_
   refine WL_op ?_
   obtain ⟨v2, h_v2, hm⟩ := nm hm
   refine Op_vs (E := e64) (kk := 0) [] 2 (.u64 r_) [.u64 r_] h_v2 h_x_2 (Pt.ix0 (Pt.at g2 0) (w64 (i + 8)) 1) k_6 rfl .h rfl (by kernel_rfl) (by kernel_rfl) ?_
   intro w_6 k_7
   refine WL_nil <| At_in <| At_go <| W_q [] (.n 12 (I (w64 (i + 1))) (.ss (.kkkk (.kkk .z)))) qe (by kernel_rfl) ?_
   exact At_rd (v2, w64 (i + 1)) (Option.some.inj hm).symm ⟨v2, w64 (i + 1), rfl, rfl, k_7⟩ (by kernel_rfl)
 rw [if_neg hc] at hm
 refine W_exit (At_te (At_te (At_ie ?_)))
 have hm := exit_of hm hr0
 refine At_go <| W_seq <| W_reg ?_
 obtain ⟨x_3, h_x_3, hm⟩ := ob hm
 obtain ⟨x_4, h_x_4, hm⟩ := ob hm
 refine WLs 5 [] (.n 30 (.u64 (x_3 ^^^ lo)) (.n 31 (.v (.pointer (ixA (some ⟨g2, 0, none⟩) (12 : Int) 1))) (.ss (.kkk (.s (.kk .z)))))) (qV (k_3.vrd 2 rfl e64 v 0 (by kernel_rfl)) h_x_3 rfl (.u64 x_3) rfl <| qI g2 0 h_x_4 <| qe) (by kernel_rfl) ?_
 refine WL_op ?_
 obtain ⟨v3, h_v3, hm⟩ := nm hm
 refine Op_vs (E := e64) (kk := 0) [] 2 (.u64 (x_3 ^^^ lo)) [.u64 (x_3 ^^^ lo)] h_v3 h_x_4 (Pt.ix0 (Pt.at g2 0) (12 : Int) 1) k_3 rfl .h rfl (by kernel_rfl) (by kernel_rfl) ?_
 intro w_7 k_8
 refine WL_nil <| At_go <| W_seq <| W_reg ?_
 obtain ⟨x_5, h_x_5, hm⟩ := ob hm
 obtain ⟨x_6, h_x_6, hm⟩ := ob hm
 refine WLs 5 [] (.n 35 (.u64 (x_5 ^^^ hi)) (.n 36 (.v (.pointer (ixA (some ⟨g2, 0, none⟩) (13 : Int) 1))) (.sss .a))) (qV (k_8.vrd 2 rfl e64 v3 0 (by kernel_rfl)) h_x_5 rfl (.u64 x_5) rfl <| qI g2 0 h_x_6 <| qe) (by kernel_rfl) ?_
 refine WL_op ?_
 obtain ⟨v4, h_v4, hm⟩ := nm hm
 refine Op_vs (E := e64) (kk := 0) [] 2 (.u64 (x_5 ^^^ hi)) [.u64 (x_5 ^^^ hi)] h_v4 h_x_6 (Pt.ix0 (Pt.at g2 0) (13 : Int) 1) k_8 rfl .h rfl (by kernel_rfl) (by kernel_rfl) ?_
 intro w_8 k_9
 refine WL_nil <| At_go <| W_cut (fun L wr => ∃ (v5 : Vec UInt64 16), m_r03_Init_j0 node v5 = some r ∧ L = [(4, .b node), (10, pt g1 0), (11, pt g2 0)] ∧ Cx F O w wr [Bx 108 g1 [.ar e64 (Vec.rep 16 (0 : UInt64))], Bx 108 g2 [.ar e64 v5]]) ?_ ?_
 ·
  refine W_seq <| W_q [] (.n 37 (.b last) (.sss .a)) qe (by kernel_rfl) ?_
  refine At_go <| W_cond last (by kernel_rfl) (fun hc1 => ?_) (fun hc1 => ?_)
  · rw [if_pos hc1] at hm
    refine W_reg ?_
    obtain ⟨x_7, h_x_7, hm⟩ := ob hm
    obtain ⟨x_8, h_x_8, hm⟩ := ob hm
    refine WLs 4 [] (.n 40 (.u64 (18446744073709551615 ^^^ x_7)) (.n 41 (.v (.pointer (ixA (some ⟨g2, 0, none⟩) (14 : Int) 1))) (.s .a))) (qV (k_9.vrd 2 rfl e64 v4 0 (by kernel_rfl)) h_x_7 rfl (.u64 x_7) rfl <| qI g2 0 h_x_8 <| qe) (by kernel_rfl) ?_
    refine WL_op ?_
    obtain ⟨v6, h_v6, hm⟩ := nm hm
    refine Op_vs (E := e64) (kk := 0) [] 2 (.u64 (18446744073709551615 ^^^ x_7)) [.u64 (18446744073709551615 ^^^ x_7)] h_v6 h_x_8 (Pt.ix0 (Pt.at g2 0) (14 : Int) 1) k_9 rfl .h rfl (by kernel_rfl) (by kernel_rfl) ?_
    intro w_9 k_10
    refine WL_nil ?_
    have k_11 := k_10.sel (.s (.kk .e))
    exact At_c ⟨v6, hm, rfl, k_11⟩ (by kernel_rfl)
  rw [if_neg (by rw [hc1]; decide)] at hm
  refine W_skip ?_
  have k_12 := k_9.sel (.s (.kk .e))
  exact At_c ⟨v4, hm, rfl, k_12⟩ (by kernel_rfl)
 rintro L_ w_10 ⟨v5, hm, rfl, k_13⟩
 simp only [m_r03_Init_j0] at hm
 refine W_cut (fun L wr => ∃ (v7 : Vec UInt64 16), m_r03_Init_j1 v7 = some r ∧ L = [(10, pt g1 0), (11, pt g2 0)] ∧ Cx F O w wr [Bx 108 g1 [.ar e64 (Vec.rep 16 (0 : UInt64))], Bx 108 g2 [.ar e64 v7]]) ?_ ?_
 ·
  refine W_seq <| W_q [] (.n 42 (.b node) (.s .a)) qe (by kernel_rfl) ?_
  refine At_go <| W_cond node (by kernel_rfl) (fun hc2 => ?_) (fun hc2 => ?_)
  · rw [if_pos hc2] at hm
    refine W_reg ?_
    obtain ⟨x_9, h_x_9, hm⟩ := ob hm
    obtain ⟨x_10, h_x_10, hm⟩ := ob hm
    refine WLs 4 [] (.n 45 (.u64 (18446744073709551615 ^^^ x_9)) (.n 46 (.v (.pointer (ixA (some ⟨g2, 0, none⟩) (15 : Int) 1))) (.s .a))) (qV (k_13.vrd 1 rfl e64 v5 0 (by kernel_rfl)) h_x_9 rfl (.u64 x_9) rfl <| qI g2 0 h_x_10 <| qe) (by kernel_rfl) ?_
    refine WL_op ?_
    obtain ⟨v8, h_v8, hm⟩ := nm hm
    refine Op_vs (E := e64) (kk := 0) [] 1 (.u64 (18446744073709551615 ^^^ x_9)) [.u64 (18446744073709551615 ^^^ x_9)] h_v8 h_x_10 (Pt.ix0 (Pt.at g2 0) (15 : Int) 1) k_13 rfl .h rfl (by kernel_rfl) (by kernel_rfl) ?_
    intro w_11 k_14
    refine WL_nil ?_
    exact At_c ⟨v8, hm, rfl, k_14⟩ (by kernel_rfl)
  rw [if_neg (by rw [hc2]; decide)] at hm
  refine W_skip ?_
  exact At_c ⟨v5, hm, rfl, k_13⟩ (by kernel_rfl)
 rintro L_ w_12 ⟨v7, hm, rfl, k_15⟩
 simp only [m_r03_Init_j1] at hm
 refine W_seq <| W_reg <| WLs 1 [] (.n 47 (.agg [.ar e64 v7]) (.k .z)) (qT k_15 1 rfl 0 16 [.ar e64 v7] (by kernel_rfl) (by decide) <| qe) (by kernel_rfl) ?_
 refine WL_op <| Op_b [] 0 (.agg [.ar e64 v7]) [.ar e64 v7] (Pt.at g1 0) k_15 rfl .all (by kernel_rfl) (by kernel_rfl) ?_
 intro w_13 k_16
 have k_17 := k_16.sel (.k .z)
 refine WL_nil <| At_go <| W_ret ?_
 obtain rfl := Option.some.inj hm
 refine At_rt [.agg [.ar e64 v7]] (qo (.agg [.ar e64 v7]) <| qc (fun w => Rd w (some ⟨g1, 0, none⟩) (SV.cl [.ar e64 v7])) (k_17.brd 0 rfl) <| qe) (by kernel_rfl) ?_
 have k_18 := k_17.sel .z
 exact ⟨rfl, k_18⟩

-- quern/quernref03.Places
noncomputable def m_r03_Places (i : Int) : Option (Vec Int 4) :=
  (geti (⟨[(⟨[(0 : Int), (4 : Int), (8 : Int), (12 : Int)], rfl⟩ : Vec Int 4), (⟨[(1 : Int), (5 : Int), (9 : Int), (13 : Int)], rfl⟩ : Vec Int 4), (⟨[(2 : Int), (6 : Int), (10 : Int), (14 : Int)], rfl⟩ : Vec Int 4), (⟨[(3 : Int), (7 : Int), (11 : Int), (15 : Int)], rfl⟩ : Vec Int 4), (⟨[(0 : Int), (5 : Int), (10 : Int), (15 : Int)], rfl⟩ : Vec Int 4), (⟨[(1 : Int), (6 : Int), (11 : Int), (12 : Int)], rfl⟩ : Vec Int 4), (⟨[(2 : Int), (7 : Int), (8 : Int), (13 : Int)], rfl⟩ : Vec Int 4), (⟨[(3 : Int), (4 : Int), (9 : Int), (14 : Int)], rfl⟩ : Vec Int 4)], rfl⟩ : Vec (Vec Int 4) 8).l (Int.tmod i 8)).bind fun x_0 => some x_0
theorem c_r03_Places {F O : Nat → Prop} {w : World} (i : Int) (k : Cx F O w w []) (r : (Vec Int 4)) (hm : m_r03_Places i = some r) :
    Calls Tryz.prog 126 (vals [I i]) w (fun e w' => e = .returned (SV.val (.agg [.ar eI r])) ∧ Cx F O w w' []) := by
 unfold m_r03_Places at hm
 refine calls [I i] Tryz.func126 rfl (of_decide_eq_true (by kernel_rfl)) ?_
 refine W_seq <| W_reg <| WL_op <| Op_alloc [] 2 [.ar eI (Vec.rep 4 (0 : Int))] (by kernel_rfl) k ?_
 intro g w_ k_
 refine WL_nil <| At_go <| W_seq <| W_reg <| WLs 9 [] (.n 12 (.agg [.ar (eV eI 4) (⟨[(⟨[(0 : Int), (4 : Int), (8 : Int), (12 : Int)], rfl⟩ : Vec Int 4), (⟨[(1 : Int), (5 : Int), (9 : Int), (13 : Int)], rfl⟩ : Vec Int 4), (⟨[(2 : Int), (6 : Int), (10 : Int), (14 : Int)], rfl⟩ : Vec Int 4), (⟨[(3 : Int), (7 : Int), (11 : Int), (15 : Int)], rfl⟩ : Vec Int 4), (⟨[(0 : Int), (5 : Int), (10 : Int), (15 : Int)], rfl⟩ : Vec Int 4), (⟨[(1 : Int), (6 : Int), (11 : Int), (12 : Int)], rfl⟩ : Vec Int 4), (⟨[(2 : Int), (7 : Int), (8 : Int), (13 : Int)], rfl⟩ : Vec Int 4), (⟨[(3 : Int), (4 : Int), (9 : Int), (14 : Int)], rfl⟩ : Vec Int 4)], rfl⟩ : Vec (Vec Int 4) 8)]) .a) qe (by kernel_rfl) ?_
 refine WL_op <| Op_alloc [] 3 [.ar (eV eI 4) (Vec.rep 8 (Vec.rep 4 (0 : Int)))] (by kernel_rfl) k_ ?_
 intro g1 w_1 k_1
 refine WL_op <| Op_b [] 1 (.agg [.ar (eV eI 4) (⟨[(⟨[(0 : Int), (4 : Int), (8 : Int), (12 : Int)], rfl⟩ : Vec Int 4), (⟨[(1 : Int), (5 : Int), (9 : Int), (13 : Int)], rfl⟩ : Vec Int 4), (⟨[(2 : Int), (6 : Int), (10 : Int), (14 : Int)], rfl⟩ : Vec Int 4), (⟨[(3 : Int), (7 : Int), (11 : Int), (15 : Int)], rfl⟩ : Vec Int 4), (⟨[(0 : Int), (5 : Int), (10 : Int), (15 : Int)], rfl⟩ : Vec Int 4), (⟨[(1 : Int), (6 : Int), (11 : Int), (12 : Int)], rfl⟩ : Vec Int 4), (⟨[(2 : Int), (7 : Int), (8 : Int), (13 : Int)], rfl⟩ : Vec Int 4), (⟨[(3 : Int), (4 : Int), (9 : Int), (14 : Int)], rfl⟩ : Vec Int 4)], rfl⟩ : Vec (Vec Int 4) 8)]) [.ar (eV eI 4) (⟨[(⟨[(0 : Int), (4 : Int), (8 : Int), (12 : Int)], rfl⟩ : Vec Int 4), (⟨[(1 : Int), (5 : Int), (9 : Int), (13 : Int)], rfl⟩ : Vec Int 4), (⟨[(2 : Int), (6 : Int), (10 : Int), (14 : Int)], rfl⟩ : Vec Int 4), (⟨[(3 : Int), (7 : Int), (11 : Int), (15 : Int)], rfl⟩ : Vec Int 4), (⟨[(0 : Int), (5 : Int), (10 : Int), (15 : Int)], rfl⟩ : Vec Int 4), (⟨[(1 : Int), (6 : Int), (11 : Int), (12 : Int)], rfl⟩ : Vec Int 4), (⟨[(2 : Int), (7 : Int), (8 : Int), (13 : Int)], rfl⟩ : Vec Int 4), (⟨[(3 : Int), (4 : Int), (9 : Int), (14 : Int)], rfl⟩ : Vec Int 4)], rfl⟩ : Vec (Vec Int 4) 8)] (Pt.at g1 0) k_1 rfl .all (by kernel_rfl) (by kernel_rfl) ?_
 intro w_2 k_2
 refine WL_nil <| At_go <| W_seq <| W_reg ?_
 obtain ⟨x_0, h_x_0, hm⟩ := ob hm
 refine WLs 4 [] (.n 16 (.agg [.ar eI x_0]) (.ss (.k .z))) (qp ((8 : Int) ≠ (0 : Int)) (by omega) <| qI g1 0 h_x_0 <| qR [.ar eI x_0] (Rd.elV (k_2.vrd 1 rfl (eV eI 4) (⟨[(⟨[(0 : Int), (4 : Int), (8 : Int), (12 : Int)], rfl⟩ : Vec Int 4), (⟨[(1 : Int), (5 : Int), (9 : Int), (13 : Int)], rfl⟩ : Vec Int 4), (⟨[(2 : Int), (6 : Int), (10 : Int), (14 : Int)], rfl⟩ : Vec Int 4), (⟨[(3 : Int), (7 : Int), (11 : Int), (15 : Int)], rfl⟩ : Vec Int 4), (⟨[(0 : Int), (5 : Int), (10 : Int), (15 : Int)], rfl⟩ : Vec Int 4), (⟨[(1 : Int), (6 : Int), (11 : Int), (12 : Int)], rfl⟩ : Vec Int 4), (⟨[(2 : Int), (7 : Int), (8 : Int), (13 : Int)], rfl⟩ : Vec Int 4), (⟨[(3 : Int), (4 : Int), (9 : Int), (14 : Int)], rfl⟩ : Vec Int 4)], rfl⟩ : Vec (Vec Int 4) 8) 0 (by kernel_rfl)) h_x_0 (Pt.ix1 (some ⟨g1, 0, none⟩) (Int.tmod i 8) 4) (by decide)) <| qe) (by kernel_rfl) ?_
 refine WL_op <| Op_b [] 0 (.agg [.ar eI x_0]) [.ar eI x_0] (Pt.at g 0) k_2 rfl .all (by kernel_rfl) (by kernel_rfl) ?_
 intro w_3 k_3
 have k_4 := k_3.sel (.k .z)
 refine WL_nil <| At_go <| W_ret ?_
 obtain rfl := Option.some.inj hm
 refine At_rt [.agg [.ar eI x_0]] (qo (.agg [.ar eI x_0]) <| qc (fun w => Rd w (some ⟨g, 0, none⟩) (SV.cl [.ar eI x_0])) (k_4.brd 0 rfl) <| qe) (by kernel_rfl) ?_
 have k_5 := k_4.sel .z
 exact ⟨rfl, k_5⟩

-- quern/quernref01.Rest
noncomputable def m_r01_Rest_j0 (r_ : Int) : Option Int :=
  some r_
noncomputable def m_r01_Rest (n : Int) (m_ : Int) : Option Int :=
  (need (m_ ≠ 0)).bind fun u => if (Int.tmod n m_) < 0 then (m_r01_Rest_j0 (w64 ((Int.tmod n m_) + m_))) else (m_r01_Rest_j0 (Int.tmod n m_))
theorem c_r01_Rest {F O : Nat → Prop} {w : World} (n : Int) (m_ : Int) (k : Cx F O w w []) (r : Int) (hm : m_r01_Rest n m_ = some r) :
    Calls Tryz.prog 140 (vals [I n, I m_]) w (fun e w' => e = .returned (SV.val (I r)) ∧ Cx F O w w' []) := by
 unfold m_r01_Rest at hm
 refine calls [I n, I m_] Tryz.func140 rfl (of_decide_eq_true (by kernel_rfl)) ?_
 refine W_seq <| W_q [] .a qe (by kernel_rfl) ?_
 refine At_go <| W_seq ?_
 obtain ⟨u, h_u, hm⟩ := ob hm
 refine W_q [] (.n 5 (I (Int.tmod n m_)) (.s .a)) (qp (m_ ≠ 0) (need_some h_u) <| qe) (by kernel_rfl) ?_
 refine At_go <| W_cut (fun L wr => ∃ (r_ : Int), m_r01_Rest_j0 r_ = some r ∧ L = [(5, I r_)] ∧ Cx F O w wr []) ?_ ?_
 ·
  refine W_seq <| W_q [] (.n 10 (.b (decide ((Int.tmod n m_) < 0))) .a) qe (by kernel_rfl) ?_
  refine At_go <| W_condp ((Int.tmod n m_) < 0) (by kernel_rfl) (fun hc => ?_) (fun hc => ?_)
  · rw [if_pos hc] at hm
    refine W_q [] (.n 5 (I (w64 ((Int.tmod n m_) + m_))) .z) qe (by kernel_rfl) ?_
    exact At_c ⟨w64 ((Int.tmod n m_) + m_), hm, rfl, k⟩ (by kernel_rfl)
  rw [if_neg hc] at hm
  refine W_skip ?_
  exact At_c ⟨Int.tmod n m_, hm, rfl, k⟩ (by kernel_rfl)
 rintro L_ w_ ⟨r_, hm, rfl, k_⟩
 simp only [m_r01_Rest_j0] at hm
 refine W_seq <| W_q [] (.n 4 (I r_) .z) qe (by kernel_rfl) ?_
 refine At_go <| W_ret ?_
 obtain rfl := Option.some.inj hm
 refine At_rt [I r_] qe (by kernel_rfl) ?_
 exact ⟨rfl, k_⟩

-- quern/quernref01.Digit
noncomputable def m_r01_Digit (c : UInt8) : Option Int :=
  if ((decide ((48 : UInt8) ≤ c)) && (decide (c ≤ 57))) = true then (some ((c - 48).toNat : Int)) else (if ((decide ((97 : UInt8) ≤ c)) && (decide (c ≤ 102))) = true then (some (w64 (((c - 97).toNat : Int) + 10))) else (if ((decide ((65 : UInt8) ≤ c)) && (decide (c ≤ 70))) = true then (some (w64 (((c - 65).toNat : Int) + 10))) else (some (-1 : Int))))
theorem c_r01_Digit {F O : Nat → Prop} {w : World} (c : UInt8) (k : Cx F O w w []) (r : Int) (hm : m_r01_Digit c = some r) :
    Calls Tryz.prog 139 (vals [.u8 c]) w (fun e w' => e = .returned (SV.val (I r)) ∧ Cx F O w w' []) := by
 unfold m_r01_Digit at hm
 refine calls [.u8 c] Tryz.func139 rfl (of_decide_eq_true (by kernel_rfl)) ?_
 refine W_seq <| W_q [] .a qe (by kernel_rfl) ?_
 refine At_go <| W_seq <| W_block <| W_seq <| W_q [] (.n 3 (.b ((decide ((48 : UInt8) ≤ c)) && (decide (c ≤ 57)))) .a) qe (by kernel_rfl) ?_
 refine At_go <| W_cond ((decide ((48 : UInt8) ≤ c)) && (decide (c ≤ 57))) (by kernel_rfl) (fun hc => ?_) (fun hc => ?_)
 · rw [if_pos hc] at hm
   refine W_seq <| W_q [] (.n 2 (I ((c - 48).toNat : Int)) .z) qe (by kernel_rfl) ?_
   refine At_go <| W_ret (At_ir (At_tr ?_))
   obtain rfl := Option.some.inj hm
   refine At_rt [I ((c - 48).toNat : Int)] qe (by kernel_rfl) ?_
   exact ⟨rfl, k⟩
 rw [if_neg (by rw [hc]; decide)] at hm
 refine W_seq <| W_q [] (.n 13 (.b ((decide ((97 : UInt8) ≤ c)) && (decide (c ≤ 102)))) (.s .a)) qe (by kernel_rfl) ?_
 refine At_go <| W_cond ((decide ((97 : UInt8) ≤ c)) && (decide (c ≤ 102))) (by kernel_rfl) (fun hc1 => ?_) (fun hc1 => ?_)
 · rw [if_pos hc1] at hm
   refine W_seq <| W_q [] (.n 2 (I (w64 (((c - 97).toNat : Int) + 10))) .z) qe (by kernel_rfl) ?_
   refine At_go <| W_ret (At_ir (At_tr ?_))
   obtain rfl := Option.some.inj hm
   refine At_rt [I (w64 (((c - 97).toNat : Int) + 10))] qe (by kernel_rfl) ?_
   exact ⟨rfl, k⟩
 rw [if_neg (by rw [hc1]; decide)] at hm
 refine W_seq <| W_q [] (.n 24 (.b ((decide ((65 : UInt8) ≤ c)) && (decide (c ≤ 70)))) (.s .a)) qe (by kernel_rfl) ?_
 refine At_go <| W_cond ((decide ((65 : UInt8) ≤ c)) && (decide (c ≤ 70))) (by kernel_rfl) (fun hc2 => ?_) (fun hc2 => ?_)
 · rw [if_pos hc2] at hm
   refine W_seq <| W_q [] (.n 2 (I (w64 (((c - 65).toNat : Int) + 10))) .z) qe (by kernel_rfl) ?_
   refine At_go <| W_ret (At_ir (At_tr ?_))
   obtain rfl := Option.some.inj hm
   refine At_rt [I (w64 (((c - 65).toNat : Int) + 10))] qe (by kernel_rfl) ?_
   exact ⟨rfl, k⟩
 rw [if_neg (by rw [hc2]; decide)] at hm
 refine W_skip <| At_in <| At_go <| W_seq <| W_q [] (.n 2 (I (-1)) .z) qe (by kernel_rfl) ?_
 refine At_go <| W_ret ?_
 obtain rfl := Option.some.inj hm
 refine At_rt [I (-1)] qe (by kernel_rfl) ?_
 exact ⟨rfl, k⟩

-- quern/quernref03.Sigma
noncomputable def m_r03_Sigma (round : Int) (i : Int) : Option Int :=
  (m_r01_Rest round (10 : Int)).bind fun r_ => (geti ([48, 49, 50, 51, 52, 53, 54, 55, 56, 57, 97, 98, 99, 100, 101, 102, 101, 97, 52, 56, 57, 102, 100, 54, 49, 99, 48, 50, 98, 55, 53, 51, 98, 56, 99, 48, 53, 50, 102, 100, 97, 101, 51, 54, 55, 49, 57, 52, 55, 57, 51, 49, 100, 99, 98, 101, 50, 54, 53, 97, 52, 48, 102, 56, 57, 48, 53, 55, 50, 52, 97, 102, 101, 49, 98, 99, 54, 56, 51, 100, 50, 99, 54, 97, 48, 98, 56, 51, 52, 100, 55, 53, 102, 101, 49, 57, 99, 53, 49, 102, 101, 100, 52, 97, 48, 55, 54, 51, 57, 50, 56, 98, 100, 98, 55, 101, 99, 49, 51, 57, 53, 48, 102, 52, 56, 54, 50, 97, 54, 102, 101, 57, 98, 51, 48, 56, 99, 50, 100, 55, 49, 52, 97, 53, 97, 50, 56, 52, 55, 54, 49, 53, 102, 98, 57, 101, 51, 99, 100, 48] : List UInt8) (w64 ((w64 (16 * r_)) + i))).bind fun c => (m_r01_Digit c).bind fun r_1 => some r_1
theorem c_r03_Sigma {F O : Nat → Prop} {w : World} (round : Int) (i : Int) (k : Cx F O w w []) (r : Int) (hm : m_r03_Sigma round i = some r) :
    Calls Tryz.prog 128 (vals [I round, I i]) w (fun e w' => e = .returned (SV.val (I r)) ∧ Cx F O w w' []) := by
 unfold m_r03_Sigma at hm
 refine calls [I round, I i] Tryz.func128 rfl (of_decide_eq_true (by kernel_rfl)) ?_
 refine W_seq <| W_q [] .a qe (by kernel_rfl) ?_
 refine At_go <| W_seq <| W_reg <| WLs 1 [] (.n 5 (I round) (.s .a)) qe (by kernel_rfl) ?_
 refine WL_op ?_
 obtain ⟨r_, h_r_, hm⟩ := ob hm
 refine Op_call [] 6 _ yz_go140 (by kernel_rfl) (c_r01_Rest (F := N0) (O := N0) _ _ (Cx.refl _) _ h_r_) ?_
 rintro e_ w_ ⟨rfl, k_⟩
 have k_1 := k.call k_
 refine ⟨I r_, rfl, ?_⟩
 obtain ⟨c, h_c, hm⟩ := ob hm
 refine WLs 4 [] (.n 10 (.u8 c) .z) (qX h_c <| qe) (by kernel_rfl) ?_
 refine WL_op ?_
 obtain ⟨r_1, h_r_1, hm⟩ := ob hm
 refine Op_call [] 11 _ yz_go139 (by kernel_rfl) (c_r01_Digit (F := N0) (O := N0) _ (Cx.refl _) _ h_r_1) ?_
 rintro e_ w_1 ⟨rfl, k_2⟩
 have k_3 := k_1.call k_2
 refine ⟨I r_1, rfl, ?_⟩
 refine WLs 1 [] (.n 4 (I r_1) .z) qe (by kernel_rfl) ?_
 refine WL_nil <| At_go <| W_ret ?_
 obtain rfl := Option.some.inj hm
 refine At_rt [I r_1] qe (by kernel_rfl) ?_
 exact ⟨rfl, k_3⟩

-- quern/quernref03.place
noncomputable def m_r03_place (a_ : Int) : Option Bool :=
  some ((decide (0 ≤ a_)) && (decide (a_ ≤ 15)))
theorem c_r03_place {F O : Nat → Prop} {w : World} (a_ : Int) (k : Cx F O w w []) (r : Bool) (hm : m_r03_place a_ = some r) :
    Calls Tryz.prog 137 (vals [I a_]) w (fun e w' => e = .returned (SV.val (.b r)) ∧ Cx F O w w' []) := by
 unfold m_r03_place at hm
 refine calls [I a_] Tryz.func137 rfl (of_decide_eq_true (by kernel_rfl)) ?_
 refine W_seq <| W_q [] .a qe (by kernel_rfl) ?_
 refine At_go <| W_seq <| W_q [] (.n 2 (.b ((decide (0 ≤ a_)) && (decide (a_ ≤ 15)))) .z) qe (by kernel_rfl) ?_
 refine At_go <| W_ret ?_
 obtain rfl := Option.some.inj hm
 refine At_rt [.b ((decide (0 ≤ a_)) && (decide (a_ ≤ 15)))] qe (by kernel_rfl) ?_
 exact ⟨rfl, k⟩

-- quern/quernref01.Turn64
noncomputable def m_r01_Turn64 (w_ : UInt64) (n : Int) : Option UInt64 :=
  (m_r01_Rest n (64 : Int)).bind fun r_ => if r_ = 0 then (some w_) else ((need (0 ≤ r_)).bind fun u => (need (0 ≤ w64 (64 - r_))).bind fun u1 => some ((shr64 w_ (Int.toNat r_)) ||| (shl64 w_ (Int.toNat (w64 (64 - r_))))))
theorem c_r01_Turn64 {F O : Nat → Prop} {w : World} (w_ : UInt64) (n : Int) (k : Cx F O w w []) (r : UInt64) (hm : m_r01_Turn64 w_ n = some r) :
    Calls Tryz.prog 138 (vals [.u64 w_, I n]) w (fun e w' => e = .returned (SV.val (.u64 r)) ∧ Cx F O w w' []) := by
 unfold m_r01_Turn64 at hm
 refine calls [.u64 w_, I n] Tryz.func138 rfl (of_decide_eq_true (by kernel_rfl)) ?_
 refine W_seq <| W_q [] .a qe (by kernel_rfl) ?_
 refine At_go <| W_seq <| W_reg <| WLs 1 [] (.n 6 (I n) (.k .z)) qe (by kernel_rfl) ?_
 refine WL_op ?_
 obtain ⟨r_, h_r_, hm⟩ := ob hm
 refine Op_call [] 7 _ yz_go140 (by kernel_rfl) (c_r01_Rest (F := N0) (O := N0) _ _ (Cx.refl _) _ h_r_) ?_
 rintro e_ w_1 ⟨rfl, k_⟩
 have k_1 := k.call k_
 refine ⟨I r_, rfl, ?_⟩
 refine WLs 1 [] (.n 5 (I r_) (.ss .a)) qe (by kernel_rfl) ?_
 refine WL_nil <| At_go <| W_seq <| W_seq <| W_q [] (.n 9 (.b (decide (r_ = 0))) .a) qe (by kernel_rfl) ?_
 refine At_go <| W_condp (r_ = 0) (by kernel_rfl) (fun hc => ?_) (fun hc => ?_)
 · rw [if_pos hc] at hm
   refine W_seq <| W_q [] (.n 4 (.u64 w_) .z) qe (by kernel_rfl) ?_
   refine At_go <| W_ret (At_tr ?_)
   obtain rfl := Option.some.inj hm
   refine At_rt [.u64 w_] qe (by kernel_rfl) ?_
   exact ⟨rfl, k_1⟩
 rw [if_neg hc] at hm
 refine W_skip <| At_go <| W_seq ?_
 obtain ⟨u, h_u, hm⟩ := ob hm
 obtain ⟨u1, h_u1, hm⟩ := ob hm
 refine W_d yz_mixed (by kernel_rfl) (.n 4 (.u64 ((shr64 w_ (Int.toNat r_)) ||| (shl64 w_ (Int.toNat (w64 (64 - r_)))))) .z) (fun m => qp (0 ≤ r_) (need_some h_u) <| qp (0 ≤ w64 (64 - r_)) (need_some h_u1) <| qe) (by kernel_rfl) (fun m_ => ?_)
 have k_2 := k_1.drew m_
 refine At_go <| W_ret ?_
 obtain rfl := Option.some.inj hm
 refine At_rt [.u64 ((shr64 w_ (Int.toNat r_)) ||| (shl64 w_ (Int.toNat (w64 (64 - r_)))))] qe (by kernel_rfl) ?_
 exact ⟨rfl, k_2⟩
end Go.Sx
