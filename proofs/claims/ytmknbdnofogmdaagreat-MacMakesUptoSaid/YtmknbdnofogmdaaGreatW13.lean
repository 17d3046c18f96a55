import Derived.Test.YtmknbdnofogmdaaGreatW12
namespace Go.Sx
open Go.RowKit Go.Proofs
set_option linter.unusedVariables false
set_option linter.unusedSimpArgs false
set_option maxRecDepth 20000

-- (*quern/quernref05.Node).passed
noncomputable def m_r05_Node_passed_l0 (r_ : (Vec UInt64 16 × Int × Int × Int × Int × Int × UInt32 × UInt64 × UInt32 × Int × Int × Bool × Vec UInt64 16 × Bool × UInt64 × UInt64 × List UInt8 × UInt64)) (r_1 : Int) : (Vec UInt64 16 × UInt64 × UInt64 × Int) → Option ((Vec UInt64 16 × UInt64 × UInt64 × Int) ⊕ (Vec UInt64 16 × UInt64 × UInt64 × Int × Int × Int × Int × Int × Int × UInt32 × UInt64 × UInt32 × Int × Int × Bool × Vec UInt64 16 × Bool × UInt64 × UInt64 × List UInt8 × UInt64))
  | (h, lo, hi, at_) => if (w64 (at_ + r_1)) < ((r_.2.2.2.2.2.2.2.2.2.2.2.2.2.2.2.2.1.length : Nat) : Int) then ((m_r01_Add lo hi (UInt64.ofInt r_1)).bind fun r_2 => (m_r05_cut r_.2.2.2.2.2.2.2.2.2.2.2.2.2.2.2.2.1 at_ r_1).bind fun r_3 => (m_r05_in r_.2.1 h r_3 r_2.1 r_2.2.1 false false).bind fun r_4 => some (.inl (r_4, r_2.1, r_2.2.1, w64 (at_ + r_1)))) else (Option.map Sum.inr (some (h, lo, hi, at_, r_.2.1, r_.2.2.1, r_.2.2.2.1, r_.2.2.2.2.1, r_.2.2.2.2.2.1, r_.2.2.2.2.2.2.1, r_.2.2.2.2.2.2.2.1, r_.2.2.2.2.2.2.2.2.1, r_.2.2.2.2.2.2.2.2.2.1, r_.2.2.2.2.2.2.2.2.2.2.1, r_.2.2.2.2.2.2.2.2.2.2.2.1, r_.2.2.2.2.2.2.2.2.2.2.2.2.1, r_.2.2.2.2.2.2.2.2.2.2.2.2.2.1, r_.2.2.2.2.2.2.2.2.2.2.2.2.2.2.1, r_.2.2.2.2.2.2.2.2.2.2.2.2.2.2.2.1, r_.2.2.2.2.2.2.2.2.2.2.2.2.2.2.2.2.1, r_.2.2.2.2.2.2.2.2.2.2.2.2.2.2.2.2.2)))
noncomputable def m_r05_Node_passed (n_Kind : Int) (n_P_Digest : Int) (n_P_Key : Int) (n_P_Fanout : Int) (n_P_Depth : Int) (n_P_Leaf : UInt32) (n_P_Offset : UInt64) (n_P_Xof : UInt32) (n_P_NodeDepth : Int) (n_P_Inner : Int) (n_P_Salt : List UInt8) (n_P_Personal : List UInt8) (n_Key : List UInt8) (n_Last : Bool) (n_From : Vec UInt64 16) (n_Old : Bool) (n_Lo : UInt64) (n_Hi : UInt64) (n_Msg : List UInt8) (n_Count : UInt64) : Option (Vec UInt64 16 × UInt64 × UInt64 × Int × Int × Int × Int × Int × Int × UInt32 × UInt64 × UInt32 × Int × Int × Bool × Vec UInt64 16 × Bool × UInt64 × UInt64 × List UInt8 × UInt64) :=
  (m_r05_Node_first n_Kind n_P_Digest n_P_Key n_P_Fanout n_P_Depth n_P_Leaf n_P_Offset n_P_Xof n_P_NodeDepth n_P_Inner n_P_Salt n_P_Personal n_Key n_Last n_From n_Old n_Lo n_Hi n_Msg n_Count).bind fun r_ => (m_r05_Block r_.2.1).bind fun r_1 => whileO (m_r05_Node_passed_l0 r_ r_1) (r_.1, r_.2.2.2.2.2.2.2.2.2.2.2.2.2.2.1, r_.2.2.2.2.2.2.2.2.2.2.2.2.2.2.2.1, (0 : Int))
theorem c_r05_Node_passed {F O : Nat → Prop} {w : World} (n_Kind : Int) (n_P_Digest : Int) (n_P_Key : Int) (n_P_Fanout : Int) (n_P_Depth : Int) (n_P_Leaf : UInt32) (n_P_Offset : UInt64) (n_P_Xof : UInt32) (n_P_NodeDepth : Int) (n_P_Inner : Int) (n_P_Salt : List UInt8) (n_P_Personal : List UInt8) (n_Key : List UInt8) (n_Last : Bool) (n_From : Vec UInt64 16) (n_Old : Bool) (n_Lo : UInt64) (n_Hi : UInt64) (n_Msg : List UInt8) (n_Count : UInt64) (g_n : Nat) (A_n_P_Salt : Option Addr) (n_n_P_Salt : Nat) (c_n_P_Salt : Nat) (A_n_P_Personal : Option Addr) (n_n_P_Personal : Nat) (c_n_P_Personal : Nat) (A_n_Key : Option Addr) (n_n_Key : Nat) (c_n_Key : Nat) (A_n_Msg : Option Addr) (n_n_Msg : Nat) (c_n_Msg : Nat) (h_n_P_Salt : Ro F w A_n_P_Salt (e8.all n_P_Salt)) (hn_n_P_Salt : n_P_Salt.length = n_n_P_Salt) (hc_n_P_Salt : n_n_P_Salt ≤ c_n_P_Salt) (h_n_P_Personal : Ro F w A_n_P_Personal (e8.all n_P_Personal)) (hn_n_P_Personal : n_P_Personal.length = n_n_P_Personal) (hc_n_P_Personal : n_n_P_Personal ≤ c_n_P_Personal) (h_n_Key : Ro F w A_n_Key (e8.all n_Key)) (hn_n_Key : n_Key.length = n_n_Key) (hc_n_Key : n_n_Key ≤ c_n_Key) (k : Cx F O w w [Bx 110 g_n [I n_Kind, I n_P_Digest, I n_P_Key, I n_P_Fanout, I n_P_Depth, .u32 n_P_Leaf, .u64 n_P_Offset, .u32 n_P_Xof, I n_P_NodeDepth, I n_P_Inner, sl A_n_P_Salt n_n_P_Salt c_n_P_Salt, sl A_n_P_Personal n_n_P_Personal c_n_P_Personal, sl A_n_Key n_n_Key c_n_Key, .b n_Last, .ar e64 n_From, .b n_Old, .u64 n_Lo, .u64 n_Hi, sl A_n_Msg n_n_Msg c_n_Msg, .u64 n_Count], Ow e8 A_n_Msg n_n_Msg c_n_Msg n_Msg]) (r : (Vec UInt64 16 × UInt64 × UInt64 × Int × Int × Int × Int × Int × Int × UInt32 × UInt64 × UInt32 × Int × Int × Bool × Vec UInt64 16 × Bool × UInt64 × UInt64 × List UInt8 × UInt64)) (hm : m_r05_Node_passed n_Kind n_P_Digest n_P_Key n_P_Fanout n_P_Depth n_P_Leaf n_P_Offset n_P_Xof n_P_NodeDepth n_P_Inner n_P_Salt n_P_Personal n_Key n_Last n_From n_Old n_Lo n_Hi n_Msg n_Count = some r) :
    Calls Tryz.prog 72 (vals [pt g_n 0]) w (fun e w' => ∃ A n c, r.2.2.2.2.2.2.2.2.2.2.2.2.2.2.2.2.2.2.2.1.length = n ∧ e = .returned (SV.val (.tup [.agg [.ar e64 r.1], .u64 r.2.1, .u64 r.2.2.1, I r.2.2.2.1])) ∧ Cx F O w w' [Bx 110 g_n [I r.2.2.2.2.1, I r.2.2.2.2.2.1, I r.2.2.2.2.2.2.1, I r.2.2.2.2.2.2.2.1, I r.2.2.2.2.2.2.2.2.1, .u32 r.2.2.2.2.2.2.2.2.2.1, .u64 r.2.2.2.2.2.2.2.2.2.2.1, .u32 r.2.2.2.2.2.2.2.2.2.2.2.1, I r.2.2.2.2.2.2.2.2.2.2.2.2.1, I r.2.2.2.2.2.2.2.2.2.2.2.2.2.1, sl A_n_P_Salt n_n_P_Salt c_n_P_Salt, sl A_n_P_Personal n_n_P_Personal c_n_P_Personal, sl A_n_Key n_n_Key c_n_Key, .b r.2.2.2.2.2.2.2.2.2.2.2.2.2.2.1, .ar e64 r.2.2.2.2.2.2.2.2.2.2.2.2.2.2.2.1, .b r.2.2.2.2.2.2.2.2.2.2.2.2.2.2.2.2.1, .u64 r.2.2.2.2.2.2.2.2.2.2.2.2.2.2.2.2.2.1, .u64 r.2.2.2.2.2.2.2.2.2.2.2.2.2.2.2.2.2.2.1, sl A n c, .u64 r.2.2.2.2.2.2.2.2.2.2.2.2.2.2.2.2.2.2.2.2], Ow e8 A n c r.2.2.2.2.2.2.2.2.2.2.2.2.2.2.2.2.2.2.2.1]) := by
 unfold m_r05_Node_passed at hm
 subst hn_n_P_Salt
 subst hn_n_P_Personal
 subst hn_n_Key
 obtain rfl := k.len 1 rfl
 refine calls [pt g_n 0] Tryz.func72 rfl (of_decide_eq_true (by kernel_rfl)) ?_
 refine W_seq <| W_reg <| WL_op <| Op_alloc [] 2 [.ar e64 (Vec.rep 16 (0 : UInt64))] (by kernel_rfl) k ?_
 intro g w_ k_
 refine WLs 3 [] .a qe (by kernel_rfl) ?_
 refine WL_nil <| At_go <| W_seq <| W_reg <| WLs 1 [] (.n 11 (pt g_n 0) .a) qe (by kernel_rfl) ?_
 refine WL_op ?_
 obtain ⟨r_, h_r_, hm⟩ := ob hm
 obtain ⟨F1, O1, kin, hO, hre, hF, hb⟩ := k_.go (.i (.i (.r .e)))
 refine Op_call [] 12 _ yz_go93 (by kernel_rfl) (c_r05_Node_first (F := F1) (O := O1) _ _ _ _ _ _ _ _ _ _ _ _ _ _ _ _ _ _ _ _ _ _ _ _ _ _ _ _ _ _ _ _ _ (Ro.of_old h_n_P_Salt k_ hF) rfl hc_n_P_Salt (Ro.of_old h_n_P_Personal k_ hF) rfl hc_n_P_Personal (Ro.of_old h_n_Key k_ hF) rfl hc_n_Key kin _ h_r_) ?_
 rintro e_ w_1 ⟨A0, _, c0, rfl, rfl, k_1⟩
 have k_2 := hb w_1 _ _ k_1 (.c (.c .n))
 refine ⟨.agg [.ar e64 r_.1], rfl, ?_⟩
 refine WL_op <| Op_alloc [] 6 [.ar e64 (Vec.rep 16 (0 : UInt64))] (by kernel_rfl) k_2 ?_
 intro g1 w_2 k_3
 refine WL_op <| Op_b [] 3 (.agg [.ar e64 r_.1]) [.ar e64 r_.1] (Pt.at g1 0) k_3 rfl .all (by kernel_rfl) (by kernel_rfl) ?_
 intro w_3 k_4
 refine WL_nil <| At_go <| W_seq <| W_q [] (.n 7 (.u64 r_.2.2.2.2.2.2.2.2.2.2.2.2.2.2.1) (.k (.ss .a))) (qs g_n 0 <| qs g_n 0 <| qB k_4 0 rfl 31 (.u64 r_.2.2.2.2.2.2.2.2.2.2.2.2.2.2.1) (by kernel_rfl) <| qe) (by kernel_rfl) ?_
 refine At_go <| W_seq <| W_q [] (.n 8 (.u64 r_.2.2.2.2.2.2.2.2.2.2.2.2.2.2.2.1) .a) (qs g_n 0 <| qs g_n 0 <| qB k_4 0 rfl 32 (.u64 r_.2.2.2.2.2.2.2.2.2.2.2.2.2.2.2.1) (by kernel_rfl) <| qe) (by kernel_rfl) ?_
 refine At_go <| W_seq <| W_reg <| WLs 4 [] (.n 24 (I r_.2.1) .a) (qs g_n 0 <| qs g_n 0 <| qB k_4 0 rfl 0 (I r_.2.1) (by kernel_rfl) <| qe) (by kernel_rfl) ?_
 refine WL_op ?_
 have k_5 := k_4.sel (.kkkk .e)
 obtain ⟨r_1, h_r_1, hm⟩ := ob hm
 refine Op_call [] 25 _ yz_go77 (by kernel_rfl) (c_r05_Block (F := N0) (O := N0) _ (Cx.refl _) _ h_r_1) ?_
 rintro e_ w_4 ⟨rfl, k_6⟩
 have k_7 := k_5.call k_6
 refine ⟨I r_1, rfl, ?_⟩
 refine WLs 1 [] (.n 9 (I r_1) (.ss .a)) qe (by kernel_rfl) ?_
 refine WL_nil <| At_go <| W_seq <| W_q [] (.n 10 (I 0) .a) qe (by kernel_rfl) ?_
 refine At_go <| W_seq <| W_block <| W_lp (m_r05_Node_passed_l0 r_ r_1) (fun s L wr => ∃ (h : Vec UInt64 16) (lo : UInt64) (hi : UInt64) (at_ : Int), (h, lo, hi, at_) = s ∧ L = [(0, pt g_n 0), (2, pt g 0), (6, pt g1 0), (7, .u64 lo), (8, .u64 hi), (9, I r_1), (10, I at_)] ∧ Cx F O w wr [Bx 110 g_n [I r_.2.1, I r_.2.2.1, I r_.2.2.2.1, I r_.2.2.2.2.1, I r_.2.2.2.2.2.1, .u32 r_.2.2.2.2.2.2.1, .u64 r_.2.2.2.2.2.2.2.1, .u32 r_.2.2.2.2.2.2.2.2.1, I r_.2.2.2.2.2.2.2.2.2.1, I r_.2.2.2.2.2.2.2.2.2.2.1, sl A_n_P_Salt n_P_Salt.length c_n_P_Salt, sl A_n_P_Personal n_P_Personal.length c_n_P_Personal, sl A_n_Key n_Key.length c_n_Key, .b r_.2.2.2.2.2.2.2.2.2.2.2.1, .ar e64 r_.2.2.2.2.2.2.2.2.2.2.2.2.1, .b r_.2.2.2.2.2.2.2.2.2.2.2.2.2.1, .u64 r_.2.2.2.2.2.2.2.2.2.2.2.2.2.2.1, .u64 r_.2.2.2.2.2.2.2.2.2.2.2.2.2.2.2.1, sl A0 r_.2.2.2.2.2.2.2.2.2.2.2.2.2.2.2.2.1.length c0, .u64 r_.2.2.2.2.2.2.2.2.2.2.2.2.2.2.2.2.2], Ow e8 A0 r_.2.2.2.2.2.2.2.2.2.2.2.2.2.2.2.2.1.length c0 r_.2.2.2.2.2.2.2.2.2.2.2.2.2.2.2.2.1, Bx 108 g [.ar e64 (Vec.rep 16 (0 : UInt64))], Bx 108 g1 [.ar e64 h]]) (r_.1, r_.2.2.2.2.2.2.2.2.2.2.2.2.2.2.1, r_.2.2.2.2.2.2.2.2.2.2.2.2.2.2.2.1, (0 : Int)) r hm ⟨r_.1, r_.2.2.2.2.2.2.2.2.2.2.2.2.2.2.1, r_.2.2.2.2.2.2.2.2.2.2.2.2.2.2.2.1, (0 : Int), rfl, rfl, k_7⟩ (by kernel_rfl) ?_
 intro s0_ L_ w_5 y0 hrel hstep hr0
 obtain ⟨h, lo, hi, at_, rfl, rfl, k_8⟩ := hrel
 have hm := hstep; simp only [m_r05_Node_passed_l0] at hm
 clear hstep
 refine W_seq <| W_seq <| W_q [] (.n 34 (.b (decide ((w64 (at_ + r_1)) < ((r_.2.2.2.2.2.2.2.2.2.2.2.2.2.2.2.2.1.length : Nat) : Int)))) .a) (qs g_n 0 <| qs g_n 0 <| qB k_8 0 rfl 33 (sl A0 r_.2.2.2.2.2.2.2.2.2.2.2.2.2.2.2.2.1.length c0) (by kernel_rfl) <| qe) (by kernel_rfl) ?_
 refine At_go <| W_condp ((w64 (at_ + r_1)) < ((r_.2.2.2.2.2.2.2.2.2.2.2.2.2.2.2.2.1.length : Nat) : Int)) (by kernel_rfl) (fun hc => ?_) (fun hc => ?_)
 · rw [if_pos hc] at hm
   refine W_skip <| At_go <| W_block <| W_seq <| W_reg <| WLs 4 [] (.n 36 (.u64 lo) (.n 37 (.u64 hi) (.n 39 (.u64 (UInt64.ofInt r_1)) (.s .a)))) qe (by kernel_rfl) ?_
   refine WL_op ?_
   obtain ⟨r_2, h_r_2, hm⟩ := ob hm
   refine Op_call [] 40 _ yz_go73 (by kernel_rfl) (c_r01_Add (F := N0) (O := N0) _ _ _ (Cx.refl _) _ h_r_2) ?_
   rintro e_ w_6 ⟨rfl, k_9⟩
   have k_10 := k_8.call k_9
   refine ⟨.tup [.u64 r_2.1, .u64 r_2.2.1, .b r_2.2.2], rfl, ?_⟩
   refine WLs 6 [] (.n 7 (.u64 r_2.1) (.n 8 (.u64 r_2.2.1) (.ssss (.kkk (.ss .a))))) qe (by kernel_rfl) ?_
   refine WL_nil <| At_go <| W_seq ?_
   have k_11 := k_10.drew 1
   refine W_m yz_mixed (.q 4 1 (.q 9 1 (.q 10 1 (.q 12 1 (.q 13 1 (.q 0 2 (.q 1 2 (.q 2 2 (.q 3 1 (.q 5 2 (.q 6 2 (.q 7 2 (.q 8 1 (.op 11 (.op 14 (.op 15 .nil)))))))))))))))) [11, 14, 15] k_11 (.c (.kkkk .e) (.c (.kkkk .e) (.c (.kk (.k .z)) .l))) (by kernel_rfl) (fun _ => ?_)
   refine MXq 5 1 [] (.n 48 (.agg [.ar e64 h]) (.n 53 (I at_) (.n 54 (I r_1) (.n 56 (.u64 r_2.1) (.n 57 (.u64 r_2.2.1) .a))))) (fun x hx => qT hx 3 rfl 0 16 [.ar e64 h] (by kernel_rfl) (by decide) <| qe) (by kernel_rfl) (fun _ => ?_)
   refine MXq 3 2 [] (.n 46 (pt g_n 0) .a) (fun x hx => qs g_n 0 <| qs g_n 0 <| qe) (by kernel_rfl) (fun _ => ?_)
   refine MXq 1 1 [] (.n 47 (I r_.2.1) (.s .a)) (fun x hx => qB hx 0 rfl 0 (I r_.2.1) (by kernel_rfl) <| qe) (by kernel_rfl) (fun _ => ?_)
   refine MXq 3 2 [] (.n 51 (pt g_n 33) .a) (fun x hx => qs g_n 0 <| qs g_n 0 <| qe) (by kernel_rfl) (fun _ => ?_)
   refine MXq 1 1 [] (.n 52 (sl A0 r_.2.2.2.2.2.2.2.2.2.2.2.2.2.2.2.2.1.length c0) (.s .a)) (fun x hx => qB hx 0 rfl 33 (sl A0 r_.2.2.2.2.2.2.2.2.2.2.2.2.2.2.2.2.1.length c0) (by kernel_rfl) <| qe) (by kernel_rfl) (fun _ => ?_)
   refine MX_op (by kernel_rfl) rfl ?_
   obtain ⟨r_3, h_r_3, hm⟩ := ob hm
   refine Op_call [] 55 _ yz_go76 (by kernel_rfl) (c_r05_cut (F := N0) (O := N0) _ _ _ _ _ _ (Ro.n0 (k_11.rd 1 rfl)) (k_11.len 1 rfl) (k_11.lec 1 rfl) (Cx.refl _) _ h_r_3) ?_
   rintro e_ w_7 ⟨A1, _, c1, rfl, rfl, k_12⟩
   have k_13 := k_11.call k_12
   refine ⟨sl A1 r_3.length c1, rfl, ?_⟩
   refine ⟨(k_13.sel (.kkkk .z)), fun _ => ?_⟩
   refine MX_op (by kernel_rfl) rfl ?_
   obtain ⟨r_4, h_r_4, hm⟩ := ob hm
   refine Op_call [] 58 _ yz_go75 (by kernel_rfl) (c_r05_in (F := N0) (O := N0) _ _ _ _ _ _ _ _ _ _ (Ro.n0 (k_13.rd 4 rfl)) (k_13.len 4 rfl) (k_13.lec 4 rfl) (Cx.refl _) _ h_r_4) ?_
   rintro e_ w_8 ⟨rfl, k_14⟩
   have k_15 := k_13.call k_14
   refine ⟨.agg [.ar e64 r_4], rfl, ?_⟩
   have k_16 := k_15.sel (.kkkk .z)
   refine ⟨k_16, fun _ => ?_⟩
   refine MX_op (by kernel_rfl) rfl <| Op_b [] 3 (.agg [.ar e64 r_4]) [.ar e64 r_4] (Pt.at g1 0) k_16 rfl .all (by kernel_rfl) (by kernel_rfl) ?_
   intro w_9 k_17
   refine ⟨(k_17.sel (.kk (.k .z))), fun _ => ?_⟩
   refine MX_nil <| At_go <| W_q [] (.n 10 (I (w64 (at_ + r_1))) (.ssss (.ssss (.s (.kkkk (.kk .z)))))) qe (by kernel_rfl) ?_
   refine At_in ?_
   exact At_rd (r_4, r_2.1, r_2.2.1, w64 (at_ + r_1)) (Option.some.inj hm).symm ⟨r_4, r_2.1, r_2.2.1, w64 (at_ + r_1), rfl, rfl, k_17⟩ (by kernel_rfl)
 rw [if_neg hc] at hm
 refine W_exit (At_te (At_te (At_ie ?_)))
 have hm := exit_of hm hr0
 refine At_go <| W_seq <| W_reg <| WLs 4 [] (.n 62 (.agg [.ar e64 h]) (.n 63 (.u64 lo) (.n 64 (.u64 hi) (.n 65 (I at_) (.ss (.k .z)))))) (qT k_8 3 rfl 0 16 [.ar e64 h] (by kernel_rfl) (by decide) <| qe) (by kernel_rfl) ?_
 refine WL_op <| Op_b [] 2 (.agg [.ar e64 h]) [.ar e64 h] (Pt.at g 0) k_8 rfl .all (by kernel_rfl) (by kernel_rfl) ?_
 intro w_10 k_18
 have k_19 := k_18.sel (.kk (.k .z))
 refine WLs 3 [] (.n 3 (.u64 lo) (.n 4 (.u64 hi) (.n 5 (I at_) (.ssss .a)))) qe (by kernel_rfl) ?_
 refine WL_nil <| At_go <| W_ret ?_
 obtain rfl := Option.some.inj hm
 refine At_rt [.agg [.ar e64 h], .u64 lo, .u64 hi, I at_] (qo (.agg [.ar e64 h]) <| qc (fun w => Rd w (some ⟨g, 0, none⟩) (SV.cl [.ar e64 h])) (k_19.brd 2 rfl) <| qe) (by kernel_rfl) ?_
 have k_20 := k_19.sel (.kk .z)
 exact ⟨A0, r_.2.2.2.2.2.2.2.2.2.2.2.2.2.2.2.2.1.length, c0, k_20.len 1 rfl, rfl, k_20⟩

-- quern/quernref01.Store
noncomputable def m_r01_Store_l0 (n : Int) : (UInt64 × List UInt8 × Int) → Option ((UInt64 × List UInt8 × Int) ⊕ (List UInt8))
  | (w_1, b, i) => if i < n then ((app b ([UInt8.ofNat (w_1 % 256).toNat] : List UInt8) 1).bind fun b1 => some (.inl (w_1 / 256, b1, w64 (i + 1)))) else (Option.map Sum.inr (some b))
noncomputable def m_r01_Store (w_ : UInt64) (n : Int) : Option (List UInt8) :=
  whileO (m_r01_Store_l0 n) (w_, ([] : List UInt8), (0 : Int))
theorem c_r01_Store {F O : Nat → Prop} {w : World} (w_ : UInt64) (n : Int) (k : Cx F O w w []) (r : (List UInt8)) (hm : m_r01_Store w_ n = some r) :
    Calls Tryz.prog 48 (vals [.u64 w_, I n]) w (fun e w' => ∃ A n1 c, r.length = n1 ∧ e = .returned (SV.val (sl A n1 c)) ∧ Cx F O w w' [Ow e8 A n1 c r]) := by
 unfold m_r01_Store at hm
 refine calls [.u64 w_, I n] Tryz.func48 rfl (of_decide_eq_true (by kernel_rfl)) ?_
 refine W_seq <| W_q [] .a qe (by kernel_rfl) ?_
 refine At_go <| W_seq <| W_q [] (.n 5 (sl none 0 0) .a) qe (by kernel_rfl) ?_
 refine At_go <| W_seq <| W_seq <| W_q [] (.n 6 (I 0) .a) qe (by kernel_rfl) ?_
 refine At_go <| W_block ?_
 have k_1 := k.nil e8
 refine W_lp (m_r01_Store_l0 n) (fun s L wr => ∃ (w_1 : UInt64) (b : List UInt8) (i : Int) (A0 : Option Addr) (n2 : Nat) (c0 : Nat), (w_1, b, i) = s ∧ L = [(0, .u64 w_1), (1, I n), (5, sl A0 n2 c0), (6, I i)] ∧ b.length = n2 ∧ Cx F O w wr [Ow e8 A0 n2 c0 b]) (w_, ([] : List UInt8), (0 : Int)) r hm ⟨w_, ([] : List UInt8), (0 : Int), none, 0, 0, rfl, rfl, k_1.len 0 rfl, k_1⟩ (by kernel_rfl) ?_
 intro s0_ L_ w_2 y0 hrel hstep hr0
 obtain ⟨w_1, b, i, A0, _, c0, rfl, rfl, rfl, k_⟩ := hrel
 have hm := hstep; simp only [m_r01_Store_l0] at hm
 clear hstep
 refine W_seq <| W_seq <| W_q [] (.n 9 (.b (decide (i < n))) .a) qe (by kernel_rfl) ?_
 refine At_go <| W_condp (i < n) (by kernel_rfl) (fun hc => ?_) (fun hc => ?_)
 · rw [if_pos hc] at hm
   refine W_skip <| At_go <| W_seq <| W_block <| W_seq <| W_reg <| WLs 4 [] (.n 12 (sl A0 b.length c0) (.n 15 (.u8 (UInt8.ofNat (w_1 % 256).toNat)) (.s .a))) (qp ((256 : UInt64) ≠ 0) (by show (256 : UInt64) ≠ 0; decide) <| qe) (by kernel_rfl) ?_
   refine WL_op <| Op_mk yz_tf22 e8 [] 16 ([UInt8.ofNat (w_1 % 256).toNat] : List UInt8) [(0, .u8 (UInt8.ofNat (w_1 % 256).toNat))] [.u8 (UInt8.ofNat (w_1 % 256).toNat)] (by kernel_rfl) (by kernel_rfl) (by kernel_rfl) k_ ?_
   intro A1 w_3 k_2
   refine WL_op ?_
   obtain ⟨b1, h_b1, hm⟩ := ob hm
   obtain ⟨hz, hl⟩ := app_some h_b1
   refine Op_append (E := e8) (v := sl A1 1 1) (ys := ([UInt8.ofNat (w_1 % 256).toNat] : List UInt8)) yz_tf22 [] 17 0 (by kernel_rfl) k_2 rfl (Src.sl (k_2.rd 1 rfl) (k_2.len 1 rfl) (by rfl)) (k_2.len 1 rfl) (by have := k_2.len 0 rfl; have := (k_2.len 1 rfl); omega) ?_
   intro A2 c1 w_4 k_3
   rw [← hl] at k_3
   have k_4 := k_3.sel (.k .z)
   refine WLs 1 [] (.n 5 (sl A2 (b.length + 1) c1) (.ssss (.kk (.s .a)))) qe (by kernel_rfl) ?_
   refine WL_nil <| At_go <| W_q [] (.n 0 (.u64 (w_1 / 256)) (.k (.s .a))) (qp ((256 : UInt64) ≠ 0) (by show (256 : UInt64) ≠ 0; decide) <| qe) (by kernel_rfl) ?_
   refine At_in <| At_go <| W_q [] (.n 6 (I (w64 (i + 1))) (.kkk .z)) qe (by kernel_rfl) ?_
   exact At_rd (w_1 / 256, b1, w64 (i + 1)) (Option.some.inj hm).symm ⟨w_1 / 256, b1, w64 (i + 1), A2, b.length + 1, c1, rfl, rfl, k_4.len 0 rfl, k_4⟩ (by kernel_rfl)
 rw [if_neg hc] at hm
 refine W_exit (At_te (At_te (At_ie ?_)))
 have hm := exit_of hm hr0
 refine At_go <| W_seq <| W_q [] (.n 4 (sl A0 b.length c0) .z) qe (by kernel_rfl) ?_
 refine At_go <| W_ret ?_
 obtain rfl := Option.some.inj hm
 refine At_rt [sl A0 b.length c0] qe (by kernel_rfl) ?_
 exact ⟨A0, b.length, c0, k_.len 0 rfl, rfl, k_⟩

-- quern/quernref05.bytes
noncomputable def m_r05_bytes_l0 (kind : Int) (h : Vec UInt64 16) : (List UInt8 × Int) → Option ((List UInt8 × Int) ⊕ (List UInt8))
  | (b, i) => if i < 8 then ((geti h.l i).bind fun x_0 => (m_r05_Full kind).bind fun r_ => (m_r01_Store x_0 (w64 (Int.tdiv r_ 8))).bind fun r_1 => (app b r_1 1).bind fun b1 => some (.inl (b1, w64 (i + 1)))) else (Option.map Sum.inr (some b))
noncomputable def m_r05_bytes (kind : Int) (h : Vec UInt64 16) : Option (List UInt8) :=
  whileO (m_r05_bytes_l0 kind h) (([] : List UInt8), (0 : Int))
theorem c_r05_bytes {F O : Nat → Prop} {w : World} (kind : Int) (h : Vec UInt64 16) (k : Cx F O w w []) (r : (List UInt8)) (hm : m_r05_bytes kind h = some r) :
    Calls Tryz.prog 74 (vals [I kind, .agg [.ar e64 h]]) w (fun e w' => ∃ A n c, r.length = n ∧ e = .returned (SV.val (sl A n c)) ∧ Cx F O w w' [Ow e8 A n c r]) := by
 unfold m_r05_bytes at hm
 refine calls [I kind, .agg [.ar e64 h]] Tryz.func74 rfl (of_decide_eq_true (by kernel_rfl)) ?_
 refine W_seq <| W_reg <| WL_op <| Op_box [] 3 (.agg [.ar e64 h]) [.ar e64 h] (by kernel_rfl) k ?_
 intro g w_ k_
 refine WLs 1 [] (.kk .z) qe (by kernel_rfl) ?_
 refine WL_nil <| At_go <| W_seq <| W_q [] (.n 5 (sl none 0 0) .a) qe (by kernel_rfl) ?_
 refine At_go <| W_seq <| W_seq <| W_q [] (.n 6 (I 0) .a) qe (by kernel_rfl) ?_
 refine At_go <| W_block ?_
 have k_2 := k_.nil e8
 refine W_lp (m_r05_bytes_l0 kind h) (fun s L wr => ∃ (b : List UInt8) (i : Int) (A0 : Option Addr) (n0 : Nat) (c0 : Nat), (b, i) = s ∧ L = [(0, I kind), (3, pt g 0), (5, sl A0 n0 c0), (6, I i)] ∧ b.length = n0 ∧ Cx F O w wr [Bx 108 g [.ar e64 h], Ow e8 A0 n0 c0 b]) (([] : List UInt8), (0 : Int)) r hm ⟨([] : List UInt8), (0 : Int), none, 0, 0, rfl, rfl, k_2.len 1 rfl, k_2⟩ (by kernel_rfl) ?_
 intro s0_ L_ w_1 y0 hrel hstep hr0
 obtain ⟨b, i, A0, _, c0, rfl, rfl, rfl, k_1⟩ := hrel
 have hm := hstep; simp only [m_r05_bytes_l0] at hm
 clear hstep
 refine W_seq <| W_seq <| W_q [] (.n 8 (.b (decide (i < 8))) .a) qe (by kernel_rfl) ?_
 refine At_go <| W_condp (i < 8) (by kernel_rfl) (fun hc => ?_) (fun hc => ?_)
 · rw [if_pos hc] at hm
   refine W_skip <| At_go <| W_seq <| W_block ?_
   have k_3 := k_1.drew 1
   refine W_m yz_mixed (.q 0 2 (.q 4 2 (.q 1 3 (.q 2 3 (.q 3 2 (.op 5 (.q 6 2 (.op 7 (.op 8 (.q 9 3 .nil)))))))))) [5, 7, 8] k_3 (.c (.kk .e) (.c (.kk .e) (.c (.k .z) .l))) (by kernel_rfl) (fun _ => ?_)
   refine MXq 2 2 [] (.n 11 (sl A0 b.length c0) (.n 15 (I kind) (.s .a))) (fun x hx => qe) (by kernel_rfl) (fun _ => ?_)
   obtain ⟨x_0, h_x_0, hm⟩ := ob hm
   refine MXq 2 3 [] (.n 13 (.v (.pointer (ixA (some ⟨g, 0, none⟩) i 1))) .a) (fun x hx => qI g 0 h_x_0 <| qe) (by kernel_rfl) (fun _ => ?_)
   refine MXq 1 2 [] (.n 14 (.u64 x_0) (.s .a)) (fun x hx => qC (.u64 x_0) (Rd.el (k := 0) (hx.vrd 0 rfl e64 h 0 (by kernel_rfl)) h_x_0 (Pt.ix1 (some ⟨g, 0, none⟩) i 1) rfl) <| qe) (by kernel_rfl) (fun _ => ?_)
   refine MX_op (by kernel_rfl) rfl ?_
   obtain ⟨r_, h_r_, hm⟩ := ob hm
   refine Op_call [] 16 _ yz_go60 (by kernel_rfl) (c_r05_Full (F := N0) (O := N0) _ (Cx.refl _) _ h_r_) ?_
   rintro e_ w_2 ⟨rfl, k_4⟩
   have k_5 := k_3.call k_4
   refine ⟨I r_, rfl, ?_⟩
   refine ⟨k_5, fun _ => ?_⟩
   refine MXq 1 2 [] (.n 17 (I (w64 (Int.tdiv r_ 8))) (.s (.kk (.s .a)))) (fun x hx => qp ((8 : Int) ≠ (0 : Int)) (by omega) <| qe) (by kernel_rfl) (fun _ => ?_)
   refine MX_op (by kernel_rfl) rfl ?_
   obtain ⟨r_1, h_r_1, hm⟩ := ob hm
   refine Op_call [] 18 _ yz_go48 (by kernel_rfl) (c_r01_Store (F := N0) (O := N0) _ _ (Cx.refl _) _ h_r_1) ?_
   rintro e_ w_3 ⟨A1, _, c1, rfl, rfl, k_6⟩
   have k_7 := k_5.call k_6
   refine ⟨sl A1 r_1.length c1, rfl, ?_⟩
   refine ⟨(k_7.sel (.kk .z)), fun _ => ?_⟩
   refine MX_op (by kernel_rfl) rfl ?_
   obtain ⟨b1, h_b1, hm⟩ := ob hm
   obtain ⟨hz, hl⟩ := app_some h_b1
   refine Op_append (E := e8) (v := sl A1 r_1.length c1) (ys := r_1) yz_tf22 [] 19 1 (by kernel_rfl) k_7 rfl (Src.sl (k_7.rd 2 rfl) (k_7.len 2 rfl) (by rfl)) (k_7.len 2 rfl) (by have := k_7.len 1 rfl; have := (k_7.len 2 rfl); omega) ?_
   intro A2 c2 w_4 k_8
   rw [← hl] at k_8
   have k_9 := k_8.sel (.kk .z)
   refine ⟨(k_9.sel (.k .z)), fun _ => ?_⟩
   refine MXq 1 3 [] (.n 5 (sl A2 (b.length + r_1.length) c2) (.ssss (.s (.kk (.s .a))))) (fun x hx => qe) (by kernel_rfl) (fun _ => ?_)
   refine MX_nil <| At_in <| At_go <| W_q [] (.n 6 (I (w64 (i + 1))) (.kkk .z)) qe (by kernel_rfl) ?_
   exact At_rd (b1, w64 (i + 1)) (Option.some.inj hm).symm ⟨b1, w64 (i + 1), A2, b.length + r_1.length, c2, rfl, rfl, k_9.len 1 rfl, k_9⟩ (by kernel_rfl)
 rw [if_neg hc] at hm
 refine W_exit (At_te (At_te (At_ie ?_)))
 have hm := exit_of hm hr0
 refine At_go <| W_seq <| W_q [] (.n 4 (sl A0 b.length c0) .z) qe (by kernel_rfl) ?_
 refine At_go <| W_ret ?_
 obtain rfl := Option.some.inj hm
 refine At_rt [sl A0 b.length c0] qe (by kernel_rfl) ?_
 have k_10 := k_1.sel (.s (.k .e))
 exact ⟨A0, b.length, c0, k_10.len 0 rfl, rfl, k_10⟩

-- (*quern/quernref05.Node).Out
noncomputable def m_r05_Node_Out (n_Kind : Int) (n_P_Digest : Int) (n_P_Key : Int) (n_P_Fanout : Int) (n_P_Depth : Int) (n_P_Leaf : UInt32) (n_P_Offset : UInt64) (n_P_Xof : UInt32) (n_P_NodeDepth : Int) (n_P_Inner : Int) (n_P_Salt : List UInt8) (n_P_Personal : List UInt8) (n_Key : List UInt8) (n_Last : Bool) (n_From : Vec UInt64 16) (n_Old : Bool) (n_Lo : UInt64) (n_Hi : UInt64) (n_Msg : List UInt8) (n_Count : UInt64) : Option (List UInt8 × Int × Int × Int × Int × Int × UInt32 × UInt64 × UInt32 × Int × Int × Bool × Vec UInt64 16 × Bool × UInt64 × UInt64 × List UInt8 × UInt64) :=
  (m_r05_Node_passed n_Kind n_P_Digest n_P_Key n_P_Fanout n_P_Depth n_P_Leaf n_P_Offset n_P_Xof n_P_NodeDepth n_P_Inner n_P_Salt n_P_Personal n_Key n_Last n_From n_Old n_Lo n_Hi n_Msg n_Count).bind fun r_ => (m_r01_Add r_.2.1 r_.2.2.1 (UInt64.ofInt (w64 (((r_.2.2.2.2.2.2.2.2.2.2.2.2.2.2.2.2.2.2.2.1.length : Nat) : Int) - r_.2.2.2.1)))).bind fun r_1 => (m_r05_Block r_.2.2.2.2.1).bind fun r_2 => (m_r05_cut r_.2.2.2.2.2.2.2.2.2.2.2.2.2.2.2.2.2.2.2.1 r_.2.2.2.1 r_2).bind fun r_3 => (m_r05_in r_.2.2.2.2.1 r_.1 r_3 r_1.1 r_1.2.1 true r_.2.2.2.2.2.2.2.2.2.2.2.2.2.2.1).bind fun r_4 => (m_r05_bytes r_.2.2.2.2.1 r_4).bind fun r_5 => some (r_5, r_.2.2.2.2.1, r_.2.2.2.2.2.1, r_.2.2.2.2.2.2.1, r_.2.2.2.2.2.2.2.1, r_.2.2.2.2.2.2.2.2.1, r_.2.2.2.2.2.2.2.2.2.1, r_.2.2.2.2.2.2.2.2.2.2.1, r_.2.2.2.2.2.2.2.2.2.2.2.1, r_.2.2.2.2.2.2.2.2.2.2.2.2.1, r_.2.2.2.2.2.2.2.2.2.2.2.2.2.1, r_.2.2.2.2.2.2.2.2.2.2.2.2.2.2.1, r_.2.2.2.2.2.2.2.2.2.2.2.2.2.2.2.1, r_.2.2.2.2.2.2.2.2.2.2.2.2.2.2.2.2.1, r_.2.2.2.2.2.2.2.2.2.2.2.2.2.2.2.2.2.1, r_.2.2.2.2.2.2.2.2.2.2.2.2.2.2.2.2.2.2.1, r_.2.2.2.2.2.2.2.2.2.2.2.2.2.2.2.2.2.2.2.1, r_.2.2.2.2.2.2.2.2.2.2.2.2.2.2.2.2.2.2.2.2)
theorem c_r05_Node_Out {F O : Nat → Prop} {w : World} (n_Kind : Int) (n_P_Digest : Int) (n_P_Key : Int) (n_P_Fanout : Int) (n_P_Depth : Int) (n_P_Leaf : UInt32) (n_P_Offset : UInt64) (n_P_Xof : UInt32) (n_P_NodeDepth : Int) (n_P_Inner : Int) (n_P_Salt : List UInt8) (n_P_Personal : List UInt8) (n_Key : List UInt8) (n_Last : Bool) (n_From : Vec UInt64 16) (n_Old : Bool) (n_Lo : UInt64) (n_Hi : UInt64) (n_Msg : List UInt8) (n_Count : UInt64) (g_n : Nat) (A_n_P_Salt : Option Addr) (n_n_P_Salt : Nat) (c_n_P_Salt : Nat) (A_n_P_Personal : Option Addr) (n_n_P_Personal : Nat) (c_n_P_Personal : Nat) (A_n_Key : Option Addr) (n_n_Key : Nat) (c_n_Key : Nat) (A_n_Msg : Option Addr) (n_n_Msg : Nat) (c_n_Msg : Nat) (h_n_P_Salt : Ro F w A_n_P_Salt (e8.all n_P_Salt)) (hn_n_P_Salt : n_P_Salt.length = n_n_P_Salt) (hc_n_P_Salt : n_n_P_Salt ≤ c_n_P_Salt) (h_n_P_Personal : Ro F w A_n_P_Personal (e8.all n_P_Personal)) (hn_n_P_Personal : n_P_Personal.length = n_n_P_Personal) (hc_n_P_Personal : n_n_P_Personal ≤ c_n_P_Personal) (h_n_Key : Ro F w A_n_Key (e8.all n_Key)) (hn_n_Key : n_Key.length = n_n_Key) (hc_n_Key : n_n_Key ≤ c_n_Key) (k : Cx F O w w [Bx 110 g_n [I n_Kind, I n_P_Digest, I n_P_Key, I n_P_Fanout, I n_P_Depth, .u32 n_P_Leaf, .u64 n_P_Offset, .u32 n_P_Xof, I n_P_NodeDepth, I n_P_Inner, sl A_n_P_Salt n_n_P_Salt c_n_P_Salt, sl A_n_P_Personal n_n_P_Personal c_n_P_Personal, sl A_n_Key n_n_Key c_n_Key, .b n_Last, .ar e64 n_From, .b n_Old, .u64 n_Lo, .u64 n_Hi, sl A_n_Msg n_n_Msg c_n_Msg, .u64 n_Count], Ow e8 A_n_Msg n_n_Msg c_n_Msg n_Msg]) (r : (List UInt8 × Int × Int × Int × Int × Int × UInt32 × UInt64 × UInt32 × Int × Int × Bool × Vec UInt64 16 × Bool × UInt64 × UInt64 × List UInt8 × UInt64)) (hm : m_r05_Node_Out n_Kind n_P_Digest n_P_Key n_P_Fanout n_P_Depth n_P_Leaf n_P_Offset n_P_Xof n_P_NodeDepth n_P_Inner n_P_Salt n_P_Personal n_Key n_Last n_From n_Old n_Lo n_Hi n_Msg n_Count = some r) :
    Calls Tryz.prog 62 (vals [pt g_n 0]) w (fun e w' => ∃ A n c A1 n1 c1, r.1.length = n ∧ r.2.2.2.2.2.2.2.2.2.2.2.2.2.2.2.2.1.length = n1 ∧ e = .returned (SV.val (sl A n c)) ∧ Cx F O w w' [Ow e8 A n c r.1, Bx 110 g_n [I r.2.1, I r.2.2.1, I r.2.2.2.1, I r.2.2.2.2.1, I r.2.2.2.2.2.1, .u32 r.2.2.2.2.2.2.1, .u64 r.2.2.2.2.2.2.2.1, .u32 r.2.2.2.2.2.2.2.2.1, I r.2.2.2.2.2.2.2.2.2.1, I r.2.2.2.2.2.2.2.2.2.2.1, sl A_n_P_Salt n_n_P_Salt c_n_P_Salt, sl A_n_P_Personal n_n_P_Personal c_n_P_Personal, sl A_n_Key n_n_Key c_n_Key, .b r.2.2.2.2.2.2.2.2.2.2.2.1, .ar e64 r.2.2.2.2.2.2.2.2.2.2.2.2.1, .b r.2.2.2.2.2.2.2.2.2.2.2.2.2.1, .u64 r.2.2.2.2.2.2.2.2.2.2.2.2.2.2.1, .u64 r.2.2.2.2.2.2.2.2.2.2.2.2.2.2.2.1, sl A1 n1 c1, .u64 r.2.2.2.2.2.2.2.2.2.2.2.2.2.2.2.2.2], Ow e8 A1 n1 c1 r.2.2.2.2.2.2.2.2.2.2.2.2.2.2.2.2.1]) := by
 unfold m_r05_Node_Out at hm
 subst hn_n_P_Salt
 subst hn_n_P_Personal
 subst hn_n_Key
 obtain rfl := k.len 1 rfl
 refine calls [pt g_n 0] Tryz.func62 rfl (of_decide_eq_true (by kernel_rfl)) ?_
 refine W_seq <| W_q [] .a qe (by kernel_rfl) ?_
 refine At_go <| W_seq <| W_reg <| WLs 1 [] (.n 8 (pt g_n 0) .a) qe (by kernel_rfl) ?_
 refine WL_op ?_
 obtain ⟨r_, h_r_, hm⟩ := ob hm
 obtain ⟨F1, O1, kin, hO, hre, hF, hb⟩ := k.go (.i (.i .e))
 refine Op_call [] 9 _ yz_go72 (by kernel_rfl) (c_r05_Node_passed (F := F1) (O := O1) _ _ _ _ _ _ _ _ _ _ _ _ _ _ _ _ _ _ _ _ _ _ _ _ _ _ _ _ _ _ _ _ _ (Ro.of_old h_n_P_Salt k hF) rfl hc_n_P_Salt (Ro.of_old h_n_P_Personal k hF) rfl hc_n_P_Personal (Ro.of_old h_n_Key k hF) rfl hc_n_Key kin _ h_r_) ?_
 rintro e_ w_ ⟨A0, _, c0, rfl, rfl, k_⟩
 have k_1 := hb w_ _ _ k_ (.c (.c .n))
 refine ⟨.tup [.agg [.ar e64 r_.1], .u64 r_.2.1, .u64 r_.2.2.1, I r_.2.2.2.1], rfl, ?_⟩
 refine WLs 5 [] (.n 10 (.agg [.ar e64 r_.1]) (.n 11 (.u64 r_.2.1) (.n 12 (.u64 r_.2.2.1) (.n 13 (I r_.2.2.2.1) (.ss .a))))) qe (by kernel_rfl) ?_
 refine WL_op <| Op_alloc [] 3 [.ar e64 (Vec.rep 16 (0 : UInt64))] (by kernel_rfl) k_1 ?_
 intro g w_1 k_2
 refine WL_op <| Op_b [] 2 (.agg [.ar e64 r_.1]) [.ar e64 r_.1] (Pt.at g 0) k_2 rfl .all (by kernel_rfl) (by kernel_rfl) ?_
 intro w_2 k_3
 refine WLs 3 [] (.n 4 (.u64 r_.2.1) (.n 5 (.u64 r_.2.2.1) (.n 6 (I r_.2.2.2.1) (.k (.ssss .a))))) qe (by kernel_rfl) ?_
 refine WL_nil <| At_go <| W_seq <| W_reg <| WLs 10 [] (.n 15 (.u64 r_.2.1) (.n 16 (.u64 r_.2.2.1) (.n 24 (.u64 (UInt64.ofInt (w64 (((r_.2.2.2.2.2.2.2.2.2.2.2.2.2.2.2.2.2.2.2.1.length : Nat) : Int) - r_.2.2.2.1)))) .a))) (qs g_n 0 <| qs g_n 0 <| qB k_3 0 rfl 33 (sl A0 r_.2.2.2.2.2.2.2.2.2.2.2.2.2.2.2.2.2.2.2.1.length c0) (by kernel_rfl) <| qe) (by kernel_rfl) ?_
 refine WL_op ?_
 obtain ⟨r_1, h_r_1, hm⟩ := ob hm
 refine Op_call [] 25 _ yz_go73 (by kernel_rfl) (c_r01_Add (F := N0) (O := N0) _ _ _ (Cx.refl _) _ h_r_1) ?_
 rintro e_ w_3 ⟨rfl, k_4⟩
 have k_5 := k_3.call k_4
 refine ⟨.tup [.u64 r_1.1, .u64 r_1.2.1, .b r_1.2.2], rfl, ?_⟩
 refine WLs 6 [] (.n 4 (.u64 r_1.1) (.n 5 (.u64 r_1.2.1) (.ssss (.ss .a)))) qe (by kernel_rfl) ?_
 refine WL_nil <| At_go <| W_seq ?_
 have k_6 := k_5.drew 1
 refine W_m yz_mixed (.q 8 3 (.q 13 3 (.q 20 3 (.q 21 3 (.q 0 4 (.q 1 4 (.q 2 4 (.q 3 3 (.q 4 4 (.q 5 4 (.q 6 4 (.q 7 3 (.q 9 4 (.q 10 4 (.q 11 4 (.q 12 3 (.q 14 4 (.q 15 4 (.q 16 4 (.q 17 3 (.q 22 4 (.q 23 4 (.q 24 4 (.q 25 3 (.op 18 (.op 19 (.op 26 (.op 27 (.q 28 4 .nil))))))))))))))))))))))))))))) [18, 19, 26, 27] k_6 (.c (.kk (.k .e)) (.c (.kk (.k .e)) (.c (.kk (.k .e)) (.c (.kk (.k .e)) .l)))) (by kernel_rfl) (fun _ => ?_)
 refine MXq 4 3 [] (.n 37 (.agg [.ar e64 r_.1]) (.n 42 (I r_.2.2.2.1) (.n 49 (.u64 r_1.1) (.n 50 (.u64 r_1.2.1) (.ssss .a))))) (fun x hx => qT hx 2 rfl 0 16 [.ar e64 r_.1] (by kernel_rfl) (by decide) <| qe) (by kernel_rfl) (fun _ => ?_)
 refine MXq 3 4 [] (.n 31 (pt g_n 0) .a) (fun x hx => qs g_n 0 <| qs g_n 0 <| qe) (by kernel_rfl) (fun _ => ?_)
 refine MXq 1 3 [] (.n 32 (I r_.2.2.2.2.1) (.s .a)) (fun x hx => qB hx 0 rfl 0 (I r_.2.2.2.2.1) (by kernel_rfl) <| qe) (by kernel_rfl) (fun _ => ?_)
 refine MXq 3 4 [] (.n 35 (pt g_n 0) .a) (fun x hx => qs g_n 0 <| qs g_n 0 <| qe) (by kernel_rfl) (fun _ => ?_)
 refine MXq 1 3 [] (.n 36 (I r_.2.2.2.2.1) (.s .a)) (fun x hx => qB hx 0 rfl 0 (I r_.2.2.2.2.1) (by kernel_rfl) <| qe) (by kernel_rfl) (fun _ => ?_)
 refine MXq 3 4 [] (.n 40 (pt g_n 33) .a) (fun x hx => qs g_n 0 <| qs g_n 0 <| qe) (by kernel_rfl) (fun _ => ?_)
 refine MXq 1 3 [] (.n 41 (sl A0 r_.2.2.2.2.2.2.2.2.2.2.2.2.2.2.2.2.2.2.2.1.length c0) (.s .a)) (fun x hx => qB hx 0 rfl 33 (sl A0 r_.2.2.2.2.2.2.2.2.2.2.2.2.2.2.2.2.2.2.2.1.length c0) (by kernel_rfl) <| qe) (by kernel_rfl) (fun _ => ?_)
 refine MXq 3 4 [] (.n 45 (pt g_n 0) .a) (fun x hx => qs g_n 0 <| qs g_n 0 <| qe) (by kernel_rfl) (fun _ => ?_)
 refine MXq 1 3 [] (.n 46 (I r_.2.2.2.2.1) (.s .a)) (fun x hx => qB hx 0 rfl 0 (I r_.2.2.2.2.1) (by kernel_rfl) <| qe) (by kernel_rfl) (fun _ => ?_)
 refine MXq 3 4 [] (.n 53 (pt g_n 13) (.kkkk (.kkkk .z))) (fun x hx => qs g_n 0 <| qs g_n 0 <| qe) (by kernel_rfl) (fun _ => ?_)
 refine MXq 1 3 [] (.n 54 (.b r_.2.2.2.2.2.2.2.2.2.2.2.2.2.2.1) (.s .a)) (fun x hx => qB hx 0 rfl 13 (.b r_.2.2.2.2.2.2.2.2.2.2.2.2.2.2.1) (by kernel_rfl) <| qe) (by kernel_rfl) (fun _ => ?_)
 refine MX_op (by kernel_rfl) rfl ?_
 have k_7 := k_6.sel (.kk (.k .e))
 obtain ⟨r_2, h_r_2, hm⟩ := ob hm
 refine Op_call [] 47 _ yz_go77 (by kernel_rfl) (c_r05_Block (F := N0) (O := N0) _ (Cx.refl _) _ h_r_2) ?_
 rintro e_ w_4 ⟨rfl, k_8⟩
 have k_9 := k_7.call k_8
 refine ⟨I r_2, rfl, ?_⟩
 refine ⟨k_9, fun _ => ?_⟩
 refine MX_op (by kernel_rfl) rfl ?_
 obtain ⟨r_3, h_r_3, hm⟩ := ob hm
 refine Op_call [] 48 _ yz_go76 (by kernel_rfl) (c_r05_cut (F := N0) (O := N0) _ _ _ _ _ _ (Ro.n0 (k_9.rd 1 rfl)) (k_9.len 1 rfl) (k_9.lec 1 rfl) (Cx.refl _) _ h_r_3) ?_
 rintro e_ w_5 ⟨A2, _, c2, rfl, rfl, k_10⟩
 have k_11 := k_9.call k_10
 refine ⟨sl A2 r_3.length c2, rfl, ?_⟩
 refine ⟨(k_11.sel (.kk (.k .z))), fun _ => ?_⟩
 refine MX_op (by kernel_rfl) rfl ?_
 obtain ⟨r_4, h_r_4, hm⟩ := ob hm
 refine Op_call [] 55 _ yz_go75 (by kernel_rfl) (c_r05_in (F := N0) (O := N0) _ _ _ _ _ _ _ _ _ _ (Ro.n0 (k_11.rd 3 rfl)) (k_11.len 3 rfl) (k_11.lec 3 rfl) (Cx.refl _) _ h_r_4) ?_
 rintro e_ w_6 ⟨rfl, k_12⟩
 have k_13 := k_11.call k_12
 refine ⟨.agg [.ar e64 r_4], rfl, ?_⟩
 have k_14 := k_13.sel (.kk (.k .z))
 refine ⟨k_14, fun _ => ?_⟩
 refine MX_op (by kernel_rfl) rfl ?_
 obtain ⟨r_5, h_r_5, hm⟩ := ob hm
 refine Op_call [] 56 _ yz_go74 (by kernel_rfl) (c_r05_bytes (F := N0) (O := N0) _ _ (Cx.refl _) _ h_r_5) ?_
 rintro e_ w_7 ⟨A3, _, c3, rfl, rfl, k_15⟩
 have k_16 := k_14.call k_15
 refine ⟨sl A3 r_5.length c3, rfl, ?_⟩
 refine ⟨(k_16.sel (.kk (.k .z))), fun _ => ?_⟩
 refine MXq 1 4 [] (.n 2 (sl A3 r_5.length c3) .z) (fun x hx => qe) (by kernel_rfl) (fun _ => ?_)
 refine MX_nil <| At_go <| W_ret ?_
 obtain rfl := Option.some.inj hm
 refine At_rt [sl A3 r_5.length c3] qe (by kernel_rfl) ?_
 have k_17 := (((k_16.pk (.t .h)).pk (.t .h)).pk (.t (.t (.t .h)))).sel (.kk (.k .z))
 exact ⟨A3, r_5.length, c3, A0, r_.2.2.2.2.2.2.2.2.2.2.2.2.2.2.2.2.2.2.2.1.length, c0, k_17.len 0 rfl, k_17.len 2 rfl, rfl, k_17⟩

-- quern/quernref05.Hash
noncomputable def m_r05_Hash (kind : Int) (p_Digest : Int) (p_Key : Int) (p_Fanout : Int) (p_Depth : Int) (p_Leaf : UInt32) (p_Offset : UInt64) (p_Xof : UInt32) (p_NodeDepth : Int) (p_Inner : Int) (p_Salt : List UInt8) (p_Personal : List UInt8) (key : List UInt8) (last : Bool) (out : Int) (data : List UInt8) : Option (List UInt8 × Int) :=
  (m_r05_New kind p_Digest p_Key p_Fanout p_Depth p_Leaf p_Offset p_Xof p_NodeDepth p_Inner p_Salt p_Personal key).bind fun r_ => (Sum.elim (fun r_1 => if r_1 ≠ 0 then (some (([] : List UInt8), r_1)) else (if out < 1 then (some (([] : List UInt8), (1 : Int))) else ((m_r05_Full kind).bind fun r_3 => if r_3 < out then (some (([] : List UInt8), (1 : Int))) else none))) (fun r_2 => if 0 ≠ 0 then (some (([] : List UInt8), (0 : Int))) else (if out < 1 then (some (([] : List UInt8), (1 : Int))) else ((m_r05_Full kind).bind fun r_4 => if r_4 < out then (some (([] : List UInt8), (1 : Int))) else ((m_r05_Node_Write r_2.1 r_2.2.1 r_2.2.2.1 r_2.2.2.2.1 r_2.2.2.2.2.1 r_2.2.2.2.2.2.1 r_2.2.2.2.2.2.2.1 r_2.2.2.2.2.2.2.2.1 r_2.2.2.2.2.2.2.2.2.1 r_2.2.2.2.2.2.2.2.2.2.1 p_Salt p_Personal key last r_2.2.2.2.2.2.2.2.2.2.2.1 false (0 : UInt64) (0 : UInt64) r_2.2.2.2.2.2.2.2.2.2.2.2 (0 : UInt64) data).bind fun r_5 => (m_r05_Node_Out r_5.1 r_5.2.1 r_5.2.2.1 r_5.2.2.2.1 r_5.2.2.2.2.1 r_5.2.2.2.2.2.1 r_5.2.2.2.2.2.2.1 r_5.2.2.2.2.2.2.2.1 r_5.2.2.2.2.2.2.2.2.1 r_5.2.2.2.2.2.2.2.2.2.1 p_Salt p_Personal key r_5.2.2.2.2.2.2.2.2.2.2.1 r_5.2.2.2.2.2.2.2.2.2.2.2.1 r_5.2.2.2.2.2.2.2.2.2.2.2.2.1 r_5.2.2.2.2.2.2.2.2.2.2.2.2.2.1 r_5.2.2.2.2.2.2.2.2.2.2.2.2.2.2.1 r_5.2.2.2.2.2.2.2.2.2.2.2.2.2.2.2.1 r_5.2.2.2.2.2.2.2.2.2.2.2.2.2.2.2.2).bind fun r_6 => (slc r_6.1 0 out).bind fun b => some (b, (0 : Int))))))) r_
theorem c_r05_Hash {F O : Nat → Prop} {w : World} (kind : Int) (p_Digest : Int) (p_Key : Int) (p_Fanout : Int) (p_Depth : Int) (p_Leaf : UInt32) (p_Offset : UInt64) (p_Xof : UInt32) (p_NodeDepth : Int) (p_Inner : Int) (p_Salt : List UInt8) (p_Personal : List UInt8) (key : List UInt8) (last : Bool) (out : Int) (data : List UInt8) (A_p_Salt : Option Addr) (n_p_Salt : Nat) (c_p_Salt : Nat) (A_p_Personal : Option Addr) (n_p_Personal : Nat) (c_p_Personal : Nat) (A_key : Option Addr) (n_key : Nat) (c_key : Nat) (A_data : Option Addr) (n_data : Nat) (c_data : Nat) (h_p_Salt : Ro F w A_p_Salt (e8.all p_Salt)) (hn_p_Salt : p_Salt.length = n_p_Salt) (hc_p_Salt : n_p_Salt ≤ c_p_Salt) (h_p_Personal : Ro F w A_p_Personal (e8.all p_Personal)) (hn_p_Personal : p_Personal.length = n_p_Personal) (hc_p_Personal : n_p_Personal ≤ c_p_Personal) (h_key : Ro F w A_key (e8.all key)) (hn_key : key.length = n_key) (hc_key : n_key ≤ c_key) (h_data : Ro F w A_data (e8.all data)) (hn_data : data.length = n_data) (hc_data : n_data ≤ c_data) (k : Cx F O w w []) (r : (List UInt8 × Int)) (hm : m_r05_Hash kind p_Digest p_Key p_Fanout p_Depth p_Leaf p_Offset p_Xof p_NodeDepth p_Inner p_Salt p_Personal key last out data = some r) :
    Calls Tryz.prog 43 (vals [I kind, .agg [I p_Digest, I p_Key, I p_Fanout, I p_Depth, .u32 p_Leaf, .u64 p_Offset, .u32 p_Xof, I p_NodeDepth, I p_Inner, sl A_p_Salt n_p_Salt c_p_Salt, sl A_p_Personal n_p_Personal c_p_Personal], sl A_key n_key c_key, .b last, I out, sl A_data n_data c_data]) w (fun e w' => ∃ A n c, r.1.length = n ∧ e = .returned (SV.val (.tup [sl A n c, I r.2])) ∧ Cx F O w w' [Ow e8 A n c r.1]) := by
 unfold m_r05_Hash at hm
 subst hn_p_Salt
 subst hn_p_Personal
 subst hn_key
 subst hn_data
 refine calls [I kind, .agg [I p_Digest, I p_Key, I p_Fanout, I p_Depth, .u32 p_Leaf, .u64 p_Offset, .u32 p_Xof, I p_NodeDepth, I p_Inner, sl A_p_Salt p_Salt.length c_p_Salt, sl A_p_Personal p_Personal.length c_p_Personal], sl A_key key.length c_key, .b last, I out, sl A_data data.length c_data] Tryz.func43 rfl (of_decide_eq_true (by kernel_rfl)) ?_
 refine W_seq <| W_reg <| WL_op <| Op_box [] 7 (.agg [I p_Digest, I p_Key, I p_Fanout, I p_Depth, .u32 p_Leaf, .u64 p_Offset, .u32 p_Xof, I p_NodeDepth, I p_Inner, sl A_p_Salt p_Salt.length c_p_Salt, sl A_p_Personal p_Personal.length c_p_Personal]) [I p_Digest, I p_Key, I p_Fanout, I p_Depth, .u32 p_Leaf, .u64 p_Offset, .u32 p_Xof, I p_NodeDepth, I p_Inner, sl A_p_Salt p_Salt.length c_p_Salt, sl A_p_Personal p_Personal.length c_p_Personal] (by kernel_rfl) k ?_
 intro g w_ k_
 refine WLs 2 [] (.kk (.s .a)) qe (by kernel_rfl) ?_
 refine WL_nil <| At_go <| W_seq <| W_reg <| WLs 3 [] (.n 17 (I kind) (.n 18 (.agg [I p_Digest, I p_Key, I p_Fanout, I p_Depth, .u32 p_Leaf, .u64 p_Offset, .u32 p_Xof, I p_NodeDepth, I p_Inner, sl A_p_Salt p_Salt.length c_p_Salt, sl A_p_Personal p_Personal.length c_p_Personal]) (.n 19 (sl A_key key.length c_key) (.s (.k (.s .a)))))) (qT k_ 0 rfl 0 11 [I p_Digest, I p_Key, I p_Fanout, I p_Depth, .u32 p_Leaf, .u64 p_Offset, .u32 p_Xof, I p_NodeDepth, I p_Inner, sl A_p_Salt p_Salt.length c_p_Salt, sl A_p_Personal p_Personal.length c_p_Personal] (by kernel_rfl) (by decide) <| qe) (by kernel_rfl) ?_
 refine WL_op ?_
 obtain ⟨r_, h_r_, hm⟩ := ob hm
 refine Op_call [] 20 _ yz_go59 (by kernel_rfl) (c_r05_New (F := N0) (O := N0) _ _ _ _ _ _ _ _ _ _ _ _ _ _ _ _ _ _ _ _ _ _ (Ro.n0 (h_p_Salt.cx k_)) rfl hc_p_Salt (Ro.n0 (h_p_Personal.cx k_)) rfl hc_p_Personal (Ro.n0 (h_key.cx k_)) rfl hc_key (Cx.refl _) _ h_r_) ?_
 rcases r_ with r_1 | r_2
 · simp only [Sum.elim_inl, Sum.elim_inr] at hm
   rintro e_ w_1 ⟨rfl, k_1⟩
   have k_2 := k_.call k_1
   refine ⟨.tup [.v (.pointer none), I r_1], rfl, ?_⟩
   have k_3 := k_2.sel .z
   refine WLs 5 [] (.n 14 (.v (.pointer none)) (.n 15 (I r_1) (.ssss .a))) qe (by kernel_rfl) ?_
   refine WL_nil <| At_go <| W_seq <| W_seq <| W_q [] (.n 24 (.b (decide (r_1 ≠ 0))) .a) qe (by kernel_rfl) ?_
   refine At_go <| W_condp (r_1 ≠ 0) (by kernel_rfl) (fun hc => ?_) (fun hc => ?_)
   · rw [if_pos hc] at hm
     refine W_seq <| W_q [] (.n 12 (sl none 0 0) (.n 13 (I r_1) .z)) qe (by kernel_rfl) ?_
     refine At_go <| W_ret (At_tr ?_)
     have k_4 := k_3.nil e8
     obtain rfl := Option.some.inj hm
     refine At_rt [sl none 0 0, I r_1] qe (by kernel_rfl) ?_
     exact ⟨none, 0, 0, k_4.len 0 rfl, rfl, k_4⟩
   rw [if_neg hc] at hm
   refine W_skip <| At_go <| W_seq <| W_seq <| W_reg <| WLs 3 [] (.n 28 (.b (decide (out < 1))) (.s (.k (.s .a)))) qe (by kernel_rfl) ?_
   refine WL_sp 28 (decide (out < 1)) (.s .a) (by kernel_rfl) (fun hg => ?_) (fun hg => ?_)
   · rw [if_pos (of_decide_eq_true hg)] at hm
     refine WLs 5 [28] (.n 33 (.b true) (.s (.k (.s .a)))) qe (by kernel_rfl) ?_
     refine WL_nil <| At_go <| W_cond true (by kernel_rfl) (fun _ => ?_) (fun h => by cases h)
     refine W_seq <| W_q [] (.n 12 (sl none 0 0) (.n 13 (I 1) .z)) qe (by kernel_rfl) ?_
     refine At_go <| W_ret (At_tr ?_)
     have k_5 := k_3.nil e8
     obtain rfl := Option.some.inj hm
     refine At_rt [sl none 0 0, I 1] qe (by kernel_rfl) ?_
     exact ⟨none, 0, 0, k_5.len 0 rfl, rfl, k_5⟩
   · rw [if_neg (of_decide_eq_false hg)] at hm
     refine WLs 2 [28] (.n 29 (I out) (.n 30 (I kind) (.kk (.s .a)))) qe (by kernel_rfl) ?_
     refine WL_op ?_
     obtain ⟨r_3, h_r_3, hm⟩ := ob hm
     refine Op_call [28] 31 _ yz_go60 (by kernel_rfl) (c_r05_Full (F := N0) (O := N0) _ (Cx.refl _) _ h_r_3) ?_
     rintro e_ w_2 ⟨rfl, k_6⟩
     have k_7 := k_3.call k_6
     refine ⟨I r_3, rfl, ?_⟩
     refine WLs 2 [28] (.n 33 (.b (decide (r_3 < out))) (.ssss .a)) qe (by kernel_rfl) ?_
     refine WL_nil <| At_go <| W_condp (r_3 < out) (by kernel_rfl) (fun hc1 => ?_) (fun hc1 => ?_)
     · rw [if_pos hc1] at hm
       refine W_seq <| W_q [] (.n 12 (sl none 0 0) (.n 13 (I 1) .z)) qe (by kernel_rfl) ?_
       refine At_go <| W_ret (At_tr ?_)
       have k_8 := k_7.nil e8
       obtain rfl := Option.some.inj hm
       refine At_rt [sl none 0 0, I 1] qe (by kernel_rfl) ?_
       exact ⟨none, 0, 0, k_8.len 0 rfl, rfl, k_8⟩
     rw [if_neg hc1] at hm
     cases hm
 · simp only [Sum.elim_inl, Sum.elim_inr] at hm
   rintro e_ w_3 ⟨g1, A0, _, c0, rfl, rfl, k_9⟩
   have k_10 := k_.call k_9
   refine ⟨.tup [pt g1 0, I 0], rfl, ?_⟩
   have k_11 := k_10.sel (.s (.kk .e))
   refine WLs 5 [] (.n 14 (pt g1 0) (.n 15 (I 0) (.ssss .a))) qe (by kernel_rfl) ?_
   refine WL_nil <| At_go <| W_seq <| W_seq <| W_q [] (.n 24 (.b (decide (0 ≠ 0))) .a) qe (by kernel_rfl) ?_
   refine At_go <| W_condp (0 ≠ 0) (by kernel_rfl) (fun hc0 => ?_) (fun hc0 => ?_)
   · rw [if_pos hc0] at hm
     refine W_seq <| W_q [] (.n 12 (sl none 0 0) (.n 13 (I 0) .z)) qe (by kernel_rfl) ?_
     refine At_go <| W_ret (At_tr ?_)
     have k_12 := k_11.nil e8
     obtain rfl := Option.some.inj hm
     refine At_rt [sl none 0 0, I 0] qe (by kernel_rfl) ?_
     have k_13 := k_12.sel (.ss (.k .e))
     exact ⟨none, 0, 0, k_13.len 0 rfl, rfl, k_13⟩
   rw [if_neg hc0] at hm
   refine W_skip <| At_go <| W_seq <| W_seq <| W_reg <| WLs 3 [] (.n 28 (.b (decide (out < 1))) (.s (.k (.s .a)))) qe (by kernel_rfl) ?_
   refine WL_sp 28 (decide (out < 1)) (.s .a) (by kernel_rfl) (fun hg0 => ?_) (fun hg0 => ?_)
   · rw [if_pos (of_decide_eq_true hg0)] at hm
     refine WLs 5 [28] (.n 33 (.b true) (.s (.k (.s .a)))) qe (by kernel_rfl) ?_
     refine WL_nil <| At_go <| W_cond true (by kernel_rfl) (fun _ => ?_) (fun h => by cases h)
     refine W_seq <| W_q [] (.n 12 (sl none 0 0) (.n 13 (I 1) .z)) qe (by kernel_rfl) ?_
     refine At_go <| W_ret (At_tr ?_)
     have k_14 := k_11.nil e8
     obtain rfl := Option.some.inj hm
     refine At_rt [sl none 0 0, I 1] qe (by kernel_rfl) ?_
     have k_15 := k_14.sel (.ss (.k .e))
     exact ⟨none, 0, 0, k_15.len 0 rfl, rfl, k_15⟩
   · rw [if_neg (of_decide_eq_false hg0)] at hm
     refine WLs 2 [28] (.n 29 (I out) (.n 30 (I kind) (.kk (.s .a)))) qe (by kernel_rfl) ?_
     refine WL_op ?_
     obtain ⟨r_4, h_r_4, hm⟩ := ob hm
     refine Op_call [28] 31 _ yz_go60 (by kernel_rfl) (c_r05_Full (F := N0) (O := N0) _ (Cx.refl _) _ h_r_4) ?_
     rintro e_ w_4 ⟨rfl, k_16⟩
     have k_17 := k_11.call k_16
     refine ⟨I r_4, rfl, ?_⟩
     refine WLs 2 [28] (.n 33 (.b (decide (r_4 < out))) (.ssss .a)) qe (by kernel_rfl) ?_
     refine WL_nil <| At_go <| W_condp (r_4 < out) (by kernel_rfl) (fun hc2 => ?_) (fun hc2 => ?_)
     · rw [if_pos hc2] at hm
       refine W_seq <| W_q [] (.n 12 (sl none 0 0) (.n 13 (I 1) .z)) qe (by kernel_rfl) ?_
       refine At_go <| W_ret (At_tr ?_)
       have k_18 := k_17.nil e8
       obtain rfl := Option.some.inj hm
       refine At_rt [sl none 0 0, I 1] qe (by kernel_rfl) ?_
       have k_19 := k_18.sel (.ss (.k .e))
       exact ⟨none, 0, 0, k_19.len 0 rfl, rfl, k_19⟩
     rw [if_neg hc2] at hm
     refine W_skip <| At_go <| W_seq <| W_reg <| WLs 4 [] (.n 35 (.b last) (.n 37 (pt g1 13) (.s (.k (.s .a))))) (qs g1 0 <| qs g1 0 <| qe) (by kernel_rfl) ?_
     refine WL_op <| Op_b [] 0 (.b last) [.b last] (Pt.at g1 13) k_17 rfl (.kkkk (.kkkk (.kkkk (.k .h)))) (by kernel_rfl) (by kernel_rfl) ?_
     intro w_5 k_20
     refine WL_nil <| At_go <| W_seq <| W_reg <| WLs 2 [] (.n 38 (pt g1 0) (.n 39 (sl A_data data.length c_data) (.ss (.kk .z)))) qe (by kernel_rfl) ?_
     refine WL_op ?_
     have k_21 := k_20.sel (.kk .e)
     obtain ⟨r_5, h_r_5, hm⟩ := ob hm
     obtain ⟨F1, O1, kin, hO, hre, hF, hb⟩ := k_21.go (.i (.i .e))
     refine Op_call [] 40 _ yz_go61 (by kernel_rfl) (c_r05_Node_Write (F := F1) (O := O1) _ _ _ _ _ _ _ _ _ _ _ _ _ _ _ _ _ _ _ _ _ _ _ _ _ _ _ _ _ _ _ _ _ _ _ _ _ (Ro.of_old h_p_Salt k_21 hF) rfl hc_p_Salt (Ro.of_old h_p_Personal k_21 hF) rfl hc_p_Personal (Ro.of_old h_key k_21 hF) rfl hc_key (Ro.of_old h_data k_21 hF) rfl hc_data kin _ h_r_5) ?_
     rintro e_ w_6 ⟨A1, _, c1, rfl, rfl, k_22⟩
     have k_23 := hb w_6 _ _ k_22 (.c (.c .n))
     refine ⟨.tup [], rfl, ?_⟩
     refine WL_nil <| At_go <| W_seq <| W_reg <| WLs 1 [] (.n 41 (pt g1 0) (.ssss .a)) qe (by kernel_rfl) ?_
     refine WL_op ?_
     obtain ⟨r_6, h_r_6, hm⟩ := ob hm
     obtain ⟨F11, O11, kin1, hO1, hre1, hF1, hb1⟩ := k_23.go (.i (.i .e))
     refine Op_call [] 42 _ yz_go62 (by kernel_rfl) (c_r05_Node_Out (F := F11) (O := O11) _ _ _ _ _ _ _ _ _ _ _ _ _ _ _ _ _ _ _ _ _ _ _ _ _ _ _ _ _ _ _ _ _ (Ro.of_old h_p_Salt k_23 hF1) rfl hc_p_Salt (Ro.of_old h_p_Personal k_23 hF1) rfl hc_p_Personal (Ro.of_old h_key k_23 hF1) rfl hc_key kin1 _ h_r_6) ?_
     rintro e_ w_7 ⟨A2, _, c2, A3, _, c3, rfl, rfl, rfl, k_24⟩
     have k_25 := hb1 w_7 _ _ k_24 (.c (.c (.c .n)))
     refine ⟨sl A2 r_6.1.length c2, rfl, ?_⟩
     have k_26 := k_25.sel (.k .z)
     obtain ⟨b, h_b, hm⟩ := ob hm
     have hs := slc_some h_b
     have hl := slc_len h_b
     have hn : r_6.1.length = r_6.1.length := (k_26.len 0 rfl)
     have hc3 : r_6.1.length ≤ c2 := (k_26.lec 0 rfl)
     have hc4 : b.length ≤ c2 := by omega
     refine WLs 4 [] (.n 12 (sl A2 b.length c2) (.n 13 (I 0) .z)) (qp (0 ≤ out ∧ out ≤ ((c2 : Nat) : Int)) (by omega) <| qo (.v (.slice A2 b.length c2)) <| qp (Value.slice (slA A2 0 c2 1) (Int.toNat out - 0) (c2 - 0) = .slice A2 b.length c2) (slx0 _ _ _ _ _ (by omega)) <| qe) (by kernel_rfl) ?_
     refine WL_nil <| At_go <| W_ret ?_
     have k_27 := k_26.pre 0 rfl b.length c2 b (by omega) (by omega) (by omega) (slc_pre h_b rfl)
     obtain rfl := Option.some.inj hm
     refine At_rt [sl A2 b.length c2, I 0] qe (by kernel_rfl) ?_
     exact ⟨A2, b.length, c2, k_27.len 0 rfl, rfl, k_27⟩

-- quern/quernref06.Make
noncomputable def m_r06_Make (kind : Int) (n : Int) (key : List UInt8) (salt : List UInt8) (personal : List UInt8) (data : List UInt8) : Option (List UInt8 × Int) :=
  (m_r02_Check kind n ((key.length : Nat) : Int) (1 : Int) (1 : Int) (0 : UInt32) (0 : UInt64) (0 : UInt32) (0 : Int) (0 : Int) salt personal).bind fun r_ => if r_ ≠ 0 then (some (([] : List UInt8), r_)) else ((m_r05_Hash kind n ((key.length : Nat) : Int) (1 : Int) (1 : Int) (0 : UInt32) (0 : UInt64) (0 : UInt32) (0 : Int) (0 : Int) salt personal key false n data).bind fun r_1 => some (r_1.1, r_1.2))
theorem c_r06_Make {F O : Nat → Prop} {w : World} (kind : Int) (n : Int) (key : List UInt8) (salt : List UInt8) (personal : List UInt8) (data : List UInt8) (A_key : Option Addr) (n_key : Nat) (c_key : Nat) (A_salt : Option Addr) (n_salt : Nat) (c_salt : Nat) (A_personal : Option Addr) (n_personal : Nat) (c_personal : Nat) (A_data : Option Addr) (n_data : Nat) (c_data : Nat) (h_key : Ro F w A_key (e8.all key)) (hn_key : key.length = n_key) (hc_key : n_key ≤ c_key) (h_salt : Ro F w A_salt (e8.all salt)) (hn_salt : salt.length = n_salt) (hc_salt : n_salt ≤ c_salt) (h_personal : Ro F w A_personal (e8.all personal)) (hn_personal : personal.length = n_personal) (hc_personal : n_personal ≤ c_personal) (h_data : Ro F w A_data (e8.all data)) (hn_data : data.length = n_data) (hc_data : n_data ≤ c_data) (k : Cx F O w w []) (r : (List UInt8 × Int)) (hm : m_r06_Make kind n key salt personal data = some r) :
    Calls Tryz.prog 12 (vals [I kind, I n, sl A_key n_key c_key, sl A_salt n_salt c_salt, sl A_personal n_personal c_personal, sl A_data n_data c_data]) w (fun e w' => ∃ A n1 c, r.1.length = n1 ∧ e = .returned (SV.val (.tup [sl A n1 c, I r.2])) ∧ Cx F O w w' [Ow e8 A n1 c r.1]) := by
 unfold m_r06_Make at hm
 subst hn_key
 subst hn_salt
 subst hn_personal
 subst hn_data
 refine calls [I kind, I n, sl A_key key.length c_key, sl A_salt salt.length c_salt, sl A_personal personal.length c_personal, sl A_data data.length c_data] Tryz.func12 rfl (of_decide_eq_true (by kernel_rfl)) ?_
 refine W_seq <| W_q [] .a qe (by kernel_rfl) ?_
 refine At_go <| W_seq <| W_reg <| WLs 6 [] (.n 21 (.agg [I n, I ((key.length : Nat) : Int), I 1, I 1, .u32 0, .u64 0, .u32 0, I 0, I 0, sl A_salt salt.length c_salt, sl A_personal personal.length c_personal]) (.kkk (.ss .a))) qe (by kernel_rfl) ?_
 refine WL_op <| Op_alloc [] 14 [I 0, I 0, I 0, I 0, .u32 0, .u64 0, .u32 0, I 0, I 0, sl none 0 0, sl none 0 0] (by kernel_rfl) k ?_
 intro g w_ k_
 refine WL_op <| Op_b [] 0 (.agg [I n, I ((key.length : Nat) : Int), I 1, I 1, .u32 0, .u64 0, .u32 0, I 0, I 0, sl A_salt salt.length c_salt, sl A_personal personal.length c_personal]) [I n, I ((key.length : Nat) : Int), I 1, I 1, .u32 0, .u64 0, .u32 0, I 0, I 0, sl A_salt salt.length c_salt, sl A_personal personal.length c_personal] (Pt.at g 0) k_ rfl .all (by kernel_rfl) (by kernel_rfl) ?_
 intro w_1 k_1
 refine WL_nil <| At_go <| W_seq <| W_reg <| WLs 2 [] (.n 22 (I kind) (.n 23 (.agg [I n, I ((key.length : Nat) : Int), I 1, I 1, .u32 0, .u64 0, .u32 0, I 0, I 0, sl A_salt salt.length c_salt, sl A_personal personal.length c_personal]) (.k (.s .a)))) (qT k_1 0 rfl 0 11 [I n, I ((key.length : Nat) : Int), I 1, I 1, .u32 0, .u64 0, .u32 0, I 0, I 0, sl A_salt salt.length c_salt, sl A_personal personal.length c_personal] (by kernel_rfl) (by decide) <| qe) (by kernel_rfl) ?_
 refine WL_op ?_
 obtain ⟨r_, h_r_, hm⟩ := ob hm
 refine Op_call [] 24 _ yz_go42 (by kernel_rfl) (c_r02_Check (F := N0) (O := N0) _ _ _ _ _ _ _ _ _ _ _ _ _ _ _ _ _ _ (Ro.n0 (h_salt.cx k_1)) rfl hc_salt (Ro.n0 (h_personal.cx k_1)) rfl hc_personal (Cx.refl _) _ h_r_) ?_
 rintro e_ w_2 ⟨rfl, k_2⟩
 have k_3 := k_1.call k_2
 refine ⟨I r_, rfl, ?_⟩
 refine WLs 1 [] (.n 15 (I r_) (.sss .a)) qe (by kernel_rfl) ?_
 refine WL_nil <| At_go <| W_seq <| W_seq <| W_q [] (.n 26 (.b (decide (r_ ≠ 0))) .a) qe (by kernel_rfl) ?_
 refine At_go <| W_condp (r_ ≠ 0) (by kernel_rfl) (fun hc => ?_) (fun hc => ?_)
 · rw [if_pos hc] at hm
   refine W_seq <| W_q [] (.n 12 (sl none 0 0) (.n 13 (I r_) .z)) qe (by kernel_rfl) ?_
   refine At_go <| W_ret (At_tr ?_)
   have k_4 := k_3.nil e8
   obtain rfl := Option.some.inj hm
   refine At_rt [sl none 0 0, I r_] qe (by kernel_rfl) ?_
   have k_5 := k_4.sel (.s (.k .e))
   exact ⟨none, 0, 0, k_5.len 0 rfl, rfl, k_5⟩
 rw [if_neg hc] at hm
 refine W_skip <| At_go <| W_seq <| W_reg <| WLs 5 [] (.n 28 (I kind) (.n 29 (.agg [I n, I ((key.length : Nat) : Int), I 1, I 1, .u32 0, .u64 0, .u32 0, I 0, I 0, sl A_salt salt.length c_salt, sl A_personal personal.length c_personal]) (.n 30 (sl A_key key.length c_key) (.n 31 (I n) (.n 32 (sl A_data data.length c_data) .z))))) (qT k_3 0 rfl 0 11 [I n, I ((key.length : Nat) : Int), I 1, I 1, .u32 0, .u64 0, .u32 0, I 0, I 0, sl A_salt salt.length c_salt, sl A_personal personal.length c_personal] (by kernel_rfl) (by decide) <| qe) (by kernel_rfl) ?_
 refine WL_op ?_
 obtain ⟨r_1, h_r_1, hm⟩ := ob hm
 refine Op_call [] 33 _ yz_go43 (by kernel_rfl) (c_r05_Hash (F := N0) (O := N0) _ _ _ _ _ _ _ _ _ _ _ _ _ _ _ _ _ _ _ _ _ _ _ _ _ _ _ _ (Ro.n0 (h_salt.cx k_3)) rfl hc_salt (Ro.n0 (h_personal.cx k_3)) rfl hc_personal (Ro.n0 (h_key.cx k_3)) rfl hc_key (Ro.n0 (h_data.cx k_3)) rfl hc_data (Cx.refl _) _ h_r_1) ?_
 rintro e_ w_3 ⟨A0, _, c0, rfl, rfl, k_6⟩
 have k_7 := k_3.call k_6
 refine ⟨.tup [sl A0 r_1.1.length c0, I r_1.2], rfl, ?_⟩
 have k_8 := k_7.sel (.s (.k .e))
 refine WLs 4 [] (.n 12 (sl A0 r_1.1.length c0) (.n 13 (I r_1.2) .z)) qe (by kernel_rfl) ?_
 refine WL_nil <| At_go <| W_ret ?_
 obtain rfl := Option.some.inj hm
 refine At_rt [sl A0 r_1.1.length c0, I r_1.2] qe (by kernel_rfl) ?_
 exact ⟨A0, r_1.1.length, c0, k_8.len 0 rfl, rfl, k_8⟩

-- quern/quernref06.Sum
noncomputable def m_r06_Sum (kind : Int) (n : Int) (data : List UInt8) : Option (List UInt8 × Int) :=
  (m_r06_Make kind n ([] : List UInt8) ([] : List UInt8) ([] : List UInt8) data).bind fun r_ => some (r_.1, r_.2)
theorem c_r06_Sum {F O : Nat → Prop} {w : World} (kind : Int) (n : Int) (data : List UInt8) (A_data : Option Addr) (n_data : Nat) (c_data : Nat) (h_data : Ro F w A_data (e8.all data)) (hn_data : data.length = n_data) (hc_data : n_data ≤ c_data) (k : Cx F O w w []) (r : (List UInt8 × Int)) (hm : m_r06_Sum kind n data = some r) :
    Calls Tryz.prog 9 (vals [I kind, I n, sl A_data n_data c_data]) w (fun e w' => ∃ A n1 c, r.1.length = n1 ∧ e = .returned (SV.val (.tup [sl A n1 c, I r.2])) ∧ Cx F O w w' [Ow e8 A n1 c r.1]) := by
 unfold m_r06_Sum at hm
 subst hn_data
 refine calls [I kind, I n, sl A_data data.length c_data] Tryz.func9 rfl (of_decide_eq_true (by kernel_rfl)) ?_
 refine W_seq <| W_q [] .a qe (by kernel_rfl) ?_
 refine At_go <| W_seq <| W_reg <| WLs 3 [] (.n 8 (I kind) (.n 9 (I n) (.n 10 (sl A_data data.length c_data) .z))) qe (by kernel_rfl) ?_
 refine WL_op ?_
 obtain ⟨r_, h_r_, hm⟩ := ob hm
 refine Op_call [] 11 _ yz_go12 (by kernel_rfl) (c_r06_Make (F := N0) (O := N0) _ _ _ _ _ _ _ _ _ _ _ _ _ _ _ _ _ _ (Ro.nilE e8) rfl (Nat.le_refl 0) (Ro.nilE e8) rfl (Nat.le_refl 0) (Ro.nilE e8) rfl (Nat.le_refl 0) (Ro.n0 (h_data.cx k)) rfl hc_data (Cx.refl _) _ h_r_) ?_
 rintro e_ w_ ⟨A0, _, c0, rfl, rfl, k_⟩
 have k_1 := k.call k_
 refine ⟨.tup [sl A0 r_.1.length c0, I r_.2], rfl, ?_⟩
 refine WLs 4 [] (.n 6 (sl A0 r_.1.length c0) (.n 7 (I r_.2) .z)) qe (by kernel_rfl) ?_
 refine WL_nil <| At_go <| W_ret ?_
 obtain rfl := Option.some.inj hm
 refine At_rt [sl A0 r_.1.length c0, I r_.2] qe (by kernel_rfl) ?_
 exact ⟨A0, r_.1.length, c0, k_1.len 0 rfl, rfl, k_1⟩

-- quern/quernlaw06.same
noncomputable def m_l06_same_l0 (a_ : List UInt8) (b : List UInt8) : Int → Option (Int ⊕ Bool)
  | i => if i < ((a_.length : Nat) : Int) then ((geti a_ i).bind fun x_0 => (geti b i).bind fun x_1 => if x_0 ≠ x_1 then (Option.map Sum.inr (some false)) else (some (.inl (w64 (i + 1))))) else (Option.map Sum.inr (some true))
noncomputable def m_l06_same (a_ : List UInt8) (b : List UInt8) : Option Bool :=
  if ((a_.length : Nat) : Int) ≠ ((b.length : Nat) : Int) then (some false) else (whileO (m_l06_same_l0 a_ b) (0 : Int))
theorem c_l06_same {F O : Nat → Prop} {w : World} (a_ : List UInt8) (b : List UInt8) (A_a_ : Option Addr) (n_a_ : Nat) (c_a_ : Nat) (A_b : Option Addr) (n_b : Nat) (c_b : Nat) (h_a_ : Ro F w A_a_ (e8.all a_)) (hn_a_ : a_.length = n_a_) (hc_a_ : n_a_ ≤ c_a_) (h_b : Ro F w A_b (e8.all b)) (hn_b : b.length = n_b) (hc_b : n_b ≤ c_b) (k : Cx F O w w []) (r : Bool) (hm : m_l06_same a_ b = some r) :
    Calls Tryz.prog 10 (vals [sl A_a_ n_a_ c_a_, sl A_b n_b c_b]) w (fun e w' => e = .returned (SV.val (.b r)) ∧ Cx F O w w' []) := by
 unfold m_l06_same at hm
 subst hn_a_
 subst hn_b
 refine calls [sl A_a_ a_.length c_a_, sl A_b b.length c_b] Tryz.func10 rfl (of_decide_eq_true (by kernel_rfl)) ?_
 refine W_seq <| W_q [] .a qe (by kernel_rfl) ?_
 refine At_go <| W_seq <| W_seq <| W_q [] (.n 10 (.b (decide (((a_.length : Nat) : Int) ≠ ((b.length : Nat) : Int)))) .a) qe (by kernel_rfl) ?_
 refine At_go <| W_condp (((a_.length : Nat) : Int) ≠ ((b.length : Nat) : Int)) (by kernel_rfl) (fun hc => ?_) (fun hc => ?_)
 · rw [if_pos hc] at hm
   refine W_seq <| W_q [] (.n 4 (.b false) .z) qe (by kernel_rfl) ?_
   refine At_go <| W_ret (At_tr ?_)
   obtain rfl := Option.some.inj hm
   refine At_rt [.b false] qe (by kernel_rfl) ?_
   exact ⟨rfl, k⟩
 rw [if_neg hc] at hm
 refine W_skip <| At_go <| W_seq <| W_seq <| W_q [] (.n 5 (I 0) (.s .a)) qe (by kernel_rfl) ?_
 refine At_go <| W_block <| W_lp (m_l06_same_l0 a_ b) (fun s L wr => ∃ (i : Int), i = s ∧ L = [(0, sl A_a_ a_.length c_a_), (1, sl A_b b.length c_b), (5, I i)] ∧ Cx F O w wr []) (0 : Int) r hm ⟨(0 : Int), rfl, rfl, k⟩ (by kernel_rfl) ?_
 intro s0_ L_ w_ y0 hrel hstep hr0
 obtain ⟨i, rfl, rfl, k_⟩ := hrel
 have hm := hstep; simp only [m_l06_same_l0] at hm
 clear hstep
 refine W_seq <| W_seq <| W_q [] (.n 14 (.b (decide (i < ((a_.length : Nat) : Int)))) .a) qe (by kernel_rfl) ?_
 refine At_go <| W_condp (i < ((a_.length : Nat) : Int)) (by kernel_rfl) (fun hc1 => ?_) (fun hc1 => ?_)
 · rw [if_pos hc1] at hm
   refine W_skip <| At_go <| W_seq <| W_block <| W_seq ?_
   obtain ⟨x_0, h_x_0, hm⟩ := ob hm
   obtain ⟨x_1, h_x_1, hm⟩ := ob hm
   refine W_d yz_mixed (by kernel_rfl) (.n 25 (.b (decide (x_0 ≠ x_1))) (.s .a)) (fun m => qW (h_a_.cx (k_.drew m)) h_x_0 rfl (.u8 x_0) rfl <| qW (h_b.cx (k_.drew m)) h_x_1 rfl (.u8 x_1) rfl <| qe) (by kernel_rfl) (fun m_ => ?_)
   have k_1 := k_.drew m_
   refine At_go <| W_condp (x_0 ≠ x_1) (by kernel_rfl) (fun hc2 => ?_) (fun hc2 => ?_)
   · rw [if_pos hc2] at hm
     refine W_seq <| W_q [] (.n 4 (.b false) .z) qe (by kernel_rfl) ?_
     refine At_go <| W_ret (At_ir (At_tr (At_tr (At_ir (At_tr ?_)))))
     have hm := exit_of hm hr0
     obtain rfl := Option.some.inj hm
     refine At_rt [.b false] qe (by kernel_rfl) ?_
     exact ⟨rfl, k_1⟩
   rw [if_neg hc2] at hm
   refine W_skip <| At_in <| At_go <| W_q [] (.n 5 (I (w64 (i + 1))) (.s (.kk .z))) qe (by kernel_rfl) ?_
   exact At_rd (w64 (i + 1)) (Option.some.inj hm).symm ⟨w64 (i + 1), rfl, rfl, k_1⟩ (by kernel_rfl)
 rw [if_neg hc1] at hm
 refine W_exit (At_te (At_te (At_ie ?_)))
 have hm := exit_of hm hr0
 refine At_go <| W_seq <| W_q [] (.n 4 (.b true) .z) qe (by kernel_rfl) ?_
 refine At_go <| W_ret ?_
 obtain rfl := Option.some.inj hm
 refine At_rt [.b true] qe (by kernel_rfl) ?_
 exact ⟨rfl, k_⟩
end Go.Sx
