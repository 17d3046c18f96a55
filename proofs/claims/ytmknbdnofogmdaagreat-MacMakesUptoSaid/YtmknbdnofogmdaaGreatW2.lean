import Derived.Test.YtmknbdnofogmdaaGreatW1
namespace Go.Sx
open Go.RowKit Go.Proofs
set_option linter.unusedVariables false
set_option linter.unusedSimpArgs false
set_option maxRecDepth 20000

-- quern/param.Encode
noncomputable def m_param_Encode_j0 (x_0 : Int) (b1 : List UInt8) : Option ((List UInt8 × Int) ⊕ (List UInt8 × Int)) :=
  some (.inl (b1, w64 (x_0 + 1)))
noncomputable def m_param_Encode_j1 (x_0 : Int) (b2 : List UInt8) : Option ((List UInt8 × Int) ⊕ (List UInt8 × Int)) :=
  m_param_Encode_j0 x_0 b2
noncomputable def m_param_Encode_l0 (p_Digest : Int) (p_Key : Int) (p_Fanout : Int) (p_Depth : Int) (p_Leaf : UInt32) (p_Offset : UInt64) (p_Xof : UInt32) (p_NodeDepth : Int) (p_Inner : Int) (p_Salt : List UInt8) (p_Personal : List UInt8) (r_1 : (Int × Int × Int)) (r_2 : (List (Int × Int × Int × List UInt8 × Int))) : (List UInt8 × Int) → Option ((List UInt8 × Int) ⊕ (List UInt8 × Int))
  | (b, x_0) => if x_0 < ((r_2.length : Nat) : Int) then ((geti r_2 x_0).bind fun x_2 => if ((decide (x_2.1 = 7)) && (decide (p_Xof = 0))) = true then (m_param_Encode_j1 x_0 b) else ((m_param_value p_Digest p_Key p_Fanout p_Depth p_Leaf p_Offset p_Xof p_NodeDepth p_Inner p_Salt p_Personal x_2.1).bind fun r_3 => (m_param_put b x_2.2.1 x_2.2.2.1 r_3).bind fun r_4 => m_param_Encode_j1 x_0 r_4)) else (Option.map Sum.inr ((slc b (w64 (r_1.1 - (w64 (2 * r_1.2.2)))) ((Int.toNat r_1.1 : Nat) : Int)).bind fun b3 => (slc (lcp b (Int.toNat (w64 (r_1.1 - (w64 (2 * r_1.2.2))))) b3.length p_Salt) (w64 (r_1.1 - r_1.2.2)) ((Int.toNat r_1.1 : Nat) : Int)).bind fun b4 => some (lcp (lcp b (Int.toNat (w64 (r_1.1 - (w64 (2 * r_1.2.2))))) b3.length p_Salt) (Int.toNat (w64 (r_1.1 - r_1.2.2))) b4.length p_Personal, (0 : Int))))
noncomputable def m_param_Encode (k_ : Int) (p_Digest : Int) (p_Key : Int) (p_Fanout : Int) (p_Depth : Int) (p_Leaf : UInt32) (p_Offset : UInt64) (p_Xof : UInt32) (p_NodeDepth : Int) (p_Inner : Int) (p_Salt : List UInt8) (p_Personal : List UInt8) : Option (List UInt8 × Int) :=
  (m_param_Check k_ p_Digest p_Key p_Fanout p_Depth p_Leaf p_Offset p_Xof p_NodeDepth p_Inner p_Salt p_Personal).bind fun r_ => if r_ ≠ 0 then (some (([] : List UInt8), r_)) else ((m_param_sizes k_).bind fun r_1 => (need ((0 : Int) ≤ r_1.1 ∧ (r_1.1 : Int) ≤ r_1.1 ∧ Int.toNat r_1.1 * 1 ≤ 140737488355328)).bind fun u => (m_param_rows k_).bind fun r_2 => whileO (m_param_Encode_l0 p_Digest p_Key p_Fanout p_Depth p_Leaf p_Offset p_Xof p_NodeDepth p_Inner p_Salt p_Personal r_1 r_2) (List.replicate (Int.toNat r_1.1) (0 : UInt8), (0 : Int)))
theorem c_param_Encode {F O : Nat → Prop} {w : World} (k_ : Int) (p_Digest : Int) (p_Key : Int) (p_Fanout : Int) (p_Depth : Int) (p_Leaf : UInt32) (p_Offset : UInt64) (p_Xof : UInt32) (p_NodeDepth : Int) (p_Inner : Int) (p_Salt : List UInt8) (p_Personal : List UInt8) (A_p_Salt : Option Addr) (n_p_Salt : Nat) (c_p_Salt : Nat) (A_p_Personal : Option Addr) (n_p_Personal : Nat) (c_p_Personal : Nat) (h_p_Salt : Ro F w A_p_Salt (e8.all p_Salt)) (hn_p_Salt : p_Salt.length = n_p_Salt) (hc_p_Salt : n_p_Salt ≤ c_p_Salt) (h_p_Personal : Ro F w A_p_Personal (e8.all p_Personal)) (hn_p_Personal : p_Personal.length = n_p_Personal) (hc_p_Personal : n_p_Personal ≤ c_p_Personal) (k : Cx F O w w []) (r : (List UInt8 × Int)) (hm : m_param_Encode k_ p_Digest p_Key p_Fanout p_Depth p_Leaf p_Offset p_Xof p_NodeDepth p_Inner p_Salt p_Personal = some r) :
    Calls Tryz.prog 89 (vals [I k_, .agg [I p_Digest, I p_Key, I p_Fanout, I p_Depth, .u32 p_Leaf, .u64 p_Offset, .u32 p_Xof, I p_NodeDepth, I p_Inner, sl A_p_Salt n_p_Salt c_p_Salt, sl A_p_Personal n_p_Personal c_p_Personal]]) w (fun e w' => ∃ A n c, r.1.length = n ∧ e = .returned (SV.val (.tup [sl A n c, I r.2])) ∧ Cx F O w w' [Ow e8 A n c r.1]) := by
 unfold m_param_Encode at hm
 subst hn_p_Salt
 subst hn_p_Personal
 refine calls [I k_, .agg [I p_Digest, I p_Key, I p_Fanout, I p_Depth, .u32 p_Leaf, .u64 p_Offset, .u32 p_Xof, I p_NodeDepth, I p_Inner, sl A_p_Salt p_Salt.length c_p_Salt, sl A_p_Personal p_Personal.length c_p_Personal]] Tryz.func89 rfl (of_decide_eq_true (by kernel_rfl)) ?_
 refine W_seq <| W_reg <| WL_op <| Op_box [] 3 (.agg [I p_Digest, I p_Key, I p_Fanout, I p_Depth, .u32 p_Leaf, .u64 p_Offset, .u32 p_Xof, I p_NodeDepth, I p_Inner, sl A_p_Salt p_Salt.length c_p_Salt, sl A_p_Personal p_Personal.length c_p_Personal]) [I p_Digest, I p_Key, I p_Fanout, I p_Depth, .u32 p_Leaf, .u64 p_Offset, .u32 p_Xof, I p_NodeDepth, I p_Inner, sl A_p_Salt p_Salt.length c_p_Salt, sl A_p_Personal p_Personal.length c_p_Personal] (by kernel_rfl) k ?_
 intro g w_ k_1
 refine WLs 2 [] (.kk .z) qe (by kernel_rfl) ?_
 refine WL_nil <| At_go <| W_seq <| W_seq <| W_reg <| WLs 2 [] (.n 13 (I k_) (.n 14 (.agg [I p_Digest, I p_Key, I p_Fanout, I p_Depth, .u32 p_Leaf, .u64 p_Offset, .u32 p_Xof, I p_NodeDepth, I p_Inner, sl A_p_Salt p_Salt.length c_p_Salt, sl A_p_Personal p_Personal.length c_p_Personal]) .a)) (qT k_1 0 rfl 0 11 [I p_Digest, I p_Key, I p_Fanout, I p_Depth, .u32 p_Leaf, .u64 p_Offset, .u32 p_Xof, I p_NodeDepth, I p_Inner, sl A_p_Salt p_Salt.length c_p_Salt, sl A_p_Personal p_Personal.length c_p_Personal] (by kernel_rfl) (by decide) <| qe) (by kernel_rfl) ?_
 refine WL_op ?_
 obtain ⟨r_, h_r_, hm⟩ := ob hm
 refine Op_call [] 15 _ yz_go57 (by kernel_rfl) (c_param_Check (F := N0) (O := N0) _ _ _ _ _ _ _ _ _ _ _ _ _ _ _ _ _ _ (Ro.n0 (h_p_Salt.cx k_1)) rfl hc_p_Salt (Ro.n0 (h_p_Personal.cx k_1)) rfl hc_p_Personal (Cx.refl _) _ h_r_) ?_
 rintro e_ w_1 ⟨rfl, k_2⟩
 have k_3 := k_1.call k_2
 refine ⟨I r_, rfl, ?_⟩
 refine WLs 1 [] (.n 6 (I r_) (.sss .a)) qe (by kernel_rfl) ?_
 refine WL_nil <| At_go <| W_seq <| W_q [] (.n 17 (.b (decide (r_ ≠ 0))) .a) qe (by kernel_rfl) ?_
 refine At_go <| W_condp (r_ ≠ 0) (by kernel_rfl) (fun hc => ?_) (fun hc => ?_)
 · rw [if_pos hc] at hm
   refine W_seq <| W_q [] (.n 4 (sl none 0 0) (.n 5 (I r_) .z)) qe (by kernel_rfl) ?_
   refine At_go <| W_ret (At_tr ?_)
   have k_4 := k_3.nil e8
   obtain rfl := Option.some.inj hm
   refine At_rt [sl none 0 0, I r_] qe (by kernel_rfl) ?_
   have k_5 := k_4.sel (.s (.k .e))
   exact ⟨none, 0, 0, k_5.len 0 rfl, rfl, k_5⟩
 rw [if_neg hc] at hm
 refine W_skip <| At_go <| W_seq <| W_reg <| WLs 1 [] (.n 20 (I k_) (.ss .a)) qe (by kernel_rfl) ?_
 refine WL_op ?_
 obtain ⟨r_1, h_r_1, hm⟩ := ob hm
 refine Op_call [] 21 _ yz_go67 (by kernel_rfl) (c_param_sizes (F := N0) (O := N0) _ (Cx.refl _) _ h_r_1) ?_
 rintro e_ w_2 ⟨rfl, k_6⟩
 have k_7 := k_3.call k_6
 refine ⟨.tup [I r_1.1, I r_1.2.1, I r_1.2.2], rfl, ?_⟩
 refine WLs 7 [] (.n 7 (I r_1.1) (.n 9 (I r_1.2.2) (.ss .a))) qe (by kernel_rfl) ?_
 refine WL_nil <| At_go <| W_seq <| W_reg <| WLs 1 [] (.n 25 (I r_1.1) .a) qe (by kernel_rfl) ?_
 refine WL_op ?_
 obtain ⟨u, h_u, hm⟩ := ob hm
 refine Op_make yz_tf22 e8 (0 : UInt8) rfl [] 26 (I r_1.1) (I r_1.1) r_1.1 r_1.1 (by kernel_rfl) (need_some h_u).1 (need_some h_u).2.1 (need_some h_u).2.2 k_7 ?_
 intro A0 w_3 k_8
 refine WLs 1 [] (.n 10 (sl A0 (Int.toNat r_1.1) (Int.toNat r_1.1)) (.ss .a)) qe (by kernel_rfl) ?_
 refine WL_nil <| At_go <| W_seq <| W_seq <| W_reg <| WLs 1 [] (.n 27 (I k_) (.kkkk .z)) qe (by kernel_rfl) ?_
 refine WL_op ?_
 have k_9 := k_8.sel (.kk .e)
 obtain ⟨r_2, h_r_2, hm⟩ := ob hm
 refine Op_call [] 28 _ yz_go104 (by kernel_rfl) (c_param_rows (F := N0) (O := N0) _ (Cx.refl _) _ h_r_2) ?_
 rintro e_ w_4 ⟨A1, _, c0, rfl, rfl, k_10⟩
 have k_11 := k_9.call k_10
 refine ⟨sl A1 r_2.length c0, rfl, ?_⟩
 refine WLs 2 [] (.n 29 (I ((r_2.length : Nat) : Int)) (.n 30 (I 0) (.k (.s .a)))) qe (by kernel_rfl) ?_
 refine WL_nil <| At_go <| W_block <| W_lp (m_param_Encode_l0 p_Digest p_Key p_Fanout p_Depth p_Leaf p_Offset p_Xof p_NodeDepth p_Inner p_Salt p_Personal r_1 r_2) (fun s L wr => ∃ (b : List UInt8) (x_0 : Int), (b, x_0) = s ∧ L = [(3, pt g 0), (7, I r_1.1), (9, I r_1.2.2), (10, sl A0 (Int.toNat r_1.1) (Int.toNat r_1.1)), (28, sl A1 r_2.length c0), (29, I ((r_2.length : Nat) : Int)), (30, I x_0)] ∧ Cx F O w wr [Bx 83 g [I p_Digest, I p_Key, I p_Fanout, I p_Depth, .u32 p_Leaf, .u64 p_Offset, .u32 p_Xof, I p_NodeDepth, I p_Inner, sl A_p_Salt p_Salt.length c_p_Salt, sl A_p_Personal p_Personal.length c_p_Personal], Ow e8 A0 (Int.toNat r_1.1) (Int.toNat r_1.1) b, Ow (eP eI (eP eI (eP eI (eP eS eI)))) A1 r_2.length c0 r_2]) (List.replicate (Int.toNat r_1.1) (0 : UInt8), (0 : Int)) r hm ⟨List.replicate (Int.toNat r_1.1) (0 : UInt8), (0 : Int), rfl, rfl, k_11⟩ (by kernel_rfl) ?_
 intro s0_ L_ w_5 y0 hrel hstep hr0
 obtain ⟨b, x_0, rfl, rfl, k_12⟩ := hrel
 have hm := hstep; simp only [m_param_Encode_l0] at hm
 clear hstep
 refine W_seq <| W_q [] (.n 31 (.b (decide (x_0 < ((r_2.length : Nat) : Int)))) .a) qe (by kernel_rfl) ?_
 refine At_go <| W_seq <| W_condp (x_0 < ((r_2.length : Nat) : Int)) (by kernel_rfl) (fun hc1 => ?_) (fun hc1 => ?_)
 · rw [if_pos hc1] at hm
   refine W_skip <| At_go <| W_cut (fun L wr => ∃ (b1 : List UInt8), m_param_Encode_j0 x_0 b1 = some y0 ∧ L = [(3, pt g 0), (7, I r_1.1), (9, I r_1.2.2), (10, sl A0 (Int.toNat r_1.1) (Int.toNat r_1.1)), (28, sl A1 r_2.length c0), (29, I ((r_2.length : Nat) : Int)), (30, I x_0)] ∧ Cx F O w wr [Bx 83 g [I p_Digest, I p_Key, I p_Fanout, I p_Depth, .u32 p_Leaf, .u64 p_Offset, .u32 p_Xof, I p_NodeDepth, I p_Inner, sl A_p_Salt p_Salt.length c_p_Salt, sl A_p_Personal p_Personal.length c_p_Personal], Ow e8 A0 (Int.toNat r_1.1) (Int.toNat r_1.1) b1, Ow (eP eI (eP eI (eP eI (eP eS eI)))) A1 r_2.length c0 r_2]) ?_ ?_
   ·
    refine W_cutb (fun L wr => ∃ (b2 : List UInt8), m_param_Encode_j1 x_0 b2 = some y0 ∧ L = [(3, pt g 0), (7, I r_1.1), (9, I r_1.2.2), (10, sl A0 (Int.toNat r_1.1) (Int.toNat r_1.1)), (28, sl A1 r_2.length c0), (29, I ((r_2.length : Nat) : Int)), (30, I x_0)] ∧ Cx F O w wr [Bx 83 g [I p_Digest, I p_Key, I p_Fanout, I p_Depth, .u32 p_Leaf, .u64 p_Offset, .u32 p_Xof, I p_NodeDepth, I p_Inner, sl A_p_Salt p_Salt.length c_p_Salt, sl A_p_Personal p_Personal.length c_p_Personal], Ow e8 A0 (Int.toNat r_1.1) (Int.toNat r_1.1) b2, Ow (eP eI (eP eI (eP eI (eP eS eI)))) A1 r_2.length c0 r_2]) ?_ ?_
    ·
     refine W_seq <| W_reg ?_
     obtain ⟨x_2, h_x_2, hm⟩ := ob hm
     refine WLs 2 [] (.n 33 (.agg [I x_2.1, I x_2.2.1, I x_2.2.2.1, .s x_2.2.2.2.1, I x_2.2.2.2.2]) (.s .a)) (qJ (k_12.rd 2 rfl) h_x_2 (k_12.len 2 rfl) <| qR [I x_2.1, I x_2.2.1, I x_2.2.2.1, .s x_2.2.2.2.1, I x_2.2.2.2.2] (Rd.els (k := 0) (m := 5) (k_12.rd 2 rfl) h_x_2 (Pt.ix1 A1 x_0 5) rfl (by decide) (by decide)) <| qe) (by kernel_rfl) ?_
     refine WL_op <| Op_alloc [] 12 [I 0, I 0, I 0, .s ([] : List UInt8), I 0] (by kernel_rfl) k_12 ?_
     intro g1 w_6 k_13
     refine WL_op <| Op_b [] 3 (.agg [I x_2.1, I x_2.2.1, I x_2.2.2.1, .s x_2.2.2.2.1, I x_2.2.2.2.2]) [I x_2.1, I x_2.2.1, I x_2.2.2.1, .s x_2.2.2.2.1, I x_2.2.2.2.2] (Pt.at g1 0) k_13 rfl .all (by kernel_rfl) (by kernel_rfl) ?_
     intro w_7 k_14
     refine WL_nil <| At_go <| W_seq <| W_seq <| W_q [] (.n 41 (.b ((decide (x_2.1 = 7)) && (decide (p_Xof = 0)))) (.k (.s .a))) (qs g1 0 <| qB k_14 3 rfl 0 (I x_2.1) (by kernel_rfl) <| qp ((decide (x_2.1 = 7)) = true → (some ⟨g, 0, none⟩ : Option Addr).isSome = true) (fun hg0 => rfl) <| qo (.u32 p_Xof) <| qc (fun w => (decide (x_2.1 = 7)) = true → ∃ a, (some ⟨g, 6, none⟩ : Option Addr) = some a ∧ w.cell? a = some (SV.val (.u32 p_Xof))) (fun hg0 => k_14.bld 0 rfl 6 (.u32 p_Xof) (by kernel_rfl)) <| qe) (by kernel_rfl) ?_
     refine At_go <| W_cond ((decide (x_2.1 = 7)) && (decide (p_Xof = 0))) (by kernel_rfl) (fun hc2 => ?_) (fun hc2 => ?_)
     · rw [if_pos hc2] at hm
       refine W_exit (At_te (At_ie ?_))
       have k_15 := k_14.sel (.kk (.k .z))
       exact At_c ⟨b, hm, rfl, k_15⟩ (by kernel_rfl)
     rw [if_neg (by rw [hc2]; decide)] at hm
     refine W_skip <| At_go ?_
     have k_16 := k_14.drew 1
     refine W_m yz_mixed (.q 0 1 (.q 5 1 (.q 1 2 (.q 2 1 (.q 3 2 (.q 4 1 (.q 6 2 (.q 7 1 (.op 8 (.op 9 .nil)))))))))) [8, 9] k_16 (.c (.kkkk .e) (.c (.k (.s (.kk .e))) .l)) (by kernel_rfl) (fun _ => ?_)
     refine MXq 2 1 [] (.n 42 (sl A0 (Int.toNat r_1.1) (Int.toNat r_1.1)) (.n 47 (.agg [I p_Digest, I p_Key, I p_Fanout, I p_Depth, .u32 p_Leaf, .u64 p_Offset, .u32 p_Xof, I p_NodeDepth, I p_Inner, sl A_p_Salt p_Salt.length c_p_Salt, sl A_p_Personal p_Personal.length c_p_Personal]) (.s .a))) (fun x hx => qT hx 0 rfl 0 11 [I p_Digest, I p_Key, I p_Fanout, I p_Depth, .u32 p_Leaf, .u64 p_Offset, .u32 p_Xof, I p_NodeDepth, I p_Inner, sl A_p_Salt p_Salt.length c_p_Salt, sl A_p_Personal p_Personal.length c_p_Personal] (by kernel_rfl) (by decide) <| qe) (by kernel_rfl) (fun _ => ?_)
     refine MXq 1 2 [] (.n 43 (pt g1 1) .a) (fun x hx => qs g1 0 <| qe) (by kernel_rfl) (fun _ => ?_)
     refine MXq 1 1 [] (.n 44 (I x_2.2.1) (.s .a)) (fun x hx => qB hx 3 rfl 1 (I x_2.2.1) (by kernel_rfl) <| qe) (by kernel_rfl) (fun _ => ?_)
     refine MXq 1 2 [] (.n 45 (pt g1 2) .a) (fun x hx => qs g1 0 <| qe) (by kernel_rfl) (fun _ => ?_)
     refine MXq 1 1 [] (.n 46 (I x_2.2.2.1) (.s .a)) (fun x hx => qB hx 3 rfl 2 (I x_2.2.2.1) (by kernel_rfl) <| qe) (by kernel_rfl) (fun _ => ?_)
     refine MXq 1 2 [] (.n 48 (pt g1 0) (.kkkk (.s .a))) (fun x hx => qs g1 0 <| qe) (by kernel_rfl) (fun _ => ?_)
     refine MXq 1 1 [] (.n 49 (I x_2.1) (.s .a)) (fun x hx => qB hx 3 rfl 0 (I x_2.1) (by kernel_rfl) <| qe) (by kernel_rfl) (fun _ => ?_)
     refine MX_op (by kernel_rfl) rfl ?_
     obtain ⟨r_3, h_r_3, hm⟩ := ob hm
     refine Op_call [] 50 _ yz_go106 (by kernel_rfl) (c_param_value (F := N0) (O := N0) _ _ _ _ _ _ _ _ _ _ _ _ _ _ _ _ _ _ (Ro.n0 (h_p_Salt.cx k_16)) rfl hc_p_Salt (Ro.n0 (h_p_Personal.cx k_16)) rfl hc_p_Personal (Cx.refl _) _ h_r_3) ?_
     rintro e_ w_8 ⟨rfl, k_17⟩
     have k_18 := k_16.call k_17
     refine ⟨.u64 r_3, rfl, ?_⟩
     refine ⟨k_18, fun _ => ?_⟩
     refine MX_op (by kernel_rfl) rfl ?_
     obtain ⟨G, hG, k_19⟩ := k_18.openM 1 rfl
     obtain ⟨r_4, h_r_4, hm⟩ := ob hm
     obtain ⟨F1, O1, kin, hO, hre, hF, hb⟩ := k_19.go (.r (.i (.r (.r .e))))
     refine Op_call [] 51 _ yz_go105 (by kernel_rfl) (c_param_put (F := F1) (O := O1) _ _ _ _ _ _ _ _ (k_18.lec 1 rfl) kin _ h_r_4) ?_
     rintro e_ w_9 ⟨rfl, k_20⟩
     have k_21 := hb w_9 _ _ k_20 (.c .n)
     refine ⟨.tup [], rfl, ?_⟩
     have k_22 := k_21.shutM hG 0 rfl
     refine ⟨(k_22.sel (.s (.kk (.k .e)))), fun _ => ?_⟩
     refine MX_nil <| At_in ?_
     have k_23 := (((k_22.pk (.t (.t .h))).pk (.t .h)).pk (.t (.t .h))).sel (.kk (.k .z))
     exact At_c ⟨r_4, hm, rfl, k_23⟩ (by kernel_rfl)
    rintro L_ w_10 ⟨b2, hm, rfl, k_24⟩
    simp only [m_param_Encode_j1] at hm
    exact At_c ⟨b2, hm, rfl, k_24⟩ (by kernel_rfl)
   rintro L_ w_11 ⟨b1, hm, rfl, k_25⟩
   simp only [m_param_Encode_j0] at hm
   refine W_q [] (.n 30 (I (w64 (x_0 + 1))) (.kkkk (.kk .z))) qe (by kernel_rfl) ?_
   exact At_rd (b1, w64 (x_0 + 1)) (Option.some.inj hm).symm ⟨b1, w64 (x_0 + 1), rfl, rfl, k_25⟩ (by kernel_rfl)
 rw [if_neg hc1] at hm
 refine W_exit (At_te (At_te (At_ie ?_)))
 have hm := exit_of hm hr0
 refine At_go <| W_seq ?_
 have k_26 := k_12.drew 1
 refine W_m yz_mixed (.q 0 1 (.q 1 1 (.q 2 1 (.q 3 1 (.q 4 1 (.q 5 0 (.q 6 1 (.q 7 0 (.op 8 .nil))))))))) [8] k_26 (.c (.k (.s (.k .e))) .l) (by kernel_rfl) (fun _ => ?_)
 refine MXq 5 1 [] (.n 53 (sl A0 (Int.toNat r_1.1) (Int.toNat r_1.1)) (.n 57 (I (w64 (r_1.1 - (w64 (2 * r_1.2.2))))) (.s (.kkkk .z)))) (fun x hx => qe) (by kernel_rfl) (fun _ => ?_)
 obtain ⟨b3, h_b3, hm⟩ := ob hm
 have hs := slc_some h_b3
 have hl := slc_len h_b3
 have hn : b.length = Int.toNat r_1.1 := (k_26.len 1 rfl)
 have hc3 : Int.toNat r_1.1 ≤ Int.toNat r_1.1 := (k_26.lec 1 rfl)
 obtain ⟨A2, c1, e_, hc4, hA, hc5⟩ := slx A0 (Int.toNat (w64 (r_1.1 - (w64 (2 * r_1.2.2))))) (Int.toNat r_1.1) 1 (Int.toNat r_1.1 - Int.toNat (w64 (r_1.1 - (w64 (2 * r_1.2.2))))) b3.length (by omega) (by omega)
 refine MXq 1 0 [] (.n 58 (sl A2 b3.length c1) (.ss .a)) (fun x hx => qp (0 ≤ w64 (r_1.1 - (w64 (2 * r_1.2.2))) ∧ w64 (r_1.1 - (w64 (2 * r_1.2.2))) ≤ ((Int.toNat r_1.1 : Nat) : Int)) (by omega) <| qo (.v (.slice A2 b3.length c1)) <| qp (Value.slice (slA A0 (Int.toNat (w64 (r_1.1 - (w64 (2 * r_1.2.2))))) (Int.toNat r_1.1) 1) (Int.toNat r_1.1 - Int.toNat (w64 (r_1.1 - (w64 (2 * r_1.2.2))))) (Int.toNat r_1.1 - Int.toNat (w64 (r_1.1 - (w64 (2 * r_1.2.2))))) = .slice A2 b3.length c1) e_ <| qe) (by kernel_rfl) (fun _ => ?_)
 refine MXq 1 1 [] (.n 59 (pt g 9) .a) (fun x hx => qs g 0 <| qe) (by kernel_rfl) (fun _ => ?_)
 refine MXq 1 0 [] (.n 60 (sl A_p_Salt p_Salt.length c_p_Salt) (.s .a)) (fun x hx => qB hx 0 rfl 9 (sl A_p_Salt p_Salt.length c_p_Salt) (by kernel_rfl) <| qe) (by kernel_rfl) (fun _ => ?_)
 refine MX_op (by kernel_rfl) rfl <| Op_ocp (E := e8) (dn := b3.length) (dc := c1) (v := sl A_p_Salt p_Salt.length c_p_Salt) (src := p_Salt) (lo := Int.toNat (w64 (r_1.1 - (w64 (2 * r_1.2.2))))) (m' := Int.toNat r_1.1) yz_tf22 [] 61 1 (by kernel_rfl) hA rfl (by omega) k_26 rfl (Src.sl (h_p_Salt.cx k_26) rfl (by rfl)) rfl (by have := k_26.len 1 rfl; omega) ?_
 intro w_12 k_27
 refine ⟨(k_27.sel (.k (.s (.k .e)))), fun _ => ?_⟩
 refine MX_nil <| At_go <| W_seq ?_
 have k_28 := k_27.drew 1
 refine W_m yz_mixed (.q 0 1 (.q 1 1 (.q 2 1 (.q 3 1 (.q 4 0 (.q 5 1 (.q 6 0 (.op 7 .nil)))))))) [7] k_28 (.c (.k (.s (.k .e))) .l) (by kernel_rfl) (fun _ => ?_)
 refine MXq 4 1 [] (.n 62 (sl A0 (Int.toNat r_1.1) (Int.toNat r_1.1)) (.n 65 (I (w64 (r_1.1 - r_1.2.2))) (.sss (.k (.ss .a))))) (fun x hx => qe) (by kernel_rfl) (fun _ => ?_)
 obtain ⟨b4, h_b4, hm⟩ := ob hm
 have hs1 := slc_some h_b4
 have hl1 := slc_len h_b4
 have hn1 : (lcp b (Int.toNat (w64 (r_1.1 - (w64 (2 * r_1.2.2))))) b3.length p_Salt).length = Int.toNat r_1.1 := (k_28.len 1 rfl)
 have hc6 : Int.toNat r_1.1 ≤ Int.toNat r_1.1 := (k_28.lec 1 rfl)
 obtain ⟨A3, c2, e_1, hc7, hA1, hc8⟩ := slx A0 (Int.toNat (w64 (r_1.1 - r_1.2.2))) (Int.toNat r_1.1) 1 (Int.toNat r_1.1 - Int.toNat (w64 (r_1.1 - r_1.2.2))) b4.length (by omega) (by omega)
 refine MXq 1 0 [] (.n 66 (sl A3 b4.length c2) (.ss .a)) (fun x hx => qp (0 ≤ w64 (r_1.1 - r_1.2.2) ∧ w64 (r_1.1 - r_1.2.2) ≤ ((Int.toNat r_1.1 : Nat) : Int)) (by omega) <| qo (.v (.slice A3 b4.length c2)) <| qp (Value.slice (slA A0 (Int.toNat (w64 (r_1.1 - r_1.2.2))) (Int.toNat r_1.1) 1) (Int.toNat r_1.1 - Int.toNat (w64 (r_1.1 - r_1.2.2))) (Int.toNat r_1.1 - Int.toNat (w64 (r_1.1 - r_1.2.2))) = .slice A3 b4.length c2) e_1 <| qe) (by kernel_rfl) (fun _ => ?_)
 refine MXq 1 1 [] (.n 67 (pt g 10) (.k (.s .a))) (fun x hx => qs g 0 <| qe) (by kernel_rfl) (fun _ => ?_)
 refine MXq 1 0 [] (.n 68 (sl A_p_Personal p_Personal.length c_p_Personal) (.s .a)) (fun x hx => qB hx 0 rfl 10 (sl A_p_Personal p_Personal.length c_p_Personal) (by kernel_rfl) <| qe) (by kernel_rfl) (fun _ => ?_)
 refine MX_op (by kernel_rfl) rfl <| Op_ocp (E := e8) (dn := b4.length) (dc := c2) (v := sl A_p_Personal p_Personal.length c_p_Personal) (src := p_Personal) (lo := Int.toNat (w64 (r_1.1 - r_1.2.2))) (m' := Int.toNat r_1.1) yz_tf22 [] 69 1 (by kernel_rfl) hA1 rfl (by omega) k_28 rfl (Src.sl (h_p_Personal.cx k_28) rfl (by rfl)) rfl (by have := k_28.len 1 rfl; omega) ?_
 intro w_13 k_29
 refine ⟨(k_29.sel (.k (.s (.k .e)))), fun _ => ?_⟩
 refine MX_nil <| At_go <| W_seq <| W_q [] (.n 4 (sl A0 (Int.toNat r_1.1) (Int.toNat r_1.1)) (.n 5 (I 0) .z)) qe (by kernel_rfl) ?_
 refine At_go <| W_ret ?_
 obtain rfl := Option.some.inj hm
 refine At_rt [sl A0 (Int.toNat r_1.1) (Int.toNat r_1.1), I 0] qe (by kernel_rfl) ?_
 have k_30 := k_29.sel (.s (.k .z))
 exact ⟨A0, Int.toNat r_1.1, Int.toNat r_1.1, k_30.len 0 rfl, rfl, k_30⟩

-- quern/mixb.IV
noncomputable def m_mixb_IV  : Option (Vec UInt64 8) :=
  some (⟨[(7640891576956012808 : UInt64), (13503953896175478587 : UInt64), (4354685564936845355 : UInt64), (11912009170470909681 : UInt64), (5840696475078001361 : UInt64), (11170449401992604703 : UInt64), (2270897969802886507 : UInt64), (6620516959819538809 : UInt64)], rfl⟩ : Vec UInt64 8)
theorem c_mixb_IV {F O : Nat → Prop} {w : World} (k : Cx F O w w []) (r : (Vec UInt64 8)) (hm : m_mixb_IV = some r) :
    Calls Tryz.prog 143 (vals []) w (fun e w' => e = .returned (SV.val (.agg [.ar e64 r])) ∧ Cx F O w w' []) := by
 unfold m_mixb_IV at hm
 refine calls [] Tryz.func143 rfl (of_decide_eq_true (by kernel_rfl)) ?_
 refine W_seq <| W_reg <| WL_op <| Op_alloc [] 0 [.ar e64 (Vec.rep 8 (0 : UInt64))] (by kernel_rfl) k ?_
 intro g w_ k_
 refine WL_nil <| At_go <| W_seq <| W_reg <| WLs 1 [] (.n 1 (.agg [.ar e64 (⟨[(7640891576956012808 : UInt64), (13503953896175478587 : UInt64), (4354685564936845355 : UInt64), (11912009170470909681 : UInt64), (5840696475078001361 : UInt64), (11170449401992604703 : UInt64), (2270897969802886507 : UInt64), (6620516959819538809 : UInt64)], rfl⟩ : Vec UInt64 8)]) .a) qe (by kernel_rfl) ?_
 refine WL_op <| Op_b [] 0 (.agg [.ar e64 (⟨[(7640891576956012808 : UInt64), (13503953896175478587 : UInt64), (4354685564936845355 : UInt64), (11912009170470909681 : UInt64), (5840696475078001361 : UInt64), (11170449401992604703 : UInt64), (2270897969802886507 : UInt64), (6620516959819538809 : UInt64)], rfl⟩ : Vec UInt64 8)]) [.ar e64 (⟨[(7640891576956012808 : UInt64), (13503953896175478587 : UInt64), (4354685564936845355 : UInt64), (11912009170470909681 : UInt64), (5840696475078001361 : UInt64), (11170449401992604703 : UInt64), (2270897969802886507 : UInt64), (6620516959819538809 : UInt64)], rfl⟩ : Vec UInt64 8)] (Pt.at g 0) k_ rfl .all (by kernel_rfl) (by kernel_rfl) ?_
 intro w_1 k_1
 refine WL_nil <| At_go <| W_ret ?_
 obtain rfl := Option.some.inj hm
 refine At_rt [.agg [.ar e64 (⟨[(7640891576956012808 : UInt64), (13503953896175478587 : UInt64), (4354685564936845355 : UInt64), (11912009170470909681 : UInt64), (5840696475078001361 : UInt64), (11170449401992604703 : UInt64), (2270897969802886507 : UInt64), (6620516959819538809 : UInt64)], rfl⟩ : Vec UInt64 8)]] (qo (.agg [.ar e64 (⟨[(7640891576956012808 : UInt64), (13503953896175478587 : UInt64), (4354685564936845355 : UInt64), (11912009170470909681 : UInt64), (5840696475078001361 : UInt64), (11170449401992604703 : UInt64), (2270897969802886507 : UInt64), (6620516959819538809 : UInt64)], rfl⟩ : Vec UInt64 8)]) <| qc (fun w => Rd w (some ⟨g, 0, none⟩) (SV.cl [.ar e64 (⟨[(7640891576956012808 : UInt64), (13503953896175478587 : UInt64), (4354685564936845355 : UInt64), (11912009170470909681 : UInt64), (5840696475078001361 : UInt64), (11170449401992604703 : UInt64), (2270897969802886507 : UInt64), (6620516959819538809 : UInt64)], rfl⟩ : Vec UInt64 8)])) (k_1.brd 0 rfl) <| qe) (by kernel_rfl) ?_
 have k_2 := k_1.sel .z
 exact ⟨rfl, k_2⟩

-- quern/word.load
noncomputable def m_word_load_l0 (b : List UInt8) (at_ : Int) (n : Int) : (UInt64 × Int) → Option ((UInt64 × Int) ⊕ (UInt64 × Int))
  | (w_, x_0) => if x_0 < n then ((geti b (w64 (at_ + x_0))).bind fun x_2 => (need (0 ≤ w64 (8 * x_0))).bind fun u => some (.inl (w_ ||| (shl64 (UInt64.ofNat x_2.toNat) (Int.toNat (w64 (8 * x_0)))), w64 (x_0 + 1)))) else (Option.map Sum.inr (some (w_, (0 : Int))))
noncomputable def m_word_load (b : List UInt8) (at_ : Int) (n : Int) : Option (UInt64 × Int) :=
  if at_ < 0 then (some ((0 : UInt64), (1 : Int))) else (if ((decide (((b.length : Nat) : Int) < at_)) || (decide ((w64 (((b.length : Nat) : Int) - at_)) < n))) = true then (some ((0 : UInt64), (3 : Int))) else (whileO (m_word_load_l0 b at_ n) ((0 : UInt64), (0 : Int))))
theorem c_word_load {F O : Nat → Prop} {w : World} (b : List UInt8) (at_ : Int) (n : Int) (A_b : Option Addr) (n_b : Nat) (c_b : Nat) (h_b : Ro F w A_b (e8.all b)) (hn_b : b.length = n_b) (hc_b : n_b ≤ c_b) (k : Cx F O w w []) (r : (UInt64 × Int)) (hm : m_word_load b at_ n = some r) :
    Calls Tryz.prog 152 (vals [sl A_b n_b c_b, I at_, I n]) w (fun e w' => e = .returned (SV.val (.tup [.u64 r.1, I r.2])) ∧ Cx F O w w' []) := by
 unfold m_word_load at hm
 subst hn_b
 refine calls [sl A_b b.length c_b, I at_, I n] Tryz.func152 rfl (of_decide_eq_true (by kernel_rfl)) ?_
 refine W_seq <| W_q [] .a qe (by kernel_rfl) ?_
 refine At_go <| W_seq <| W_seq <| W_q [] (.n 11 (.b (decide (at_ < 0))) .a) qe (by kernel_rfl) ?_
 refine At_go <| W_condp (at_ < 0) (by kernel_rfl) (fun hc => ?_) (fun hc => ?_)
 · rw [if_pos hc] at hm
   refine W_seq <| W_q [] (.n 6 (.u64 0) (.n 7 (I 1) .z)) qe (by kernel_rfl) ?_
   refine At_go <| W_ret (At_tr ?_)
   obtain rfl := Option.some.inj hm
   refine At_rt [.u64 0, I 1] qe (by kernel_rfl) ?_
   exact ⟨rfl, k⟩
 rw [if_neg hc] at hm
 refine W_skip <| At_go <| W_seq <| W_seq <| W_q [] (.n 23 (.b ((decide (((b.length : Nat) : Int) < at_)) || (decide ((w64 (((b.length : Nat) : Int) - at_)) < n)))) (.s .a)) qe (by kernel_rfl) ?_
 refine At_go <| W_cond ((decide (((b.length : Nat) : Int) < at_)) || (decide ((w64 (((b.length : Nat) : Int) - at_)) < n))) (by kernel_rfl) (fun hc1 => ?_) (fun hc1 => ?_)
 · rw [if_pos hc1] at hm
   refine W_seq <| W_q [] (.n 6 (.u64 0) (.n 7 (I 3) .z)) qe (by kernel_rfl) ?_
   refine At_go <| W_ret (At_tr ?_)
   obtain rfl := Option.some.inj hm
   refine At_rt [.u64 0, I 3] qe (by kernel_rfl) ?_
   exact ⟨rfl, k⟩
 rw [if_neg (by rw [hc1]; decide)] at hm
 refine W_skip <| At_go <| W_seq <| W_q [] (.n 8 (.u64 0) (.s .a)) qe (by kernel_rfl) ?_
 refine At_go <| W_seq <| W_seq <| W_q [] (.n 24 (I n) (.n 25 (I 0) (.kkk .z))) qe (by kernel_rfl) ?_
 refine At_go <| W_block <| W_lp (m_word_load_l0 b at_ n) (fun s L wr => ∃ (w_ : UInt64) (x_0 : Int), (w_, x_0) = s ∧ L = [(0, sl A_b b.length c_b), (1, I at_), (8, .u64 w_), (24, I n), (25, I x_0)] ∧ Cx F O w wr []) ((0 : UInt64), (0 : Int)) r hm ⟨(0 : UInt64), (0 : Int), rfl, rfl, k⟩ (by kernel_rfl) ?_
 intro s0_ L_ w_1 y0 hrel hstep hr0
 obtain ⟨w_, x_0, rfl, rfl, k_⟩ := hrel
 have hm := hstep; simp only [m_word_load_l0] at hm
 clear hstep
 refine W_seq <| W_q [] (.n 26 (.b (decide (x_0 < n))) .a) qe (by kernel_rfl) ?_
 refine At_go <| W_seq <| W_condp (x_0 < n) (by kernel_rfl) (fun hc2 => ?_) (fun hc2 => ?_)
 · rw [if_pos hc2] at hm
   refine W_skip <| At_go <| W_seq <| W_block <| W_seq <| W_q [] (.n 9 (I x_0) (.s .a)) qe (by kernel_rfl) ?_
   refine At_go ?_
   obtain ⟨x_2, h_x_2, hm⟩ := ob hm
   obtain ⟨u, h_u, hm⟩ := ob hm
   refine W_q [] (.n 8 (.u64 (w_ ||| (shl64 (UInt64.ofNat x_2.toNat) (Int.toNat (w64 (8 * x_0)))))) (.s (.kk (.s .a)))) (qW (h_b.cx k_) h_x_2 rfl (.u8 x_2) rfl <| qp (0 ≤ w64 (8 * x_0)) (need_some h_u) <| qe) (by kernel_rfl) ?_
   refine At_in <| At_go <| W_q [] (.n 25 (I (w64 (x_0 + 1))) (.kkkk .z)) qe (by kernel_rfl) ?_
   exact At_rd (w_ ||| (shl64 (UInt64.ofNat x_2.toNat) (Int.toNat (w64 (8 * x_0)))), w64 (x_0 + 1)) (Option.some.inj hm).symm ⟨w_ ||| (shl64 (UInt64.ofNat x_2.toNat) (Int.toNat (w64 (8 * x_0)))), w64 (x_0 + 1), rfl, rfl, k_⟩ (by kernel_rfl)
 rw [if_neg hc2] at hm
 refine W_exit (At_te (At_te (At_ie ?_)))
 have hm := exit_of hm hr0
 refine At_go <| W_seq <| W_q [] (.n 6 (.u64 w_) (.n 7 (I 0) .z)) qe (by kernel_rfl) ?_
 refine At_go <| W_ret ?_
 obtain rfl := Option.some.inj hm
 refine At_rt [.u64 w_, I 0] qe (by kernel_rfl) ?_
 exact ⟨rfl, k_⟩

-- quern/word.Load64
noncomputable def m_word_Load64 (b : List UInt8) (at_ : Int) : Option (UInt64 × Int) :=
  (m_word_load b at_ (8 : Int)).bind fun r_ => some (r_.1, r_.2)
theorem c_word_Load64 {F O : Nat → Prop} {w : World} (b : List UInt8) (at_ : Int) (A_b : Option Addr) (n_b : Nat) (c_b : Nat) (h_b : Ro F w A_b (e8.all b)) (hn_b : b.length = n_b) (hc_b : n_b ≤ c_b) (k : Cx F O w w []) (r : (UInt64 × Int)) (hm : m_word_Load64 b at_ = some r) :
    Calls Tryz.prog 144 (vals [sl A_b n_b c_b, I at_]) w (fun e w' => e = .returned (SV.val (.tup [.u64 r.1, I r.2])) ∧ Cx F O w w' []) := by
 unfold m_word_Load64 at hm
 subst hn_b
 refine calls [sl A_b b.length c_b, I at_] Tryz.func144 rfl (of_decide_eq_true (by kernel_rfl)) ?_
 refine W_seq <| W_q [] .a qe (by kernel_rfl) ?_
 refine At_go <| W_seq <| W_reg <| WLs 2 [] (.n 6 (sl A_b b.length c_b) (.n 7 (I at_) .z)) qe (by kernel_rfl) ?_
 refine WL_op ?_
 obtain ⟨r_, h_r_, hm⟩ := ob hm
 refine Op_call [] 8 _ yz_go152 (by kernel_rfl) (c_word_load (F := N0) (O := N0) _ _ _ _ _ _ (Ro.n0 (h_b.cx k)) rfl hc_b (Cx.refl _) _ h_r_) ?_
 rintro e_ w_ ⟨rfl, k_⟩
 have k_1 := k.call k_
 refine ⟨.tup [.u64 r_.1, I r_.2], rfl, ?_⟩
 refine WLs 4 [] (.n 4 (.u64 r_.1) (.n 5 (I r_.2) .z)) qe (by kernel_rfl) ?_
 refine WL_nil <| At_go <| W_ret ?_
 obtain rfl := Option.some.inj hm
 refine At_rt [.u64 r_.1, I r_.2] qe (by kernel_rfl) ?_
 exact ⟨rfl, k_1⟩

-- quern/mixb.Start
noncomputable def m_mixb_Start_l0 (block : List UInt8) : (Vec UInt64 8 × Int) → Option ((Vec UInt64 8 × Int) ⊕ (Vec UInt64 8 × Int))
  | (h, x_0) => if x_0 < 8 then ((m_word_Load64 block (w64 (8 * x_0))).bind fun r_1 => (geti h.l x_0).bind fun x_2 => (geti h.l x_0).bind fun x_3 => (some (vst h x_0 (x_2 ^^^ r_1.1))).bind fun v => some (.inl (v, w64 (x_0 + 1)))) else (Option.map Sum.inr (some (h, (0 : Int))))
noncomputable def m_mixb_Start (block : List UInt8) : Option (Vec UInt64 8 × Int) :=
  if ((block.length : Nat) : Int) ≠ 64 then (some ((Vec.rep 8 ((0 : UInt64) : UInt64)), (1 : Int))) else ((m_mixb_IV).bind fun r_ => whileO (m_mixb_Start_l0 block) (r_, (0 : Int)))
theorem c_mixb_Start {F O : Nat → Prop} {w : World} (block : List UInt8) (A_block : Option Addr) (n_block : Nat) (c_block : Nat) (h_block : Ro F w A_block (e8.all block)) (hn_block : block.length = n_block) (hc_block : n_block ≤ c_block) (k : Cx F O w w []) (r : (Vec UInt64 8 × Int)) (hm : m_mixb_Start block = some r) :
    Calls Tryz.prog 131 (vals [sl A_block n_block c_block]) w (fun e w' => e = .returned (SV.val (.tup [.agg [.ar e64 r.1], I r.2])) ∧ Cx F O w w' []) := by
 unfold m_mixb_Start at hm
 subst hn_block
 refine calls [sl A_block block.length c_block] Tryz.func131 rfl (of_decide_eq_true (by kernel_rfl)) ?_
 refine W_seq <| W_reg <| WL_op <| Op_alloc [] 2 [.ar e64 (Vec.rep 8 (0 : UInt64))] (by kernel_rfl) k ?_
 intro g w_ k_
 refine WLs 1 [] .a qe (by kernel_rfl) ?_
 refine WL_nil <| At_go <| W_seq <| W_seq <| W_q [] (.n 10 (.b (decide (((block.length : Nat) : Int) ≠ 64))) .a) qe (by kernel_rfl) ?_
 refine At_go <| W_condp (((block.length : Nat) : Int) ≠ 64) (by kernel_rfl) (fun hc => ?_) (fun hc => ?_)
 · rw [if_pos hc] at hm
   refine W_seq <| W_reg <| WLs 1 [] (.n 11 (.agg [.ar e64 (Vec.rep 8 ((0 : UInt64) : UInt64))]) (.s (.k .z))) qe (by kernel_rfl) ?_
   refine WL_op <| Op_b [] 0 (.agg [.ar e64 (Vec.rep 8 ((0 : UInt64) : UInt64))]) [.ar e64 (Vec.rep 8 ((0 : UInt64) : UInt64))] (Pt.at g 0) k_ rfl .all (by kernel_rfl) (by kernel_rfl) ?_
   intro w_1 k_1
   refine WLs 1 [] (.n 3 (I 1) (.s .a)) qe (by kernel_rfl) ?_
   refine WL_nil <| At_go <| W_ret (At_tr ?_)
   obtain rfl := Option.some.inj hm
   refine At_rt [.agg [.ar e64 (Vec.rep 8 ((0 : UInt64) : UInt64))], I 1] (qo (.agg [.ar e64 (Vec.rep 8 ((0 : UInt64) : UInt64))]) <| qc (fun w => Rd w (some ⟨g, 0, none⟩) (SV.cl [.ar e64 (Vec.rep 8 ((0 : UInt64) : UInt64))])) (k_1.brd 0 rfl) <| qe) (by kernel_rfl) ?_
   have k_2 := k_1.sel .z
   exact ⟨rfl, k_2⟩
 rw [if_neg hc] at hm
 refine W_skip <| At_go <| W_seq <| W_reg <| WL_op ?_
 obtain ⟨r_, h_r_, hm⟩ := ob hm
 refine Op_call [] 12 _ yz_go143 (by kernel_rfl) (c_mixb_IV (F := N0) (O := N0)  (Cx.refl _) _ h_r_) ?_
 rintro e_ w_2 ⟨rfl, k_3⟩
 have k_4 := k_.call k_3
 refine ⟨.agg [.ar e64 r_], rfl, ?_⟩
 refine WL_op <| Op_alloc [] 4 [.ar e64 (Vec.rep 8 (0 : UInt64))] (by kernel_rfl) k_4 ?_
 intro g1 w_3 k_5
 refine WL_op <| Op_b [] 1 (.agg [.ar e64 r_]) [.ar e64 r_] (Pt.at g1 0) k_5 rfl .all (by kernel_rfl) (by kernel_rfl) ?_
 intro w_4 k_6
 refine WL_nil <| At_go <| W_seq <| W_seq <| W_q [] (.n 13 (I 0) (.k (.ss .a))) qe (by kernel_rfl) ?_
 refine At_go <| W_block <| W_lp (m_mixb_Start_l0 block) (fun s L wr => ∃ (h : Vec UInt64 8) (x_0 : Int), (h, x_0) = s ∧ L = [(0, sl A_block block.length c_block), (2, pt g 0), (4, pt g1 0), (13, I x_0)] ∧ Cx F O w wr [Bx 150 g [.ar e64 (Vec.rep 8 (0 : UInt64))], Bx 150 g1 [.ar e64 h]]) (r_, (0 : Int)) r hm ⟨r_, (0 : Int), rfl, rfl, k_6⟩ (by kernel_rfl) ?_
 intro s0_ L_ w_5 y0 hrel hstep hr0
 obtain ⟨h, x_0, rfl, rfl, k_7⟩ := hrel
 have hm := hstep; simp only [m_mixb_Start_l0] at hm
 clear hstep
 refine W_seq <| W_q [] (.n 14 (.b (decide (x_0 < 8))) .a) qe (by kernel_rfl) ?_
 refine At_go <| W_seq <| W_condp (x_0 < 8) (by kernel_rfl) (fun hc1 => ?_) (fun hc1 => ?_)
 · rw [if_pos hc1] at hm
   refine W_skip <| At_go <| W_seq <| W_block <| W_seq <| W_q [] (.n 5 (I x_0) (.s .a)) qe (by kernel_rfl) ?_
   refine At_go <| W_seq <| W_reg <| WLs 3 [] (.n 17 (sl A_block block.length c_block) (.n 19 (I (w64 (8 * x_0))) .a)) qe (by kernel_rfl) ?_
   refine WL_op ?_
   obtain ⟨r_1, h_r_1, hm⟩ := ob hm
   refine Op_call [] 20 _ yz_go144 (by kernel_rfl) (c_word_Load64 (F := N0) (O := N0) _ _ _ _ _ (Ro.n0 (h_block.cx k_7)) rfl hc_block (Cx.refl _) _ h_r_1) ?_
   rintro e_ w_6 ⟨rfl, k_8⟩
   have k_9 := k_7.call k_8
   refine ⟨.tup [.u64 r_1.1, I r_1.2], rfl, ?_⟩
   refine WLs 5 [] (.n 6 (.u64 r_1.1) (.sss .a)) qe (by kernel_rfl) ?_
   refine WL_nil <| At_go <| W_reg ?_
   obtain ⟨x_2, h_x_2, hm⟩ := ob hm
   obtain ⟨x_3, h_x_3, hm⟩ := ob hm
   refine WLs 6 [] (.n 27 (.u64 (x_2 ^^^ r_1.1)) (.n 28 (.v (.pointer (ixA (some ⟨g1, 0, none⟩) x_0 1))) (.ss .a))) (qV (k_9.vrd 1 rfl e64 h 0 (by kernel_rfl)) h_x_2 rfl (.u64 x_2) rfl <| qI g1 0 h_x_3 <| qe) (by kernel_rfl) ?_
   refine WL_op ?_
   obtain ⟨v, h_v, hm⟩ := nm hm
   refine Op_vs (E := e64) (kk := 0) [] 1 (.u64 (x_2 ^^^ r_1.1)) [.u64 (x_2 ^^^ r_1.1)] h_v h_x_3 (Pt.ix0 (Pt.at g1 0) x_0 1) k_9 rfl .h rfl (by kernel_rfl) (by kernel_rfl) ?_
   intro w_7 k_10
   refine WL_nil <| At_in <| At_go <| W_q [] (.n 13 (I (w64 (x_0 + 1))) (.ss (.kkk .z))) qe (by kernel_rfl) ?_
   exact At_rd (v, w64 (x_0 + 1)) (Option.some.inj hm).symm ⟨v, w64 (x_0 + 1), rfl, rfl, k_10⟩ (by kernel_rfl)
 rw [if_neg hc1] at hm
 refine W_exit (At_te (At_te (At_ie ?_)))
 have hm := exit_of hm hr0
 refine At_go <| W_seq <| W_reg <| WLs 1 [] (.n 30 (.agg [.ar e64 h]) (.ss (.k .z))) (qT k_7 1 rfl 0 8 [.ar e64 h] (by kernel_rfl) (by decide) <| qe) (by kernel_rfl) ?_
 refine WL_op <| Op_b [] 0 (.agg [.ar e64 h]) [.ar e64 h] (Pt.at g 0) k_7 rfl .all (by kernel_rfl) (by kernel_rfl) ?_
 intro w_8 k_11
 have k_12 := k_11.sel (.k .z)
 refine WLs 1 [] (.n 3 (I 0) (.s .a)) qe (by kernel_rfl) ?_
 refine WL_nil <| At_go <| W_ret ?_
 obtain rfl := Option.some.inj hm
 refine At_rt [.agg [.ar e64 h], I 0] (qo (.agg [.ar e64 h]) <| qc (fun w => Rd w (some ⟨g, 0, none⟩) (SV.cl [.ar e64 h])) (k_12.brd 0 rfl) <| qe) (by kernel_rfl) ?_
 have k_13 := k_12.sel .z
 exact ⟨rfl, k_13⟩

-- quern/mixs.right
noncomputable def m_mixs_right (b : List UInt8) (n : Int) : Option Int :=
  if ((b.length : Nat) : Int) < n then (some (3 : Int)) else (if n < ((b.length : Nat) : Int) then (some (2 : Int)) else (some (0 : Int)))
theorem c_mixs_right {F O : Nat → Prop} {w : World} (b : List UInt8) (n : Int) (A_b : Option Addr) (n_b : Nat) (c_b : Nat) (h_b : Ro F w A_b (e8.all b)) (hn_b : b.length = n_b) (hc_b : n_b ≤ c_b) (k : Cx F O w w []) (r : Int) (hm : m_mixs_right b n = some r) :
    Calls Tryz.prog 147 (vals [sl A_b n_b c_b, I n]) w (fun e w' => e = .returned (SV.val (I r)) ∧ Cx F O w w' []) := by
 unfold m_mixs_right at hm
 subst hn_b
 refine calls [sl A_b b.length c_b, I n] Tryz.func147 rfl (of_decide_eq_true (by kernel_rfl)) ?_
 refine W_seq <| W_q [] .a qe (by kernel_rfl) ?_
 refine At_go <| W_seq <| W_block <| W_seq <| W_q [] (.n 5 (.b (decide (((b.length : Nat) : Int) < n))) .a) qe (by kernel_rfl) ?_
 refine At_go <| W_condp (((b.length : Nat) : Int) < n) (by kernel_rfl) (fun hc => ?_) (fun hc => ?_)
 · rw [if_pos hc] at hm
   refine W_seq <| W_q [] (.n 4 (I 3) .z) qe (by kernel_rfl) ?_
   refine At_go <| W_ret (At_ir (At_tr ?_))
   obtain rfl := Option.some.inj hm
   refine At_rt [I 3] qe (by kernel_rfl) ?_
   exact ⟨rfl, k⟩
 rw [if_neg hc] at hm
 refine W_seq <| W_q [] (.n 10 (.b (decide (n < ((b.length : Nat) : Int)))) .z) qe (by kernel_rfl) ?_
 refine At_go <| W_condp (n < ((b.length : Nat) : Int)) (by kernel_rfl) (fun hc1 => ?_) (fun hc1 => ?_)
 · rw [if_pos hc1] at hm
   refine W_seq <| W_q [] (.n 4 (I 2) .z) qe (by kernel_rfl) ?_
   refine At_go <| W_ret (At_ir (At_tr ?_))
   obtain rfl := Option.some.inj hm
   refine At_rt [I 2] qe (by kernel_rfl) ?_
   exact ⟨rfl, k⟩
 rw [if_neg hc1] at hm
 refine W_skip <| At_in <| At_go <| W_seq <| W_q [] (.n 4 (I 0) .z) qe (by kernel_rfl) ?_
 refine At_go <| W_ret ?_
 obtain rfl := Option.some.inj hm
 refine At_rt [I 0] qe (by kernel_rfl) ?_
 exact ⟨rfl, k⟩

-- quern/word.Load32
noncomputable def m_word_Load32 (b : List UInt8) (at_ : Int) : Option (UInt32 × Int) :=
  (m_word_load b at_ (4 : Int)).bind fun r_ => some (UInt32.ofNat r_.1.toNat, r_.2)
theorem c_word_Load32 {F O : Nat → Prop} {w : World} (b : List UInt8) (at_ : Int) (A_b : Option Addr) (n_b : Nat) (c_b : Nat) (h_b : Ro F w A_b (e8.all b)) (hn_b : b.length = n_b) (hc_b : n_b ≤ c_b) (k : Cx F O w w []) (r : (UInt32 × Int)) (hm : m_word_Load32 b at_ = some r) :
    Calls Tryz.prog 155 (vals [sl A_b n_b c_b, I at_]) w (fun e w' => e = .returned (SV.val (.tup [.u32 r.1, I r.2])) ∧ Cx F O w w' []) := by
 unfold m_word_Load32 at hm
 subst hn_b
 refine calls [sl A_b b.length c_b, I at_] Tryz.func155 rfl (of_decide_eq_true (by kernel_rfl)) ?_
 refine W_seq <| W_q [] .a qe (by kernel_rfl) ?_
 refine At_go <| W_seq <| W_reg <| WLs 2 [] (.n 9 (sl A_b b.length c_b) (.n 10 (I at_) .z)) qe (by kernel_rfl) ?_
 refine WL_op ?_
 obtain ⟨r_, h_r_, hm⟩ := ob hm
 refine Op_call [] 11 _ yz_go152 (by kernel_rfl) (c_word_load (F := N0) (O := N0) _ _ _ _ _ _ (Ro.n0 (h_b.cx k)) rfl hc_b (Cx.refl _) _ h_r_) ?_
 rintro e_ w_ ⟨rfl, k_⟩
 have k_1 := k.call k_
 refine ⟨.tup [.u64 r_.1, I r_.2], rfl, ?_⟩
 refine WLs 5 [] (.n 6 (.u64 r_.1) (.n 7 (I r_.2) .z)) qe (by kernel_rfl) ?_
 refine WL_nil <| At_go <| W_seq <| W_q [] (.n 4 (.u32 (UInt32.ofNat r_.1.toNat)) (.n 5 (I r_.2) .z)) qe (by kernel_rfl) ?_
 refine At_go <| W_ret ?_
 obtain rfl := Option.some.inj hm
 refine At_rt [.u32 (UInt32.ofNat r_.1.toNat), I r_.2] qe (by kernel_rfl) ?_
 exact ⟨rfl, k_1⟩

-- quern/mixs.words
noncomputable def m_mixs_words_l0 (m_ : List UInt32) (b : List UInt8) : (List UInt32 × Int) → Option ((List UInt32 × Int) ⊕ (List UInt32))
  | (m_1, x_0) => if x_0 < ((m_.length : Nat) : Int) then ((m_word_Load32 b (w64 (4 * x_0))).bind fun r_ => (geti m_1 x_0).bind fun x_1 => some (.inl (m_1.set (Int.toNat x_0) r_.1, w64 (x_0 + 1)))) else (Option.map Sum.inr (some m_1))
noncomputable def m_mixs_words (m_ : List UInt32) (b : List UInt8) : Option (List UInt32) :=
  whileO (m_mixs_words_l0 m_ b) (m_, (0 : Int))
theorem c_mixs_words {F O : Nat → Prop} {w : World} (m_ : List UInt32) (b : List UInt8) (A_m_ : Option Addr) (n_m_ : Nat) (c_m_ : Nat) (G_m_ : Win) (A_b : Option Addr) (n_b : Nat) (c_b : Nat) (hc_m_ : n_m_ ≤ c_m_) (h_b : Ro F w A_b (e8.all b)) (hn_b : b.length = n_b) (hc_b : n_b ≤ c_b) (k : Cx F O w w [Mw e32 A_m_ n_m_ m_ G_m_]) (r : (List UInt32)) (hm : m_mixs_words m_ b = some r) :
    Calls Tryz.prog 148 (vals [sl A_m_ n_m_ c_m_, sl A_b n_b c_b]) w (fun e w' => e = .returned (SV.val (.tup [])) ∧ Cx F O w w' [Mw e32 A_m_ n_m_ r G_m_]) := by
 unfold m_mixs_words at hm
 obtain rfl := k.mlen 0 rfl
 subst hn_b
 refine calls [sl A_m_ m_.length c_m_, sl A_b b.length c_b] Tryz.func148 rfl (of_decide_eq_true (by kernel_rfl)) ?_
 refine W_seq <| W_q [] (.n 6 (I ((m_.length : Nat) : Int)) (.n 7 (I 0) .a)) qe (by kernel_rfl) ?_
 refine At_go <| W_block <| W_lp (m_mixs_words_l0 m_ b) (fun s L wr => ∃ (m_1 : List UInt32) (x_0 : Int), (m_1, x_0) = s ∧ L = [(0, sl A_m_ m_.length c_m_), (1, sl A_b b.length c_b), (6, I ((m_.length : Nat) : Int)), (7, I x_0)] ∧ Cx F O w wr [Mw e32 A_m_ m_.length m_1 G_m_]) (m_, (0 : Int)) r hm ⟨m_, (0 : Int), rfl, rfl, k⟩ (by kernel_rfl) ?_
 intro s0_ L_ w_ y0 hrel hstep hr0
 obtain ⟨m_1, x_0, rfl, rfl, k_⟩ := hrel
 have hm := hstep; simp only [m_mixs_words_l0] at hm
 clear hstep
 refine W_seq <| W_q [] (.n 8 (.b (decide (x_0 < ((m_.length : Nat) : Int)))) .a) qe (by kernel_rfl) ?_
 refine At_go <| W_seq <| W_condp (x_0 < ((m_.length : Nat) : Int)) (by kernel_rfl) (fun hc => ?_) (fun hc => ?_)
 · rw [if_pos hc] at hm
   refine W_skip <| At_go <| W_seq <| W_block <| W_seq <| W_q [] (.n 4 (I x_0) (.s .a)) qe (by kernel_rfl) ?_
   refine At_go <| W_reg <| WLs 5 [] (.n 11 (sl A_m_ m_.length c_m_) (.n 12 (I x_0) (.n 13 (sl A_b b.length c_b) (.n 15 (I (w64 (4 * x_0))) (.s .a))))) qe (by kernel_rfl) ?_
   refine WL_op ?_
   obtain ⟨r_, h_r_, hm⟩ := ob hm
   refine Op_call [] 16 _ yz_go155 (by kernel_rfl) (c_word_Load32 (F := N0) (O := N0) _ _ _ _ _ (Ro.n0 (h_b.cx k_)) rfl hc_b (Cx.refl _) _ h_r_) ?_
   rintro e_ w_1 ⟨rfl, k_1⟩
   have k_2 := k_.call k_1
   refine ⟨.tup [.u32 r_.1, I r_.2], rfl, ?_⟩
   obtain ⟨x_1, h_x_1, hm⟩ := ob hm
   refine WLs 4 [] (.n 17 (.u32 r_.1) (.n 19 (.v (.pointer (ixA A_m_ x_0 1))) (.ssss (.s .a)))) (qJ (k_2.mrd 0 rfl) h_x_1 (k_2.mlen 0 rfl) <| qe) (by kernel_rfl) ?_
   refine WL_op <| Op_mst (E := e32) (kk := 0) (sv := .u32 r_.1) (svs := [.u32 r_.1]) [] 0 r_.1 (by kernel_rfl) (Pt.ix1 A_m_ x_0 1) k_2 rfl (geti_some h_x_1).2 (E_ix (E := e32) (k_2.mrd 0 rfl) (by decide) (geti_lt h_x_1).1 (geti_some h_x_1).2) rfl (Nat.le_of_ble_eq_true (by kernel_rfl)) ?_
   intro w_2 k_3
   refine WL_nil <| At_in <| At_go <| W_q [] (.n 7 (I (w64 (x_0 + 1))) (.ss (.kkk .z))) qe (by kernel_rfl) ?_
   exact At_rd (m_1.set (Int.toNat x_0) r_.1, w64 (x_0 + 1)) (Option.some.inj hm).symm ⟨m_1.set (Int.toNat x_0) r_.1, w64 (x_0 + 1), rfl, rfl, k_3⟩ (by kernel_rfl)
 rw [if_neg hc] at hm
 refine W_exit (At_te (At_te (At_ie ?_)))
 have hm := exit_of hm hr0
 obtain rfl := Option.some.inj hm
 refine At_en [] qe (by kernel_rfl) ?_
 exact ⟨rfl, k_⟩

-- quern/mixs.IV
noncomputable def m_mixs_IV  : Option (Vec UInt32 8) :=
  some (⟨[(1779033703 : UInt32), (3144134277 : UInt32), (1013904242 : UInt32), (2773480762 : UInt32), (1359893119 : UInt32), (2600822924 : UInt32), (528734635 : UInt32), (1541459225 : UInt32)], rfl⟩ : Vec UInt32 8)
theorem c_mixs_IV {F O : Nat → Prop} {w : World} (k : Cx F O w w []) (r : (Vec UInt32 8)) (hm : m_mixs_IV = some r) :
    Calls Tryz.prog 149 (vals []) w (fun e w' => e = .returned (SV.val (.agg [.ar e32 r])) ∧ Cx F O w w' []) := by
 unfold m_mixs_IV at hm
 refine calls [] Tryz.func149 rfl (of_decide_eq_true (by kernel_rfl)) ?_
 refine W_seq <| W_reg <| WL_op <| Op_alloc [] 0 [.ar e32 (Vec.rep 8 (0 : UInt32))] (by kernel_rfl) k ?_
 intro g w_ k_
 refine WL_nil <| At_go <| W_seq <| W_reg <| WLs 1 [] (.n 1 (.agg [.ar e32 (⟨[(1779033703 : UInt32), (3144134277 : UInt32), (1013904242 : UInt32), (2773480762 : UInt32), (1359893119 : UInt32), (2600822924 : UInt32), (528734635 : UInt32), (1541459225 : UInt32)], rfl⟩ : Vec UInt32 8)]) .a) qe (by kernel_rfl) ?_
 refine WL_op <| Op_b [] 0 (.agg [.ar e32 (⟨[(1779033703 : UInt32), (3144134277 : UInt32), (1013904242 : UInt32), (2773480762 : UInt32), (1359893119 : UInt32), (2600822924 : UInt32), (528734635 : UInt32), (1541459225 : UInt32)], rfl⟩ : Vec UInt32 8)]) [.ar e32 (⟨[(1779033703 : UInt32), (3144134277 : UInt32), (1013904242 : UInt32), (2773480762 : UInt32), (1359893119 : UInt32), (2600822924 : UInt32), (528734635 : UInt32), (1541459225 : UInt32)], rfl⟩ : Vec UInt32 8)] (Pt.at g 0) k_ rfl .all (by kernel_rfl) (by kernel_rfl) ?_
 intro w_1 k_1
 refine WL_nil <| At_go <| W_ret ?_
 obtain rfl := Option.some.inj hm
 refine At_rt [.agg [.ar e32 (⟨[(1779033703 : UInt32), (3144134277 : UInt32), (1013904242 : UInt32), (2773480762 : UInt32), (1359893119 : UInt32), (2600822924 : UInt32), (528734635 : UInt32), (1541459225 : UInt32)], rfl⟩ : Vec UInt32 8)]] (qo (.agg [.ar e32 (⟨[(1779033703 : UInt32), (3144134277 : UInt32), (1013904242 : UInt32), (2773480762 : UInt32), (1359893119 : UInt32), (2600822924 : UInt32), (528734635 : UInt32), (1541459225 : UInt32)], rfl⟩ : Vec UInt32 8)]) <| qc (fun w => Rd w (some ⟨g, 0, none⟩) (SV.cl [.ar e32 (⟨[(1779033703 : UInt32), (3144134277 : UInt32), (1013904242 : UInt32), (2773480762 : UInt32), (1359893119 : UInt32), (2600822924 : UInt32), (528734635 : UInt32), (1541459225 : UInt32)], rfl⟩ : Vec UInt32 8)])) (k_1.brd 0 rfl) <| qe) (by kernel_rfl) ?_
 have k_2 := k_1.sel .z
 exact ⟨rfl, k_2⟩

-- quern/mixs.Start
noncomputable def m_mixs_Start_l0 (r_1 : (List UInt32)) : (Vec UInt32 8 × Int) → Option ((Vec UInt32 8 × Int) ⊕ (Vec UInt32 8 × Int))
  | (h, x_0) => if x_0 < 8 then ((geti h.l x_0).bind fun x_2 => (geti (Vec.of 8 r_1).l x_0).bind fun x_3 => (geti h.l x_0).bind fun x_4 => (some (vst h x_0 (x_2 ^^^ x_3))).bind fun v => some (.inl (v, w64 (x_0 + 1)))) else (Option.map Sum.inr (some (h, (0 : Int))))
noncomputable def m_mixs_Start (block : List UInt8) : Option (Vec UInt32 8 × Int) :=
  (m_mixs_right block (32 : Int)).bind fun r_ => if r_ ≠ 0 then (some ((Vec.rep 8 ((0 : UInt32) : UInt32)), r_)) else ((m_mixs_words ((Vec.rep 8 (0 : UInt32)).l) block).bind fun r_1 => (m_mixs_IV).bind fun r_2 => whileO (m_mixs_Start_l0 r_1) (r_2, (0 : Int)))
theorem c_mixs_Start {F O : Nat → Prop} {w : World} (block : List UInt8) (A_block : Option Addr) (n_block : Nat) (c_block : Nat) (h_block : Ro F w A_block (e8.all block)) (hn_block : block.length = n_block) (hc_block : n_block ≤ c_block) (k : Cx F O w w []) (r : (Vec UInt32 8 × Int)) (hm : m_mixs_Start block = some r) :
    Calls Tryz.prog 134 (vals [sl A_block n_block c_block]) w (fun e w' => e = .returned (SV.val (.tup [.agg [.ar e32 r.1], I r.2])) ∧ Cx F O w w' []) := by
 unfold m_mixs_Start at hm
 subst hn_block
 refine calls [sl A_block block.length c_block] Tryz.func134 rfl (of_decide_eq_true (by kernel_rfl)) ?_
 refine W_seq <| W_reg <| WL_op <| Op_alloc [] 2 [.ar e32 (Vec.rep 8 (0 : UInt32))] (by kernel_rfl) k ?_
 intro g w_ k_
 refine WLs 1 [] .a qe (by kernel_rfl) ?_
 refine WL_nil <| At_go <| W_seq <| W_seq <| W_reg <| WLs 1 [] (.n 8 (sl A_block block.length c_block) .a) qe (by kernel_rfl) ?_
 refine WL_op ?_
 obtain ⟨r_, h_r_, hm⟩ := ob hm
 refine Op_call [] 9 _ yz_go147 (by kernel_rfl) (c_mixs_right (F := N0) (O := N0) _ _ _ _ _ (Ro.n0 (h_block.cx k_)) rfl hc_block (Cx.refl _) _ h_r_) ?_
 rintro e_ w_1 ⟨rfl, k_1⟩
 have k_2 := k_.call k_1
 refine ⟨I r_, rfl, ?_⟩
 refine WLs 1 [] (.n 4 (I r_) (.ss .a)) qe (by kernel_rfl) ?_
 refine WL_nil <| At_go <| W_seq <| W_q [] (.n 11 (.b (decide (r_ ≠ 0))) .a) qe (by kernel_rfl) ?_
 refine At_go <| W_condp (r_ ≠ 0) (by kernel_rfl) (fun hc => ?_) (fun hc => ?_)
 · rw [if_pos hc] at hm
   refine W_seq <| W_reg <| WLs 2 [] (.n 12 (.agg [.ar e32 (Vec.rep 8 ((0 : UInt32) : UInt32))]) (.n 13 (I r_) (.ss (.k .z)))) qe (by kernel_rfl) ?_
   refine WL_op <| Op_b [] 0 (.agg [.ar e32 (Vec.rep 8 ((0 : UInt32) : UInt32))]) [.ar e32 (Vec.rep 8 ((0 : UInt32) : UInt32))] (Pt.at g 0) k_2 rfl .all (by kernel_rfl) (by kernel_rfl) ?_
   intro w_2 k_3
   refine WLs 1 [] (.n 3 (I r_) (.ss .a)) qe (by kernel_rfl) ?_
   refine WL_nil <| At_go <| W_ret (At_tr ?_)
   obtain rfl := Option.some.inj hm
   refine At_rt [.agg [.ar e32 (Vec.rep 8 ((0 : UInt32) : UInt32))], I r_] (qo (.agg [.ar e32 (Vec.rep 8 ((0 : UInt32) : UInt32))]) <| qc (fun w => Rd w (some ⟨g, 0, none⟩) (SV.cl [.ar e32 (Vec.rep 8 ((0 : UInt32) : UInt32))])) (k_3.brd 0 rfl) <| qe) (by kernel_rfl) ?_
   have k_4 := k_3.sel .z
   exact ⟨rfl, k_4⟩
 rw [if_neg hc] at hm
 refine W_skip <| At_go <| W_seq <| W_reg <| WL_op <| Op_alloc [] 5 [.ar e32 (Vec.rep 8 (0 : UInt32))] (by kernel_rfl) k_2 ?_
 intro g1 w_3 k_5
 refine WL_nil <| At_go <| W_seq <| W_reg <| WLs 2 [] (.n 14 (sl (some ⟨g1, 0, none⟩) 8 8) (.n 15 (sl A_block block.length c_block) (.k (.ss (.k .z))))) (qo (.v (.slice (some ⟨g1, 0, none⟩) 8 8)) <| qp (((some ⟨g1, 0, none⟩) : Option Addr).isSome = true ∧ Value.slice (slA (some ⟨g1, 0, none⟩) 0 8 1) (8 - 0) (8 - 0) = .slice (some ⟨g1, 0, none⟩) 8 8) ⟨rfl, slx0 _ _ _ _ _ rfl⟩ <| qe) (by kernel_rfl) ?_
 refine WL_op ?_
 have k_6 := k_5.openV [] [] 1 rfl
 obtain ⟨r_1, h_r_1, hm⟩ := ob hm
 obtain ⟨F1, O1, kin, hO, hre, hF, hb⟩ := k_6.go (.r (.i .e))
 refine Op_call [] 16 _ yz_go148 (by kernel_rfl) (c_mixs_words (F := F1) (O := O1) _ _ _ _ _ _ _ _ _ (Nat.le_refl _) (Ro.of_old h_block k_6 hF) rfl hc_block kin _ h_r_1) ?_
 rintro e_ w_4 ⟨rfl, k_7⟩
 have k_8 := hb w_4 _ _ k_7 (.c .n)
 refine ⟨.tup [], rfl, ?_⟩
 have k_9 := k_8.shutV [] [] 0 rfl (Vec.of 8 r_1) (Vec.of_l (k_8.mlen 0 rfl))
 refine WL_nil <| At_go <| W_seq <| W_reg <| WL_op ?_
 have k_10 := k_9.sel (.kk .e)
 obtain ⟨r_2, h_r_2, hm⟩ := ob hm
 refine Op_call [] 17 _ yz_go149 (by kernel_rfl) (c_mixs_IV (F := N0) (O := N0)  (Cx.refl _) _ h_r_2) ?_
 rintro e_ w_5 ⟨rfl, k_11⟩
 have k_12 := k_10.call k_11
 refine ⟨.agg [.ar e32 r_2], rfl, ?_⟩
 refine WL_op <| Op_alloc [] 6 [.ar e32 (Vec.rep 8 (0 : UInt32))] (by kernel_rfl) k_12 ?_
 intro g2 w_6 k_13
 refine WL_op <| Op_b [] 2 (.agg [.ar e32 r_2]) [.ar e32 r_2] (Pt.at g2 0) k_13 rfl .all (by kernel_rfl) (by kernel_rfl) ?_
 intro w_7 k_14
 refine WL_nil <| At_go <| W_seq <| W_seq <| W_q [] (.n 18 (I 0) (.k (.ssss .a))) qe (by kernel_rfl) ?_
 refine At_go <| W_block ?_
 have k_16 := ((k_14.pk (.t (.t .h))).pk (.t .h)).pk (.t (.t .h))
 refine W_lp (m_mixs_Start_l0 r_1) (fun s L wr => ∃ (h : Vec UInt32 8) (x_0 : Int), (h, x_0) = s ∧ L = [(2, pt g 0), (5, pt g1 0), (6, pt g2 0), (18, I x_0)] ∧ Cx F O w wr [Bx 154 g [.ar e32 (Vec.rep 8 (0 : UInt32))], Bx 154 g1 [.ar e32 (Vec.of 8 r_1)], Bx 154 g2 [.ar e32 h]]) (r_2, (0 : Int)) r hm ⟨r_2, (0 : Int), rfl, rfl, k_16⟩ (by kernel_rfl) ?_
 intro s0_ L_ w_8 y0 hrel hstep hr0
 obtain ⟨h, x_0, rfl, rfl, k_15⟩ := hrel
 have hm := hstep; simp only [m_mixs_Start_l0] at hm
 clear hstep
 refine W_seq <| W_q [] (.n 19 (.b (decide (x_0 < 8))) .a) qe (by kernel_rfl) ?_
 refine At_go <| W_seq <| W_condp (x_0 < 8) (by kernel_rfl) (fun hc1 => ?_) (fun hc1 => ?_)
 · rw [if_pos hc1] at hm
   refine W_skip <| At_go <| W_seq <| W_block <| W_seq <| W_q [] (.n 7 (I x_0) (.s .a)) qe (by kernel_rfl) ?_
   refine At_go ?_
   have k_17 := k_15.drew 1
   refine W_m yz_mixed (.q 0 0 (.q 1 0 (.q 2 0 (.q 3 0 (.q 4 0 (.q 5 0 (.q 6 0 (.q 7 0 (.op 8 .nil))))))))) [8] k_17 (.c (.kk .z) .l) (by kernel_rfl) (fun _ => ?_)
   obtain ⟨x_2, h_x_2, hm⟩ := ob hm
   obtain ⟨x_3, h_x_3, hm⟩ := ob hm
   obtain ⟨x_4, h_x_4, hm⟩ := ob hm
   refine MXq 8 0 [] (.n 27 (.u32 (x_2 ^^^ x_3)) (.n 28 (.v (.pointer (ixA (some ⟨g2, 0, none⟩) x_0 1))) (.s .a))) (fun x hx => qV (hx.vrd 2 rfl e32 h 0 (by kernel_rfl)) h_x_2 rfl (.u32 x_2) rfl <| qV (hx.vrd 1 rfl e32 (Vec.of 8 r_1) 0 (by kernel_rfl)) h_x_3 rfl (.u32 x_3) rfl <| qI g2 0 h_x_4 <| qe) (by kernel_rfl) (fun _ => ?_)
   refine MX_op (by kernel_rfl) rfl ?_
   obtain ⟨v, h_v, hm⟩ := nm hm
   refine Op_vs (E := e32) (kk := 0) [] 2 (.u32 (x_2 ^^^ x_3)) [.u32 (x_2 ^^^ x_3)] h_v h_x_4 (Pt.ix0 (Pt.at g2 0) x_0 1) k_17 rfl .h rfl (by kernel_rfl) (by kernel_rfl) ?_
   intro w_9 k_18
   refine ⟨(k_18.sel (.kk .z)), fun _ => ?_⟩
   refine MX_nil <| At_in <| At_go <| W_q [] (.n 18 (I (w64 (x_0 + 1))) (.ss (.kkk .z))) qe (by kernel_rfl) ?_
   exact At_rd (v, w64 (x_0 + 1)) (Option.some.inj hm).symm ⟨v, w64 (x_0 + 1), rfl, rfl, k_18⟩ (by kernel_rfl)
 rw [if_neg hc1] at hm
 refine W_exit (At_te (At_te (At_ie ?_)))
 have hm := exit_of hm hr0
 refine At_go <| W_seq <| W_reg <| WLs 1 [] (.n 30 (.agg [.ar e32 h]) (.s (.k .z))) (qT k_15 2 rfl 0 8 [.ar e32 h] (by kernel_rfl) (by decide) <| qe) (by kernel_rfl) ?_
 refine WL_op <| Op_b [] 0 (.agg [.ar e32 h]) [.ar e32 h] (Pt.at g 0) k_15 rfl .all (by kernel_rfl) (by kernel_rfl) ?_
 intro w_10 k_19
 have k_20 := k_19.sel (.k .z)
 refine WLs 1 [] (.n 3 (I 0) (.s .a)) qe (by kernel_rfl) ?_
 refine WL_nil <| At_go <| W_ret ?_
 obtain rfl := Option.some.inj hm
 refine At_rt [.agg [.ar e32 h], I 0] (qo (.agg [.ar e32 h]) <| qc (fun w => Rd w (some ⟨g, 0, none⟩) (SV.cl [.ar e32 h])) (k_20.brd 0 rfl) <| qe) (by kernel_rfl) ?_
 have k_21 := k_20.sel .z
 exact ⟨rfl, k_21⟩

-- quern/node.begun
noncomputable def m_node_begun (k_ : Int) (block : List UInt8) : Option ((Vec UInt64 8 × List UInt8) ⊕ (Vec UInt32 8 × List UInt8)) :=
  if k_ = 1 then ((m_mixb_Start block).bind fun r_ => some (Sum.inl (r_.1, ([] : List UInt8)))) else ((m_mixs_Start block).bind fun r_1 => some (Sum.inr (r_1.1, ([] : List UInt8))))
theorem c_node_begun {F O : Nat → Prop} {w : World} (k_ : Int) (block : List UInt8) (A_block : Option Addr) (n_block : Nat) (c_block : Nat) (h_block : Ro F w A_block (e8.all block)) (hn_block : block.length = n_block) (hc_block : n_block ≤ c_block) (k : Cx F O w w []) (r : (Vec UInt64 8 × List UInt8) ⊕ (Vec UInt32 8 × List UInt8)) (hm : m_node_begun k_ block = some r) :
    Calls Tryz.prog 119 (vals [I k_, sl A_block n_block c_block]) w (fun e w' => match r with | .inl r0 => ∃ g A n c, r0.2.length = n ∧ e = .returned (SV.val (.v (.iface 200 (SV.val (pt g 0))))) ∧ Cx F O w w' [Bx 206 g [.ar e64 r0.1, .u64 0, .u64 0, sl A n c, I 128, .v (.func (.func 132) ⟨SV.vals []⟩ ⟨SV.vals []⟩), .v (.func (.func 133) ⟨SV.vals []⟩ ⟨SV.vals []⟩)], Ow e8 A n c r0.2] | .inr r1 => ∃ g1 A1 n1 c1, r1.2.length = n1 ∧ e = .returned (SV.val (.v (.iface 209 (SV.val (pt g1 0))))) ∧ Cx F O w w' [Bx 213 g1 [.ar e32 r1.1, .u64 0, .u64 0, sl A1 n1 c1, I 64, .v (.func (.func 135) ⟨SV.vals []⟩ ⟨SV.vals []⟩), .v (.func (.func 136) ⟨SV.vals []⟩ ⟨SV.vals []⟩)], Ow e8 A1 n1 c1 r1.2]) := by
 unfold m_node_begun at hm
 subst hn_block
 refine calls [I k_, sl A_block block.length c_block] Tryz.func119 rfl (of_decide_eq_true (by kernel_rfl)) ?_
 refine W_seq <| W_q [] .a qe (by kernel_rfl) ?_
 refine At_go <| W_seq <| W_seq <| W_q [] (.n 10 (.b (decide (k_ = 1))) (.s .a)) qe (by kernel_rfl) ?_
 refine At_go <| W_condp (k_ = 1) (by kernel_rfl) (fun hc => ?_) (fun hc => ?_)
 · rw [if_pos hc] at hm
   refine W_seq <| W_reg <| WLs 1 [] (.n 12 (sl A_block block.length c_block) .z) qe (by kernel_rfl) ?_
   refine WL_op ?_
   obtain ⟨r_, h_r_, hm⟩ := ob hm
   refine Op_call [] 13 _ yz_go131 (by kernel_rfl) (c_mixb_Start (F := N0) (O := N0) _ _ _ _ (Ro.n0 (h_block.cx k)) rfl hc_block (Cx.refl _) _ h_r_) ?_
   rintro e_ w_ ⟨rfl, k_1⟩
   have k_2 := k.call k_1
   refine ⟨.tup [.agg [.ar e64 r_.1], I r_.2], rfl, ?_⟩
   refine WLs 3 [] (.n 14 (.agg [.ar e64 r_.1]) (.n 15 (I r_.2) .z)) qe (by kernel_rfl) ?_
   refine WL_op <| Op_alloc [] 5 [.ar e64 (Vec.rep 8 (0 : UInt64))] (by kernel_rfl) k_2 ?_
   intro g0 w_1 k_3
   refine WL_op <| Op_b [] 0 (.agg [.ar e64 r_.1]) [.ar e64 r_.1] (Pt.at g0 0) k_3 rfl .all (by kernel_rfl) (by kernel_rfl) ?_
   intro w_2 k_4
   refine WLs 1 [] (.k .z) qe (by kernel_rfl) ?_
   refine WL_nil <| At_go <| W_seq <| W_reg <| WLs 2 [] (.n 17 (.agg [.ar e64 r_.1, .u64 0, .u64 0, sl none 0 0, I 128, .v (.func (.func 132) ⟨SV.vals []⟩ ⟨SV.vals []⟩), .v (.func (.func 133) ⟨SV.vals []⟩ ⟨SV.vals []⟩)]) .z) (qT k_4 0 rfl 0 8 [.ar e64 r_.1] (by kernel_rfl) (by decide) <| qe) (by kernel_rfl) ?_
   refine WL_op <| Op_box [] 18 (.agg [.ar e64 r_.1, .u64 0, .u64 0, sl none 0 0, I 128, .v (.func (.func 132) ⟨SV.vals []⟩ ⟨SV.vals []⟩), .v (.func (.func 133) ⟨SV.vals []⟩ ⟨SV.vals []⟩)]) [.ar e64 r_.1, .u64 0, .u64 0, sl none 0 0, I 128, .v (.func (.func 132) ⟨SV.vals []⟩ ⟨SV.vals []⟩), .v (.func (.func 133) ⟨SV.vals []⟩ ⟨SV.vals []⟩)] (by kernel_rfl) k_4 ?_
   intro g2 w_3 k_5
   refine WLs 2 [] (.n 4 (.v (.iface 200 (SV.val (pt g2 0)))) .z) qe (by kernel_rfl) ?_
   refine WL_nil <| At_go <| W_ret (At_tr ?_)
   have k_6 := k_5.nil e8
   obtain rfl := Option.some.inj hm
   refine At_rt [.v (.iface 200 (SV.val (pt g2 0)))] qe (by kernel_rfl) ?_
   have k_7 := k_6.sel (.s (.kk .e))
   exact ⟨g2, none, 0, 0, k_7.len 1 rfl, rfl, k_7⟩
 rw [if_neg hc] at hm
 refine W_skip <| At_go <| W_seq <| W_reg <| WLs 1 [] (.n 21 (sl A_block block.length c_block) .z) qe (by kernel_rfl) ?_
 refine WL_op ?_
 obtain ⟨r_1, h_r_1, hm⟩ := ob hm
 refine Op_call [] 22 _ yz_go134 (by kernel_rfl) (c_mixs_Start (F := N0) (O := N0) _ _ _ _ (Ro.n0 (h_block.cx k)) rfl hc_block (Cx.refl _) _ h_r_1) ?_
 rintro e_ w_4 ⟨rfl, k_8⟩
 have k_9 := k.call k_8
 refine ⟨.tup [.agg [.ar e32 r_1.1], I r_1.2], rfl, ?_⟩
 refine WLs 3 [] (.n 23 (.agg [.ar e32 r_1.1]) (.n 24 (I r_1.2) .z)) qe (by kernel_rfl) ?_
 refine WL_op <| Op_alloc [] 7 [.ar e32 (Vec.rep 8 (0 : UInt32))] (by kernel_rfl) k_9 ?_
 intro g3 w_5 k_10
 refine WL_op <| Op_b [] 0 (.agg [.ar e32 r_1.1]) [.ar e32 r_1.1] (Pt.at g3 0) k_10 rfl .all (by kernel_rfl) (by kernel_rfl) ?_
 intro w_6 k_11
 refine WLs 1 [] (.k .z) qe (by kernel_rfl) ?_
 refine WL_nil <| At_go <| W_seq <| W_reg <| WLs 2 [] (.n 26 (.agg [.ar e32 r_1.1, .u64 0, .u64 0, sl none 0 0, I 64, .v (.func (.func 135) ⟨SV.vals []⟩ ⟨SV.vals []⟩), .v (.func (.func 136) ⟨SV.vals []⟩ ⟨SV.vals []⟩)]) .z) (qT k_11 0 rfl 0 8 [.ar e32 r_1.1] (by kernel_rfl) (by decide) <| qe) (by kernel_rfl) ?_
 refine WL_op <| Op_box [] 27 (.agg [.ar e32 r_1.1, .u64 0, .u64 0, sl none 0 0, I 64, .v (.func (.func 135) ⟨SV.vals []⟩ ⟨SV.vals []⟩), .v (.func (.func 136) ⟨SV.vals []⟩ ⟨SV.vals []⟩)]) [.ar e32 r_1.1, .u64 0, .u64 0, sl none 0 0, I 64, .v (.func (.func 135) ⟨SV.vals []⟩ ⟨SV.vals []⟩), .v (.func (.func 136) ⟨SV.vals []⟩ ⟨SV.vals []⟩)] (by kernel_rfl) k_11 ?_
 intro g4 w_7 k_12
 refine WLs 2 [] (.n 4 (.v (.iface 209 (SV.val (pt g4 0)))) .z) qe (by kernel_rfl) ?_
 refine WL_nil <| At_go <| W_ret ?_
 have k_13 := k_12.nil e8
 obtain rfl := Option.some.inj hm
 refine At_rt [.v (.iface 209 (SV.val (pt g4 0)))] qe (by kernel_rfl) ?_
 have k_14 := k_13.sel (.s (.kk .e))
 exact ⟨g4, none, 0, 0, k_14.len 1 rfl, rfl, k_14⟩

-- quern/node.blockOf
noncomputable def m_node_blockOf (k_ : Int) : Option Int :=
  if k_ = 1 then (some (128 : Int)) else (some (64 : Int))
theorem c_node_blockOf {F O : Nat → Prop} {w : World} (k_ : Int) (k : Cx F O w w []) (r : Int) (hm : m_node_blockOf k_ = some r) :
    Calls Tryz.prog 92 (vals [I k_]) w (fun e w' => e = .returned (SV.val (I r)) ∧ Cx F O w w' []) := by
 unfold m_node_blockOf at hm
 refine calls [I k_] Tryz.func92 rfl (of_decide_eq_true (by kernel_rfl)) ?_
 refine W_seq <| W_q [] .a qe (by kernel_rfl) ?_
 refine At_go <| W_seq <| W_seq <| W_q [] (.n 4 (.b (decide (k_ = 1))) .z) qe (by kernel_rfl) ?_
 refine At_go <| W_condp (k_ = 1) (by kernel_rfl) (fun hc => ?_) (fun hc => ?_)
 · rw [if_pos hc] at hm
   refine W_seq <| W_q [] (.n 2 (I 128) .z) qe (by kernel_rfl) ?_
   refine At_go <| W_ret (At_tr ?_)
   obtain rfl := Option.some.inj hm
   refine At_rt [I 128] qe (by kernel_rfl) ?_
   exact ⟨rfl, k⟩
 rw [if_neg hc] at hm
 refine W_skip <| At_go <| W_seq <| W_q [] (.n 2 (I 64) .z) qe (by kernel_rfl) ?_
 refine At_go <| W_ret ?_
 obtain rfl := Option.some.inj hm
 refine At_rt [I 64] qe (by kernel_rfl) ?_
 exact ⟨rfl, k⟩
end Go.Sx
