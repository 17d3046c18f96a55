import Derived.Test.YtmknbdnofogmdaaGreatW8
namespace Go.Sx
open Go.RowKit Go.Proofs
set_option linter.unusedVariables false
set_option linter.unusedSimpArgs false
set_option maxRecDepth 20000

-- quern/quernref02.Encode
noncomputable def m_r02_Encode_j0 (f : Int) (b1 : List UInt8) : Option ((List UInt8 × Int) ⊕ (List UInt8 × Int)) :=
  some (.inl (b1, w64 (f + 1)))
noncomputable def m_r02_Encode_j1 (f : Int) (b2 : List UInt8) : Option ((List UInt8 × Int) ⊕ (List UInt8 × Int)) :=
  m_r02_Encode_j0 f b2
noncomputable def m_r02_Encode_l2 (p_Personal : List UInt8) (r_4 : Int) : (List UInt8 × Int) → Option ((List UInt8 × Int) ⊕ (List UInt8 × Int))
  | (b4, i1) => if i1 < ((p_Personal.length : Nat) : Int) then ((geti p_Personal i1).bind fun x_4 => (geti b4 (w64 ((w64 (3 * (w64 (Int.tdiv r_4 4)))) + i1))).bind fun x_5 => some (.inl (b4.set (Int.toNat (w64 ((w64 (3 * (w64 (Int.tdiv r_4 4)))) + i1))) x_4, w64 (i1 + 1)))) else (Option.map Sum.inr (some (b4, (0 : Int))))
noncomputable def m_r02_Encode_l1 (p_Salt : List UInt8) (p_Personal : List UInt8) (r_4 : Int) : (List UInt8 × Int) → Option ((List UInt8 × Int) ⊕ (List UInt8 × Int))
  | (b3, i) => if i < ((p_Salt.length : Nat) : Int) then ((geti p_Salt i).bind fun x_2 => (geti b3 (w64 ((w64 (2 * (w64 (Int.tdiv r_4 4)))) + i))).bind fun x_3 => some (.inl (b3.set (Int.toNat (w64 ((w64 (2 * (w64 (Int.tdiv r_4 4)))) + i))) x_2, w64 (i + 1)))) else (Option.map Sum.inr (whileO (m_r02_Encode_l2 p_Personal r_4) (b3, (0 : Int))))
noncomputable def m_r02_Encode_l0 (kind : Int) (p_Digest : Int) (p_Key : Int) (p_Fanout : Int) (p_Depth : Int) (p_Leaf : UInt32) (p_Offset : UInt64) (p_Xof : UInt32) (p_NodeDepth : Int) (p_Inner : Int) (p_Salt : List UInt8) (p_Personal : List UInt8) : (List UInt8 × Int) → Option ((List UInt8 × Int) ⊕ (List UInt8 × Int))
  | (b, f) => if f ≤ 9 then (if ((decide (f = 7)) && (decide (p_Xof = 0))) = true then (m_r02_Encode_j1 f b) else ((m_r02_place kind f).bind fun r_2 => (geti ([UInt64.ofInt p_Digest, UInt64.ofInt p_Key, UInt64.ofInt p_Fanout, UInt64.ofInt p_Depth, UInt64.ofNat p_Leaf.toNat, p_Offset, UInt64.ofNat p_Xof.toNat, UInt64.ofInt p_NodeDepth, UInt64.ofInt p_Inner] : List UInt64) (w64 (f - 1))).bind fun x_0 => (m_r02_lay b r_2.1 r_2.2 x_0).bind fun r_3 => m_r02_Encode_j1 f r_3)) else (Option.map Sum.inr ((m_r02_Most kind).bind fun r_4 => whileO (m_r02_Encode_l1 p_Salt p_Personal r_4) (b, (0 : Int))))
noncomputable def m_r02_Encode (kind : Int) (p_Digest : Int) (p_Key : Int) (p_Fanout : Int) (p_Depth : Int) (p_Leaf : UInt32) (p_Offset : UInt64) (p_Xof : UInt32) (p_NodeDepth : Int) (p_Inner : Int) (p_Salt : List UInt8) (p_Personal : List UInt8) : Option (List UInt8 × Int) :=
  (m_r02_Check kind p_Digest p_Key p_Fanout p_Depth p_Leaf p_Offset p_Xof p_NodeDepth p_Inner p_Salt p_Personal).bind fun r_ => if r_ ≠ 0 then (some (([] : List UInt8), r_)) else ((m_r02_Size kind).bind fun r_1 => (need ((0 : Int) ≤ r_1 ∧ (r_1 : Int) ≤ r_1 ∧ Int.toNat r_1 * 1 ≤ 140737488355328)).bind fun u => whileO (m_r02_Encode_l0 kind p_Digest p_Key p_Fanout p_Depth p_Leaf p_Offset p_Xof p_NodeDepth p_Inner p_Salt p_Personal) (List.replicate (Int.toNat r_1) (0 : UInt8), (1 : Int)))
theorem c_r02_Encode {F O : Nat → Prop} {w : World} (kind : Int) (p_Digest : Int) (p_Key : Int) (p_Fanout : Int) (p_Depth : Int) (p_Leaf : UInt32) (p_Offset : UInt64) (p_Xof : UInt32) (p_NodeDepth : Int) (p_Inner : Int) (p_Salt : List UInt8) (p_Personal : List UInt8) (A_p_Salt : Option Addr) (n_p_Salt : Nat) (c_p_Salt : Nat) (A_p_Personal : Option Addr) (n_p_Personal : Nat) (c_p_Personal : Nat) (h_p_Salt : Ro F w A_p_Salt (e8.all p_Salt)) (hn_p_Salt : p_Salt.length = n_p_Salt) (hc_p_Salt : n_p_Salt ≤ c_p_Salt) (h_p_Personal : Ro F w A_p_Personal (e8.all p_Personal)) (hn_p_Personal : p_Personal.length = n_p_Personal) (hc_p_Personal : n_p_Personal ≤ c_p_Personal) (k : Cx F O w w []) (r : (List UInt8 × Int)) (hm : m_r02_Encode kind p_Digest p_Key p_Fanout p_Depth p_Leaf p_Offset p_Xof p_NodeDepth p_Inner p_Salt p_Personal = some r) :
    Calls Tryz.prog 108 (vals [I kind, .agg [I p_Digest, I p_Key, I p_Fanout, I p_Depth, .u32 p_Leaf, .u64 p_Offset, .u32 p_Xof, I p_NodeDepth, I p_Inner, sl A_p_Salt n_p_Salt c_p_Salt, sl A_p_Personal n_p_Personal c_p_Personal]]) w (fun e w' => ∃ A n c, r.1.length = n ∧ e = .returned (SV.val (.tup [sl A n c, I r.2])) ∧ Cx F O w w' [Ow e8 A n c r.1]) := by
 unfold m_r02_Encode at hm
 subst hn_p_Salt
 subst hn_p_Personal
 refine calls [I kind, .agg [I p_Digest, I p_Key, I p_Fanout, I p_Depth, .u32 p_Leaf, .u64 p_Offset, .u32 p_Xof, I p_NodeDepth, I p_Inner, sl A_p_Salt p_Salt.length c_p_Salt, sl A_p_Personal p_Personal.length c_p_Personal]] Tryz.func108 rfl (of_decide_eq_true (by kernel_rfl)) ?_
 refine W_seq <| W_reg <| WL_op <| Op_box [] 3 (.agg [I p_Digest, I p_Key, I p_Fanout, I p_Depth, .u32 p_Leaf, .u64 p_Offset, .u32 p_Xof, I p_NodeDepth, I p_Inner, sl A_p_Salt p_Salt.length c_p_Salt, sl A_p_Personal p_Personal.length c_p_Personal]) [I p_Digest, I p_Key, I p_Fanout, I p_Depth, .u32 p_Leaf, .u64 p_Offset, .u32 p_Xof, I p_NodeDepth, I p_Inner, sl A_p_Salt p_Salt.length c_p_Salt, sl A_p_Personal p_Personal.length c_p_Personal] (by kernel_rfl) k ?_
 intro g w_ k_
 refine WLs 2 [] (.kk .z) qe (by kernel_rfl) ?_
 refine WL_nil <| At_go <| W_seq <| W_reg <| WLs 2 [] (.n 15 (I kind) (.n 16 (.agg [I p_Digest, I p_Key, I p_Fanout, I p_Depth, .u32 p_Leaf, .u64 p_Offset, .u32 p_Xof, I p_NodeDepth, I p_Inner, sl A_p_Salt p_Salt.length c_p_Salt, sl A_p_Personal p_Personal.length c_p_Personal]) .a)) (qT k_ 0 rfl 0 11 [I p_Digest, I p_Key, I p_Fanout, I p_Depth, .u32 p_Leaf, .u64 p_Offset, .u32 p_Xof, I p_NodeDepth, I p_Inner, sl A_p_Salt p_Salt.length c_p_Salt, sl A_p_Personal p_Personal.length c_p_Personal] (by kernel_rfl) (by decide) <| qe) (by kernel_rfl) ?_
 refine WL_op ?_
 obtain ⟨r_, h_r_, hm⟩ := ob hm
 refine Op_call [] 17 _ yz_go42 (by kernel_rfl) (c_r02_Check (F := N0) (O := N0) _ _ _ _ _ _ _ _ _ _ _ _ _ _ _ _ _ _ (Ro.n0 (h_p_Salt.cx k_)) rfl hc_p_Salt (Ro.n0 (h_p_Personal.cx k_)) rfl hc_p_Personal (Cx.refl _) _ h_r_) ?_
 rintro e_ w_1 ⟨rfl, k_1⟩
 have k_2 := k_.call k_1
 refine ⟨I r_, rfl, ?_⟩
 refine WLs 1 [] (.n 6 (I r_) (.sss .a)) qe (by kernel_rfl) ?_
 refine WL_nil <| At_go <| W_seq <| W_seq <| W_q [] (.n 19 (.b (decide (r_ ≠ 0))) .a) qe (by kernel_rfl) ?_
 refine At_go <| W_condp (r_ ≠ 0) (by kernel_rfl) (fun hc => ?_) (fun hc => ?_)
 · rw [if_pos hc] at hm
   refine W_seq <| W_q [] (.n 4 (sl none 0 0) (.n 5 (I r_) .z)) qe (by kernel_rfl) ?_
   refine At_go <| W_ret (At_tr ?_)
   have k_3 := k_2.nil e8
   obtain rfl := Option.some.inj hm
   refine At_rt [sl none 0 0, I r_] qe (by kernel_rfl) ?_
   have k_4 := k_3.sel (.s (.k .e))
   exact ⟨none, 0, 0, k_4.len 0 rfl, rfl, k_4⟩
 rw [if_neg hc] at hm
 refine W_skip <| At_go <| W_seq <| W_reg <| WLs 1 [] (.n 21 (I kind) (.ss .a)) qe (by kernel_rfl) ?_
 refine WL_op ?_
 obtain ⟨r_1, h_r_1, hm⟩ := ob hm
 refine Op_call [] 22 _ yz_go121 (by kernel_rfl) (c_r02_Size (F := N0) (O := N0) _ (Cx.refl _) _ h_r_1) ?_
 rintro e_ w_2 ⟨rfl, k_5⟩
 have k_6 := k_2.call k_5
 refine ⟨I r_1, rfl, ?_⟩
 refine WL_op ?_
 obtain ⟨u, h_u, hm⟩ := ob hm
 refine Op_make yz_tf22 e8 (0 : UInt8) rfl [] 23 (I r_1) (I r_1) r_1 r_1 (by kernel_rfl) (need_some h_u).1 (need_some h_u).2.1 (need_some h_u).2.2 k_6 ?_
 intro A0 w_3 k_7
 refine WLs 1 [] (.n 7 (sl A0 (Int.toNat r_1) (Int.toNat r_1)) (.sss .a)) qe (by kernel_rfl) ?_
 refine WL_nil <| At_go <| W_seq <| W_reg <| WLs 26 [] (.n 26 (.u64 (UInt64.ofInt p_Digest)) (.n 29 (.u64 (UInt64.ofInt p_Key)) (.n 32 (.u64 (UInt64.ofInt p_Fanout)) (.n 35 (.u64 (UInt64.ofInt p_Depth)) (.n 38 (.u64 (UInt64.ofNat p_Leaf.toNat)) (.n 40 (.u64 p_Offset) (.n 43 (.u64 (UInt64.ofNat p_Xof.toNat)) (.n 46 (.u64 (UInt64.ofInt p_NodeDepth)) (.n 49 (.u64 (UInt64.ofInt p_Inner)) .a))))))))) (qs g 0 <| qB k_7 0 rfl 0 (I p_Digest) (by kernel_rfl) <| qs g 0 <| qB k_7 0 rfl 1 (I p_Key) (by kernel_rfl) <| qs g 0 <| qB k_7 0 rfl 2 (I p_Fanout) (by kernel_rfl) <| qs g 0 <| qB k_7 0 rfl 3 (I p_Depth) (by kernel_rfl) <| qs g 0 <| qB k_7 0 rfl 4 (.u32 p_Leaf) (by kernel_rfl) <| qs g 0 <| qB k_7 0 rfl 5 (.u64 p_Offset) (by kernel_rfl) <| qs g 0 <| qB k_7 0 rfl 6 (.u32 p_Xof) (by kernel_rfl) <| qs g 0 <| qB k_7 0 rfl 7 (I p_NodeDepth) (by kernel_rfl) <| qs g 0 <| qB k_7 0 rfl 8 (I p_Inner) (by kernel_rfl) <| qe) (by kernel_rfl) ?_
 refine WL_op ?_
 have k_8 := k_7.sel (.kk .e)
 refine Op_mk yz_tf39 e64 [] 50 ([UInt64.ofInt p_Digest, UInt64.ofInt p_Key, UInt64.ofInt p_Fanout, UInt64.ofInt p_Depth, UInt64.ofNat p_Leaf.toNat, p_Offset, UInt64.ofNat p_Xof.toNat, UInt64.ofInt p_NodeDepth, UInt64.ofInt p_Inner] : List UInt64) [(0, .u64 (UInt64.ofInt p_Digest)), (1, .u64 (UInt64.ofInt p_Key)), (2, .u64 (UInt64.ofInt p_Fanout)), (3, .u64 (UInt64.ofInt p_Depth)), (4, .u64 (UInt64.ofNat p_Leaf.toNat)), (5, .u64 p_Offset), (6, .u64 (UInt64.ofNat p_Xof.toNat)), (7, .u64 (UInt64.ofInt p_NodeDepth)), (8, .u64 (UInt64.ofInt p_Inner))] [.u64 (UInt64.ofInt p_Digest), .u64 (UInt64.ofInt p_Key), .u64 (UInt64.ofInt p_Fanout), .u64 (UInt64.ofInt p_Depth), .u64 (UInt64.ofNat p_Leaf.toNat), .u64 p_Offset, .u64 (UInt64.ofNat p_Xof.toNat), .u64 (UInt64.ofInt p_NodeDepth), .u64 (UInt64.ofInt p_Inner)] (by kernel_rfl) (by kernel_rfl) (by kernel_rfl) k_8 ?_
 intro A1 w_4 k_9
 refine WLs 1 [] (.n 8 (sl A1 9 9) (.ssss (.ssss (.ss .a)))) qe (by kernel_rfl) ?_
 refine WL_nil <| At_go <| W_seq <| W_seq <| W_q [] (.n 9 (I 1) .a) qe (by kernel_rfl) ?_
 refine At_go <| W_block <| W_lp (m_r02_Encode_l0 kind p_Digest p_Key p_Fanout p_Depth p_Leaf p_Offset p_Xof p_NodeDepth p_Inner p_Salt p_Personal) (fun s L wr => ∃ (b : List UInt8) (f : Int), (b, f) = s ∧ L = [(0, I kind), (3, pt g 0), (7, sl A0 (Int.toNat r_1) (Int.toNat r_1)), (8, sl A1 9 9), (9, I f)] ∧ Cx F O w wr [Bx 83 g [I p_Digest, I p_Key, I p_Fanout, I p_Depth, .u32 p_Leaf, .u64 p_Offset, .u32 p_Xof, I p_NodeDepth, I p_Inner, sl A_p_Salt p_Salt.length c_p_Salt, sl A_p_Personal p_Personal.length c_p_Personal], Ow e8 A0 (Int.toNat r_1) (Int.toNat r_1) b, Ow e64 A1 9 9 ([UInt64.ofInt p_Digest, UInt64.ofInt p_Key, UInt64.ofInt p_Fanout, UInt64.ofInt p_Depth, UInt64.ofNat p_Leaf.toNat, p_Offset, UInt64.ofNat p_Xof.toNat, UInt64.ofInt p_NodeDepth, UInt64.ofInt p_Inner] : List UInt64)]) (List.replicate (Int.toNat r_1) (0 : UInt8), (1 : Int)) r hm ⟨List.replicate (Int.toNat r_1) (0 : UInt8), (1 : Int), rfl, rfl, k_9⟩ (by kernel_rfl) ?_
 intro s0_ L_ w_5 y0 hrel hstep hr0
 obtain ⟨b, f, rfl, rfl, k_10⟩ := hrel
 have hm := hstep; simp only [m_r02_Encode_l0] at hm
 clear hstep
 refine W_seq <| W_seq <| W_q [] (.n 52 (.b (decide (f ≤ 9))) .a) qe (by kernel_rfl) ?_
 refine At_go <| W_condp (f ≤ 9) (by kernel_rfl) (fun hc1 => ?_) (fun hc1 => ?_)
 · rw [if_pos hc1] at hm
   refine W_skip <| At_go <| W_cut (fun L wr => ∃ (b1 : List UInt8), m_r02_Encode_j0 f b1 = some y0 ∧ L = [(0, I kind), (3, pt g 0), (7, sl A0 (Int.toNat r_1) (Int.toNat r_1)), (8, sl A1 9 9), (9, I f)] ∧ Cx F O w wr [Bx 83 g [I p_Digest, I p_Key, I p_Fanout, I p_Depth, .u32 p_Leaf, .u64 p_Offset, .u32 p_Xof, I p_NodeDepth, I p_Inner, sl A_p_Salt p_Salt.length c_p_Salt, sl A_p_Personal p_Personal.length c_p_Personal], Ow e8 A0 (Int.toNat r_1) (Int.toNat r_1) b1, Ow e64 A1 9 9 ([UInt64.ofInt p_Digest, UInt64.ofInt p_Key, UInt64.ofInt p_Fanout, UInt64.ofInt p_Depth, UInt64.ofNat p_Leaf.toNat, p_Offset, UInt64.ofNat p_Xof.toNat, UInt64.ofInt p_NodeDepth, UInt64.ofInt p_Inner] : List UInt64)]) ?_ ?_
   ·
    refine W_cutb (fun L wr => ∃ (b2 : List UInt8), m_r02_Encode_j1 f b2 = some y0 ∧ L = [(0, I kind), (3, pt g 0), (7, sl A0 (Int.toNat r_1) (Int.toNat r_1)), (8, sl A1 9 9), (9, I f)] ∧ Cx F O w wr [Bx 83 g [I p_Digest, I p_Key, I p_Fanout, I p_Depth, .u32 p_Leaf, .u64 p_Offset, .u32 p_Xof, I p_NodeDepth, I p_Inner, sl A_p_Salt p_Salt.length c_p_Salt, sl A_p_Personal p_Personal.length c_p_Personal], Ow e8 A0 (Int.toNat r_1) (Int.toNat r_1) b2, Ow e64 A1 9 9 ([UInt64.ofInt p_Digest, UInt64.ofInt p_Key, UInt64.ofInt p_Fanout, UInt64.ofInt p_Depth, UInt64.ofNat p_Leaf.toNat, p_Offset, UInt64.ofNat p_Xof.toNat, UInt64.ofInt p_NodeDepth, UInt64.ofInt p_Inner] : List UInt64)]) ?_ ?_
    ·
     refine W_seq <| W_seq <| W_q [] (.n 61 (.b ((decide (f = 7)) && (decide (p_Xof = 0)))) (.s .a)) (qp ((decide (f = 7)) = true → (some ⟨g, 0, none⟩ : Option Addr).isSome = true) (fun hg0 => rfl) <| qo (.u32 p_Xof) <| qc (fun w => (decide (f = 7)) = true → ∃ a, (some ⟨g, 6, none⟩ : Option Addr) = some a ∧ w.cell? a = some (SV.val (.u32 p_Xof))) (fun hg0 => k_10.bld 0 rfl 6 (.u32 p_Xof) (by kernel_rfl)) <| qe) (by kernel_rfl) ?_
     refine At_go <| W_cond ((decide (f = 7)) && (decide (p_Xof = 0))) (by kernel_rfl) (fun hc2 => ?_) (fun hc2 => ?_)
     · rw [if_pos hc2] at hm
       refine W_exit (At_te (At_ie ?_))
       exact At_c ⟨b, hm, rfl, k_10⟩ (by kernel_rfl)
     rw [if_neg (by rw [hc2]; decide)] at hm
     refine W_skip <| At_go <| W_seq <| W_reg <| WLs 2 [] (.n 63 (I kind) (.n 64 (I f) (.s .a))) qe (by kernel_rfl) ?_
     refine WL_op ?_
     obtain ⟨r_2, h_r_2, hm⟩ := ob hm
     refine Op_call [] 65 _ yz_go122 (by kernel_rfl) (c_r02_place (F := N0) (O := N0) _ _ (Cx.refl _) _ h_r_2) ?_
     rintro e_ w_6 ⟨rfl, k_11⟩
     have k_12 := k_10.call k_11
     refine ⟨.tup [I r_2.1, I r_2.2], rfl, ?_⟩
     refine WLs 5 [] (.n 10 (I r_2.1) (.n 11 (I r_2.2) (.sss .a))) qe (by kernel_rfl) ?_
     refine WL_nil <| At_go <| W_reg ?_
     obtain ⟨x_0, h_x_0, hm⟩ := ob hm
     refine WLs 8 [] (.n 68 (sl A0 (Int.toNat r_1) (Int.toNat r_1)) (.n 69 (I r_2.1) (.n 70 (I r_2.2) (.n 75 (.u64 x_0) (.ss .a))))) (qW (k_12.rd 2 rfl) h_x_0 (k_12.len 2 rfl) (.u64 x_0) rfl <| qe) (by kernel_rfl) ?_
     refine WL_op ?_
     obtain ⟨G, hG, k_13⟩ := k_12.openM 1 rfl
     obtain ⟨r_3, h_r_3, hm⟩ := ob hm
     obtain ⟨F1, O1, kin, hO, hre, hF, hb⟩ := k_13.go (.r (.i (.r .e)))
     refine Op_call [] 76 _ yz_go123 (by kernel_rfl) (c_r02_lay (F := F1) (O := O1) _ _ _ _ _ _ _ _ (k_12.lec 1 rfl) kin _ h_r_3) ?_
     rintro e_ w_7 ⟨rfl, k_14⟩
     have k_15 := hb w_7 _ _ k_14 (.c .n)
     refine ⟨.tup [], rfl, ?_⟩
     have k_16 := k_15.shutM hG 0 rfl
     refine WL_nil <| At_in ?_
     have k_17 := ((k_16.pk (.t (.t .h))).pk (.t .h)).pk (.t (.t .h))
     exact At_c ⟨r_3, hm, rfl, k_17⟩ (by kernel_rfl)
    rintro L_ w_8 ⟨b2, hm, rfl, k_18⟩
    simp only [m_r02_Encode_j1] at hm
    exact At_c ⟨b2, hm, rfl, k_18⟩ (by kernel_rfl)
   rintro L_ w_9 ⟨b1, hm, rfl, k_19⟩
   simp only [m_r02_Encode_j0] at hm
   refine W_q [] (.n 9 (I (w64 (f + 1))) (.kkkk .z)) qe (by kernel_rfl) ?_
   exact At_rd (b1, w64 (f + 1)) (Option.some.inj hm).symm ⟨b1, w64 (f + 1), rfl, rfl, k_19⟩ (by kernel_rfl)
 rw [if_neg hc1] at hm
 refine W_exit (At_te (At_te (At_ie ?_)))
 have hm := exit_of hm hr0
 refine At_go <| W_seq <| W_reg <| WLs 1 [] (.n 77 (I kind) (.ss (.kk .z))) qe (by kernel_rfl) ?_
 refine WL_op ?_
 obtain ⟨r_4, h_r_4, hm⟩ := ob hm
 refine Op_call [] 78 _ yz_go45 (by kernel_rfl) (c_r02_Most (F := N0) (O := N0) _ (Cx.refl _) _ h_r_4) ?_
 rintro e_ w_10 ⟨rfl, k_20⟩
 have k_21 := k_10.call k_20
 refine ⟨I r_4, rfl, ?_⟩
 have k_22 := k_21.sel (.kk .z)
 refine WLs 2 [] (.n 12 (I (w64 (Int.tdiv r_4 4))) (.ss .a)) (qp ((4 : Int) ≠ (0 : Int)) (by omega) <| qe) (by kernel_rfl) ?_
 refine WL_nil <| At_go <| W_seq <| W_seq <| W_q [] (.n 13 (I 0) .a) qe (by kernel_rfl) ?_
 refine At_go <| W_block <| W_lp (m_r02_Encode_l1 p_Salt p_Personal r_4) (fun s L wr => ∃ (b3 : List UInt8) (i : Int), (b3, i) = s ∧ L = [(3, pt g 0), (7, sl A0 (Int.toNat r_1) (Int.toNat r_1)), (12, I (w64 (Int.tdiv r_4 4))), (13, I i)] ∧ Cx F O w wr [Bx 83 g [I p_Digest, I p_Key, I p_Fanout, I p_Depth, .u32 p_Leaf, .u64 p_Offset, .u32 p_Xof, I p_NodeDepth, I p_Inner, sl A_p_Salt p_Salt.length c_p_Salt, sl A_p_Personal p_Personal.length c_p_Personal], Ow e8 A0 (Int.toNat r_1) (Int.toNat r_1) b3]) (b, (0 : Int)) r hm ⟨b, (0 : Int), rfl, rfl, k_22⟩ (by kernel_rfl) ?_
 intro s0_ L_ w_11 y0 hrel hstep hr0
 obtain ⟨b3, i, rfl, rfl, k_23⟩ := hrel
 have hm := hstep; simp only [m_r02_Encode_l1] at hm
 clear hstep
 refine W_seq <| W_seq <| W_q [] (.n 84 (.b (decide (i < ((p_Salt.length : Nat) : Int)))) .a) (qs g 0 <| qB k_23 0 rfl 9 (sl A_p_Salt p_Salt.length c_p_Salt) (by kernel_rfl) <| qe) (by kernel_rfl) ?_
 refine At_go <| W_condp (i < ((p_Salt.length : Nat) : Int)) (by kernel_rfl) (fun hc3 => ?_) (fun hc3 => ?_)
 · rw [if_pos hc3] at hm
   refine W_skip <| At_go <| W_seq <| W_block <| W_reg ?_
   obtain ⟨x_2, h_x_2, hm⟩ := ob hm
   obtain ⟨x_3, h_x_3, hm⟩ := ob hm
   refine WLs 11 [] (.n 96 (.u8 x_2) (.n 97 (.v (.pointer (ixA A0 (w64 ((w64 (2 * (w64 (Int.tdiv r_4 4)))) + i)) 1))) (.s .a))) (qs g 0 <| qB k_23 0 rfl 9 (sl A_p_Salt p_Salt.length c_p_Salt) (by kernel_rfl) <| qW (h_p_Salt.cx k_23) h_x_2 rfl (.u8 x_2) rfl <| qJ (k_23.rd 1 rfl) h_x_3 (k_23.len 1 rfl) <| qe) (by kernel_rfl) ?_
   refine WL_op <| Op_ost (E := e8) (kk := 0) (sv := .u8 x_2) (svs := [.u8 x_2]) [] 1 x_2 (by kernel_rfl) (Pt.ix1 A0 (w64 ((w64 (2 * (w64 (Int.tdiv r_4 4)))) + i)) 1) k_23 rfl (geti_some h_x_3).2 (E_ix (E := e8) (k_23.rd 1 rfl) (by decide) (geti_lt h_x_3).1 (geti_some h_x_3).2) rfl (Nat.le_of_ble_eq_true (by kernel_rfl)) ?_
   intro w_12 k_24
   refine WL_nil <| At_in <| At_go <| W_q [] (.n 13 (I (w64 (i + 1))) (.ss (.kkk .z))) qe (by kernel_rfl) ?_
   exact At_rd (b3.set (Int.toNat (w64 ((w64 (2 * (w64 (Int.tdiv r_4 4)))) + i))) x_2, w64 (i + 1)) (Option.some.inj hm).symm ⟨b3.set (Int.toNat (w64 ((w64 (2 * (w64 (Int.tdiv r_4 4)))) + i))) x_2, w64 (i + 1), rfl, rfl, k_24⟩ (by kernel_rfl)
 rw [if_neg hc3] at hm
 refine W_exit (At_te (At_te (At_ie ?_)))
 have hm := exit_of hm hr0
 refine At_go <| W_seq <| W_seq <| W_q [] (.n 14 (I 0) (.s (.kkk .z))) qe (by kernel_rfl) ?_
 refine At_go <| W_block <| W_lp (m_r02_Encode_l2 p_Personal r_4) (fun s L wr => ∃ (b4 : List UInt8) (i1 : Int), (b4, i1) = s ∧ L = [(3, pt g 0), (7, sl A0 (Int.toNat r_1) (Int.toNat r_1)), (12, I (w64 (Int.tdiv r_4 4))), (14, I i1)] ∧ Cx F O w wr [Bx 83 g [I p_Digest, I p_Key, I p_Fanout, I p_Depth, .u32 p_Leaf, .u64 p_Offset, .u32 p_Xof, I p_NodeDepth, I p_Inner, sl A_p_Salt p_Salt.length c_p_Salt, sl A_p_Personal p_Personal.length c_p_Personal], Ow e8 A0 (Int.toNat r_1) (Int.toNat r_1) b4]) (b3, (0 : Int)) r hm ⟨b3, (0 : Int), rfl, rfl, k_23⟩ (by kernel_rfl) ?_
 intro s0_ L_ w_13 y0 hrel hstep hr0
 obtain ⟨b4, i1, rfl, rfl, k_25⟩ := hrel
 have hm := hstep; simp only [m_r02_Encode_l2] at hm
 clear hstep
 refine W_seq <| W_seq <| W_q [] (.n 102 (.b (decide (i1 < ((p_Personal.length : Nat) : Int)))) .a) (qs g 0 <| qB k_25 0 rfl 10 (sl A_p_Personal p_Personal.length c_p_Personal) (by kernel_rfl) <| qe) (by kernel_rfl) ?_
 refine At_go <| W_condp (i1 < ((p_Personal.length : Nat) : Int)) (by kernel_rfl) (fun hc4 => ?_) (fun hc4 => ?_)
 · rw [if_pos hc4] at hm
   refine W_skip <| At_go <| W_seq <| W_block <| W_reg ?_
   obtain ⟨x_4, h_x_4, hm⟩ := ob hm
   obtain ⟨x_5, h_x_5, hm⟩ := ob hm
   refine WLs 11 [] (.n 114 (.u8 x_4) (.n 115 (.v (.pointer (ixA A0 (w64 ((w64 (3 * (w64 (Int.tdiv r_4 4)))) + i1)) 1))) (.s .a))) (qs g 0 <| qB k_25 0 rfl 10 (sl A_p_Personal p_Personal.length c_p_Personal) (by kernel_rfl) <| qW (h_p_Personal.cx k_25) h_x_4 rfl (.u8 x_4) rfl <| qJ (k_25.rd 1 rfl) h_x_5 (k_25.len 1 rfl) <| qe) (by kernel_rfl) ?_
   refine WL_op <| Op_ost (E := e8) (kk := 0) (sv := .u8 x_4) (svs := [.u8 x_4]) [] 1 x_4 (by kernel_rfl) (Pt.ix1 A0 (w64 ((w64 (3 * (w64 (Int.tdiv r_4 4)))) + i1)) 1) k_25 rfl (geti_some h_x_5).2 (E_ix (E := e8) (k_25.rd 1 rfl) (by decide) (geti_lt h_x_5).1 (geti_some h_x_5).2) rfl (Nat.le_of_ble_eq_true (by kernel_rfl)) ?_
   intro w_14 k_26
   refine WL_nil <| At_in <| At_go <| W_q [] (.n 14 (I (w64 (i1 + 1))) (.ss (.kkk .z))) qe (by kernel_rfl) ?_
   exact At_rd (b4.set (Int.toNat (w64 ((w64 (3 * (w64 (Int.tdiv r_4 4)))) + i1))) x_4, w64 (i1 + 1)) (Option.some.inj hm).symm ⟨b4.set (Int.toNat (w64 ((w64 (3 * (w64 (Int.tdiv r_4 4)))) + i1))) x_4, w64 (i1 + 1), rfl, rfl, k_26⟩ (by kernel_rfl)
 rw [if_neg hc4] at hm
 refine W_exit (At_te (At_te (At_ie ?_)))
 have hm := exit_of hm hr0
 refine At_go <| W_seq <| W_q [] (.n 4 (sl A0 (Int.toNat r_1) (Int.toNat r_1)) (.n 5 (I 0) .z)) qe (by kernel_rfl) ?_
 refine At_go <| W_ret ?_
 obtain rfl := Option.some.inj hm
 refine At_rt [sl A0 (Int.toNat r_1) (Int.toNat r_1), I 0] qe (by kernel_rfl) ?_
 have k_27 := k_25.sel (.s (.k .e))
 exact ⟨A0, Int.toNat r_1, Int.toNat r_1, k_27.len 0 rfl, rfl, k_27⟩

-- quern/quernref01.Load
noncomputable def m_r01_Load_l0 (b : List UInt8) (at_ : Int) : (UInt64 × Int) → Option ((UInt64 × Int) ⊕ (UInt64 × Int))
  | (w_, i) => if 0 ≤ i then ((geti b (w64 (at_ + i))).bind fun x_0 => some (.inl ((w_ * 256) + (UInt64.ofNat x_0.toNat), w64 (i - 1)))) else (Option.map Sum.inr (some (w_, (0 : Int))))
noncomputable def m_r01_Load (b : List UInt8) (at_ : Int) (n : Int) : Option (UInt64 × Int) :=
  if at_ < 0 then (some ((0 : UInt64), (1 : Int))) else (if ((decide (((b.length : Nat) : Int) < at_)) || (decide ((w64 (((b.length : Nat) : Int) - at_)) < n))) = true then (some ((0 : UInt64), (3 : Int))) else (whileO (m_r01_Load_l0 b at_) ((0 : UInt64), w64 (n - 1))))
theorem c_r01_Load {F O : Nat → Prop} {w : World} (b : List UInt8) (at_ : Int) (n : Int) (A_b : Option Addr) (n_b : Nat) (c_b : Nat) (h_b : Ro F w A_b (e8.all b)) (hn_b : b.length = n_b) (hc_b : n_b ≤ c_b) (k : Cx F O w w []) (r : (UInt64 × Int)) (hm : m_r01_Load b at_ n = some r) :
    Calls Tryz.prog 111 (vals [sl A_b n_b c_b, I at_, I n]) w (fun e w' => e = .returned (SV.val (.tup [.u64 r.1, I r.2])) ∧ Cx F O w w' []) := by
 unfold m_r01_Load at hm
 subst hn_b
 refine calls [sl A_b b.length c_b, I at_, I n] Tryz.func111 rfl (of_decide_eq_true (by kernel_rfl)) ?_
 refine W_seq <| W_q [] .a qe (by kernel_rfl) ?_
 refine At_go <| W_seq <| W_seq <| W_q [] (.n 11 (.b (decide (at_ < 0))) .a) qe (by kernel_rfl) ?_
 refine At_go <| W_condp (at_ < 0) (by kernel_rfl) (fun hc => ?_) (fun hc => ?_)
 · rw [if_pos hc] at hm
   refine W_seq <| W_q [] (.n 6 (.u64 0) (.n 7 (I 1) .z)) qe (by kernel_rfl) ?_
   refine At_go <| W_ret (At_tr ?_)
   obtain rfl := Option.some.inj hm
   refine At_rt [.u64 0, I 1] qe (by kernel_rfl) ?_
   exact ⟨rfl, k⟩
 rw [if_neg hc] at hm
 refine W_skip <| At_go <| W_seq <| W_seq <| W_q [] (.n 23 (.b ((decide (((b.length : Nat) : Int) < at_)) || (decide ((w64 (((b.length : Nat) : Int) - at_)) < n)))) (.s .a)) qe (by kernel_rfl) ?_
 refine At_go <| W_cond ((decide (((b.length : Nat) : Int) < at_)) || (decide ((w64 (((b.length : Nat) : Int) - at_)) < n))) (by kernel_rfl) (fun hc1 => ?_) (fun hc1 => ?_)
 · rw [if_pos hc1] at hm
   refine W_seq <| W_q [] (.n 6 (.u64 0) (.n 7 (I 3) .z)) qe (by kernel_rfl) ?_
   refine At_go <| W_ret (At_tr ?_)
   obtain rfl := Option.some.inj hm
   refine At_rt [.u64 0, I 3] qe (by kernel_rfl) ?_
   exact ⟨rfl, k⟩
 rw [if_neg (by rw [hc1]; decide)] at hm
 refine W_skip <| At_go <| W_seq <| W_q [] (.n 8 (.u64 0) (.s .a)) qe (by kernel_rfl) ?_
 refine At_go <| W_seq <| W_seq <| W_q [] (.n 9 (I (w64 (n - 1))) (.kkk .z)) qe (by kernel_rfl) ?_
 refine At_go <| W_block <| W_lp (m_r01_Load_l0 b at_) (fun s L wr => ∃ (w_ : UInt64) (i : Int), (w_, i) = s ∧ L = [(0, sl A_b b.length c_b), (1, I at_), (8, .u64 w_), (9, I i)] ∧ Cx F O w wr []) ((0 : UInt64), w64 (n - 1)) r hm ⟨(0 : UInt64), w64 (n - 1), rfl, rfl, k⟩ (by kernel_rfl) ?_
 intro s0_ L_ w_1 y0 hrel hstep hr0
 obtain ⟨w_, i, rfl, rfl, k_⟩ := hrel
 have hm := hstep; simp only [m_r01_Load_l0] at hm
 clear hstep
 refine W_seq <| W_seq <| W_q [] (.n 27 (.b (decide (0 ≤ i))) .a) qe (by kernel_rfl) ?_
 refine At_go <| W_condp (0 ≤ i) (by kernel_rfl) (fun hc2 => ?_) (fun hc2 => ?_)
 · rw [if_pos hc2] at hm
   refine W_skip <| At_go <| W_seq <| W_block ?_
   obtain ⟨x_0, h_x_0, hm⟩ := ob hm
   refine W_q [] (.n 8 (.u64 ((w_ * 256) + (UInt64.ofNat x_0.toNat))) (.s (.kk (.s .a)))) (qW (h_b.cx k_) h_x_0 rfl (.u8 x_0) rfl <| qe) (by kernel_rfl) ?_
   refine At_in <| At_go <| W_q [] (.n 9 (I (w64 (i - 1))) (.kkk .z)) qe (by kernel_rfl) ?_
   exact At_rd ((w_ * 256) + (UInt64.ofNat x_0.toNat), w64 (i - 1)) (Option.some.inj hm).symm ⟨(w_ * 256) + (UInt64.ofNat x_0.toNat), w64 (i - 1), rfl, rfl, k_⟩ (by kernel_rfl)
 rw [if_neg hc2] at hm
 refine W_exit (At_te (At_te (At_ie ?_)))
 have hm := exit_of hm hr0
 refine At_go <| W_seq <| W_q [] (.n 6 (.u64 w_) (.n 7 (I 0) .z)) qe (by kernel_rfl) ?_
 refine At_go <| W_ret ?_
 obtain rfl := Option.some.inj hm
 refine At_rt [.u64 w_, I 0] qe (by kernel_rfl) ?_
 exact ⟨rfl, k_⟩

-- quern/quernref03.IV
noncomputable def m_r03_IV (i : Int) : Option UInt64 :=
  (geti (⟨[(7640891576956012808 : UInt64), (13503953896175478587 : UInt64), (4354685564936845355 : UInt64), (11912009170470909681 : UInt64), (5840696475078001361 : UInt64), (11170449401992604703 : UInt64), (2270897969802886507 : UInt64), (6620516959819538809 : UInt64)], rfl⟩ : Vec UInt64 8).l (Int.tmod i 8)).bind fun x_0 => some x_0
theorem c_r03_IV {F O : Nat → Prop} {w : World} (i : Int) (k : Cx F O w w []) (r : UInt64) (hm : m_r03_IV i = some r) :
    Calls Tryz.prog 124 (vals [I i]) w (fun e w' => e = .returned (SV.val (.u64 r)) ∧ Cx F O w w' []) := by
 unfold m_r03_IV at hm
 refine calls [I i] Tryz.func124 rfl (of_decide_eq_true (by kernel_rfl)) ?_
 refine W_seq <| W_q [] .a qe (by kernel_rfl) ?_
 refine At_go <| W_seq <| W_reg <| WLs 1 [] (.n 4 (.agg [.ar e64 (⟨[(7640891576956012808 : UInt64), (13503953896175478587 : UInt64), (4354685564936845355 : UInt64), (11912009170470909681 : UInt64), (5840696475078001361 : UInt64), (11170449401992604703 : UInt64), (2270897969802886507 : UInt64), (6620516959819538809 : UInt64)], rfl⟩ : Vec UInt64 8)]) .a) qe (by kernel_rfl) ?_
 refine WL_op <| Op_alloc [] 3 [.ar e64 (Vec.rep 8 (0 : UInt64))] (by kernel_rfl) k ?_
 intro g w_ k_
 refine WL_op <| Op_b [] 0 (.agg [.ar e64 (⟨[(7640891576956012808 : UInt64), (13503953896175478587 : UInt64), (4354685564936845355 : UInt64), (11912009170470909681 : UInt64), (5840696475078001361 : UInt64), (11170449401992604703 : UInt64), (2270897969802886507 : UInt64), (6620516959819538809 : UInt64)], rfl⟩ : Vec UInt64 8)]) [.ar e64 (⟨[(7640891576956012808 : UInt64), (13503953896175478587 : UInt64), (4354685564936845355 : UInt64), (11912009170470909681 : UInt64), (5840696475078001361 : UInt64), (11170449401992604703 : UInt64), (2270897969802886507 : UInt64), (6620516959819538809 : UInt64)], rfl⟩ : Vec UInt64 8)] (Pt.at g 0) k_ rfl .all (by kernel_rfl) (by kernel_rfl) ?_
 intro w_1 k_1
 refine WL_nil <| At_go <| W_seq ?_
 obtain ⟨x_0, h_x_0, hm⟩ := ob hm
 refine W_q [] (.n 2 (.u64 x_0) .z) (qp ((8 : Int) ≠ (0 : Int)) (by omega) <| qV (k_1.vrd 0 rfl e64 (⟨[(7640891576956012808 : UInt64), (13503953896175478587 : UInt64), (4354685564936845355 : UInt64), (11912009170470909681 : UInt64), (5840696475078001361 : UInt64), (11170449401992604703 : UInt64), (2270897969802886507 : UInt64), (6620516959819538809 : UInt64)], rfl⟩ : Vec UInt64 8) 0 (by kernel_rfl)) h_x_0 rfl (.u64 x_0) rfl <| qe) (by kernel_rfl) ?_
 refine At_go <| W_ret ?_
 obtain rfl := Option.some.inj hm
 refine At_rt [.u64 x_0] qe (by kernel_rfl) ?_
 have k_2 := k_1.sel .z
 exact ⟨rfl, k_2⟩

-- quern/quernref03.Start
noncomputable def m_r03_Start_l0 (block : List UInt8) : (Vec UInt64 8 × Int) → Option ((Vec UInt64 8 × Int) ⊕ (Vec UInt64 8 × Int))
  | (h, i) => if i < 8 then ((m_r01_Load block (w64 (8 * i)) (8 : Int)).bind fun r_ => (m_r03_IV i).bind fun r_1 => (geti h.l i).bind fun x_0 => (some (vst h i (r_1 ^^^ r_.1))).bind fun v => some (.inl (v, w64 (i + 1)))) else (Option.map Sum.inr (some (h, (0 : Int))))
noncomputable def m_r03_Start (block : List UInt8) : Option (Vec UInt64 8 × Int) :=
  if ((block.length : Nat) : Int) ≠ 64 then (some ((Vec.rep 8 (0 : UInt64)), (1 : Int))) else (whileO (m_r03_Start_l0 block) ((Vec.rep 8 (0 : UInt64)), (0 : Int)))
theorem c_r03_Start {F O : Nat → Prop} {w : World} (block : List UInt8) (A_block : Option Addr) (n_block : Nat) (c_block : Nat) (h_block : Ro F w A_block (e8.all block)) (hn_block : block.length = n_block) (hc_block : n_block ≤ c_block) (k : Cx F O w w []) (r : (Vec UInt64 8 × Int)) (hm : m_r03_Start block = some r) :
    Calls Tryz.prog 109 (vals [sl A_block n_block c_block]) w (fun e w' => e = .returned (SV.val (.tup [.agg [.ar e64 r.1], I r.2])) ∧ Cx F O w w' []) := by
 unfold m_r03_Start at hm
 subst hn_block
 refine calls [sl A_block block.length c_block] Tryz.func109 rfl (of_decide_eq_true (by kernel_rfl)) ?_
 refine W_seq <| W_reg <| WL_op <| Op_alloc [] 2 [.ar e64 (Vec.rep 8 (0 : UInt64))] (by kernel_rfl) k ?_
 intro g w_ k_
 refine WLs 1 [] .a qe (by kernel_rfl) ?_
 refine WL_nil <| At_go <| W_seq <| W_reg <| WL_op <| Op_alloc [] 4 [.ar e64 (Vec.rep 8 (0 : UInt64))] (by kernel_rfl) k_ ?_
 intro g1 w_1 k_1
 refine WL_nil <| At_go <| W_seq <| W_seq <| W_q [] (.n 10 (.b (decide (((block.length : Nat) : Int) ≠ 64))) .a) qe (by kernel_rfl) ?_
 refine At_go <| W_condp (((block.length : Nat) : Int) ≠ 64) (by kernel_rfl) (fun hc => ?_) (fun hc => ?_)
 · rw [if_pos hc] at hm
   refine W_seq <| W_reg <| WLs 1 [] (.n 11 (.agg [.ar e64 (Vec.rep 8 (0 : UInt64))]) (.ss (.k .z))) (qT k_1 1 rfl 0 8 [.ar e64 (Vec.rep 8 (0 : UInt64))] (by kernel_rfl) (by decide) <| qe) (by kernel_rfl) ?_
   refine WL_op <| Op_b [] 0 (.agg [.ar e64 (Vec.rep 8 (0 : UInt64))]) [.ar e64 (Vec.rep 8 (0 : UInt64))] (Pt.at g 0) k_1 rfl .all (by kernel_rfl) (by kernel_rfl) ?_
   intro w_2 k_2
   have k_3 := k_2.sel (.k .z)
   refine WLs 1 [] (.n 3 (I 1) (.s .a)) qe (by kernel_rfl) ?_
   refine WL_nil <| At_go <| W_ret (At_tr ?_)
   obtain rfl := Option.some.inj hm
   refine At_rt [.agg [.ar e64 (Vec.rep 8 (0 : UInt64))], I 1] (qo (.agg [.ar e64 (Vec.rep 8 (0 : UInt64))]) <| qc (fun w => Rd w (some ⟨g, 0, none⟩) (SV.cl [.ar e64 (Vec.rep 8 (0 : UInt64))])) (k_3.brd 0 rfl) <| qe) (by kernel_rfl) ?_
   have k_4 := k_3.sel .z
   exact ⟨rfl, k_4⟩
 rw [if_neg hc] at hm
 refine W_skip <| At_go <| W_seq <| W_seq <| W_q [] (.n 5 (I 0) (.s .a)) qe (by kernel_rfl) ?_
 refine At_go <| W_block <| W_lp (m_r03_Start_l0 block) (fun s L wr => ∃ (h : Vec UInt64 8) (i : Int), (h, i) = s ∧ L = [(0, sl A_block block.length c_block), (2, pt g 0), (4, pt g1 0), (5, I i)] ∧ Cx F O w wr [Bx 150 g [.ar e64 (Vec.rep 8 (0 : UInt64))], Bx 150 g1 [.ar e64 h]]) ((Vec.rep 8 (0 : UInt64)), (0 : Int)) r hm ⟨(Vec.rep 8 (0 : UInt64)), (0 : Int), rfl, rfl, k_1⟩ (by kernel_rfl) ?_
 intro s0_ L_ w_3 y0 hrel hstep hr0
 obtain ⟨h, i, rfl, rfl, k_5⟩ := hrel
 have hm := hstep; simp only [m_r03_Start_l0] at hm
 clear hstep
 refine W_seq <| W_seq <| W_q [] (.n 13 (.b (decide (i < 8))) .a) qe (by kernel_rfl) ?_
 refine At_go <| W_condp (i < 8) (by kernel_rfl) (fun hc1 => ?_) (fun hc1 => ?_)
 · rw [if_pos hc1] at hm
   refine W_skip <| At_go <| W_seq <| W_block <| W_seq <| W_reg <| WLs 3 [] (.n 17 (sl A_block block.length c_block) (.n 19 (I (w64 (8 * i))) (.s .a))) qe (by kernel_rfl) ?_
   refine WL_op ?_
   obtain ⟨r_, h_r_, hm⟩ := ob hm
   refine Op_call [] 20 _ yz_go111 (by kernel_rfl) (c_r01_Load (F := N0) (O := N0) _ _ _ _ _ _ (Ro.n0 (h_block.cx k_5)) rfl hc_block (Cx.refl _) _ h_r_) ?_
   rintro e_ w_4 ⟨rfl, k_6⟩
   have k_7 := k_5.call k_6
   refine ⟨.tup [.u64 r_.1, I r_.2], rfl, ?_⟩
   refine WLs 5 [] (.n 6 (.u64 r_.1) (.sss .a)) qe (by kernel_rfl) ?_
   refine WL_nil <| At_go <| W_reg <| WLs 2 [] (.n 23 (I i) (.n 24 (I i) .a)) qe (by kernel_rfl) ?_
   refine WL_op ?_
   obtain ⟨r_1, h_r_1, hm⟩ := ob hm
   refine Op_call [] 25 _ yz_go124 (by kernel_rfl) (c_r03_IV (F := N0) (O := N0) _ (Cx.refl _) _ h_r_1) ?_
   rintro e_ w_5 ⟨rfl, k_8⟩
   have k_9 := k_7.call k_8
   refine ⟨.u64 r_1, rfl, ?_⟩
   obtain ⟨x_0, h_x_0, hm⟩ := ob hm
   refine WLs 3 [] (.n 27 (.u64 (r_1 ^^^ r_.1)) (.n 28 (.v (.pointer (ixA (some ⟨g1, 0, none⟩) i 1))) (.ssss .a))) (qI g1 0 h_x_0 <| qe) (by kernel_rfl) ?_
   refine WL_op ?_
   obtain ⟨v, h_v, hm⟩ := nm hm
   refine Op_vs (E := e64) (kk := 0) [] 1 (.u64 (r_1 ^^^ r_.1)) [.u64 (r_1 ^^^ r_.1)] h_v h_x_0 (Pt.ix0 (Pt.at g1 0) i 1) k_9 rfl .h rfl (by kernel_rfl) (by kernel_rfl) ?_
   intro w_6 k_10
   refine WL_nil <| At_in <| At_go <| W_q [] (.n 5 (I (w64 (i + 1))) (.ss (.kkk .z))) qe (by kernel_rfl) ?_
   exact At_rd (v, w64 (i + 1)) (Option.some.inj hm).symm ⟨v, w64 (i + 1), rfl, rfl, k_10⟩ (by kernel_rfl)
 rw [if_neg hc1] at hm
 refine W_exit (At_te (At_te (At_ie ?_)))
 have hm := exit_of hm hr0
 refine At_go <| W_seq <| W_reg <| WLs 1 [] (.n 29 (.agg [.ar e64 h]) (.ss (.k .z))) (qT k_5 1 rfl 0 8 [.ar e64 h] (by kernel_rfl) (by decide) <| qe) (by kernel_rfl) ?_
 refine WL_op <| Op_b [] 0 (.agg [.ar e64 h]) [.ar e64 h] (Pt.at g 0) k_5 rfl .all (by kernel_rfl) (by kernel_rfl) ?_
 intro w_7 k_11
 have k_12 := k_11.sel (.k .z)
 refine WLs 1 [] (.n 3 (I 0) (.s .a)) qe (by kernel_rfl) ?_
 refine WL_nil <| At_go <| W_ret ?_
 obtain rfl := Option.some.inj hm
 refine At_rt [.agg [.ar e64 h], I 0] (qo (.agg [.ar e64 h]) <| qc (fun w => Rd w (some ⟨g, 0, none⟩) (SV.cl [.ar e64 h])) (k_12.brd 0 rfl) <| qe) (by kernel_rfl) ?_
 have k_13 := k_12.sel .z
 exact ⟨rfl, k_13⟩

-- quern/quernref04.IV
noncomputable def m_r04_IV  : Option (Vec UInt32 8) :=
  some (⟨[(1779033703 : UInt32), (3144134277 : UInt32), (1013904242 : UInt32), (2773480762 : UInt32), (1359893119 : UInt32), (2600822924 : UInt32), (528734635 : UInt32), (1541459225 : UInt32)], rfl⟩ : Vec UInt32 8)
theorem c_r04_IV {F O : Nat → Prop} {w : World} (k : Cx F O w w []) (r : (Vec UInt32 8)) (hm : m_r04_IV = some r) :
    Calls Tryz.prog 125 (vals []) w (fun e w' => e = .returned (SV.val (.agg [.ar e32 r])) ∧ Cx F O w w' []) := by
 unfold m_r04_IV at hm
 refine calls [] Tryz.func125 rfl (of_decide_eq_true (by kernel_rfl)) ?_
 refine W_seq <| W_reg <| WL_op <| Op_alloc [] 0 [.ar e32 (Vec.rep 8 (0 : UInt32))] (by kernel_rfl) k ?_
 intro g w_ k_
 refine WL_nil <| At_go <| W_seq <| W_reg <| WLs 1 [] (.n 1 (.agg [.ar e32 (⟨[(1779033703 : UInt32), (3144134277 : UInt32), (1013904242 : UInt32), (2773480762 : UInt32), (1359893119 : UInt32), (2600822924 : UInt32), (528734635 : UInt32), (1541459225 : UInt32)], rfl⟩ : Vec UInt32 8)]) .a) qe (by kernel_rfl) ?_
 refine WL_op <| Op_b [] 0 (.agg [.ar e32 (⟨[(1779033703 : UInt32), (3144134277 : UInt32), (1013904242 : UInt32), (2773480762 : UInt32), (1359893119 : UInt32), (2600822924 : UInt32), (528734635 : UInt32), (1541459225 : UInt32)], rfl⟩ : Vec UInt32 8)]) [.ar e32 (⟨[(1779033703 : UInt32), (3144134277 : UInt32), (1013904242 : UInt32), (2773480762 : UInt32), (1359893119 : UInt32), (2600822924 : UInt32), (528734635 : UInt32), (1541459225 : UInt32)], rfl⟩ : Vec UInt32 8)] (Pt.at g 0) k_ rfl .all (by kernel_rfl) (by kernel_rfl) ?_
 intro w_1 k_1
 refine WL_nil <| At_go <| W_ret ?_
 obtain rfl := Option.some.inj hm
 refine At_rt [.agg [.ar e32 (⟨[(1779033703 : UInt32), (3144134277 : UInt32), (1013904242 : UInt32), (2773480762 : UInt32), (1359893119 : UInt32), (2600822924 : UInt32), (528734635 : UInt32), (1541459225 : UInt32)], rfl⟩ : Vec UInt32 8)]] (qo (.agg [.ar e32 (⟨[(1779033703 : UInt32), (3144134277 : UInt32), (1013904242 : UInt32), (2773480762 : UInt32), (1359893119 : UInt32), (2600822924 : UInt32), (528734635 : UInt32), (1541459225 : UInt32)], rfl⟩ : Vec UInt32 8)]) <| qc (fun w => Rd w (some ⟨g, 0, none⟩) (SV.cl [.ar e32 (⟨[(1779033703 : UInt32), (3144134277 : UInt32), (1013904242 : UInt32), (2773480762 : UInt32), (1359893119 : UInt32), (2600822924 : UInt32), (528734635 : UInt32), (1541459225 : UInt32)], rfl⟩ : Vec UInt32 8)])) (k_1.brd 0 rfl) <| qe) (by kernel_rfl) ?_
 have k_2 := k_1.sel .z
 exact ⟨rfl, k_2⟩

-- quern/quernref04.load
noncomputable def m_r04_load (b : List UInt8) (at_ : Int) : Option UInt32 :=
  (geti b at_).bind fun x_0 => (geti b (w64 (at_ + 1))).bind fun x_1 => (geti b (w64 (at_ + 2))).bind fun x_2 => (geti b (w64 (at_ + 3))).bind fun x_3 => some ((((UInt32.ofNat x_0.toNat) + (shl32 (UInt32.ofNat x_1.toNat) ((8 : UInt64).toNat))) + (shl32 (UInt32.ofNat x_2.toNat) ((16 : UInt64).toNat))) + (shl32 (UInt32.ofNat x_3.toNat) ((24 : UInt64).toNat)))
theorem c_r04_load {F O : Nat → Prop} {w : World} (b : List UInt8) (at_ : Int) (A_b : Option Addr) (n_b : Nat) (c_b : Nat) (h_b : Ro F w A_b (e8.all b)) (hn_b : b.length = n_b) (hc_b : n_b ≤ c_b) (k : Cx F O w w []) (r : UInt32) (hm : m_r04_load b at_ = some r) :
    Calls Tryz.prog 114 (vals [sl A_b n_b c_b, I at_]) w (fun e w' => e = .returned (SV.val (.u32 r)) ∧ Cx F O w w' []) := by
 unfold m_r04_load at hm
 subst hn_b
 refine calls [sl A_b b.length c_b, I at_] Tryz.func114 rfl (of_decide_eq_true (by kernel_rfl)) ?_
 refine W_seq <| W_q [] .a qe (by kernel_rfl) ?_
 refine At_go <| W_seq ?_
 obtain ⟨x_0, h_x_0, hm⟩ := ob hm
 obtain ⟨x_1, h_x_1, hm⟩ := ob hm
 obtain ⟨x_2, h_x_2, hm⟩ := ob hm
 obtain ⟨x_3, h_x_3, hm⟩ := ob hm
 refine W_d yz_mixed (by kernel_rfl) (.n 4 (.u32 ((((UInt32.ofNat x_0.toNat) + (shl32 (UInt32.ofNat x_1.toNat) ((8 : UInt64).toNat))) + (shl32 (UInt32.ofNat x_2.toNat) ((16 : UInt64).toNat))) + (shl32 (UInt32.ofNat x_3.toNat) ((24 : UInt64).toNat)))) .z) (fun m => qW (h_b.cx (k.drew m)) h_x_0 rfl (.u8 x_0) rfl <| qW (h_b.cx (k.drew m)) h_x_1 rfl (.u8 x_1) rfl <| qW (h_b.cx (k.drew m)) h_x_2 rfl (.u8 x_2) rfl <| qW (h_b.cx (k.drew m)) h_x_3 rfl (.u8 x_3) rfl <| qe) (by kernel_rfl) (fun m_ => ?_)
 have k_ := k.drew m_
 refine At_go <| W_ret ?_
 obtain rfl := Option.some.inj hm
 refine At_rt [.u32 ((((UInt32.ofNat x_0.toNat) + (shl32 (UInt32.ofNat x_1.toNat) ((8 : UInt64).toNat))) + (shl32 (UInt32.ofNat x_2.toNat) ((16 : UInt64).toNat))) + (shl32 (UInt32.ofNat x_3.toNat) ((24 : UInt64).toNat)))] qe (by kernel_rfl) ?_
 exact ⟨rfl, k_⟩

-- quern/quernref04.Start
noncomputable def m_r04_Start_l0 (block : List UInt8) : (Vec UInt32 8 × Int) → Option ((Vec UInt32 8 × Int) ⊕ (Vec UInt32 8 × Int))
  | (h, i) => if i < 8 then ((geti h.l i).bind fun x_0 => (m_r04_load block (w64 (4 * i))).bind fun r_1 => (geti h.l i).bind fun x_2 => (some (vst h i (x_0 ^^^ r_1))).bind fun v => some (.inl (v, w64 (i + 1)))) else (Option.map Sum.inr (some (h, (0 : Int))))
noncomputable def m_r04_Start (block : List UInt8) : Option (Vec UInt32 8 × Int) :=
  if ((block.length : Nat) : Int) < 32 then (some ((Vec.rep 8 (0 : UInt32)), (3 : Int))) else (if 32 < ((block.length : Nat) : Int) then (some ((Vec.rep 8 (0 : UInt32)), (2 : Int))) else ((m_r04_IV).bind fun r_ => whileO (m_r04_Start_l0 block) (r_, (0 : Int))))
theorem c_r04_Start {F O : Nat → Prop} {w : World} (block : List UInt8) (A_block : Option Addr) (n_block : Nat) (c_block : Nat) (h_block : Ro F w A_block (e8.all block)) (hn_block : block.length = n_block) (hc_block : n_block ≤ c_block) (k : Cx F O w w []) (r : (Vec UInt32 8 × Int)) (hm : m_r04_Start block = some r) :
    Calls Tryz.prog 110 (vals [sl A_block n_block c_block]) w (fun e w' => e = .returned (SV.val (.tup [.agg [.ar e32 r.1], I r.2])) ∧ Cx F O w w' []) := by
 unfold m_r04_Start at hm
 subst hn_block
 refine calls [sl A_block block.length c_block] Tryz.func110 rfl (of_decide_eq_true (by kernel_rfl)) ?_
 refine W_seq <| W_reg <| WL_op <| Op_alloc [] 2 [.ar e32 (Vec.rep 8 (0 : UInt32))] (by kernel_rfl) k ?_
 intro g w_ k_
 refine WLs 1 [] .a qe (by kernel_rfl) ?_
 refine WL_nil <| At_go <| W_seq <| W_reg <| WL_op <| Op_alloc [] 4 [.ar e32 (Vec.rep 8 (0 : UInt32))] (by kernel_rfl) k_ ?_
 intro g1 w_1 k_1
 refine WL_nil <| At_go <| W_seq <| W_block <| W_seq <| W_q [] (.n 6 (.b (decide (((block.length : Nat) : Int) < 32))) .a) qe (by kernel_rfl) ?_
 refine At_go <| W_condp (((block.length : Nat) : Int) < 32) (by kernel_rfl) (fun hc => ?_) (fun hc => ?_)
 · rw [if_pos hc] at hm
   refine W_seq <| W_reg <| WLs 1 [] (.n 10 (.agg [.ar e32 (Vec.rep 8 (0 : UInt32))]) (.ss (.k .z))) (qT k_1 1 rfl 0 8 [.ar e32 (Vec.rep 8 (0 : UInt32))] (by kernel_rfl) (by decide) <| qe) (by kernel_rfl) ?_
   refine WL_op <| Op_b [] 0 (.agg [.ar e32 (Vec.rep 8 (0 : UInt32))]) [.ar e32 (Vec.rep 8 (0 : UInt32))] (Pt.at g 0) k_1 rfl .all (by kernel_rfl) (by kernel_rfl) ?_
   intro w_2 k_2
   have k_3 := k_2.sel (.k .z)
   refine WLs 1 [] (.n 3 (I 3) (.s .a)) qe (by kernel_rfl) ?_
   refine WL_nil <| At_go <| W_ret (At_ir (At_tr ?_))
   obtain rfl := Option.some.inj hm
   refine At_rt [.agg [.ar e32 (Vec.rep 8 (0 : UInt32))], I 3] (qo (.agg [.ar e32 (Vec.rep 8 (0 : UInt32))]) <| qc (fun w => Rd w (some ⟨g, 0, none⟩) (SV.cl [.ar e32 (Vec.rep 8 (0 : UInt32))])) (k_3.brd 0 rfl) <| qe) (by kernel_rfl) ?_
   have k_4 := k_3.sel .z
   exact ⟨rfl, k_4⟩
 rw [if_neg hc] at hm
 refine W_seq <| W_q [] (.n 11 (.b (decide (32 < ((block.length : Nat) : Int)))) (.s .a)) qe (by kernel_rfl) ?_
 refine At_go <| W_condp (32 < ((block.length : Nat) : Int)) (by kernel_rfl) (fun hc1 => ?_) (fun hc1 => ?_)
 · rw [if_pos hc1] at hm
   refine W_seq <| W_reg <| WLs 1 [] (.n 15 (.agg [.ar e32 (Vec.rep 8 (0 : UInt32))]) (.ss (.k .z))) (qT k_1 1 rfl 0 8 [.ar e32 (Vec.rep 8 (0 : UInt32))] (by kernel_rfl) (by decide) <| qe) (by kernel_rfl) ?_
   refine WL_op <| Op_b [] 0 (.agg [.ar e32 (Vec.rep 8 (0 : UInt32))]) [.ar e32 (Vec.rep 8 (0 : UInt32))] (Pt.at g 0) k_1 rfl .all (by kernel_rfl) (by kernel_rfl) ?_
   intro w_3 k_5
   have k_6 := k_5.sel (.k .z)
   refine WLs 1 [] (.n 3 (I 2) (.s .a)) qe (by kernel_rfl) ?_
   refine WL_nil <| At_go <| W_ret (At_ir (At_tr ?_))
   obtain rfl := Option.some.inj hm
   refine At_rt [.agg [.ar e32 (Vec.rep 8 (0 : UInt32))], I 2] (qo (.agg [.ar e32 (Vec.rep 8 (0 : UInt32))]) <| qc (fun w => Rd w (some ⟨g, 0, none⟩) (SV.cl [.ar e32 (Vec.rep 8 (0 : UInt32))])) (k_6.brd 0 rfl) <| qe) (by kernel_rfl) ?_
   have k_7 := k_6.sel .z
   exact ⟨rfl, k_7⟩
 rw [if_neg hc1] at hm
 refine W_skip <| At_in <| At_go <| W_seq <| W_reg <| WL_op ?_
 obtain ⟨r_, h_r_, hm⟩ := ob hm
 refine Op_call [] 16 _ yz_go125 (by kernel_rfl) (c_r04_IV (F := N0) (O := N0)  (Cx.refl _) _ h_r_) ?_
 rintro e_ w_4 ⟨rfl, k_8⟩
 have k_9 := k_1.call k_8
 refine ⟨.agg [.ar e32 r_], rfl, ?_⟩
 refine WL_op <| Op_b [] 1 (.agg [.ar e32 r_]) [.ar e32 r_] (Pt.at g1 0) k_9 rfl .all (by kernel_rfl) (by kernel_rfl) ?_
 intro w_5 k_10
 refine WL_nil <| At_go <| W_seq <| W_seq <| W_q [] (.n 5 (I 0) (.ss .a)) qe (by kernel_rfl) ?_
 refine At_go <| W_block <| W_lp (m_r04_Start_l0 block) (fun s L wr => ∃ (h : Vec UInt32 8) (i : Int), (h, i) = s ∧ L = [(0, sl A_block block.length c_block), (2, pt g 0), (4, pt g1 0), (5, I i)] ∧ Cx F O w wr [Bx 154 g [.ar e32 (Vec.rep 8 (0 : UInt32))], Bx 154 g1 [.ar e32 h]]) (r_, (0 : Int)) r hm ⟨r_, (0 : Int), rfl, rfl, k_10⟩ (by kernel_rfl) ?_
 intro s0_ L_ w_6 y0 hrel hstep hr0
 obtain ⟨h, i, rfl, rfl, k_11⟩ := hrel
 have hm := hstep; simp only [m_r04_Start_l0] at hm
 clear hstep
 refine W_seq <| W_seq <| W_q [] (.n 18 (.b (decide (i < 8))) .a) qe (by kernel_rfl) ?_
 refine At_go <| W_condp (i < 8) (by kernel_rfl) (fun hc2 => ?_) (fun hc2 => ?_)
 · rw [if_pos hc2] at hm
   refine W_skip <| At_go <| W_seq <| W_block ?_
   have k_12 := k_11.drew 1
   refine W_m yz_mixed (.q 4 0 (.q 0 1 (.q 1 1 (.q 2 1 (.q 3 1 (.q 5 1 (.q 6 0 (.op 7 (.q 8 1 (.q 9 1 (.op 10 .nil))))))))))) [7, 10] k_12 (.c (.kk .e) (.c (.k .z) .l)) (by kernel_rfl) (fun _ => ?_)
   refine MXq 1 0 [] (.n 25 (sl A_block block.length c_block) (.s .a)) (fun x hx => qe) (by kernel_rfl) (fun _ => ?_)
   obtain ⟨x_0, h_x_0, hm⟩ := ob hm
   refine MXq 5 1 [] (.n 21 (I i) (.n 24 (.u32 x_0) (.n 26 (I i) .a))) (fun x hx => qV (hx.vrd 1 rfl e32 h 0 (by kernel_rfl)) h_x_0 rfl (.u32 x_0) rfl <| qe) (by kernel_rfl) (fun _ => ?_)
   refine MXq 1 0 [] (.n 27 (I (w64 (4 * i))) (.kk (.s .a))) (fun x hx => qe) (by kernel_rfl) (fun _ => ?_)
   refine MX_op (by kernel_rfl) rfl ?_
   obtain ⟨r_1, h_r_1, hm⟩ := ob hm
   refine Op_call [] 28 _ yz_go114 (by kernel_rfl) (c_r04_load (F := N0) (O := N0) _ _ _ _ _ (Ro.n0 (h_block.cx k_12)) rfl hc_block (Cx.refl _) _ h_r_1) ?_
   rintro e_ w_7 ⟨rfl, k_13⟩
   have k_14 := k_12.call k_13
   refine ⟨.u32 r_1, rfl, ?_⟩
   refine ⟨k_14, fun _ => ?_⟩
   obtain ⟨x_2, h_x_2, hm⟩ := ob hm
   refine MXq 2 1 [] (.n 29 (.u32 (x_0 ^^^ r_1)) (.n 30 (.v (.pointer (ixA (some ⟨g1, 0, none⟩) i 1))) (.ssss (.s .a)))) (fun x hx => qI g1 0 h_x_2 <| qe) (by kernel_rfl) (fun _ => ?_)
   refine MX_op (by kernel_rfl) rfl ?_
   obtain ⟨v, h_v, hm⟩ := nm hm
   refine Op_vs (E := e32) (kk := 0) [] 1 (.u32 (x_0 ^^^ r_1)) [.u32 (x_0 ^^^ r_1)] h_v h_x_2 (Pt.ix0 (Pt.at g1 0) i 1) k_14 rfl .h rfl (by kernel_rfl) (by kernel_rfl) ?_
   intro w_8 k_15
   refine ⟨(k_15.sel (.k .z)), fun _ => ?_⟩
   refine MX_nil <| At_in <| At_go <| W_q [] (.n 5 (I (w64 (i + 1))) (.ss (.kkk .z))) qe (by kernel_rfl) ?_
   exact At_rd (v, w64 (i + 1)) (Option.some.inj hm).symm ⟨v, w64 (i + 1), rfl, rfl, k_15⟩ (by kernel_rfl)
 rw [if_neg hc2] at hm
 refine W_exit (At_te (At_te (At_ie ?_)))
 have hm := exit_of hm hr0
 refine At_go <| W_seq <| W_reg <| WLs 1 [] (.n 31 (.agg [.ar e32 h]) (.ss (.k .z))) (qT k_11 1 rfl 0 8 [.ar e32 h] (by kernel_rfl) (by decide) <| qe) (by kernel_rfl) ?_
 refine WL_op <| Op_b [] 0 (.agg [.ar e32 h]) [.ar e32 h] (Pt.at g 0) k_11 rfl .all (by kernel_rfl) (by kernel_rfl) ?_
 intro w_9 k_16
 have k_17 := k_16.sel (.k .z)
 refine WLs 1 [] (.n 3 (I 0) (.s .a)) qe (by kernel_rfl) ?_
 refine WL_nil <| At_go <| W_ret ?_
 obtain rfl := Option.some.inj hm
 refine At_rt [.agg [.ar e32 h], I 0] (qo (.agg [.ar e32 h]) <| qc (fun w => Rd w (some ⟨g, 0, none⟩) (SV.cl [.ar e32 h])) (k_17.brd 0 rfl) <| qe) (by kernel_rfl) ?_
 have k_18 := k_17.sel .z
 exact ⟨rfl, k_18⟩
end Go.Sx
