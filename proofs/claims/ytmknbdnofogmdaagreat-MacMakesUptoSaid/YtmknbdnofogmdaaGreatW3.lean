import Derived.Test.YtmknbdnofogmdaaGreatW2
namespace Go.Sx
open Go.RowKit Go.Proofs
set_option linter.unusedVariables false
set_option linter.unusedSimpArgs false
set_option maxRecDepth 20000

-- quern/node.padded
noncomputable def m_node_padded (b : List UInt8) (n : Int) : Option (List UInt8) :=
  (need ((0 : Int) ≤ (0 : Int) ∧ ((0 : Int) : Int) ≤ n ∧ Int.toNat n * 1 ≤ 140737488355328)).bind fun u => (app (List.replicate (Int.toNat (0 : Int)) (0 : UInt8)) b 1).bind fun b1 => (appz b1 (w64 (n - ((b.length : Nat) : Int))) (0 : UInt8) 1).bind fun b2 => some b2
theorem c_node_padded {F O : Nat → Prop} {w : World} (b : List UInt8) (n : Int) (A_b : Option Addr) (n_b : Nat) (c_b : Nat) (h_b : Ro F w A_b (e8.all b)) (hn_b : b.length = n_b) (hc_b : n_b ≤ c_b) (k : Cx F O w w []) (r : (List UInt8)) (hm : m_node_padded b n = some r) :
    Calls Tryz.prog 120 (vals [sl A_b n_b c_b, I n]) w (fun e w' => ∃ A n1 c, r.length = n1 ∧ e = .returned (SV.val (sl A n1 c)) ∧ Cx F O w w' [Ow e8 A n1 c r]) := by
 unfold m_node_padded at hm
 subst hn_b
 refine calls [sl A_b b.length c_b, I n] Tryz.func120 rfl (of_decide_eq_true (by kernel_rfl)) ?_
 refine W_seq <| W_q [] .a qe (by kernel_rfl) ?_
 refine At_go <| W_seq <| W_reg <| WLs 1 [] (.n 5 (I n) .a) qe (by kernel_rfl) ?_
 refine WL_op ?_
 obtain ⟨u, h_u, hm⟩ := ob hm
 refine Op_make yz_tf22 e8 (0 : UInt8) rfl [] 6 (I 0) (I n) (0 : Int) n (by kernel_rfl) (need_some h_u).1 (need_some h_u).2.1 (need_some h_u).2.2 k ?_
 intro A0 w_ k_
 refine WLs 1 [] (.n 7 (sl A_b b.length c_b) (.k (.s .a))) qe (by kernel_rfl) ?_
 refine WL_op ?_
 obtain ⟨b1, h_b1, hm⟩ := ob hm
 obtain ⟨hz, hl⟩ := app_some h_b1
 refine Op_append (E := e8) (v := sl A_b b.length c_b) (ys := b) yz_tf22 [] 8 0 (by kernel_rfl) k_ rfl (Src.sl (h_b.cx k_) rfl (by rfl)) rfl (by have := k_.len 0 rfl; have := hm; omega) ?_
 intro A1 c0 w_1 k_1
 rw [← hl] at k_1
 refine WLs 4 [] (.n 12 (I (w64 (n - ((b.length : Nat) : Int)))) (.k .z)) qe (by kernel_rfl) ?_
 refine WL_op ?_
 obtain ⟨b2, h_b2, hm⟩ := ob hm
 obtain ⟨h0, hz1, hl1⟩ := appz_some h_b2
 refine Op_appendZ (E := e8) (kx := .i64) (ik := .i64) yz_tf22 (0 : UInt8) [] 13 0 (w64 (n - ((b.length : Nat) : Int))) (by kernel_rfl) rfl k_1 rfl h0 (by have := k_1.len 0 rfl; omega) ?_
 intro A2 c1 w_2 k_2
 rw [← hl1] at k_2
 refine WLs 1 [] (.n 4 (sl A2 (Int.toNat (0 : Int) + b.length + Int.toNat (w64 (n - ((b.length : Nat) : Int)))) c1) .z) qe (by kernel_rfl) ?_
 refine WL_nil <| At_go <| W_ret ?_
 obtain rfl := Option.some.inj hm
 refine At_rt [sl A2 (Int.toNat (0 : Int) + b.length + Int.toNat (w64 (n - ((b.length : Nat) : Int)))) c1] qe (by kernel_rfl) ?_
 exact ⟨A2, Int.toNat (0 : Int) + b.length + Int.toNat (w64 (n - ((b.length : Nat) : Int))), c1, k_2.len 0 rfl, rfl, k_2⟩

-- quern/word.Add
noncomputable def m_word_Add (c_Lo : UInt64) (c_Hi : UInt64) (n : UInt64) : Option (UInt64 × UInt64 × Bool) :=
  (add64 c_Lo n (0 : UInt64)).bind fun r_ => (add64 c_Hi (0 : UInt64) r_.2).bind fun r_1 => some (r_.1, r_1.1, decide (r_1.2 = 1))
theorem c_word_Add {F O : Nat → Prop} {w : World} (c_Lo : UInt64) (c_Hi : UInt64) (n : UInt64) (k : Cx F O w w []) (r : (UInt64 × UInt64 × Bool)) (hm : m_word_Add c_Lo c_Hi n = some r) :
    Calls Tryz.prog 187 (vals [.agg [.u64 c_Lo, .u64 c_Hi], .u64 n]) w (fun e w' => e = .returned (SV.val (.tup [.agg [.u64 r.1, .u64 r.2.1], .b r.2.2])) ∧ Cx F O w w' []) := by
 unfold m_word_Add at hm
 refine calls [.agg [.u64 c_Lo, .u64 c_Hi], .u64 n] Tryz.func187 rfl (of_decide_eq_true (by kernel_rfl)) ?_
 refine W_seq <| W_reg <| WL_op <| Op_box [] 2 (.agg [.u64 c_Lo, .u64 c_Hi]) [.u64 c_Lo, .u64 c_Hi] (by kernel_rfl) k ?_
 intro g w_ k_
 refine WL_op <| Op_alloc [] 4 [.u64 0, .u64 0] (by kernel_rfl) k_ ?_
 intro g1 w_1 k_1
 refine WLs 1 [] (.kk (.s .a)) qe (by kernel_rfl) ?_
 refine WL_nil <| At_go <| W_seq <| W_reg <| WLs 3 [] (.n 12 (.u64 c_Lo) (.n 13 (.u64 n) (.kk .z))) (qs g 0 <| qB k_1 0 rfl 0 (.u64 c_Lo) (by kernel_rfl) <| qe) (by kernel_rfl) ?_
 refine WL_op ?_
 obtain ⟨r_, h_r_, hm⟩ := ob hm
 refine Op_add64 yz_add188 [] 14 c_Lo n (0 : UInt64) (by kernel_rfl) h_r_ ?_
 refine WLs 5 [] (.n 6 (.u64 r_.1) (.n 7 (.u64 r_.2) (.sss .a))) qe (by kernel_rfl) ?_
 refine WL_nil <| At_go <| W_seq <| W_reg <| WLs 3 [] (.n 19 (.u64 c_Hi) (.n 20 (.u64 r_.2) (.k (.s (.k .z))))) (qs g 0 <| qB k_1 0 rfl 1 (.u64 c_Hi) (by kernel_rfl) <| qe) (by kernel_rfl) ?_
 refine WL_op ?_
 obtain ⟨r_1, h_r_1, hm⟩ := ob hm
 refine Op_add64 yz_add188 [] 21 c_Hi (0 : UInt64) r_.2 (by kernel_rfl) h_r_1 ?_
 refine WLs 5 [] (.n 8 (.u64 r_1.1) (.n 9 (.u64 r_1.2) (.sss .a))) qe (by kernel_rfl) ?_
 refine WL_nil <| At_go <| W_seq <| W_reg <| WLs 5 [] (.n 26 (.agg [.u64 r_.1, .u64 r_1.1]) (.n 28 (.b (decide (r_1.2 = 1))) (.sss .a))) qe (by kernel_rfl) ?_
 refine WL_op ?_
 have k_2 := k_1.sel (.kk .e)
 refine Op_b [] 1 (.agg [.u64 r_.1, .u64 r_1.1]) [.u64 r_.1, .u64 r_1.1] (Pt.at g1 0) k_2 rfl .all (by kernel_rfl) (by kernel_rfl) ?_
 intro w_2 k_3
 have k_4 := k_3.sel (.s (.k .e))
 refine WLs 1 [] (.n 5 (.b (decide (r_1.2 = 1))) (.ss .a)) qe (by kernel_rfl) ?_
 refine WL_nil <| At_go <| W_ret ?_
 obtain rfl := Option.some.inj hm
 refine At_rt [.agg [.u64 r_.1, .u64 r_1.1], .b (decide (r_1.2 = 1))] (qo (.agg [.u64 r_.1, .u64 r_1.1]) <| qc (fun w => Rd w (some ⟨g1, 0, none⟩) (SV.cl [.u64 r_.1, .u64 r_1.1])) (k_4.brd 0 rfl) <| qe) (by kernel_rfl) ?_
 have k_5 := k_4.sel .z
 exact ⟨rfl, k_5⟩

-- quern/mixb.Words
noncomputable def m_mixb_Words_l0 (b : List UInt8) : (Vec UInt64 16 × Int) → Option ((Vec UInt64 16 × Int) ⊕ (Vec UInt64 16 × Int))
  | (m_, x_0) => if x_0 < 16 then ((m_word_Load64 b (w64 (8 * x_0))).bind fun r_ => (geti m_.l x_0).bind fun x_2 => (some (vst m_ x_0 r_.1)).bind fun v => some (.inl (v, w64 (x_0 + 1)))) else (Option.map Sum.inr (some (m_, (0 : Int))))
noncomputable def m_mixb_Words (b : List UInt8) : Option (Vec UInt64 16 × Int) :=
  if ((b.length : Nat) : Int) ≠ 128 then (some ((Vec.rep 16 (0 : UInt64)), (1 : Int))) else (whileO (m_mixb_Words_l0 b) ((Vec.rep 16 (0 : UInt64)), (0 : Int)))
theorem c_mixb_Words {F O : Nat → Prop} {w : World} (b : List UInt8) (A_b : Option Addr) (n_b : Nat) (c_b : Nat) (h_b : Ro F w A_b (e8.all b)) (hn_b : b.length = n_b) (hc_b : n_b ≤ c_b) (k : Cx F O w w []) (r : (Vec UInt64 16 × Int)) (hm : m_mixb_Words b = some r) :
    Calls Tryz.prog 145 (vals [sl A_b n_b c_b]) w (fun e w' => e = .returned (SV.val (.tup [.agg [.ar e64 r.1], I r.2])) ∧ Cx F O w w' []) := by
 unfold m_mixb_Words at hm
 subst hn_b
 refine calls [sl A_b b.length c_b] Tryz.func145 rfl (of_decide_eq_true (by kernel_rfl)) ?_
 refine W_seq <| W_reg <| WL_op <| Op_alloc [] 2 [.ar e64 (Vec.rep 16 (0 : UInt64))] (by kernel_rfl) k ?_
 intro g w_ k_
 refine WLs 1 [] .a qe (by kernel_rfl) ?_
 refine WL_nil <| At_go <| W_seq <| W_reg <| WL_op <| Op_alloc [] 4 [.ar e64 (Vec.rep 16 (0 : UInt64))] (by kernel_rfl) k_ ?_
 intro g1 w_1 k_1
 refine WL_nil <| At_go <| W_seq <| W_seq <| W_q [] (.n 8 (.b (decide (((b.length : Nat) : Int) ≠ 128))) .a) qe (by kernel_rfl) ?_
 refine At_go <| W_condp (((b.length : Nat) : Int) ≠ 128) (by kernel_rfl) (fun hc => ?_) (fun hc => ?_)
 · rw [if_pos hc] at hm
   refine W_seq <| W_reg <| WLs 1 [] (.n 9 (.agg [.ar e64 (Vec.rep 16 (0 : UInt64))]) (.ss (.k .z))) (qT k_1 1 rfl 0 16 [.ar e64 (Vec.rep 16 (0 : UInt64))] (by kernel_rfl) (by decide) <| qe) (by kernel_rfl) ?_
   refine WL_op <| Op_b [] 0 (.agg [.ar e64 (Vec.rep 16 (0 : UInt64))]) [.ar e64 (Vec.rep 16 (0 : UInt64))] (Pt.at g 0) k_1 rfl .all (by kernel_rfl) (by kernel_rfl) ?_
   intro w_2 k_2
   have k_3 := k_2.sel (.k .z)
   refine WLs 1 [] (.n 3 (I 1) (.s .a)) qe (by kernel_rfl) ?_
   refine WL_nil <| At_go <| W_ret (At_tr ?_)
   obtain rfl := Option.some.inj hm
   refine At_rt [.agg [.ar e64 (Vec.rep 16 (0 : UInt64))], I 1] (qo (.agg [.ar e64 (Vec.rep 16 (0 : UInt64))]) <| qc (fun w => Rd w (some ⟨g, 0, none⟩) (SV.cl [.ar e64 (Vec.rep 16 (0 : UInt64))])) (k_3.brd 0 rfl) <| qe) (by kernel_rfl) ?_
   have k_4 := k_3.sel .z
   exact ⟨rfl, k_4⟩
 rw [if_neg hc] at hm
 refine W_skip <| At_go <| W_seq <| W_seq <| W_q [] (.n 10 (I 0) (.s .a)) qe (by kernel_rfl) ?_
 refine At_go <| W_block <| W_lp (m_mixb_Words_l0 b) (fun s L wr => ∃ (m_ : Vec UInt64 16) (x_0 : Int), (m_, x_0) = s ∧ L = [(0, sl A_b b.length c_b), (2, pt g 0), (4, pt g1 0), (10, I x_0)] ∧ Cx F O w wr [Bx 108 g [.ar e64 (Vec.rep 16 (0 : UInt64))], Bx 108 g1 [.ar e64 m_]]) ((Vec.rep 16 (0 : UInt64)), (0 : Int)) r hm ⟨(Vec.rep 16 (0 : UInt64)), (0 : Int), rfl, rfl, k_1⟩ (by kernel_rfl) ?_
 intro s0_ L_ w_3 y0 hrel hstep hr0
 obtain ⟨m_, x_0, rfl, rfl, k_5⟩ := hrel
 have hm := hstep; simp only [m_mixb_Words_l0] at hm
 clear hstep
 refine W_seq <| W_q [] (.n 11 (.b (decide (x_0 < 16))) .a) qe (by kernel_rfl) ?_
 refine At_go <| W_seq <| W_condp (x_0 < 16) (by kernel_rfl) (fun hc1 => ?_) (fun hc1 => ?_)
 · rw [if_pos hc1] at hm
   refine W_skip <| At_go <| W_seq <| W_block <| W_seq <| W_q [] (.n 5 (I x_0) (.s .a)) qe (by kernel_rfl) ?_
   refine At_go <| W_reg <| WLs 4 [] (.n 14 (I x_0) (.n 15 (sl A_b b.length c_b) (.n 17 (I (w64 (8 * x_0))) (.s .a)))) qe (by kernel_rfl) ?_
   refine WL_op ?_
   obtain ⟨r_, h_r_, hm⟩ := ob hm
   refine Op_call [] 18 _ yz_go144 (by kernel_rfl) (c_word_Load64 (F := N0) (O := N0) _ _ _ _ _ (Ro.n0 (h_b.cx k_5)) rfl hc_b (Cx.refl _) _ h_r_) ?_
   rintro e_ w_4 ⟨rfl, k_6⟩
   have k_7 := k_5.call k_6
   refine ⟨.tup [.u64 r_.1, I r_.2], rfl, ?_⟩
   obtain ⟨x_2, h_x_2, hm⟩ := ob hm
   refine WLs 4 [] (.n 19 (.u64 r_.1) (.n 21 (.v (.pointer (ixA (some ⟨g1, 0, none⟩) x_0 1))) (.ssss .a))) (qI g1 0 h_x_2 <| qe) (by kernel_rfl) ?_
   refine WL_op ?_
   obtain ⟨v, h_v, hm⟩ := nm hm
   refine Op_vs (E := e64) (kk := 0) [] 1 (.u64 r_.1) [.u64 r_.1] h_v h_x_2 (Pt.ix0 (Pt.at g1 0) x_0 1) k_7 rfl .h rfl (by kernel_rfl) (by kernel_rfl) ?_
   intro w_5 k_8
   refine WL_nil <| At_in <| At_go <| W_q [] (.n 10 (I (w64 (x_0 + 1))) (.ss (.kkk .z))) qe (by kernel_rfl) ?_
   exact At_rd (v, w64 (x_0 + 1)) (Option.some.inj hm).symm ⟨v, w64 (x_0 + 1), rfl, rfl, k_8⟩ (by kernel_rfl)
 rw [if_neg hc1] at hm
 refine W_exit (At_te (At_te (At_ie ?_)))
 have hm := exit_of hm hr0
 refine At_go <| W_seq <| W_reg <| WLs 1 [] (.n 23 (.agg [.ar e64 m_]) (.ss (.k .z))) (qT k_5 1 rfl 0 16 [.ar e64 m_] (by kernel_rfl) (by decide) <| qe) (by kernel_rfl) ?_
 refine WL_op <| Op_b [] 0 (.agg [.ar e64 m_]) [.ar e64 m_] (Pt.at g 0) k_5 rfl .all (by kernel_rfl) (by kernel_rfl) ?_
 intro w_6 k_9
 have k_10 := k_9.sel (.k .z)
 refine WLs 1 [] (.n 3 (I 0) (.s .a)) qe (by kernel_rfl) ?_
 refine WL_nil <| At_go <| W_ret ?_
 obtain rfl := Option.some.inj hm
 refine At_rt [.agg [.ar e64 m_], I 0] (qo (.agg [.ar e64 m_]) <| qc (fun w => Rd w (some ⟨g, 0, none⟩) (SV.cl [.ar e64 m_])) (k_10.brd 0 rfl) <| qe) (by kernel_rfl) ?_
 have k_11 := k_10.sel .z
 exact ⟨rfl, k_11⟩

-- quern/mixb.Init
noncomputable def m_mixb_Init_j1 (v4 : Vec UInt64 16) : Option (Vec UInt64 16) :=
  some v4
noncomputable def m_mixb_Init_j0 (node : Bool) (v2 : Vec UInt64 16) : Option (Vec UInt64 16) :=
  if node = true then ((geti v2.l (15 : Int)).bind fun x_6 => (geti v2.l (15 : Int)).bind fun x_7 => (some (vst v2 (15 : Int) (18446744073709551615 ^^^ x_6))).bind fun v5 => m_mixb_Init_j1 v5) else (m_mixb_Init_j1 v2)
noncomputable def m_mixb_Init (h : Vec UInt64 8) (count_Lo : UInt64) (count_Hi : UInt64) (last : Bool) (node : Bool) : Option (Vec UInt64 16) :=
  (slc ((Vec.rep 16 (0 : UInt64)).l) 0 (8 : Int)).bind fun b => (m_mixb_IV).bind fun r_ => (slc ((vcp (Vec.rep 16 (0 : UInt64)) 0 b.length h.l).l) (8 : Int) ((16 : Nat) : Int)).bind fun b1 => (geti (vcp (vcp (Vec.rep 16 (0 : UInt64)) 0 b.length h.l) (Int.toNat (8 : Int)) b1.length r_.l).l (12 : Int)).bind fun x_0 => (geti (vcp (vcp (Vec.rep 16 (0 : UInt64)) 0 b.length h.l) (Int.toNat (8 : Int)) b1.length r_.l).l (12 : Int)).bind fun x_1 => (some (vst (vcp (vcp (Vec.rep 16 (0 : UInt64)) 0 b.length h.l) (Int.toNat (8 : Int)) b1.length r_.l) (12 : Int) (x_0 ^^^ count_Lo))).bind fun v => (geti v.l (13 : Int)).bind fun x_2 => (geti v.l (13 : Int)).bind fun x_3 => (some (vst v (13 : Int) (x_2 ^^^ count_Hi))).bind fun v1 => if last = true then ((geti v1.l (14 : Int)).bind fun x_4 => (geti v1.l (14 : Int)).bind fun x_5 => (some (vst v1 (14 : Int) (18446744073709551615 ^^^ x_4))).bind fun v3 => m_mixb_Init_j0 node v3) else (m_mixb_Init_j0 node v1)
theorem c_mixb_Init {F O : Nat → Prop} {w : World} (h : Vec UInt64 8) (count_Lo : UInt64) (count_Hi : UInt64) (last : Bool) (node : Bool) (k : Cx F O w w []) (r : (Vec UInt64 16)) (hm : m_mixb_Init h count_Lo count_Hi last node = some r) :
    Calls Tryz.prog 153 (vals [.agg [.ar e64 h], .agg [.u64 count_Lo, .u64 count_Hi], .b last, .b node]) w (fun e w' => e = .returned (SV.val (.agg [.ar e64 r])) ∧ Cx F O w w' []) := by
 unfold m_mixb_Init at hm
 refine calls [.agg [.ar e64 h], .agg [.u64 count_Lo, .u64 count_Hi], .b last, .b node] Tryz.func153 rfl (of_decide_eq_true (by kernel_rfl)) ?_
 refine W_seq <| W_reg <| WL_op <| Op_box [] 4 (.agg [.ar e64 h]) [.ar e64 h] (by kernel_rfl) k ?_
 intro g w_ k_
 refine WL_op <| Op_box [] 5 (.agg [.u64 count_Lo, .u64 count_Hi]) [.u64 count_Lo, .u64 count_Hi] (by kernel_rfl) k_ ?_
 intro g1 w_1 k_1
 refine WL_op <| Op_alloc [] 8 [.ar e64 (Vec.rep 16 (0 : UInt64))] (by kernel_rfl) k_1 ?_
 intro g2 w_2 k_2
 refine WL_nil <| At_go <| W_seq <| W_reg <| WL_op <| Op_alloc [] 9 [.ar e64 (Vec.rep 16 (0 : UInt64))] (by kernel_rfl) k_2 ?_
 intro g3 w_3 k_3
 refine WL_nil <| At_go <| W_seq ?_
 have k_4 := k_3.drew 1
 refine W_m yz_mixed (.q 0 0 (.q 1 0 (.op 2 .nil))) [2] k_4 (.c (.kk (.k .z)) .l) (by kernel_rfl) (fun _ => ?_)
 obtain ⟨b, h_b, hm⟩ := ob hm
 have hs := slc_some h_b
 have hl := slc_len h_b
 have hn : ((Vec.rep 16 (0 : UInt64)).l).length = 16 := (Vec.rep 16 (0 : UInt64)).h
 have hc : 16 ≤ 16 := (Nat.le_refl _)
 have hc1 : b.length ≤ 16 := by omega
 refine MXq 2 0 [] (.n 11 (sl (some ⟨g3, 0, none⟩) b.length 16) (.n 12 (sl (some ⟨g, 0, none⟩) 8 8) (.kkk (.sss .a)))) (fun x hx => qp (0 ≤ (8 : Int) ∧ (8 : Int) ≤ ((16 : Nat) : Int)) (by omega) <| qo (.v (.slice (some ⟨g3, 0, none⟩) b.length 16)) <| qp (((some ⟨g3, 0, none⟩) : Option Addr).isSome = true ∧ Value.slice (slA (some ⟨g3, 0, none⟩) 0 16 1) (Int.toNat (8 : Int) - 0) (16 - 0) = .slice (some ⟨g3, 0, none⟩) b.length 16) ⟨rfl, slx0 _ _ _ _ _ (by omega)⟩ <| qo (.v (.slice (some ⟨g, 0, none⟩) 8 8)) <| qp (((some ⟨g, 0, none⟩) : Option Addr).isSome = true ∧ Value.slice (slA (some ⟨g, 0, none⟩) 0 8 1) (8 - 0) (8 - 0) = .slice (some ⟨g, 0, none⟩) 8 8) ⟨rfl, slx0 _ _ _ _ _ rfl⟩ <| qe) (by kernel_rfl) (fun _ => ?_)
 refine MX_op (by kernel_rfl) rfl ?_
 have k_5 := k_4.sel (.kkkk .e)
 refine Op_vcp (E := e64) (dn := b.length) (dc := 16) (v := sl (some ⟨g, 0, none⟩) 8 8) (src := h.l) (lo := 0) (m' := 16) yz_tf39 [] 13 3 [] [] (Vec.rep 16 (0 : UInt64)) (by kernel_rfl) (slA_zero _ _ _).symm k_5 rfl (Src.sl (Rd.vec (k_5.brd 0 rfl) (c := Enc.all e64 h.l) (off := 0) (by kernel_rfl)) h.h (by rfl)) h.h (by have := (Vec.rep 16 (0 : UInt64)).h; omega) (by omega) (by omega) ?_
 intro w_4 k_6
 refine ⟨(k_6.sel (.kk (.k .z))), fun _ => ?_⟩
 refine MX_nil <| At_go <| W_seq <| W_reg <| WL_op ?_
 obtain ⟨r_, h_r_, hm⟩ := ob hm
 refine Op_call [] 14 _ yz_go143 (by kernel_rfl) (c_mixb_IV (F := N0) (O := N0)  (Cx.refl _) _ h_r_) ?_
 rintro e_ w_5 ⟨rfl, k_7⟩
 have k_8 := k_6.call k_7
 refine ⟨.agg [.ar e64 r_], rfl, ?_⟩
 have k_9 := k_8.sel (.s (.kk (.k .e)))
 refine WL_op <| Op_alloc [] 10 [.ar e64 (Vec.rep 8 (0 : UInt64))] (by kernel_rfl) k_9 ?_
 intro g4 w_6 k_10
 refine WL_op <| Op_b [] 3 (.agg [.ar e64 r_]) [.ar e64 r_] (Pt.at g4 0) k_10 rfl .all (by kernel_rfl) (by kernel_rfl) ?_
 intro w_7 k_11
 refine WL_nil <| At_go <| W_seq ?_
 have k_12 := k_11.drew 1
 refine W_m yz_mixed (.q 0 0 (.q 1 0 (.op 2 .nil))) [2] k_12 (.c (.kk (.s (.k .e))) .l) (by kernel_rfl) (fun _ => ?_)
 obtain ⟨b1, h_b1, hm⟩ := ob hm
 have hs1 := slc_some h_b1
 have hl1 := slc_len h_b1
 have hn1 : ((vcp (Vec.rep 16 (0 : UInt64)) 0 b.length h.l).l).length = 16 := (vcp (Vec.rep 16 (0 : UInt64)) 0 b.length h.l).h
 have hc2 : 16 ≤ 16 := (Nat.le_refl _)
 obtain ⟨A, c, e_, hc3, hA, hc4⟩ := slx (some ⟨g3, 0, none⟩) (Int.toNat (8 : Int)) 16 1 (16 - Int.toNat (8 : Int)) b1.length (by omega) (by omega)
 refine MXq 2 0 [] (.n 15 (sl A b1.length c) (.n 16 (sl (some ⟨g4, 0, none⟩) 8 8) (.ssss (.s .a)))) (fun x hx => qp (0 ≤ (8 : Int) ∧ (8 : Int) ≤ ((16 : Nat) : Int)) (by omega) <| qo (.v (.slice A b1.length c)) <| qp (((some ⟨g3, 0, none⟩) : Option Addr).isSome = true ∧ Value.slice (slA (some ⟨g3, 0, none⟩) (Int.toNat (8 : Int)) 16 1) (16 - Int.toNat (8 : Int)) (16 - Int.toNat (8 : Int)) = .slice A b1.length c) ⟨rfl, e_⟩ <| qo (.v (.slice (some ⟨g4, 0, none⟩) 8 8)) <| qp (((some ⟨g4, 0, none⟩) : Option Addr).isSome = true ∧ Value.slice (slA (some ⟨g4, 0, none⟩) 0 8 1) (8 - 0) (8 - 0) = .slice (some ⟨g4, 0, none⟩) 8 8) ⟨rfl, slx0 _ _ _ _ _ rfl⟩ <| qe) (by kernel_rfl) (fun _ => ?_)
 refine MX_op (by kernel_rfl) rfl ?_
 have k_13 := k_12.sel (.kkkk .e)
 refine Op_vcp (E := e64) (dn := b1.length) (dc := c) (v := sl (some ⟨g4, 0, none⟩) 8 8) (src := r_.l) (lo := Int.toNat (8 : Int)) (m' := 16) yz_tf39 [] 17 2 [] [] (vcp (Vec.rep 16 (0 : UInt64)) 0 b.length h.l) (by kernel_rfl) hA k_13 rfl (Src.sl (Rd.vec (k_13.brd 3 rfl) (c := Enc.all e64 r_.l) (off := 0) (by kernel_rfl)) r_.h (by rfl)) r_.h (by have := (vcp (Vec.rep 16 (0 : UInt64)) 0 b.length h.l).h; omega) (by omega) (by omega) ?_
 intro w_8 k_14
 refine ⟨(k_14.sel (.kk (.s (.k .e)))), fun _ => ?_⟩
 refine MX_nil <| At_go <| W_seq <| W_reg ?_
 obtain ⟨x_0, h_x_0, hm⟩ := ob hm
 obtain ⟨x_1, h_x_1, hm⟩ := ob hm
 refine WLs 6 [] (.n 22 (.u64 (x_0 ^^^ count_Lo)) (.n 23 (.v (.pointer (ixA (some ⟨g3, 0, none⟩) (12 : Int) 1))) (.sss .a))) (qV (k_14.vrd 2 rfl e64 (vcp (vcp (Vec.rep 16 (0 : UInt64)) 0 b.length h.l) (Int.toNat (8 : Int)) b1.length r_.l) 0 (by kernel_rfl)) h_x_0 rfl (.u64 x_0) rfl <| qs g1 0 <| qB k_14 0 rfl 0 (.u64 count_Lo) (by kernel_rfl) <| qI g3 0 h_x_1 <| qe) (by kernel_rfl) ?_
 refine WL_op ?_
 obtain ⟨v, h_v, hm⟩ := nm hm
 refine Op_vs (E := e64) (kk := 0) [] 2 (.u64 (x_0 ^^^ count_Lo)) [.u64 (x_0 ^^^ count_Lo)] h_v h_x_1 (Pt.ix0 (Pt.at g3 0) (12 : Int) 1) k_14 rfl .h rfl (by kernel_rfl) (by kernel_rfl) ?_
 intro w_9 k_15
 refine WL_nil <| At_go <| W_seq <| W_reg ?_
 obtain ⟨x_2, h_x_2, hm⟩ := ob hm
 obtain ⟨x_3, h_x_3, hm⟩ := ob hm
 refine WLs 6 [] (.n 28 (.u64 (x_2 ^^^ count_Hi)) (.n 29 (.v (.pointer (ixA (some ⟨g3, 0, none⟩) (13 : Int) 1))) (.ss (.kk (.s .a))))) (qV (k_15.vrd 2 rfl e64 v 0 (by kernel_rfl)) h_x_2 rfl (.u64 x_2) rfl <| qs g1 0 <| qB k_15 0 rfl 1 (.u64 count_Hi) (by kernel_rfl) <| qI g3 0 h_x_3 <| qe) (by kernel_rfl) ?_
 refine WL_op ?_
 obtain ⟨v1, h_v1, hm⟩ := nm hm
 refine Op_vs (E := e64) (kk := 0) [] 2 (.u64 (x_2 ^^^ count_Hi)) [.u64 (x_2 ^^^ count_Hi)] h_v1 h_x_3 (Pt.ix0 (Pt.at g3 0) (13 : Int) 1) k_15 rfl .h rfl (by kernel_rfl) (by kernel_rfl) ?_
 intro w_10 k_16
 refine WL_nil <| At_go <| W_cut (fun L wr => ∃ (v2 : Vec UInt64 16), m_mixb_Init_j0 node v2 = some r ∧ L = [(3, .b node), (8, pt g2 0), (9, pt g3 0)] ∧ Cx F O w wr [Bx 108 g2 [.ar e64 (Vec.rep 16 (0 : UInt64))], Bx 108 g3 [.ar e64 v2]]) ?_ ?_
 ·
  refine W_seq <| W_q [] (.n 30 (.b last) (.ss (.kk (.s .a)))) qe (by kernel_rfl) ?_
  refine At_go <| W_cond last (by kernel_rfl) (fun hc5 => ?_) (fun hc5 => ?_)
  · rw [if_pos hc5] at hm
    refine W_reg ?_
    obtain ⟨x_4, h_x_4, hm⟩ := ob hm
    obtain ⟨x_5, h_x_5, hm⟩ := ob hm
    refine WLs 4 [] (.n 33 (.u64 (18446744073709551615 ^^^ x_4)) (.n 34 (.v (.pointer (ixA (some ⟨g3, 0, none⟩) (14 : Int) 1))) (.s .a))) (qV (k_16.vrd 2 rfl e64 v1 0 (by kernel_rfl)) h_x_4 rfl (.u64 x_4) rfl <| qI g3 0 h_x_5 <| qe) (by kernel_rfl) ?_
    refine WL_op ?_
    obtain ⟨v3, h_v3, hm⟩ := nm hm
    refine Op_vs (E := e64) (kk := 0) [] 2 (.u64 (18446744073709551615 ^^^ x_4)) [.u64 (18446744073709551615 ^^^ x_4)] h_v3 h_x_5 (Pt.ix0 (Pt.at g3 0) (14 : Int) 1) k_16 rfl .h rfl (by kernel_rfl) (by kernel_rfl) ?_
    intro w_11 k_17
    refine WL_nil ?_
    have k_18 := k_17.sel (.s (.kk .z))
    exact At_c ⟨v3, hm, rfl, k_18⟩ (by kernel_rfl)
  rw [if_neg (by rw [hc5]; decide)] at hm
  refine W_skip ?_
  have k_19 := k_16.sel (.s (.kk .z))
  exact At_c ⟨v1, hm, rfl, k_19⟩ (by kernel_rfl)
 rintro L_ w_12 ⟨v2, hm, rfl, k_20⟩
 simp only [m_mixb_Init_j0] at hm
 refine W_cut (fun L wr => ∃ (v4 : Vec UInt64 16), m_mixb_Init_j1 v4 = some r ∧ L = [(8, pt g2 0), (9, pt g3 0)] ∧ Cx F O w wr [Bx 108 g2 [.ar e64 (Vec.rep 16 (0 : UInt64))], Bx 108 g3 [.ar e64 v4]]) ?_ ?_
 ·
  refine W_seq <| W_q [] (.n 35 (.b node) (.s .a)) qe (by kernel_rfl) ?_
  refine At_go <| W_cond node (by kernel_rfl) (fun hc6 => ?_) (fun hc6 => ?_)
  · rw [if_pos hc6] at hm
    refine W_reg ?_
    obtain ⟨x_6, h_x_6, hm⟩ := ob hm
    obtain ⟨x_7, h_x_7, hm⟩ := ob hm
    refine WLs 4 [] (.n 38 (.u64 (18446744073709551615 ^^^ x_6)) (.n 39 (.v (.pointer (ixA (some ⟨g3, 0, none⟩) (15 : Int) 1))) (.s .a))) (qV (k_20.vrd 1 rfl e64 v2 0 (by kernel_rfl)) h_x_6 rfl (.u64 x_6) rfl <| qI g3 0 h_x_7 <| qe) (by kernel_rfl) ?_
    refine WL_op ?_
    obtain ⟨v5, h_v5, hm⟩ := nm hm
    refine Op_vs (E := e64) (kk := 0) [] 1 (.u64 (18446744073709551615 ^^^ x_6)) [.u64 (18446744073709551615 ^^^ x_6)] h_v5 h_x_7 (Pt.ix0 (Pt.at g3 0) (15 : Int) 1) k_20 rfl .h rfl (by kernel_rfl) (by kernel_rfl) ?_
    intro w_13 k_21
    refine WL_nil ?_
    exact At_c ⟨v5, hm, rfl, k_21⟩ (by kernel_rfl)
  rw [if_neg (by rw [hc6]; decide)] at hm
  refine W_skip ?_
  exact At_c ⟨v2, hm, rfl, k_20⟩ (by kernel_rfl)
 rintro L_ w_14 ⟨v4, hm, rfl, k_22⟩
 simp only [m_mixb_Init_j1] at hm
 refine W_seq <| W_reg <| WLs 1 [] (.n 40 (.agg [.ar e64 v4]) (.k .z)) (qT k_22 1 rfl 0 16 [.ar e64 v4] (by kernel_rfl) (by decide) <| qe) (by kernel_rfl) ?_
 refine WL_op <| Op_b [] 0 (.agg [.ar e64 v4]) [.ar e64 v4] (Pt.at g2 0) k_22 rfl .all (by kernel_rfl) (by kernel_rfl) ?_
 intro w_15 k_23
 have k_24 := k_23.sel (.k .z)
 refine WL_nil <| At_go <| W_ret ?_
 obtain rfl := Option.some.inj hm
 refine At_rt [.agg [.ar e64 v4]] (qo (.agg [.ar e64 v4]) <| qc (fun w => Rd w (some ⟨g2, 0, none⟩) (SV.cl [.ar e64 v4])) (k_24.brd 0 rfl) <| qe) (by kernel_rfl) ?_
 have k_25 := k_24.sel .z
 exact ⟨rfl, k_25⟩

-- quern/mixb.Sigma
noncomputable def m_mixb_Sigma (round : Int) : Option (Vec Int 16) :=
  (geti (⟨[(⟨[(0 : Int), (1 : Int), (2 : Int), (3 : Int), (4 : Int), (5 : Int), (6 : Int), (7 : Int), (8 : Int), (9 : Int), (10 : Int), (11 : Int), (12 : Int), (13 : Int), (14 : Int), (15 : Int)], rfl⟩ : Vec Int 16), (⟨[(14 : Int), (10 : Int), (4 : Int), (8 : Int), (9 : Int), (15 : Int), (13 : Int), (6 : Int), (1 : Int), (12 : Int), (0 : Int), (2 : Int), (11 : Int), (7 : Int), (5 : Int), (3 : Int)], rfl⟩ : Vec Int 16), (⟨[(11 : Int), (8 : Int), (12 : Int), (0 : Int), (5 : Int), (2 : Int), (15 : Int), (13 : Int), (10 : Int), (14 : Int), (3 : Int), (6 : Int), (7 : Int), (1 : Int), (9 : Int), (4 : Int)], rfl⟩ : Vec Int 16), (⟨[(7 : Int), (9 : Int), (3 : Int), (1 : Int), (13 : Int), (12 : Int), (11 : Int), (14 : Int), (2 : Int), (6 : Int), (5 : Int), (10 : Int), (4 : Int), (0 : Int), (15 : Int), (8 : Int)], rfl⟩ : Vec Int 16), (⟨[(9 : Int), (0 : Int), (5 : Int), (7 : Int), (2 : Int), (4 : Int), (10 : Int), (15 : Int), (14 : Int), (1 : Int), (11 : Int), (12 : Int), (6 : Int), (8 : Int), (3 : Int), (13 : Int)], rfl⟩ : Vec Int 16), (⟨[(2 : Int), (12 : Int), (6 : Int), (10 : Int), (0 : Int), (11 : Int), (8 : Int), (3 : Int), (4 : Int), (13 : Int), (7 : Int), (5 : Int), (15 : Int), (14 : Int), (1 : Int), (9 : Int)], rfl⟩ : Vec Int 16), (⟨[(12 : Int), (5 : Int), (1 : Int), (15 : Int), (14 : Int), (13 : Int), (4 : Int), (10 : Int), (0 : Int), (7 : Int), (6 : Int), (3 : Int), (9 : Int), (2 : Int), (8 : Int), (11 : Int)], rfl⟩ : Vec Int 16), (⟨[(13 : Int), (11 : Int), (7 : Int), (14 : Int), (12 : Int), (1 : Int), (3 : Int), (9 : Int), (5 : Int), (0 : Int), (15 : Int), (4 : Int), (8 : Int), (6 : Int), (2 : Int), (10 : Int)], rfl⟩ : Vec Int 16), (⟨[(6 : Int), (15 : Int), (14 : Int), (9 : Int), (11 : Int), (3 : Int), (0 : Int), (8 : Int), (12 : Int), (2 : Int), (13 : Int), (7 : Int), (1 : Int), (4 : Int), (10 : Int), (5 : Int)], rfl⟩ : Vec Int 16), (⟨[(10 : Int), (2 : Int), (8 : Int), (4 : Int), (7 : Int), (6 : Int), (1 : Int), (5 : Int), (15 : Int), (11 : Int), (9 : Int), (14 : Int), (3 : Int), (12 : Int), (13 : Int), (0 : Int)], rfl⟩ : Vec Int 16)], rfl⟩ : Vec (Vec Int 16) 10).l (Int.tmod (w64 ((Int.tmod round 10) + 10)) 10)).bind fun x_0 => some x_0
theorem c_mixb_Sigma {F O : Nat → Prop} {w : World} (round : Int) (k : Cx F O w w []) (r : (Vec Int 16)) (hm : m_mixb_Sigma round = some r) :
    Calls Tryz.prog 159 (vals [I round]) w (fun e w' => e = .returned (SV.val (.agg [.ar eI r])) ∧ Cx F O w w' []) := by
 unfold m_mixb_Sigma at hm
 refine calls [I round] Tryz.func159 rfl (of_decide_eq_true (by kernel_rfl)) ?_
 refine W_seq <| W_reg <| WL_op <| Op_alloc [] 2 [.ar eI (Vec.rep 16 (0 : Int))] (by kernel_rfl) k ?_
 intro g w_ k_
 refine WL_nil <| At_go <| W_seq <| W_reg <| WLs 11 [] (.n 14 (.agg [.ar (eV eI 16) (⟨[(⟨[(0 : Int), (1 : Int), (2 : Int), (3 : Int), (4 : Int), (5 : Int), (6 : Int), (7 : Int), (8 : Int), (9 : Int), (10 : Int), (11 : Int), (12 : Int), (13 : Int), (14 : Int), (15 : Int)], rfl⟩ : Vec Int 16), (⟨[(14 : Int), (10 : Int), (4 : Int), (8 : Int), (9 : Int), (15 : Int), (13 : Int), (6 : Int), (1 : Int), (12 : Int), (0 : Int), (2 : Int), (11 : Int), (7 : Int), (5 : Int), (3 : Int)], rfl⟩ : Vec Int 16), (⟨[(11 : Int), (8 : Int), (12 : Int), (0 : Int), (5 : Int), (2 : Int), (15 : Int), (13 : Int), (10 : Int), (14 : Int), (3 : Int), (6 : Int), (7 : Int), (1 : Int), (9 : Int), (4 : Int)], rfl⟩ : Vec Int 16), (⟨[(7 : Int), (9 : Int), (3 : Int), (1 : Int), (13 : Int), (12 : Int), (11 : Int), (14 : Int), (2 : Int), (6 : Int), (5 : Int), (10 : Int), (4 : Int), (0 : Int), (15 : Int), (8 : Int)], rfl⟩ : Vec Int 16), (⟨[(9 : Int), (0 : Int), (5 : Int), (7 : Int), (2 : Int), (4 : Int), (10 : Int), (15 : Int), (14 : Int), (1 : Int), (11 : Int), (12 : Int), (6 : Int), (8 : Int), (3 : Int), (13 : Int)], rfl⟩ : Vec Int 16), (⟨[(2 : Int), (12 : Int), (6 : Int), (10 : Int), (0 : Int), (11 : Int), (8 : Int), (3 : Int), (4 : Int), (13 : Int), (7 : Int), (5 : Int), (15 : Int), (14 : Int), (1 : Int), (9 : Int)], rfl⟩ : Vec Int 16), (⟨[(12 : Int), (5 : Int), (1 : Int), (15 : Int), (14 : Int), (13 : Int), (4 : Int), (10 : Int), (0 : Int), (7 : Int), (6 : Int), (3 : Int), (9 : Int), (2 : Int), (8 : Int), (11 : Int)], rfl⟩ : Vec Int 16), (⟨[(13 : Int), (11 : Int), (7 : Int), (14 : Int), (12 : Int), (1 : Int), (3 : Int), (9 : Int), (5 : Int), (0 : Int), (15 : Int), (4 : Int), (8 : Int), (6 : Int), (2 : Int), (10 : Int)], rfl⟩ : Vec Int 16), (⟨[(6 : Int), (15 : Int), (14 : Int), (9 : Int), (11 : Int), (3 : Int), (0 : Int), (8 : Int), (12 : Int), (2 : Int), (13 : Int), (7 : Int), (1 : Int), (4 : Int), (10 : Int), (5 : Int)], rfl⟩ : Vec Int 16), (⟨[(10 : Int), (2 : Int), (8 : Int), (4 : Int), (7 : Int), (6 : Int), (1 : Int), (5 : Int), (15 : Int), (11 : Int), (9 : Int), (14 : Int), (3 : Int), (12 : Int), (13 : Int), (0 : Int)], rfl⟩ : Vec Int 16)], rfl⟩ : Vec (Vec Int 16) 10)]) .a) qe (by kernel_rfl) ?_
 refine WL_op <| Op_alloc [] 3 [.ar (eV eI 16) (Vec.rep 10 (Vec.rep 16 (0 : Int)))] (by kernel_rfl) k_ ?_
 intro g1 w_1 k_1
 refine WL_op <| Op_b [] 1 (.agg [.ar (eV eI 16) (⟨[(⟨[(0 : Int), (1 : Int), (2 : Int), (3 : Int), (4 : Int), (5 : Int), (6 : Int), (7 : Int), (8 : Int), (9 : Int), (10 : Int), (11 : Int), (12 : Int), (13 : Int), (14 : Int), (15 : Int)], rfl⟩ : Vec Int 16), (⟨[(14 : Int), (10 : Int), (4 : Int), (8 : Int), (9 : Int), (15 : Int), (13 : Int), (6 : Int), (1 : Int), (12 : Int), (0 : Int), (2 : Int), (11 : Int), (7 : Int), (5 : Int), (3 : Int)], rfl⟩ : Vec Int 16), (⟨[(11 : Int), (8 : Int), (12 : Int), (0 : Int), (5 : Int), (2 : Int), (15 : Int), (13 : Int), (10 : Int), (14 : Int), (3 : Int), (6 : Int), (7 : Int), (1 : Int), (9 : Int), (4 : Int)], rfl⟩ : Vec Int 16), (⟨[(7 : Int), (9 : Int), (3 : Int), (1 : Int), (13 : Int), (12 : Int), (11 : Int), (14 : Int), (2 : Int), (6 : Int), (5 : Int), (10 : Int), (4 : Int), (0 : Int), (15 : Int), (8 : Int)], rfl⟩ : Vec Int 16), (⟨[(9 : Int), (0 : Int), (5 : Int), (7 : Int), (2 : Int), (4 : Int), (10 : Int), (15 : Int), (14 : Int), (1 : Int), (11 : Int), (12 : Int), (6 : Int), (8 : Int), (3 : Int), (13 : Int)], rfl⟩ : Vec Int 16), (⟨[(2 : Int), (12 : Int), (6 : Int), (10 : Int), (0 : Int), (11 : Int), (8 : Int), (3 : Int), (4 : Int), (13 : Int), (7 : Int), (5 : Int), (15 : Int), (14 : Int), (1 : Int), (9 : Int)], rfl⟩ : Vec Int 16), (⟨[(12 : Int), (5 : Int), (1 : Int), (15 : Int), (14 : Int), (13 : Int), (4 : Int), (10 : Int), (0 : Int), (7 : Int), (6 : Int), (3 : Int), (9 : Int), (2 : Int), (8 : Int), (11 : Int)], rfl⟩ : Vec Int 16), (⟨[(13 : Int), (11 : Int), (7 : Int), (14 : Int), (12 : Int), (1 : Int), (3 : Int), (9 : Int), (5 : Int), (0 : Int), (15 : Int), (4 : Int), (8 : Int), (6 : Int), (2 : Int), (10 : Int)], rfl⟩ : Vec Int 16), (⟨[(6 : Int), (15 : Int), (14 : Int), (9 : Int), (11 : Int), (3 : Int), (0 : Int), (8 : Int), (12 : Int), (2 : Int), (13 : Int), (7 : Int), (1 : Int), (4 : Int), (10 : Int), (5 : Int)], rfl⟩ : Vec Int 16), (⟨[(10 : Int), (2 : Int), (8 : Int), (4 : Int), (7 : Int), (6 : Int), (1 : Int), (5 : Int), (15 : Int), (11 : Int), (9 : Int), (14 : Int), (3 : Int), (12 : Int), (13 : Int), (0 : Int)], rfl⟩ : Vec Int 16)], rfl⟩ : Vec (Vec Int 16) 10)]) [.ar (eV eI 16) (⟨[(⟨[(0 : Int), (1 : Int), (2 : Int), (3 : Int), (4 : Int), (5 : Int), (6 : Int), (7 : Int), (8 : Int), (9 : Int), (10 : Int), (11 : Int), (12 : Int), (13 : Int), (14 : Int), (15 : Int)], rfl⟩ : Vec Int 16), (⟨[(14 : Int), (10 : Int), (4 : Int), (8 : Int), (9 : Int), (15 : Int), (13 : Int), (6 : Int), (1 : Int), (12 : Int), (0 : Int), (2 : Int), (11 : Int), (7 : Int), (5 : Int), (3 : Int)], rfl⟩ : Vec Int 16), (⟨[(11 : Int), (8 : Int), (12 : Int), (0 : Int), (5 : Int), (2 : Int), (15 : Int), (13 : Int), (10 : Int), (14 : Int), (3 : Int), (6 : Int), (7 : Int), (1 : Int), (9 : Int), (4 : Int)], rfl⟩ : Vec Int 16), (⟨[(7 : Int), (9 : Int), (3 : Int), (1 : Int), (13 : Int), (12 : Int), (11 : Int), (14 : Int), (2 : Int), (6 : Int), (5 : Int), (10 : Int), (4 : Int), (0 : Int), (15 : Int), (8 : Int)], rfl⟩ : Vec Int 16), (⟨[(9 : Int), (0 : Int), (5 : Int), (7 : Int), (2 : Int), (4 : Int), (10 : Int), (15 : Int), (14 : Int), (1 : Int), (11 : Int), (12 : Int), (6 : Int), (8 : Int), (3 : Int), (13 : Int)], rfl⟩ : Vec Int 16), (⟨[(2 : Int), (12 : Int), (6 : Int), (10 : Int), (0 : Int), (11 : Int), (8 : Int), (3 : Int), (4 : Int), (13 : Int), (7 : Int), (5 : Int), (15 : Int), (14 : Int), (1 : Int), (9 : Int)], rfl⟩ : Vec Int 16), (⟨[(12 : Int), (5 : Int), (1 : Int), (15 : Int), (14 : Int), (13 : Int), (4 : Int), (10 : Int), (0 : Int), (7 : Int), (6 : Int), (3 : Int), (9 : Int), (2 : Int), (8 : Int), (11 : Int)], rfl⟩ : Vec Int 16), (⟨[(13 : Int), (11 : Int), (7 : Int), (14 : Int), (12 : Int), (1 : Int), (3 : Int), (9 : Int), (5 : Int), (0 : Int), (15 : Int), (4 : Int), (8 : Int), (6 : Int), (2 : Int), (10 : Int)], rfl⟩ : Vec Int 16), (⟨[(6 : Int), (15 : Int), (14 : Int), (9 : Int), (11 : Int), (3 : Int), (0 : Int), (8 : Int), (12 : Int), (2 : Int), (13 : Int), (7 : Int), (1 : Int), (4 : Int), (10 : Int), (5 : Int)], rfl⟩ : Vec Int 16), (⟨[(10 : Int), (2 : Int), (8 : Int), (4 : Int), (7 : Int), (6 : Int), (1 : Int), (5 : Int), (15 : Int), (11 : Int), (9 : Int), (14 : Int), (3 : Int), (12 : Int), (13 : Int), (0 : Int)], rfl⟩ : Vec Int 16)], rfl⟩ : Vec (Vec Int 16) 10)] (Pt.at g1 0) k_1 rfl .all (by kernel_rfl) (by kernel_rfl) ?_
 intro w_2 k_2
 refine WL_nil <| At_go <| W_seq <| W_reg ?_
 obtain ⟨x_0, h_x_0, hm⟩ := ob hm
 refine WLs 6 [] (.n 20 (.agg [.ar eI x_0]) (.ss (.k .z))) (qp ((10 : Int) ≠ (0 : Int)) (by omega) <| qp ((10 : Int) ≠ (0 : Int)) (by omega) <| qI g1 0 h_x_0 <| qR [.ar eI x_0] (Rd.elV (k_2.vrd 1 rfl (eV eI 16) (⟨[(⟨[(0 : Int), (1 : Int), (2 : Int), (3 : Int), (4 : Int), (5 : Int), (6 : Int), (7 : Int), (8 : Int), (9 : Int), (10 : Int), (11 : Int), (12 : Int), (13 : Int), (14 : Int), (15 : Int)], rfl⟩ : Vec Int 16), (⟨[(14 : Int), (10 : Int), (4 : Int), (8 : Int), (9 : Int), (15 : Int), (13 : Int), (6 : Int), (1 : Int), (12 : Int), (0 : Int), (2 : Int), (11 : Int), (7 : Int), (5 : Int), (3 : Int)], rfl⟩ : Vec Int 16), (⟨[(11 : Int), (8 : Int), (12 : Int), (0 : Int), (5 : Int), (2 : Int), (15 : Int), (13 : Int), (10 : Int), (14 : Int), (3 : Int), (6 : Int), (7 : Int), (1 : Int), (9 : Int), (4 : Int)], rfl⟩ : Vec Int 16), (⟨[(7 : Int), (9 : Int), (3 : Int), (1 : Int), (13 : Int), (12 : Int), (11 : Int), (14 : Int), (2 : Int), (6 : Int), (5 : Int), (10 : Int), (4 : Int), (0 : Int), (15 : Int), (8 : Int)], rfl⟩ : Vec Int 16), (⟨[(9 : Int), (0 : Int), (5 : Int), (7 : Int), (2 : Int), (4 : Int), (10 : Int), (15 : Int), (14 : Int), (1 : Int), (11 : Int), (12 : Int), (6 : Int), (8 : Int), (3 : Int), (13 : Int)], rfl⟩ : Vec Int 16), (⟨[(2 : Int), (12 : Int), (6 : Int), (10 : Int), (0 : Int), (11 : Int), (8 : Int), (3 : Int), (4 : Int), (13 : Int), (7 : Int), (5 : Int), (15 : Int), (14 : Int), (1 : Int), (9 : Int)], rfl⟩ : Vec Int 16), (⟨[(12 : Int), (5 : Int), (1 : Int), (15 : Int), (14 : Int), (13 : Int), (4 : Int), (10 : Int), (0 : Int), (7 : Int), (6 : Int), (3 : Int), (9 : Int), (2 : Int), (8 : Int), (11 : Int)], rfl⟩ : Vec Int 16), (⟨[(13 : Int), (11 : Int), (7 : Int), (14 : Int), (12 : Int), (1 : Int), (3 : Int), (9 : Int), (5 : Int), (0 : Int), (15 : Int), (4 : Int), (8 : Int), (6 : Int), (2 : Int), (10 : Int)], rfl⟩ : Vec Int 16), (⟨[(6 : Int), (15 : Int), (14 : Int), (9 : Int), (11 : Int), (3 : Int), (0 : Int), (8 : Int), (12 : Int), (2 : Int), (13 : Int), (7 : Int), (1 : Int), (4 : Int), (10 : Int), (5 : Int)], rfl⟩ : Vec Int 16), (⟨[(10 : Int), (2 : Int), (8 : Int), (4 : Int), (7 : Int), (6 : Int), (1 : Int), (5 : Int), (15 : Int), (11 : Int), (9 : Int), (14 : Int), (3 : Int), (12 : Int), (13 : Int), (0 : Int)], rfl⟩ : Vec Int 16)], rfl⟩ : Vec (Vec Int 16) 10) 0 (by kernel_rfl)) h_x_0 (Pt.ix1 (some ⟨g1, 0, none⟩) (Int.tmod (w64 ((Int.tmod round 10) + 10)) 10) 16) (by decide)) <| qe) (by kernel_rfl) ?_
 refine WL_op <| Op_b [] 0 (.agg [.ar eI x_0]) [.ar eI x_0] (Pt.at g 0) k_2 rfl .all (by kernel_rfl) (by kernel_rfl) ?_
 intro w_3 k_3
 have k_4 := k_3.sel (.k .z)
 refine WL_nil <| At_go <| W_ret ?_
 obtain rfl := Option.some.inj hm
 refine At_rt [.agg [.ar eI x_0]] (qo (.agg [.ar eI x_0]) <| qc (fun w => Rd w (some ⟨g, 0, none⟩) (SV.cl [.ar eI x_0])) (k_4.brd 0 rfl) <| qe) (by kernel_rfl) ?_
 have k_5 := k_4.sel .z
 exact ⟨rfl, k_5⟩

-- quern/mixb.places
noncomputable def m_mixb_places  : Option (Vec (Vec Int 4) 8) :=
  some (⟨[(⟨[(0 : Int), (4 : Int), (8 : Int), (12 : Int)], rfl⟩ : Vec Int 4), (⟨[(1 : Int), (5 : Int), (9 : Int), (13 : Int)], rfl⟩ : Vec Int 4), (⟨[(2 : Int), (6 : Int), (10 : Int), (14 : Int)], rfl⟩ : Vec Int 4), (⟨[(3 : Int), (7 : Int), (11 : Int), (15 : Int)], rfl⟩ : Vec Int 4), (⟨[(0 : Int), (5 : Int), (10 : Int), (15 : Int)], rfl⟩ : Vec Int 4), (⟨[(1 : Int), (6 : Int), (11 : Int), (12 : Int)], rfl⟩ : Vec Int 4), (⟨[(2 : Int), (7 : Int), (8 : Int), (13 : Int)], rfl⟩ : Vec Int 4), (⟨[(3 : Int), (4 : Int), (9 : Int), (14 : Int)], rfl⟩ : Vec Int 4)], rfl⟩ : Vec (Vec Int 4) 8)
theorem c_mixb_places {F O : Nat → Prop} {w : World} (k : Cx F O w w []) (r : (Vec (Vec Int 4) 8)) (hm : m_mixb_places = some r) :
    Calls Tryz.prog 160 (vals []) w (fun e w' => e = .returned (SV.val (.agg [.ar (eV eI 4) r])) ∧ Cx F O w w' []) := by
 unfold m_mixb_places at hm
 refine calls [] Tryz.func160 rfl (of_decide_eq_true (by kernel_rfl)) ?_
 refine W_seq <| W_reg <| WL_op <| Op_alloc [] 0 [.ar (eV eI 4) (Vec.rep 8 (Vec.rep 4 (0 : Int)))] (by kernel_rfl) k ?_
 intro g w_ k_
 refine WL_nil <| At_go <| W_seq <| W_reg <| WLs 9 [] (.n 9 (.agg [.ar (eV eI 4) (⟨[(⟨[(0 : Int), (4 : Int), (8 : Int), (12 : Int)], rfl⟩ : Vec Int 4), (⟨[(1 : Int), (5 : Int), (9 : Int), (13 : Int)], rfl⟩ : Vec Int 4), (⟨[(2 : Int), (6 : Int), (10 : Int), (14 : Int)], rfl⟩ : Vec Int 4), (⟨[(3 : Int), (7 : Int), (11 : Int), (15 : Int)], rfl⟩ : Vec Int 4), (⟨[(0 : Int), (5 : Int), (10 : Int), (15 : Int)], rfl⟩ : Vec Int 4), (⟨[(1 : Int), (6 : Int), (11 : Int), (12 : Int)], rfl⟩ : Vec Int 4), (⟨[(2 : Int), (7 : Int), (8 : Int), (13 : Int)], rfl⟩ : Vec Int 4), (⟨[(3 : Int), (4 : Int), (9 : Int), (14 : Int)], rfl⟩ : Vec Int 4)], rfl⟩ : Vec (Vec Int 4) 8)]) .a) qe (by kernel_rfl) ?_
 refine WL_op <| Op_b [] 0 (.agg [.ar (eV eI 4) (⟨[(⟨[(0 : Int), (4 : Int), (8 : Int), (12 : Int)], rfl⟩ : Vec Int 4), (⟨[(1 : Int), (5 : Int), (9 : Int), (13 : Int)], rfl⟩ : Vec Int 4), (⟨[(2 : Int), (6 : Int), (10 : Int), (14 : Int)], rfl⟩ : Vec Int 4), (⟨[(3 : Int), (7 : Int), (11 : Int), (15 : Int)], rfl⟩ : Vec Int 4), (⟨[(0 : Int), (5 : Int), (10 : Int), (15 : Int)], rfl⟩ : Vec Int 4), (⟨[(1 : Int), (6 : Int), (11 : Int), (12 : Int)], rfl⟩ : Vec Int 4), (⟨[(2 : Int), (7 : Int), (8 : Int), (13 : Int)], rfl⟩ : Vec Int 4), (⟨[(3 : Int), (4 : Int), (9 : Int), (14 : Int)], rfl⟩ : Vec Int 4)], rfl⟩ : Vec (Vec Int 4) 8)]) [.ar (eV eI 4) (⟨[(⟨[(0 : Int), (4 : Int), (8 : Int), (12 : Int)], rfl⟩ : Vec Int 4), (⟨[(1 : Int), (5 : Int), (9 : Int), (13 : Int)], rfl⟩ : Vec Int 4), (⟨[(2 : Int), (6 : Int), (10 : Int), (14 : Int)], rfl⟩ : Vec Int 4), (⟨[(3 : Int), (7 : Int), (11 : Int), (15 : Int)], rfl⟩ : Vec Int 4), (⟨[(0 : Int), (5 : Int), (10 : Int), (15 : Int)], rfl⟩ : Vec Int 4), (⟨[(1 : Int), (6 : Int), (11 : Int), (12 : Int)], rfl⟩ : Vec Int 4), (⟨[(2 : Int), (7 : Int), (8 : Int), (13 : Int)], rfl⟩ : Vec Int 4), (⟨[(3 : Int), (4 : Int), (9 : Int), (14 : Int)], rfl⟩ : Vec Int 4)], rfl⟩ : Vec (Vec Int 4) 8)] (Pt.at g 0) k_ rfl .all (by kernel_rfl) (by kernel_rfl) ?_
 intro w_1 k_1
 refine WL_nil <| At_go <| W_ret ?_
 obtain rfl := Option.some.inj hm
 refine At_rt [.agg [.ar (eV eI 4) (⟨[(⟨[(0 : Int), (4 : Int), (8 : Int), (12 : Int)], rfl⟩ : Vec Int 4), (⟨[(1 : Int), (5 : Int), (9 : Int), (13 : Int)], rfl⟩ : Vec Int 4), (⟨[(2 : Int), (6 : Int), (10 : Int), (14 : Int)], rfl⟩ : Vec Int 4), (⟨[(3 : Int), (7 : Int), (11 : Int), (15 : Int)], rfl⟩ : Vec Int 4), (⟨[(0 : Int), (5 : Int), (10 : Int), (15 : Int)], rfl⟩ : Vec Int 4), (⟨[(1 : Int), (6 : Int), (11 : Int), (12 : Int)], rfl⟩ : Vec Int 4), (⟨[(2 : Int), (7 : Int), (8 : Int), (13 : Int)], rfl⟩ : Vec Int 4), (⟨[(3 : Int), (4 : Int), (9 : Int), (14 : Int)], rfl⟩ : Vec Int 4)], rfl⟩ : Vec (Vec Int 4) 8)]] (qo (.agg [.ar (eV eI 4) (⟨[(⟨[(0 : Int), (4 : Int), (8 : Int), (12 : Int)], rfl⟩ : Vec Int 4), (⟨[(1 : Int), (5 : Int), (9 : Int), (13 : Int)], rfl⟩ : Vec Int 4), (⟨[(2 : Int), (6 : Int), (10 : Int), (14 : Int)], rfl⟩ : Vec Int 4), (⟨[(3 : Int), (7 : Int), (11 : Int), (15 : Int)], rfl⟩ : Vec Int 4), (⟨[(0 : Int), (5 : Int), (10 : Int), (15 : Int)], rfl⟩ : Vec Int 4), (⟨[(1 : Int), (6 : Int), (11 : Int), (12 : Int)], rfl⟩ : Vec Int 4), (⟨[(2 : Int), (7 : Int), (8 : Int), (13 : Int)], rfl⟩ : Vec Int 4), (⟨[(3 : Int), (4 : Int), (9 : Int), (14 : Int)], rfl⟩ : Vec Int 4)], rfl⟩ : Vec (Vec Int 4) 8)]) <| qc (fun w => Rd w (some ⟨g, 0, none⟩) (SV.cl [.ar (eV eI 4) (⟨[(⟨[(0 : Int), (4 : Int), (8 : Int), (12 : Int)], rfl⟩ : Vec Int 4), (⟨[(1 : Int), (5 : Int), (9 : Int), (13 : Int)], rfl⟩ : Vec Int 4), (⟨[(2 : Int), (6 : Int), (10 : Int), (14 : Int)], rfl⟩ : Vec Int 4), (⟨[(3 : Int), (7 : Int), (11 : Int), (15 : Int)], rfl⟩ : Vec Int 4), (⟨[(0 : Int), (5 : Int), (10 : Int), (15 : Int)], rfl⟩ : Vec Int 4), (⟨[(1 : Int), (6 : Int), (11 : Int), (12 : Int)], rfl⟩ : Vec Int 4), (⟨[(2 : Int), (7 : Int), (8 : Int), (13 : Int)], rfl⟩ : Vec Int 4), (⟨[(3 : Int), (4 : Int), (9 : Int), (14 : Int)], rfl⟩ : Vec Int 4)], rfl⟩ : Vec (Vec Int 4) 8)])) (k_1.brd 0 rfl) <| qe) (by kernel_rfl) ?_
 have k_2 := k_1.sel .z
 exact ⟨rfl, k_2⟩

-- math/bits.RotateLeft64
noncomputable def m_bits_RotateLeft64 (x_ : UInt64) (k_ : Int) : Option UInt64 :=
  some ((shl64 x_ (((UInt64.ofInt k_) &&& 63).toNat)) ||| (shr64 x_ (((64 : UInt64) - ((UInt64.ofInt k_) &&& 63)).toNat)))
theorem c_bits_RotateLeft64 {F O : Nat → Prop} {w : World} (x_ : UInt64) (k_ : Int) (k : Cx F O w w []) (r : UInt64) (hm : m_bits_RotateLeft64 x_ k_ = some r) :
    Calls Tryz.prog 164 (vals [.u64 x_, I k_]) w (fun e w' => e = .returned (SV.val (.u64 r)) ∧ Cx F O w w' []) := by
 unfold m_bits_RotateLeft64 at hm
 refine calls [.u64 x_, I k_] Tryz.func164 rfl (of_decide_eq_true (by kernel_rfl)) ?_
 refine W_seq <| W_q [] .a qe (by kernel_rfl) ?_
 refine At_go <| W_seq <| W_q [] (.n 5 (.u64 ((UInt64.ofInt k_) &&& 63)) (.k .z)) qe (by kernel_rfl) ?_
 refine At_go <| W_seq <| W_q [] (.n 4 (.u64 ((shl64 x_ (((UInt64.ofInt k_) &&& 63).toNat)) ||| (shr64 x_ (((64 : UInt64) - ((UInt64.ofInt k_) &&& 63)).toNat)))) .z) qe (by kernel_rfl) ?_
 refine At_go <| W_ret ?_
 obtain rfl := Option.some.inj hm
 refine At_rt [.u64 ((shl64 x_ (((UInt64.ofInt k_) &&& 63).toNat)) ||| (shr64 x_ (((64 : UInt64) - ((UInt64.ofInt k_) &&& 63)).toNat)))] qe (by kernel_rfl) ?_
 exact ⟨rfl, k⟩

-- quern/mixb.step
noncomputable def m_mixb_step (v : Vec UInt64 16) (p : Vec Int 4) (x_ : UInt64) (y_ : UInt64) : Option (Vec UInt64 16) :=
  (geti p.l (0 : Int)).bind fun x_2 => (geti p.l (1 : Int)).bind fun x_3 => (geti p.l (2 : Int)).bind fun x_4 => (geti p.l (3 : Int)).bind fun x_5 => (geti v.l x_2).bind fun x_6 => (geti v.l x_3).bind fun x_7 => (geti v.l x_2).bind fun x_8 => (some (vst v x_2 (x_6 + (x_7 + x_)))).bind fun v1 => (geti v1.l x_5).bind fun x_9 => (geti v1.l x_2).bind fun x_10 => (m_bits_RotateLeft64 (x_9 ^^^ x_10) (-32 : Int)).bind fun r_ => (geti v1.l x_5).bind fun x_11 => (some (vst v1 x_5 r_)).bind fun v2 => (geti v2.l x_4).bind fun x_12 => (geti v2.l x_5).bind fun x_13 => (geti v2.l x_4).bind fun x_14 => (some (vst v2 x_4 (x_12 + x_13))).bind fun v3 => (geti v3.l x_3).bind fun x_15 => (geti v3.l x_4).bind fun x_16 => (m_bits_RotateLeft64 (x_15 ^^^ x_16) (-24 : Int)).bind fun r_1 => (geti v3.l x_3).bind fun x_17 => (some (vst v3 x_3 r_1)).bind fun v4 => (geti v4.l x_2).bind fun x_18 => (geti v4.l x_3).bind fun x_19 => (geti v4.l x_2).bind fun x_20 => (some (vst v4 x_2 (x_18 + (x_19 + y_)))).bind fun v5 => (geti v5.l x_5).bind fun x_21 => (geti v5.l x_2).bind fun x_22 => (m_bits_RotateLeft64 (x_21 ^^^ x_22) (-16 : Int)).bind fun r_2 => (geti v5.l x_5).bind fun x_23 => (some (vst v5 x_5 r_2)).bind fun v6 => (geti v6.l x_4).bind fun x_24 => (geti v6.l x_5).bind fun x_25 => (geti v6.l x_4).bind fun x_26 => (some (vst v6 x_4 (x_24 + x_25))).bind fun v7 => (geti v7.l x_3).bind fun x_27 => (geti v7.l x_4).bind fun x_28 => (m_bits_RotateLeft64 (x_27 ^^^ x_28) (-63 : Int)).bind fun r_3 => (geti v7.l x_3).bind fun x_29 => (some (vst v7 x_3 r_3)).bind fun v8 => some v8
theorem c_mixb_step {F O : Nat → Prop} {w : World} (v : Vec UInt64 16) (p : Vec Int 4) (x_ : UInt64) (y_ : UInt64) (g_v : Nat) (k : Cx F O w w [Bx 108 g_v [.ar e64 v]]) (r : (Vec UInt64 16)) (hm : m_mixb_step v p x_ y_ = some r) :
    Calls Tryz.prog 161 (vals [pt g_v 0, .agg [.ar eI p], .u64 x_, .u64 y_]) w (fun e w' => e = .returned (SV.val (.tup [])) ∧ Cx F O w w' [Bx 108 g_v [.ar e64 r]]) := by
 unfold m_mixb_step at hm
 refine calls [pt g_v 0, .agg [.ar eI p], .u64 x_, .u64 y_] Tryz.func161 rfl (of_decide_eq_true (by kernel_rfl)) ?_
 refine W_seq <| W_reg <| WL_op <| Op_box [] 5 (.agg [.ar eI p]) [.ar eI p] (by kernel_rfl) k ?_
 intro g w_ k_
 refine WL_nil <| At_go <| W_seq ?_
 obtain ⟨x_2, h_x_2, hm⟩ := ob hm
 obtain ⟨x_3, h_x_3, hm⟩ := ob hm
 obtain ⟨x_4, h_x_4, hm⟩ := ob hm
 obtain ⟨x_5, h_x_5, hm⟩ := ob hm
 refine W_d yz_mixed (by kernel_rfl) (.n 8 (I x_2) (.n 9 (I x_3) (.n 10 (I x_4) (.n 11 (I x_5) (.s (.k (.s .a))))))) (fun m => qV ((k_.drew m).vrd 1 rfl eI p 0 (by kernel_rfl)) h_x_2 rfl (I x_2) rfl <| qV ((k_.drew m).vrd 1 rfl eI p 0 (by kernel_rfl)) h_x_3 rfl (I x_3) rfl <| qV ((k_.drew m).vrd 1 rfl eI p 0 (by kernel_rfl)) h_x_4 rfl (I x_4) rfl <| qV ((k_.drew m).vrd 1 rfl eI p 0 (by kernel_rfl)) h_x_5 rfl (I x_5) rfl <| qe) (by kernel_rfl) (fun m_ => ?_)
 have k_1 := k_.drew m_
 refine At_go <| W_seq ?_
 have k_2 := k_1.drew 1
 refine W_m yz_mixed (.q 0 0 (.q 1 0 (.q 2 0 (.q 3 0 (.q 4 0 (.q 5 0 (.q 6 0 (.q 7 0 (.q 8 0 (.q 9 0 (.q 10 0 (.q 11 0 (.q 12 0 (.q 13 1 (.q 14 0 (.op 15 .nil)))))))))))))))) [15] k_2 (.c (.s (.k .e)) .l) (by kernel_rfl) (fun _ => ?_)
 obtain ⟨x_6, h_x_6, hm⟩ := ob hm
 obtain ⟨x_7, h_x_7, hm⟩ := ob hm
 refine MXq 13 0 [] (.n 20 (pt g_v 0) (.n 21 (I x_2) (.n 32 (.u64 (x_6 + (x_7 + x_))) (.kkkk (.k (.s .a)))))) (fun x hx => qs g_v 0 <| qV (hx.vrd 0 rfl e64 v 0 (by kernel_rfl)) h_x_6 rfl (.u64 x_6) rfl <| qs g_v 0 <| qV (hx.vrd 0 rfl e64 v 0 (by kernel_rfl)) h_x_7 rfl (.u64 x_7) rfl <| qe) (by kernel_rfl) (fun _ => ?_)
 refine MXq 1 1 [] (.n 33 (pt g_v 0) (.s .a)) (fun x hx => qs g_v 0 <| qe) (by kernel_rfl) (fun _ => ?_)
 obtain ⟨x_8, h_x_8, hm⟩ := ob hm
 refine MXq 1 0 [] (.n 34 (.v (.pointer (ixA (some ⟨g_v, 0, none⟩) x_2 1))) (.ss .a)) (fun x hx => qI g_v 0 h_x_8 <| qe) (by kernel_rfl) (fun _ => ?_)
 refine MX_op (by kernel_rfl) rfl ?_
 obtain ⟨v1, h_v1, hm⟩ := nm hm
 refine Op_vs (E := e64) (kk := 0) [] 0 (.u64 (x_6 + (x_7 + x_))) [.u64 (x_6 + (x_7 + x_))] h_v1 h_x_8 (Pt.ix0 (Pt.at g_v 0) x_2 1) k_2 rfl .h rfl (by kernel_rfl) (by kernel_rfl) ?_
 intro w_1 k_3
 refine ⟨(k_3.sel (.s (.k .e))), fun _ => ?_⟩
 refine MX_nil <| At_go <| W_seq ?_
 have k_4 := k_3.drew 1
 refine W_m yz_mixed (.q 0 1 (.q 1 1 (.q 2 1 (.q 3 1 (.q 4 1 (.q 5 1 (.q 6 1 (.q 7 1 (.q 8 1 (.q 9 1 (.q 10 1 (.q 11 1 (.q 12 0 (.q 14 2 (.op 13 (.q 15 1 (.op 16 .nil))))))))))))))))) [13, 16] k_4 (.c (.kk .e) (.c (.s (.k .e)) .l)) (by kernel_rfl) (fun _ => ?_)
 obtain ⟨x_9, h_x_9, hm⟩ := ob hm
 obtain ⟨x_10, h_x_10, hm⟩ := ob hm
 refine MXq 12 1 [] (.n 35 (pt g_v 0) (.n 36 (I x_5) (.n 41 (.u64 x_9) (.n 46 (.u64 x_10) (.ss .a))))) (fun x hx => qs g_v 0 <| qV (hx.vrd 0 rfl e64 v1 0 (by kernel_rfl)) h_x_9 rfl (.u64 x_9) rfl <| qs g_v 0 <| qV (hx.vrd 0 rfl e64 v1 0 (by kernel_rfl)) h_x_10 rfl (.u64 x_10) rfl <| qe) (by kernel_rfl) (fun _ => ?_)
 refine MXq 1 0 [] (.n 47 (.u64 (x_9 ^^^ x_10)) (.kk (.ss .a))) (fun x hx => qe) (by kernel_rfl) (fun _ => ?_)
 refine MXq 1 2 [] (.n 49 (pt g_v 0) (.k (.s .a))) (fun x hx => qs g_v 0 <| qe) (by kernel_rfl) (fun _ => ?_)
 refine MX_op (by kernel_rfl) rfl ?_
 obtain ⟨r_, h_r_, hm⟩ := ob hm
 refine Op_call [] 48 _ yz_go164 (by kernel_rfl) (c_bits_RotateLeft64 (F := N0) (O := N0) _ _ (Cx.refl _) _ h_r_) ?_
 rintro e_ w_2 ⟨rfl, k_5⟩
 have k_6 := k_4.call k_5
 refine ⟨.u64 r_, rfl, ?_⟩
 refine ⟨k_6, fun _ => ?_⟩
 obtain ⟨x_11, h_x_11, hm⟩ := ob hm
 refine MXq 1 1 [] (.n 50 (.v (.pointer (ixA (some ⟨g_v, 0, none⟩) x_5 1))) (.k (.sss .a))) (fun x hx => qI g_v 0 h_x_11 <| qe) (by kernel_rfl) (fun _ => ?_)
 refine MX_op (by kernel_rfl) rfl ?_
 obtain ⟨v2, h_v2, hm⟩ := nm hm
 refine Op_vs (E := e64) (kk := 0) [] 0 (.u64 r_) [.u64 r_] h_v2 h_x_11 (Pt.ix0 (Pt.at g_v 0) x_5 1) k_6 rfl .h rfl (by kernel_rfl) (by kernel_rfl) ?_
 intro w_3 k_7
 refine ⟨(k_7.sel (.s (.k .e))), fun _ => ?_⟩
 refine MX_nil <| At_go <| W_seq ?_
 have k_8 := k_7.drew 1
 refine W_m yz_mixed (.q 0 0 (.q 1 0 (.q 2 0 (.q 3 0 (.q 4 0 (.q 5 0 (.q 6 0 (.q 7 0 (.q 8 0 (.q 9 0 (.q 10 0 (.q 11 1 (.q 12 0 (.op 13 .nil)))))))))))))) [13] k_8 (.c (.s (.k .e)) .l) (by kernel_rfl) (fun _ => ?_)
 obtain ⟨x_12, h_x_12, hm⟩ := ob hm
 obtain ⟨x_13, h_x_13, hm⟩ := ob hm
 refine MXq 11 0 [] (.n 51 (pt g_v 0) (.n 52 (I x_4) (.n 61 (.u64 (x_12 + x_13)) (.ss .a)))) (fun x hx => qs g_v 0 <| qV (hx.vrd 0 rfl e64 v2 0 (by kernel_rfl)) h_x_12 rfl (.u64 x_12) rfl <| qs g_v 0 <| qV (hx.vrd 0 rfl e64 v2 0 (by kernel_rfl)) h_x_13 rfl (.u64 x_13) rfl <| qe) (by kernel_rfl) (fun _ => ?_)
 refine MXq 1 1 [] (.n 62 (pt g_v 0) (.s .a)) (fun x hx => qs g_v 0 <| qe) (by kernel_rfl) (fun _ => ?_)
 obtain ⟨x_14, h_x_14, hm⟩ := ob hm
 refine MXq 1 0 [] (.n 63 (.v (.pointer (ixA (some ⟨g_v, 0, none⟩) x_4 1))) (.ss .a)) (fun x hx => qI g_v 0 h_x_14 <| qe) (by kernel_rfl) (fun _ => ?_)
 refine MX_op (by kernel_rfl) rfl ?_
 have k_9 := k_8.sel (.kk .e)
 obtain ⟨v3, h_v3, hm⟩ := nm hm
 refine Op_vs (E := e64) (kk := 0) [] 0 (.u64 (x_12 + x_13)) [.u64 (x_12 + x_13)] h_v3 h_x_14 (Pt.ix0 (Pt.at g_v 0) x_4 1) k_9 rfl .h rfl (by kernel_rfl) (by kernel_rfl) ?_
 intro w_4 k_10
 refine ⟨(k_10.sel (.s (.k .e))), fun _ => ?_⟩
 refine MX_nil <| At_go <| W_seq ?_
 have k_11 := k_10.drew 1
 refine W_m yz_mixed (.q 0 1 (.q 1 1 (.q 2 1 (.q 3 1 (.q 4 1 (.q 5 1 (.q 6 1 (.q 7 1 (.q 8 1 (.q 9 1 (.q 10 1 (.q 11 1 (.q 12 0 (.q 14 2 (.op 13 (.q 15 1 (.op 16 .nil))))))))))))))))) [13, 16] k_11 (.c (.kk .e) (.c (.s (.k .e)) .l)) (by kernel_rfl) (fun _ => ?_)
 obtain ⟨x_15, h_x_15, hm⟩ := ob hm
 obtain ⟨x_16, h_x_16, hm⟩ := ob hm
 refine MXq 12 1 [] (.n 64 (pt g_v 0) (.n 65 (I x_3) (.n 70 (.u64 x_15) (.n 75 (.u64 x_16) (.ss .a))))) (fun x hx => qs g_v 0 <| qV (hx.vrd 0 rfl e64 v3 0 (by kernel_rfl)) h_x_15 rfl (.u64 x_15) rfl <| qs g_v 0 <| qV (hx.vrd 0 rfl e64 v3 0 (by kernel_rfl)) h_x_16 rfl (.u64 x_16) rfl <| qe) (by kernel_rfl) (fun _ => ?_)
 refine MXq 1 0 [] (.n 76 (.u64 (x_15 ^^^ x_16)) (.kk (.ss .a))) (fun x hx => qe) (by kernel_rfl) (fun _ => ?_)
 refine MXq 1 2 [] (.n 78 (pt g_v 0) (.k (.s .a))) (fun x hx => qs g_v 0 <| qe) (by kernel_rfl) (fun _ => ?_)
 refine MX_op (by kernel_rfl) rfl ?_
 obtain ⟨r_1, h_r_1, hm⟩ := ob hm
 refine Op_call [] 77 _ yz_go164 (by kernel_rfl) (c_bits_RotateLeft64 (F := N0) (O := N0) _ _ (Cx.refl _) _ h_r_1) ?_
 rintro e_ w_5 ⟨rfl, k_12⟩
 have k_13 := k_11.call k_12
 refine ⟨.u64 r_1, rfl, ?_⟩
 refine ⟨k_13, fun _ => ?_⟩
 obtain ⟨x_17, h_x_17, hm⟩ := ob hm
 refine MXq 1 1 [] (.n 79 (.v (.pointer (ixA (some ⟨g_v, 0, none⟩) x_3 1))) (.k (.sss .a))) (fun x hx => qI g_v 0 h_x_17 <| qe) (by kernel_rfl) (fun _ => ?_)
 refine MX_op (by kernel_rfl) rfl ?_
 obtain ⟨v4, h_v4, hm⟩ := nm hm
 refine Op_vs (E := e64) (kk := 0) [] 0 (.u64 r_1) [.u64 r_1] h_v4 h_x_17 (Pt.ix0 (Pt.at g_v 0) x_3 1) k_13 rfl .h rfl (by kernel_rfl) (by kernel_rfl) ?_
 intro w_6 k_14
 refine ⟨(k_14.sel (.s (.k .e))), fun _ => ?_⟩
 refine MX_nil <| At_go <| W_seq ?_
 have k_15 := k_14.drew 1
 refine W_m yz_mixed (.q 0 0 (.q 1 0 (.q 2 0 (.q 3 0 (.q 4 0 (.q 5 0 (.q 6 0 (.q 7 0 (.q 8 0 (.q 9 0 (.q 10 0 (.q 11 0 (.q 12 0 (.q 13 1 (.q 14 0 (.op 15 .nil)))))))))))))))) [15] k_15 (.c (.s (.k .e)) .l) (by kernel_rfl) (fun _ => ?_)
 obtain ⟨x_18, h_x_18, hm⟩ := ob hm
 obtain ⟨x_19, h_x_19, hm⟩ := ob hm
 refine MXq 13 0 [] (.n 80 (pt g_v 0) (.n 81 (I x_2) (.n 92 (.u64 (x_18 + (x_19 + y_))) (.ss (.kkkk (.k .z)))))) (fun x hx => qs g_v 0 <| qV (hx.vrd 0 rfl e64 v4 0 (by kernel_rfl)) h_x_18 rfl (.u64 x_18) rfl <| qs g_v 0 <| qV (hx.vrd 0 rfl e64 v4 0 (by kernel_rfl)) h_x_19 rfl (.u64 x_19) rfl <| qe) (by kernel_rfl) (fun _ => ?_)
 refine MXq 1 1 [] (.n 93 (pt g_v 0) (.s .a)) (fun x hx => qs g_v 0 <| qe) (by kernel_rfl) (fun _ => ?_)
 obtain ⟨x_20, h_x_20, hm⟩ := ob hm
 refine MXq 1 0 [] (.n 94 (.v (.pointer (ixA (some ⟨g_v, 0, none⟩) x_2 1))) (.ss .a)) (fun x hx => qI g_v 0 h_x_20 <| qe) (by kernel_rfl) (fun _ => ?_)
 refine MX_op (by kernel_rfl) rfl ?_
 obtain ⟨v5, h_v5, hm⟩ := nm hm
 refine Op_vs (E := e64) (kk := 0) [] 0 (.u64 (x_18 + (x_19 + y_))) [.u64 (x_18 + (x_19 + y_))] h_v5 h_x_20 (Pt.ix0 (Pt.at g_v 0) x_2 1) k_15 rfl .h rfl (by kernel_rfl) (by kernel_rfl) ?_
 intro w_7 k_16
 refine ⟨(k_16.sel (.s (.k .e))), fun _ => ?_⟩
 refine MX_nil <| At_go <| W_seq ?_
 have k_17 := k_16.drew 1
 refine W_m yz_mixed (.q 0 1 (.q 1 1 (.q 2 1 (.q 3 1 (.q 4 1 (.q 5 1 (.q 6 1 (.q 7 1 (.q 8 1 (.q 9 1 (.q 10 1 (.q 11 1 (.q 12 0 (.q 14 2 (.op 13 (.q 15 1 (.op 16 .nil))))))))))))))))) [13, 16] k_17 (.c (.kk .e) (.c (.s (.k .e)) .l)) (by kernel_rfl) (fun _ => ?_)
 obtain ⟨x_21, h_x_21, hm⟩ := ob hm
 obtain ⟨x_22, h_x_22, hm⟩ := ob hm
 refine MXq 12 1 [] (.n 95 (pt g_v 0) (.n 96 (I x_5) (.n 101 (.u64 x_21) (.n 106 (.u64 x_22) (.sss .a))))) (fun x hx => qs g_v 0 <| qV (hx.vrd 0 rfl e64 v5 0 (by kernel_rfl)) h_x_21 rfl (.u64 x_21) rfl <| qs g_v 0 <| qV (hx.vrd 0 rfl e64 v5 0 (by kernel_rfl)) h_x_22 rfl (.u64 x_22) rfl <| qe) (by kernel_rfl) (fun _ => ?_)
 refine MXq 1 0 [] (.n 107 (.u64 (x_21 ^^^ x_22)) (.kk (.ss .a))) (fun x hx => qe) (by kernel_rfl) (fun _ => ?_)
 refine MXq 1 2 [] (.n 109 (pt g_v 0) (.k (.s .a))) (fun x hx => qs g_v 0 <| qe) (by kernel_rfl) (fun _ => ?_)
 refine MX_op (by kernel_rfl) rfl ?_
 have k_18 := k_17.sel (.kk .e)
 obtain ⟨r_2, h_r_2, hm⟩ := ob hm
 refine Op_call [] 108 _ yz_go164 (by kernel_rfl) (c_bits_RotateLeft64 (F := N0) (O := N0) _ _ (Cx.refl _) _ h_r_2) ?_
 rintro e_ w_8 ⟨rfl, k_19⟩
 have k_20 := k_18.call k_19
 refine ⟨.u64 r_2, rfl, ?_⟩
 refine ⟨k_20, fun _ => ?_⟩
 obtain ⟨x_23, h_x_23, hm⟩ := ob hm
 refine MXq 1 1 [] (.n 110 (.v (.pointer (ixA (some ⟨g_v, 0, none⟩) x_5 1))) (.k (.sss .a))) (fun x hx => qI g_v 0 h_x_23 <| qe) (by kernel_rfl) (fun _ => ?_)
 refine MX_op (by kernel_rfl) rfl ?_
 obtain ⟨v6, h_v6, hm⟩ := nm hm
 refine Op_vs (E := e64) (kk := 0) [] 0 (.u64 r_2) [.u64 r_2] h_v6 h_x_23 (Pt.ix0 (Pt.at g_v 0) x_5 1) k_20 rfl .h rfl (by kernel_rfl) (by kernel_rfl) ?_
 intro w_9 k_21
 refine ⟨(k_21.sel (.s (.k .e))), fun _ => ?_⟩
 refine MX_nil <| At_go <| W_seq ?_
 have k_22 := k_21.drew 1
 refine W_m yz_mixed (.q 0 0 (.q 1 0 (.q 2 0 (.q 3 0 (.q 4 0 (.q 5 0 (.q 6 0 (.q 7 0 (.q 8 0 (.q 9 0 (.q 10 0 (.q 11 1 (.q 12 0 (.op 13 .nil)))))))))))))) [13] k_22 (.c (.s (.k .e)) .l) (by kernel_rfl) (fun _ => ?_)
 obtain ⟨x_24, h_x_24, hm⟩ := ob hm
 obtain ⟨x_25, h_x_25, hm⟩ := ob hm
 refine MXq 11 0 [] (.n 111 (pt g_v 0) (.n 112 (I x_4) (.n 121 (.u64 (x_24 + x_25)) (.ss (.kk (.s .a)))))) (fun x hx => qs g_v 0 <| qV (hx.vrd 0 rfl e64 v6 0 (by kernel_rfl)) h_x_24 rfl (.u64 x_24) rfl <| qs g_v 0 <| qV (hx.vrd 0 rfl e64 v6 0 (by kernel_rfl)) h_x_25 rfl (.u64 x_25) rfl <| qe) (by kernel_rfl) (fun _ => ?_)
 refine MXq 1 1 [] (.n 122 (pt g_v 0) (.s .a)) (fun x hx => qs g_v 0 <| qe) (by kernel_rfl) (fun _ => ?_)
 obtain ⟨x_26, h_x_26, hm⟩ := ob hm
 refine MXq 1 0 [] (.n 123 (.v (.pointer (ixA (some ⟨g_v, 0, none⟩) x_4 1))) (.ss .a)) (fun x hx => qI g_v 0 h_x_26 <| qe) (by kernel_rfl) (fun _ => ?_)
 refine MX_op (by kernel_rfl) rfl ?_
 obtain ⟨v7, h_v7, hm⟩ := nm hm
 refine Op_vs (E := e64) (kk := 0) [] 0 (.u64 (x_24 + x_25)) [.u64 (x_24 + x_25)] h_v7 h_x_26 (Pt.ix0 (Pt.at g_v 0) x_4 1) k_22 rfl .h rfl (by kernel_rfl) (by kernel_rfl) ?_
 intro w_10 k_23
 refine ⟨(k_23.sel (.s (.k .e))), fun _ => ?_⟩
 refine MX_nil <| At_go ?_
 have k_24 := k_23.drew 1
 refine W_m yz_mixed (.q 0 1 (.q 1 1 (.q 2 1 (.q 3 1 (.q 4 1 (.q 5 1 (.q 6 1 (.q 7 1 (.q 8 1 (.q 9 1 (.q 10 1 (.q 11 1 (.q 12 0 (.q 14 2 (.op 13 (.q 15 1 (.op 16 .nil))))))))))))))))) [13, 16] k_24 (.c (.kk .e) (.c (.s (.k .e)) .l)) (by kernel_rfl) (fun _ => ?_)
 obtain ⟨x_27, h_x_27, hm⟩ := ob hm
 obtain ⟨x_28, h_x_28, hm⟩ := ob hm
 refine MXq 12 1 [] (.n 124 (pt g_v 0) (.n 125 (I x_3) (.n 130 (.u64 x_27) (.n 135 (.u64 x_28) .z)))) (fun x hx => qs g_v 0 <| qV (hx.vrd 0 rfl e64 v7 0 (by kernel_rfl)) h_x_27 rfl (.u64 x_27) rfl <| qs g_v 0 <| qV (hx.vrd 0 rfl e64 v7 0 (by kernel_rfl)) h_x_28 rfl (.u64 x_28) rfl <| qe) (by kernel_rfl) (fun _ => ?_)
 refine MXq 1 0 [] (.n 136 (.u64 (x_27 ^^^ x_28)) (.kk .z)) (fun x hx => qe) (by kernel_rfl) (fun _ => ?_)
 refine MXq 1 2 [] (.n 138 (pt g_v 0) (.k (.s .a))) (fun x hx => qs g_v 0 <| qe) (by kernel_rfl) (fun _ => ?_)
 refine MX_op (by kernel_rfl) rfl ?_
 obtain ⟨r_3, h_r_3, hm⟩ := ob hm
 refine Op_call [] 137 _ yz_go164 (by kernel_rfl) (c_bits_RotateLeft64 (F := N0) (O := N0) _ _ (Cx.refl _) _ h_r_3) ?_
 rintro e_ w_11 ⟨rfl, k_25⟩
 have k_26 := k_24.call k_25
 refine ⟨.u64 r_3, rfl, ?_⟩
 refine ⟨k_26, fun _ => ?_⟩
 obtain ⟨x_29, h_x_29, hm⟩ := ob hm
 refine MXq 1 1 [] (.n 139 (.v (.pointer (ixA (some ⟨g_v, 0, none⟩) x_3 1))) (.k .z)) (fun x hx => qI g_v 0 h_x_29 <| qe) (by kernel_rfl) (fun _ => ?_)
 refine MX_op (by kernel_rfl) rfl ?_
 have k_27 := k_26.sel (.kk .e)
 obtain ⟨v8, h_v8, hm⟩ := nm hm
 refine Op_vs (E := e64) (kk := 0) [] 0 (.u64 r_3) [.u64 r_3] h_v8 h_x_29 (Pt.ix0 (Pt.at g_v 0) x_3 1) k_27 rfl .h rfl (by kernel_rfl) (by kernel_rfl) ?_
 intro w_12 k_28
 refine ⟨(k_28.sel (.s (.k .e))), fun _ => ?_⟩
 refine MX_nil ?_
 obtain rfl := Option.some.inj hm
 refine At_en [] qe (by kernel_rfl) ?_
 have k_29 := k_28.sel (.k .z)
 exact ⟨rfl, k_29⟩
end Go.Sx
