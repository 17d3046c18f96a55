import Derived.Test.YtmknbdnofogmdaaGreatW6
namespace Go.Sx
open Go.RowKit Go.Proofs
set_option linter.unusedVariables false
set_option linter.unusedSimpArgs false
set_option maxRecDepth 20000

-- (*quern/node.Node).Out
noncomputable def m_node_Node_Out (n_kind : Int) (n_digest : Int) (n_block : List UInt8) (n_key : List UInt8) (n_last : Bool) (n_written : UInt64) (n_e_h : Vec UInt64 8) (n_e_count_Lo : UInt64) (n_e_count_Hi : UInt64) (n_e_held : List UInt8) (n_e_block : Int) (most : Int) : Option (List UInt8 × Int × Vec UInt64 8 × UInt64 × UInt64 × List UInt8 × Int × Int × Int × List UInt8 × List UInt8 × Bool × UInt64) :=
  (m_node_Node_none n_kind n_digest n_block n_key n_last n_written n_e_h n_e_count_Lo n_e_count_Hi n_e_held n_e_block).bind fun r_ => if most < 1 then (some (([] : List UInt8), (1 : Int), r_.1, r_.2.1, r_.2.2.1, r_.2.2.2.1, r_.2.2.2.2.1, r_.2.2.2.2.2.1, r_.2.2.2.2.2.2.1, r_.2.2.2.2.2.2.2.1, r_.2.2.2.2.2.2.2.2.1, r_.2.2.2.2.2.2.2.2.2.1, r_.2.2.2.2.2.2.2.2.2.2)) else ((m_node_blockOf r_.2.2.2.2.2.1).bind fun r_1 => if (w64 (Int.tdiv r_1 2)) < most then (some (([] : List UInt8), (1 : Int), r_.1, r_.2.1, r_.2.2.1, r_.2.2.2.1, r_.2.2.2.2.1, r_.2.2.2.2.2.1, r_.2.2.2.2.2.2.1, r_.2.2.2.2.2.2.2.1, r_.2.2.2.2.2.2.2.2.1, r_.2.2.2.2.2.2.2.2.2.1, r_.2.2.2.2.2.2.2.2.2.2)) else ((m_node_half_uint64_out r_.1 r_.2.1 r_.2.2.1 r_.2.2.2.1 r_.2.2.2.2.1 r_.2.2.2.2.2.2.2.2.2.1).bind fun r_2 => (slc r_2.1 0 most).bind fun b => (need (most ≤ most ∧ most ≤ ((r_2.1.length : Nat) : Int))).bind fun u => some (b, (0 : Int), r_2.2.1, r_2.2.2.1, r_2.2.2.2.1, r_2.2.2.2.2.1, r_2.2.2.2.2.2, r_.2.2.2.2.2.1, r_.2.2.2.2.2.2.1, r_.2.2.2.2.2.2.2.1, r_.2.2.2.2.2.2.2.2.1, r_.2.2.2.2.2.2.2.2.2.1, r_.2.2.2.2.2.2.2.2.2.2)))
theorem c_node_Node_Out {F O : Nat → Prop} {w : World} (n_kind : Int) (n_digest : Int) (n_block : List UInt8) (n_key : List UInt8) (n_last : Bool) (n_written : UInt64) (n_e_h : Vec UInt64 8) (n_e_count_Lo : UInt64) (n_e_count_Hi : UInt64) (n_e_held : List UInt8) (n_e_block : Int) (most : Int) (g_n : Nat) (A_n_block : Option Addr) (n_n_block : Nat) (c_n_block : Nat) (A_n_key : Option Addr) (n_n_key : Nat) (c_n_key : Nat) (g_n_e : Nat) (A_n_e_held : Option Addr) (n_n_e_held : Nat) (c_n_e_held : Nat) (k : Cx F O w w [Bx 125 g_n [I n_kind, I n_digest, sl A_n_block n_n_block c_n_block, sl A_n_key n_n_key c_n_key, .b n_last, .u64 n_written, .v (.iface 200 (SV.val (pt g_n_e 0)))], Ow e8 A_n_block n_n_block c_n_block n_block, Ow e8 A_n_key n_n_key c_n_key n_key, Bx 206 g_n_e [.ar e64 n_e_h, .u64 n_e_count_Lo, .u64 n_e_count_Hi, sl A_n_e_held n_n_e_held c_n_e_held, I n_e_block, .v (.func (.func 132) ⟨SV.vals []⟩ ⟨SV.vals []⟩), .v (.func (.func 133) ⟨SV.vals []⟩ ⟨SV.vals []⟩)], Ow e8 A_n_e_held n_n_e_held c_n_e_held n_e_held]) (r : (List UInt8 × Int × Vec UInt64 8 × UInt64 × UInt64 × List UInt8 × Int × Int × Int × List UInt8 × List UInt8 × Bool × UInt64)) (hm : m_node_Node_Out n_kind n_digest n_block n_key n_last n_written n_e_h n_e_count_Lo n_e_count_Hi n_e_held n_e_block most = some r) :
    Calls Tryz.prog 70 (vals [pt g_n 0, I most]) w (fun e w' => ∃ A n c A1 n1 c1 A2 n2 c2 A3 n3 c3, r.1.length = n ∧ r.2.2.2.2.2.1.length = n1 ∧ r.2.2.2.2.2.2.2.2.2.1.length = n2 ∧ r.2.2.2.2.2.2.2.2.2.2.1.length = n3 ∧ e = .returned (SV.val (.tup [sl A n c, I r.2.1])) ∧ Cx F O w w' [Ow e8 A n c r.1, Bx 206 g_n_e [.ar e64 r.2.2.1, .u64 r.2.2.2.1, .u64 r.2.2.2.2.1, sl A1 n1 c1, I r.2.2.2.2.2.2.1, .v (.func (.func 132) ⟨SV.vals []⟩ ⟨SV.vals []⟩), .v (.func (.func 133) ⟨SV.vals []⟩ ⟨SV.vals []⟩)], Ow e8 A1 n1 c1 r.2.2.2.2.2.1, Bx 125 g_n [I r.2.2.2.2.2.2.2.1, I r.2.2.2.2.2.2.2.2.1, sl A2 n2 c2, sl A3 n3 c3, .b r.2.2.2.2.2.2.2.2.2.2.2.1, .u64 r.2.2.2.2.2.2.2.2.2.2.2.2, .v (.iface 200 (SV.val (pt g_n_e 0)))], Ow e8 A2 n2 c2 r.2.2.2.2.2.2.2.2.2.1, Ow e8 A3 n3 c3 r.2.2.2.2.2.2.2.2.2.2.1]) := by
 unfold m_node_Node_Out at hm
 obtain rfl := k.len 1 rfl
 obtain rfl := k.len 2 rfl
 obtain rfl := k.len 4 rfl
 refine calls [pt g_n 0, I most] Tryz.func70 rfl (of_decide_eq_true (by kernel_rfl)) ?_
 refine W_seq <| W_q [] .a qe (by kernel_rfl) ?_
 refine At_go <| W_seq <| W_seq <| W_reg <| WLs 1 [] (.n 6 (pt g_n 0) .a) qe (by kernel_rfl) ?_
 refine WL_op ?_
 obtain ⟨r_, h_r_, hm⟩ := ob hm
 obtain ⟨F1, O1, kin, hO, hre, hF, hb⟩ := k.go (.i (.i (.i (.i (.i .e)))))
 refine Op_call [] 7 _ yz_go91 (by kernel_rfl) (c_node_Node_none (F := F1) (O := O1) _ _ _ _ _ _ _ _ _ _ _ _ _ _ _ _ _ _ _ _ _ _ kin _ h_r_) ?_
 rintro e_ w_ ⟨A0, _, c0, A4, _, c4, A5, _, c5, rfl, rfl, rfl, rfl, k_⟩
 have k_1 := hb w_ _ _ k_ (.c (.c (.c (.c (.c .n)))))
 refine ⟨.b false, rfl, ?_⟩
 refine WL_nil <| At_go <| W_cond false (by kernel_rfl) (fun h => by cases h) (fun _ => ?_)
 refine W_skip <| At_go <| W_seq <| W_seq <| W_reg <| WLs 3 [] (.n 10 (.b (decide (most < 1))) (.ss .a)) qe (by kernel_rfl) ?_
 refine WL_sp 10 (decide (most < 1)) (.s .a) (by kernel_rfl) (fun hg => ?_) (fun hg => ?_)
 · rw [if_pos (of_decide_eq_true hg)] at hm
   refine WLs 9 [10] (.n 19 (.b true) (.s .a)) qe (by kernel_rfl) ?_
   refine WL_nil <| At_go <| W_cond true (by kernel_rfl) (fun _ => ?_) (fun h => by cases h)
   refine W_seq <| W_q [] (.n 4 (sl none 0 0) (.n 5 (I 1) .z)) qe (by kernel_rfl) ?_
   refine At_go <| W_ret (At_tr ?_)
   have k_2 := k_1.nil e8
   obtain rfl := Option.some.inj hm
   refine At_rt [sl none 0 0, I 1] qe (by kernel_rfl) ?_
   have k_3 := (((((k_2.pk (.t (.t (.t (.t .h))))).pk (.t (.t (.t (.t .h))))).pk (.t (.t (.t (.t .h))))).pk (.t (.t (.t (.t .h))))).pk (.t (.t (.t (.t .h))))).pk (.t (.t (.t (.t (.t .h)))))
   exact ⟨none, 0, 0, A0, r_.2.2.2.1.length, c0, A4, r_.2.2.2.2.2.2.2.1.length, c4, A5, r_.2.2.2.2.2.2.2.2.1.length, c5, k_3.len 0 rfl, k_3.len 2 rfl, k_3.len 4 rfl, k_3.len 5 rfl, rfl, k_3⟩
 · rw [if_neg (of_decide_eq_false hg)] at hm
   refine WLs 5 [10] (.n 11 (I most) (.n 15 (I r_.2.2.2.2.2.1) .a)) (qs g_n 0 <| qs g_n 0 <| qB k_1 2 rfl 0 (I r_.2.2.2.2.2.1) (by kernel_rfl) <| qe) (by kernel_rfl) ?_
   refine WL_op ?_
   obtain ⟨r_1, h_r_1, hm⟩ := ob hm
   refine Op_call [10] 16 _ yz_go92 (by kernel_rfl) (c_node_blockOf (F := N0) (O := N0) _ (Cx.refl _) _ h_r_1) ?_
   rintro e_ w_1 ⟨rfl, k_4⟩
   have k_5 := k_1.call k_4
   refine ⟨I r_1, rfl, ?_⟩
   refine WLs 3 [10] (.n 19 (.b (decide ((w64 (Int.tdiv r_1 2)) < most))) (.ssss .a)) (qp ((2 : Int) ≠ (0 : Int)) (by omega) <| qe) (by kernel_rfl) ?_
   refine WL_nil <| At_go <| W_condp ((w64 (Int.tdiv r_1 2)) < most) (by kernel_rfl) (fun hc => ?_) (fun hc => ?_)
   · rw [if_pos hc] at hm
     refine W_seq <| W_q [] (.n 4 (sl none 0 0) (.n 5 (I 1) .z)) qe (by kernel_rfl) ?_
     refine At_go <| W_ret (At_tr ?_)
     have k_6 := k_5.nil e8
     obtain rfl := Option.some.inj hm
     refine At_rt [sl none 0 0, I 1] qe (by kernel_rfl) ?_
     have k_7 := (((((k_6.pk (.t (.t (.t (.t .h))))).pk (.t (.t (.t (.t .h))))).pk (.t (.t (.t (.t .h))))).pk (.t (.t (.t (.t .h))))).pk (.t (.t (.t (.t .h))))).pk (.t (.t (.t (.t (.t .h)))))
     exact ⟨none, 0, 0, A0, r_.2.2.2.1.length, c0, A4, r_.2.2.2.2.2.2.2.1.length, c4, A5, r_.2.2.2.2.2.2.2.2.1.length, c5, k_7.len 0 rfl, k_7.len 2 rfl, k_7.len 4 rfl, k_7.len 5 rfl, rfl, k_7⟩
   rw [if_neg hc] at hm
   refine W_skip <| At_go <| W_seq ?_
   have k_8 := k_5.drew 1
   refine W_m yz_mixed (.q 0 1 (.q 1 1 (.q 2 1 (.q 3 1 (.q 4 1 (.q 5 1 (.q 6 1 (.q 7 0 (.q 8 1 (.q 9 0 (.q 11 1 (.q 12 1 (.op 10 (.q 13 1 (.q 14 1 (.q 15 1 .nil)))))))))))))))) [10] k_8 (.c (.ss (.kk (.k .e))) .l) (by kernel_rfl) (fun _ => ?_)
   refine MXq 7 1 [] (.n 23 (.v (.iface 200 (SV.val (pt g_n_e 0)))) (.n 26 (pt g_n 4) (.ss .a))) (fun x hx => qs g_n 0 <| qs g_n 0 <| qB hx 0 rfl 6 (.v (.iface 200 (SV.val (pt g_n_e 0)))) (by kernel_rfl) <| qs g_n 0 <| qs g_n 0 <| qe) (by kernel_rfl) (fun _ => ?_)
   refine MXq 1 0 [] (.n 27 (.b r_.2.2.2.2.2.2.2.2.2.1) (.k (.s .a))) (fun x hx => qB hx 2 rfl 4 (.b r_.2.2.2.2.2.2.2.2.2.1) (by kernel_rfl) <| qe) (by kernel_rfl) (fun _ => ?_)
   refine MXq 1 1 [] .a (fun x hx => qe) (by kernel_rfl) (fun _ => ?_)
   refine MXq 1 0 [] (.n 29 (.v (.iface 200 (SV.val (pt g_n_e 0)))) (.k (.s .a))) (fun x hx => qe) (by kernel_rfl) (fun _ => ?_)
   refine MXq 2 1 [] (.n 31 (I most) (.n 32 (I most) (.kk .z))) (fun x hx => qe) (by kernel_rfl) (fun _ => ?_)
   refine MX_op (by kernel_rfl) rfl ?_
   obtain ⟨r_2, h_r_2, hm⟩ := ob hm
   obtain ⟨F11, O11, kin1, hO1, hre1, hF1, hb1⟩ := k_8.go (.i (.i (.r (.r (.r .e)))))
   refine Op_invoke [] 30 200 (pt g_n_e 0) [.b r_.2.2.2.2.2.2.2.2.2.1] yz_inv200_node_out rfl (by kernel_rfl) (c_node_half_uint64_out (F := F11) (O := O11) _ _ _ _ _ _ _ _ _ _ kin1 _ h_r_2) ?_
   rintro e_ w_2 ⟨A6, _, c6, A7, _, c7, rfl, rfl, rfl, k_9⟩
   have k_10 := hb1 w_2 _ _ k_9 (.c (.c (.c .n)))
   refine ⟨sl A6 r_2.1.length c6, rfl, ?_⟩
   refine ⟨(k_10.sel (.ss (.s (.kk (.k .e))))), fun _ => ?_⟩
   obtain ⟨b, h_b, hm⟩ := ob hm
   have hs := slc_some h_b
   have hl := slc_len h_b
   have hn : r_2.1.length = r_2.1.length := (k_10.len 0 rfl)
   have hc1 : r_2.1.length ≤ c6 := (k_10.lec 0 rfl)
   obtain ⟨u, h_u, hm⟩ := ob hm
   have hq := need_some h_u
   have hc2 : b.length ≤ Int.toNat most := by omega
   refine MXq 3 1 [] (.n 4 (sl A6 b.length (Int.toNat most)) (.n 5 (I 0) .z)) (fun x hx => qp (0 ≤ most ∧ most ≤ ((c6 : Nat) : Int)) (by omega) <| qp (0 ≤ most ∧ most ≤ ((Int.toNat most : Nat) : Int)) (by omega) <| qo (.v (.slice A6 b.length (Int.toNat most))) <| qp (Value.slice (slA A6 0 (Int.toNat most) 1) (Int.toNat most - 0) (Int.toNat most - 0) = .slice A6 b.length (Int.toNat most)) (slx0 _ _ _ _ _ (by omega)) <| qe) (by kernel_rfl) (fun _ => ?_)
   refine MX_nil <| At_go <| W_ret ?_
   have k_11 := k_10.pre 0 rfl b.length (Int.toNat most) b (by omega) (by omega) (by omega) (slc_pre h_b rfl)
   obtain rfl := Option.some.inj hm
   refine At_rt [sl A6 b.length (Int.toNat most), I 0] qe (by kernel_rfl) ?_
   exact ⟨A6, b.length, Int.toNat most, A7, r_2.2.2.2.2.1.length, c7, A4, r_.2.2.2.2.2.2.2.1.length, c4, A5, r_.2.2.2.2.2.2.2.2.1.length, c5, k_11.len 0 rfl, k_11.len 2 rfl, k_11.len 4 rfl, k_11.len 5 rfl, rfl, k_11⟩

-- (*quern/node.Node).none
noncomputable def m_node_Node_none_s1 (n_kind : Int) (n_digest : Int) (n_block : List UInt8) (n_key : List UInt8) (n_last : Bool) (n_written : UInt64) (n_e_h : Vec UInt32 8) (n_e_count_Lo : UInt64) (n_e_count_Hi : UInt64) (n_e_held : List UInt8) (n_e_block : Int) : Option (Vec UInt32 8 × UInt64 × UInt64 × List UInt8 × Int × Int × Int × List UInt8 × List UInt8 × Bool × UInt64) :=
  some (n_e_h, n_e_count_Lo, n_e_count_Hi, n_e_held, n_e_block, n_kind, n_digest, n_block, n_key, n_last, n_written)
theorem c_node_Node_none_s1 {F O : Nat → Prop} {w : World} (n_kind : Int) (n_digest : Int) (n_block : List UInt8) (n_key : List UInt8) (n_last : Bool) (n_written : UInt64) (n_e_h : Vec UInt32 8) (n_e_count_Lo : UInt64) (n_e_count_Hi : UInt64) (n_e_held : List UInt8) (n_e_block : Int) (g_n : Nat) (A_n_block : Option Addr) (n_n_block : Nat) (c_n_block : Nat) (A_n_key : Option Addr) (n_n_key : Nat) (c_n_key : Nat) (g_n_e : Nat) (A_n_e_held : Option Addr) (n_n_e_held : Nat) (c_n_e_held : Nat) (k : Cx F O w w [Bx 125 g_n [I n_kind, I n_digest, sl A_n_block n_n_block c_n_block, sl A_n_key n_n_key c_n_key, .b n_last, .u64 n_written, .v (.iface 209 (SV.val (pt g_n_e 0)))], Ow e8 A_n_block n_n_block c_n_block n_block, Ow e8 A_n_key n_n_key c_n_key n_key, Bx 213 g_n_e [.ar e32 n_e_h, .u64 n_e_count_Lo, .u64 n_e_count_Hi, sl A_n_e_held n_n_e_held c_n_e_held, I n_e_block, .v (.func (.func 135) ⟨SV.vals []⟩ ⟨SV.vals []⟩), .v (.func (.func 136) ⟨SV.vals []⟩ ⟨SV.vals []⟩)], Ow e8 A_n_e_held n_n_e_held c_n_e_held n_e_held]) (r : (Vec UInt32 8 × UInt64 × UInt64 × List UInt8 × Int × Int × Int × List UInt8 × List UInt8 × Bool × UInt64)) (hm : m_node_Node_none_s1 n_kind n_digest n_block n_key n_last n_written n_e_h n_e_count_Lo n_e_count_Hi n_e_held n_e_block = some r) :
    Calls Tryz.prog 91 (vals [pt g_n 0]) w (fun e w' => ∃ A n c A1 n1 c1 A2 n2 c2, r.2.2.2.1.length = n ∧ r.2.2.2.2.2.2.2.1.length = n1 ∧ r.2.2.2.2.2.2.2.2.1.length = n2 ∧ e = .returned (SV.val (.b false)) ∧ Cx F O w w' [Bx 213 g_n_e [.ar e32 r.1, .u64 r.2.1, .u64 r.2.2.1, sl A n c, I r.2.2.2.2.1, .v (.func (.func 135) ⟨SV.vals []⟩ ⟨SV.vals []⟩), .v (.func (.func 136) ⟨SV.vals []⟩ ⟨SV.vals []⟩)], Ow e8 A n c r.2.2.2.1, Bx 125 g_n [I r.2.2.2.2.2.1, I r.2.2.2.2.2.2.1, sl A1 n1 c1, sl A2 n2 c2, .b r.2.2.2.2.2.2.2.2.2.1, .u64 r.2.2.2.2.2.2.2.2.2.2, .v (.iface 209 (SV.val (pt g_n_e 0)))], Ow e8 A1 n1 c1 r.2.2.2.2.2.2.2.1, Ow e8 A2 n2 c2 r.2.2.2.2.2.2.2.2.1]) := by
 unfold m_node_Node_none_s1 at hm
 obtain rfl := k.len 1 rfl
 obtain rfl := k.len 2 rfl
 obtain rfl := k.len 4 rfl
 refine calls [pt g_n 0] Tryz.func91 rfl (of_decide_eq_true (by kernel_rfl)) ?_
 refine W_seq <| W_q [] .a qe (by kernel_rfl) ?_
 refine At_go <| W_seq <| W_q [5] (.n 2 (.b false) .z) (qs g_n 0 <| qs g_n 0 <| qB k 0 rfl 6 (.v (.iface 209 (SV.val (pt g_n_e 0)))) (by kernel_rfl) <| qe) (by kernel_rfl) ?_
 refine At_go <| W_ret ?_
 obtain rfl := Option.some.inj hm
 refine At_rt [.b false] qe (by kernel_rfl) ?_
 have k_ := ((((k.pk (.t (.t .h))).pk (.t (.t .h))).pk (.t (.t .h))).pk (.t (.t (.t (.t .h))))).pk (.t (.t (.t (.t .h))))
 exact ⟨A_n_e_held, n_e_held.length, c_n_e_held, A_n_block, n_block.length, c_n_block, A_n_key, n_key.length, c_n_key, k_.len 1 rfl, k_.len 3 rfl, k_.len 4 rfl, rfl, k_⟩

-- quern/mixs.Bytes
noncomputable def m_mixs_Bytes_l0 (h : Vec UInt32 8) : (List UInt8 × Int) → Option ((List UInt8 × Int) ⊕ (List UInt8))
  | (b, x_0) => if x_0 < 8 then ((geti h.l x_0).bind fun x_1 => (app b ([UInt8.ofNat x_1.toNat, UInt8.ofNat (shr32 x_1 ((8 : UInt64).toNat)).toNat, UInt8.ofNat (shr32 x_1 ((16 : UInt64).toNat)).toNat, UInt8.ofNat (shr32 x_1 ((24 : UInt64).toNat)).toNat] : List UInt8) 1).bind fun b1 => some (.inl (b1, w64 (x_0 + 1)))) else (Option.map Sum.inr (some b))
noncomputable def m_mixs_Bytes (h : Vec UInt32 8) : Option (List UInt8) :=
  whileO (m_mixs_Bytes_l0 h) (List.replicate (Int.toNat (0 : Int)) (0 : UInt8), (0 : Int))
theorem c_mixs_Bytes {F O : Nat → Prop} {w : World} (h : Vec UInt32 8) (k : Cx F O w w []) (r : (List UInt8)) (hm : m_mixs_Bytes h = some r) :
    Calls Tryz.prog 136 (vals [.agg [.ar e32 h]]) w (fun e w' => ∃ A n c, r.length = n ∧ e = .returned (SV.val (sl A n c)) ∧ Cx F O w w' [Ow e8 A n c r]) := by
 unfold m_mixs_Bytes at hm
 refine calls [.agg [.ar e32 h]] Tryz.func136 rfl (of_decide_eq_true (by kernel_rfl)) ?_
 refine W_seq <| W_reg <| WL_op <| Op_box [] 1 (.agg [.ar e32 h]) [.ar e32 h] (by kernel_rfl) k ?_
 intro g w_ k_
 refine WLs 1 [] (.k .z) qe (by kernel_rfl) ?_
 refine WL_nil <| At_go <| W_seq <| W_reg <| WL_op <| Op_make yz_tf22 e8 (0 : UInt8) rfl [] 6 (I 0) (I 32) (0 : Int) (32 : Int) (by kernel_rfl) (by omega) (by omega) (by omega) k_ ?_
 intro A0 w_1 k_1
 refine WLs 1 [] (.n 3 (sl A0 (Int.toNat (0 : Int)) (Int.toNat (32 : Int))) (.s .a)) qe (by kernel_rfl) ?_
 refine WL_nil <| At_go <| W_seq <| W_seq <| W_q [] (.n 7 (.agg [.ar e32 h]) (.n 8 (I 0) (.k .z))) (qT k_1 0 rfl 0 8 [.ar e32 h] (by kernel_rfl) (by decide) <| qe) (by kernel_rfl) ?_
 refine At_go <| W_block ?_
 have k_3 := k_1.sel (.s (.k .e))
 refine W_lp (m_mixs_Bytes_l0 h) (fun s L wr => ∃ (b : List UInt8) (x_0 : Int) (A1 : Option Addr) (n0 : Nat) (c0 : Nat), (b, x_0) = s ∧ L = [(3, sl A1 n0 c0), (7, .agg [.ar e32 h]), (8, I x_0)] ∧ b.length = n0 ∧ Cx F O w wr [Ow e8 A1 n0 c0 b]) (List.replicate (Int.toNat (0 : Int)) (0 : UInt8), (0 : Int)) r hm ⟨List.replicate (Int.toNat (0 : Int)) (0 : UInt8), (0 : Int), A0, Int.toNat (0 : Int), Int.toNat (32 : Int), rfl, rfl, k_3.len 0 rfl, k_3⟩ (by kernel_rfl) ?_
 intro s0_ L_ w_2 y0 hrel hstep hr0
 obtain ⟨b, x_0, A1, _, c0, rfl, rfl, rfl, k_2⟩ := hrel
 have hm := hstep; simp only [m_mixs_Bytes_l0] at hm
 clear hstep
 refine W_seq <| W_q [] (.n 9 (.b (decide (x_0 < 8))) .a) qe (by kernel_rfl) ?_
 refine At_go <| W_seq <| W_condp (x_0 < 8) (by kernel_rfl) (fun hc => ?_) (fun hc => ?_)
 · rw [if_pos hc] at hm
   refine W_skip <| At_go <| W_seq <| W_block <| W_seq ?_
   obtain ⟨x_1, h_x_1, hm⟩ := ob hm
   refine W_q [] (.n 5 (.u32 x_1) (.s .a)) (qo (.u32 x_1) <| qp ((0 ≤ x_0 ∧ x_0 < ((8 : Nat) : Int)) ∧ (SV.cl [.ar e32 h])[Int.toNat x_0 * 1]? = some (SV.val (.u32 x_1))) (ar_ix (E := e32) h_x_1 rfl) <| qe) (by kernel_rfl) ?_
   refine At_go <| W_reg <| WLs 12 [] (.n 11 (sl A1 b.length c0) (.n 13 (.u8 (UInt8.ofNat x_1.toNat)) (.n 16 (.u8 (UInt8.ofNat (shr32 x_1 ((8 : UInt64).toNat)).toNat)) (.n 19 (.u8 (UInt8.ofNat (shr32 x_1 ((16 : UInt64).toNat)).toNat)) (.n 22 (.u8 (UInt8.ofNat (shr32 x_1 ((24 : UInt64).toNat)).toNat)) (.s .a)))))) qe (by kernel_rfl) ?_
   refine WL_op <| Op_mk yz_tf22 e8 [] 23 ([UInt8.ofNat x_1.toNat, UInt8.ofNat (shr32 x_1 ((8 : UInt64).toNat)).toNat, UInt8.ofNat (shr32 x_1 ((16 : UInt64).toNat)).toNat, UInt8.ofNat (shr32 x_1 ((24 : UInt64).toNat)).toNat] : List UInt8) [(0, .u8 (UInt8.ofNat x_1.toNat)), (1, .u8 (UInt8.ofNat (shr32 x_1 ((8 : UInt64).toNat)).toNat)), (2, .u8 (UInt8.ofNat (shr32 x_1 ((16 : UInt64).toNat)).toNat)), (3, .u8 (UInt8.ofNat (shr32 x_1 ((24 : UInt64).toNat)).toNat))] [.u8 (UInt8.ofNat x_1.toNat), .u8 (UInt8.ofNat (shr32 x_1 ((8 : UInt64).toNat)).toNat), .u8 (UInt8.ofNat (shr32 x_1 ((16 : UInt64).toNat)).toNat), .u8 (UInt8.ofNat (shr32 x_1 ((24 : UInt64).toNat)).toNat)] (by kernel_rfl) (by kernel_rfl) (by kernel_rfl) k_2 ?_
   intro A2 w_3 k_4
   refine WL_op ?_
   obtain ⟨b1, h_b1, hm⟩ := ob hm
   obtain ⟨hz, hl⟩ := app_some h_b1
   refine Op_append (E := e8) (v := sl A2 4 4) (ys := ([UInt8.ofNat x_1.toNat, UInt8.ofNat (shr32 x_1 ((8 : UInt64).toNat)).toNat, UInt8.ofNat (shr32 x_1 ((16 : UInt64).toNat)).toNat, UInt8.ofNat (shr32 x_1 ((24 : UInt64).toNat)).toNat] : List UInt8)) yz_tf22 [] 24 0 (by kernel_rfl) k_4 rfl (Src.sl (k_4.rd 1 rfl) (k_4.len 1 rfl) (by rfl)) (k_4.len 1 rfl) (by have := k_4.len 0 rfl; have := (k_4.len 1 rfl); omega) ?_
   intro A3 c1 w_4 k_5
   rw [← hl] at k_5
   have k_6 := k_5.sel (.k .z)
   refine WLs 1 [] (.n 3 (sl A3 (b.length + 4) c1) (.ssss (.ssss .a))) qe (by kernel_rfl) ?_
   refine WL_nil <| At_in <| At_go <| W_q [] (.n 8 (I (w64 (x_0 + 1))) (.kk .z)) qe (by kernel_rfl) ?_
   exact At_rd (b1, w64 (x_0 + 1)) (Option.some.inj hm).symm ⟨b1, w64 (x_0 + 1), A3, b.length + 4, c1, rfl, rfl, k_6.len 0 rfl, k_6⟩ (by kernel_rfl)
 rw [if_neg hc] at hm
 refine W_exit (At_te (At_te (At_ie ?_)))
 have hm := exit_of hm hr0
 refine At_go <| W_seq <| W_q [] (.n 2 (sl A1 b.length c0) .z) qe (by kernel_rfl) ?_
 refine At_go <| W_ret ?_
 obtain rfl := Option.some.inj hm
 refine At_rt [sl A1 b.length c0] qe (by kernel_rfl) ?_
 exact ⟨A1, b.length, c0, k_2.len 0 rfl, rfl, k_2⟩

-- (*quern/node.half[uint32]).out
noncomputable def m_node_half_uint32_out_j0 (x_h : Vec UInt32 8) (x_count_Lo : UInt64) (x_count_Hi : UInt64) (x_held : List UInt8) (x_block : Int) (node : Bool) (c0 : UInt64) (c2 : UInt64) : Option (List UInt8 × Vec UInt32 8 × UInt64 × UInt64 × List UInt8 × Int) :=
  (m_node_padded x_held x_block).bind fun r_1 => (m_node_mixSmall x_h r_1 c0 c2 true node).bind fun r_2 => (m_mixs_Bytes r_2).bind fun r_3 => some (r_3, x_h, x_count_Lo, x_count_Hi, x_held, x_block)
noncomputable def m_node_half_uint32_out (x_h : Vec UInt32 8) (x_count_Lo : UInt64) (x_count_Hi : UInt64) (x_held : List UInt8) (x_block : Int) (node : Bool) : Option (List UInt8 × Vec UInt32 8 × UInt64 × UInt64 × List UInt8 × Int) :=
  (m_word_Add x_count_Lo x_count_Hi (UInt64.ofInt ((x_held.length : Nat) : Int))).bind fun r_ => m_node_half_uint32_out_j0 x_h x_count_Lo x_count_Hi x_held x_block node r_.1 r_.2.1
theorem c_node_half_uint32_out {F O : Nat → Prop} {w : World} (x_h : Vec UInt32 8) (x_count_Lo : UInt64) (x_count_Hi : UInt64) (x_held : List UInt8) (x_block : Int) (node : Bool) (g_x : Nat) (A_x_held : Option Addr) (n_x_held : Nat) (c_x_held : Nat) (k : Cx F O w w [Bx 213 g_x [.ar e32 x_h, .u64 x_count_Lo, .u64 x_count_Hi, sl A_x_held n_x_held c_x_held, I x_block, .v (.func (.func 135) ⟨SV.vals []⟩ ⟨SV.vals []⟩), .v (.func (.func 136) ⟨SV.vals []⟩ ⟨SV.vals []⟩)], Ow e8 A_x_held n_x_held c_x_held x_held]) (r : (List UInt8 × Vec UInt32 8 × UInt64 × UInt64 × List UInt8 × Int)) (hm : m_node_half_uint32_out x_h x_count_Lo x_count_Hi x_held x_block node = some r) :
    Calls Tryz.prog 190 (vals [pt g_x 0, .b node]) w (fun e w' => ∃ A n c A1 n1 c1, r.1.length = n ∧ r.2.2.2.2.1.length = n1 ∧ e = .returned (SV.val (sl A n c)) ∧ Cx F O w w' [Ow e8 A n c r.1, Bx 213 g_x [.ar e32 r.2.1, .u64 r.2.2.1, .u64 r.2.2.2.1, sl A1 n1 c1, I r.2.2.2.2.2, .v (.func (.func 135) ⟨SV.vals []⟩ ⟨SV.vals []⟩), .v (.func (.func 136) ⟨SV.vals []⟩ ⟨SV.vals []⟩)], Ow e8 A1 n1 c1 r.2.2.2.2.1]) := by
 unfold m_node_half_uint32_out at hm
 obtain rfl := k.len 1 rfl
 refine calls [pt g_x 0, .b node] Tryz.func190 rfl (of_decide_eq_true (by kernel_rfl)) ?_
 refine W_seq <| W_q [] .a qe (by kernel_rfl) ?_
 refine At_go <| W_seq <| W_cutr (fun L wr => ∃ (c0 : UInt64) (c2 : UInt64) (g : Nat), m_node_half_uint32_out_j0 x_h x_count_Lo x_count_Hi x_held x_block node c0 c2 = some r ∧ L = [(0, pt g_x 0), (1, .b node), (5, pt g 0)] ∧ Cx F O w wr [Bx 213 g_x [.ar e32 x_h, .u64 x_count_Lo, .u64 x_count_Hi, sl A_x_held x_held.length c_x_held, I x_block, .v (.func (.func 135) ⟨SV.vals []⟩ ⟨SV.vals []⟩), .v (.func (.func 136) ⟨SV.vals []⟩ ⟨SV.vals []⟩)], Ow e8 A_x_held x_held.length c_x_held x_held, Bx 204 g [.u64 c0, .u64 c2]]) ?_ ?_
 ·
  have k_ := k.drew 1
  refine W_m yz_mixed (.q 0 2 (.q 1 2 (.q 2 2 (.q 3 1 (.q 4 2 (.q 5 2 (.q 6 2 (.q 7 2 (.q 8 2 (.q 9 1 (.br 10 14 (.q 11 2 (.q 12 2 (.q 13 3 (.op 14 (.op 15 (.q 16 3 .nil)))))) (.op 10 (.q 11 2 (.q 12 2 (.q 13 3 (.op 15 (.q 16 3 .nil))))))))))))))))) [10, 14, 15] k_ (.c (.kk .e) (.c (.kk .e) (.c (.kk .e) .l))) (by kernel_rfl) (fun _ => ?_)
  refine MXq 3 2 [] (.n 10 (pt g_x 8) .a) (fun x hx => qs g_x 0 <| qs g_x 0 <| qe) (by kernel_rfl) (fun _ => ?_)
  refine MXq 1 1 [] (.n 11 (.agg [.u64 x_count_Lo, .u64 x_count_Hi]) (.s .a)) (fun x hx => qT hx 0 rfl 8 2 [.u64 x_count_Lo, .u64 x_count_Hi] (by kernel_rfl) (by decide) <| qe) (by kernel_rfl) (fun _ => ?_)
  refine MXq 5 2 [] (.n 16 (I ((x_held.length : Nat) : Int)) .a) (fun x hx => qs g_x 0 <| qs g_x 0 <| qB hx 0 rfl 10 (sl A_x_held x_held.length c_x_held) (by kernel_rfl) <| qe) (by kernel_rfl) (fun _ => ?_)
  refine MXq 1 1 [] (.n 17 (.u64 (UInt64.ofInt ((x_held.length : Nat) : Int))) (.s .a)) (fun x hx => qe) (by kernel_rfl) (fun _ => ?_)
  refine MX_br (by kernel_rfl) (by kernel_rfl) rfl rfl ?_ ?_
  ·
   obtain ⟨r_, h_r_, hm⟩ := ob hm
   refine Op_call [] 18 _ yz_go187 (by kernel_rfl) (c_word_Add (F := N0) (O := N0) _ _ _ (Cx.refl _) _ h_r_) ?_
   rintro e_ w_ ⟨rfl, k_1⟩
   have k_2 := k_.call k_1
   refine ⟨.tup [.agg [.u64 r_.1, .u64 r_.2.1], .b r_.2.2], rfl, ?_⟩
   refine ⟨k_2, fun _ => ?_⟩
   refine MXq 2 2 [] (.n 7 (.tup [.agg [.u64 r_.1, .u64 r_.2.1], .b r_.2.2]) (.n 19 (.agg [.u64 r_.1, .u64 r_.2.1]) (.sss .a))) (fun x hx => qe) (by kernel_rfl) (fun _ => ?_)
   refine MXq 1 3 [] (.n 20 (.b r_.2.2) (.s .a)) (fun x hx => qe) (by kernel_rfl) (fun _ => ?_)
   refine MX_op (by kernel_rfl) rfl <| Op_alloc [] 5 [.u64 0, .u64 0] (by kernel_rfl) k_2 ?_
   intro g1 w_1 k_3
   refine ⟨(k_3.sel (.kk .z)), fun _ => ?_⟩
   refine MX_op (by kernel_rfl) rfl <| Op_b [] 2 (.agg [.u64 r_.1, .u64 r_.2.1]) [.u64 r_.1, .u64 r_.2.1] (Pt.at g1 0) k_3 rfl .all (by kernel_rfl) (by kernel_rfl) ?_
   intro w_2 k_4
   refine ⟨(k_4.sel (.kk .z)), fun _ => ?_⟩
   refine MXq 1 3 [] (.k (.ss .a)) (fun x hx => qe) (by kernel_rfl) (fun _ => ?_)
   refine MX_nil ?_
   exact At_c ⟨r_.1, r_.2.1, g1, hm, rfl, k_4⟩ (by kernel_rfl)
  ·
   refine Op_alloc [] 5 [.u64 0, .u64 0] (by kernel_rfl) k_ ?_
   intro g1 w_ k_1
   refine ⟨(k_1.sel (.kk .z)), fun _ => ?_⟩
   refine MX_op (by kernel_rfl) rfl ?_
   obtain ⟨r_, h_r_, hm⟩ := ob hm
   refine Op_call [] 18 _ yz_go187 (by kernel_rfl) (c_word_Add (F := N0) (O := N0) _ _ _ (Cx.refl _) _ h_r_) ?_
   rintro e_ w_1 ⟨rfl, k_2⟩
   have k_3 := k_1.call k_2
   refine ⟨.tup [.agg [.u64 r_.1, .u64 r_.2.1], .b r_.2.2], rfl, ?_⟩
   refine ⟨(k_3.sel (.kk .z)), fun _ => ?_⟩
   refine MXq 2 2 [] (.n 7 (.tup [.agg [.u64 r_.1, .u64 r_.2.1], .b r_.2.2]) (.n 19 (.agg [.u64 r_.1, .u64 r_.2.1]) (.s (.k (.ss .a))))) (fun x hx => qe) (by kernel_rfl) (fun _ => ?_)
   refine MXq 1 3 [] (.n 20 (.b r_.2.2) (.s .a)) (fun x hx => qe) (by kernel_rfl) (fun _ => ?_)
   refine MX_op (by kernel_rfl) rfl <| Op_b [] 2 (.agg [.u64 r_.1, .u64 r_.2.1]) [.u64 r_.1, .u64 r_.2.1] (Pt.at g1 0) k_3 rfl .all (by kernel_rfl) (by kernel_rfl) ?_
   intro w_2 k_4
   refine ⟨(k_4.sel (.kk .z)), fun _ => ?_⟩
   refine MXq 1 3 [] (.ss .a) (fun x hx => qe) (by kernel_rfl) (fun _ => ?_)
   refine MX_nil ?_
   exact At_c ⟨r_.1, r_.2.1, g1, hm, rfl, k_4⟩ (by kernel_rfl)
 rintro L_ w_3 ⟨c0, c2, g, hm, rfl, k_5⟩
 simp only [m_node_half_uint32_out_j0] at hm
 refine At_go <| W_seq ?_
 have k_6 := k_5.drew 1
 refine W_m yz_mixed (.q 21 2 (.q 22 2 (.q 0 3 (.q 1 3 (.q 2 3 (.q 3 2 (.q 4 3 (.q 5 3 (.q 6 3 (.q 7 2 (.q 8 3 (.q 9 3 (.q 10 3 (.q 11 2 (.q 12 3 (.q 13 3 (.q 14 3 (.q 15 2 (.q 16 3 (.q 17 3 (.q 18 3 (.q 19 2 (.op 20 (.op 23 (.op 24 (.q 25 3 .nil)))))))))))))))))))))))))) [20, 23, 24] k_6 (.c (.kk (.k .e)) (.c (.kk (.k .e)) (.c (.kk (.k .e)) .l))) (by kernel_rfl) (fun _ => ?_)
 refine MXq 2 2 [] (.n 42 (.agg [.u64 c0, .u64 c2]) (.n 43 (.b node) (.k .z))) (fun x hx => qT hx 2 rfl 0 2 [.u64 c0, .u64 c2] (by kernel_rfl) (by decide) <| qe) (by kernel_rfl) (fun _ => ?_)
 refine MXq 3 3 [] (.n 23 (pt g_x 13) .a) (fun x hx => qs g_x 0 <| qs g_x 0 <| qe) (by kernel_rfl) (fun _ => ?_)
 refine MXq 1 2 [] (.n 24 (.v (.func (.func 136) ⟨SV.vals []⟩ ⟨SV.vals []⟩)) (.s .a)) (fun x hx => qB hx 0 rfl 13 (.v (.func (.func 136) ⟨SV.vals []⟩ ⟨SV.vals []⟩)) (by kernel_rfl) <| qe) (by kernel_rfl) (fun _ => ?_)
 refine MXq 3 3 [] (.n 27 (pt g_x 12) .a) (fun x hx => qs g_x 0 <| qs g_x 0 <| qe) (by kernel_rfl) (fun _ => ?_)
 refine MXq 1 2 [] (.n 28 (.v (.func (.func 135) ⟨SV.vals []⟩ ⟨SV.vals []⟩)) (.s .a)) (fun x hx => qB hx 0 rfl 12 (.v (.func (.func 135) ⟨SV.vals []⟩ ⟨SV.vals []⟩)) (by kernel_rfl) <| qe) (by kernel_rfl) (fun _ => ?_)
 refine MXq 3 3 [] (.n 31 (pt g_x 0) .a) (fun x hx => qs g_x 0 <| qs g_x 0 <| qe) (by kernel_rfl) (fun _ => ?_)
 refine MXq 1 2 [] (.n 32 (.agg [.ar e32 x_h]) (.s .a)) (fun x hx => qT hx 0 rfl 0 8 [.ar e32 x_h] (by kernel_rfl) (by decide) <| qe) (by kernel_rfl) (fun _ => ?_)
 refine MXq 3 3 [] (.n 35 (pt g_x 10) .a) (fun x hx => qs g_x 0 <| qs g_x 0 <| qe) (by kernel_rfl) (fun _ => ?_)
 refine MXq 1 2 [] (.n 36 (sl A_x_held x_held.length c_x_held) (.s .a)) (fun x hx => qB hx 0 rfl 10 (sl A_x_held x_held.length c_x_held) (by kernel_rfl) <| qe) (by kernel_rfl) (fun _ => ?_)
 refine MXq 3 3 [] (.n 39 (pt g_x 11) (.kkkk (.kk .z))) (fun x hx => qs g_x 0 <| qs g_x 0 <| qe) (by kernel_rfl) (fun _ => ?_)
 refine MXq 1 2 [] (.n 40 (I x_block) (.s .a)) (fun x hx => qB hx 0 rfl 11 (I x_block) (by kernel_rfl) <| qe) (by kernel_rfl) (fun _ => ?_)
 refine MX_op (by kernel_rfl) rfl ?_
 obtain ⟨r_1, h_r_1, hm⟩ := ob hm
 refine Op_call [] 41 _ yz_go120 (by kernel_rfl) (c_node_padded (F := N0) (O := N0) _ _ _ _ _ (Ro.n0 (k_6.rd 1 rfl)) (k_6.len 1 rfl) (k_6.lec 1 rfl) (Cx.refl _) _ h_r_1) ?_
 rintro e_ w_4 ⟨A0, _, c3, rfl, rfl, k_7⟩
 have k_8 := k_6.call k_7
 refine ⟨sl A0 r_1.length c3, rfl, ?_⟩
 refine ⟨(k_8.sel (.kk (.k .z))), fun _ => ?_⟩
 refine MX_op (by kernel_rfl) rfl ?_
 obtain ⟨r_2, h_r_2, hm⟩ := ob hm
 refine Op_callv [] 44 [] [.agg [.ar e32 x_h], sl A0 r_1.length c3, .agg [.u64 c0, .u64 c2], .b true, .b node] [] yz_go135 (by kernel_rfl) (c_node_mixSmall (F := N0) (O := N0) _ _ _ _ _ _ _ _ _ (Ro.n0 (k_8.rd 3 rfl)) (k_8.len 3 rfl) (k_8.lec 3 rfl) (Cx.refl _) _ h_r_2) ?_
 rintro e_ w_5 ⟨rfl, k_9⟩
 have k_10 := k_8.call k_9
 refine ⟨.agg [.ar e32 r_2], rfl, ?_⟩
 have k_11 := k_10.sel (.kk (.k .z))
 refine ⟨k_11, fun _ => ?_⟩
 refine MX_op (by kernel_rfl) rfl ?_
 obtain ⟨r_3, h_r_3, hm⟩ := ob hm
 refine Op_callv [] 45 [] [.agg [.ar e32 r_2]] [] yz_go136 (by kernel_rfl) (c_mixs_Bytes (F := N0) (O := N0) _ (Cx.refl _) _ h_r_3) ?_
 rintro e_ w_6 ⟨A2, _, c4, rfl, rfl, k_12⟩
 have k_13 := k_11.call k_12
 refine ⟨sl A2 r_3.length c4, rfl, ?_⟩
 refine ⟨(k_13.sel (.kk (.k .z))), fun _ => ?_⟩
 refine MXq 1 3 [] (.n 4 (sl A2 r_3.length c4) .z) (fun x hx => qe) (by kernel_rfl) (fun _ => ?_)
 refine MX_nil <| At_go <| W_ret ?_
 obtain rfl := Option.some.inj hm
 refine At_rt [sl A2 r_3.length c4] qe (by kernel_rfl) ?_
 have k_14 := (((k_13.pk (.t .h)).pk (.t .h)).pk (.t (.t (.t .h)))).sel (.kk (.k .z))
 exact ⟨A2, r_3.length, c4, A_x_held, x_held.length, c_x_held, k_14.len 0 rfl, k_14.len 2 rfl, rfl, k_14⟩

-- (*quern/node.Node).Out
noncomputable def m_node_Node_Out_s1 (n_kind : Int) (n_digest : Int) (n_block : List UInt8) (n_key : List UInt8) (n_last : Bool) (n_written : UInt64) (n_e_h : Vec UInt32 8) (n_e_count_Lo : UInt64) (n_e_count_Hi : UInt64) (n_e_held : List UInt8) (n_e_block : Int) (most : Int) : Option (List UInt8 × Int × Vec UInt32 8 × UInt64 × UInt64 × List UInt8 × Int × Int × Int × List UInt8 × List UInt8 × Bool × UInt64) :=
  (m_node_Node_none_s1 n_kind n_digest n_block n_key n_last n_written n_e_h n_e_count_Lo n_e_count_Hi n_e_held n_e_block).bind fun r_ => if most < 1 then (some (([] : List UInt8), (1 : Int), r_.1, r_.2.1, r_.2.2.1, r_.2.2.2.1, r_.2.2.2.2.1, r_.2.2.2.2.2.1, r_.2.2.2.2.2.2.1, r_.2.2.2.2.2.2.2.1, r_.2.2.2.2.2.2.2.2.1, r_.2.2.2.2.2.2.2.2.2.1, r_.2.2.2.2.2.2.2.2.2.2)) else ((m_node_blockOf r_.2.2.2.2.2.1).bind fun r_1 => if (w64 (Int.tdiv r_1 2)) < most then (some (([] : List UInt8), (1 : Int), r_.1, r_.2.1, r_.2.2.1, r_.2.2.2.1, r_.2.2.2.2.1, r_.2.2.2.2.2.1, r_.2.2.2.2.2.2.1, r_.2.2.2.2.2.2.2.1, r_.2.2.2.2.2.2.2.2.1, r_.2.2.2.2.2.2.2.2.2.1, r_.2.2.2.2.2.2.2.2.2.2)) else ((m_node_half_uint32_out r_.1 r_.2.1 r_.2.2.1 r_.2.2.2.1 r_.2.2.2.2.1 r_.2.2.2.2.2.2.2.2.2.1).bind fun r_2 => (slc r_2.1 0 most).bind fun b => (need (most ≤ most ∧ most ≤ ((r_2.1.length : Nat) : Int))).bind fun u => some (b, (0 : Int), r_2.2.1, r_2.2.2.1, r_2.2.2.2.1, r_2.2.2.2.2.1, r_2.2.2.2.2.2, r_.2.2.2.2.2.1, r_.2.2.2.2.2.2.1, r_.2.2.2.2.2.2.2.1, r_.2.2.2.2.2.2.2.2.1, r_.2.2.2.2.2.2.2.2.2.1, r_.2.2.2.2.2.2.2.2.2.2)))
theorem c_node_Node_Out_s1 {F O : Nat → Prop} {w : World} (n_kind : Int) (n_digest : Int) (n_block : List UInt8) (n_key : List UInt8) (n_last : Bool) (n_written : UInt64) (n_e_h : Vec UInt32 8) (n_e_count_Lo : UInt64) (n_e_count_Hi : UInt64) (n_e_held : List UInt8) (n_e_block : Int) (most : Int) (g_n : Nat) (A_n_block : Option Addr) (n_n_block : Nat) (c_n_block : Nat) (A_n_key : Option Addr) (n_n_key : Nat) (c_n_key : Nat) (g_n_e : Nat) (A_n_e_held : Option Addr) (n_n_e_held : Nat) (c_n_e_held : Nat) (k : Cx F O w w [Bx 125 g_n [I n_kind, I n_digest, sl A_n_block n_n_block c_n_block, sl A_n_key n_n_key c_n_key, .b n_last, .u64 n_written, .v (.iface 209 (SV.val (pt g_n_e 0)))], Ow e8 A_n_block n_n_block c_n_block n_block, Ow e8 A_n_key n_n_key c_n_key n_key, Bx 213 g_n_e [.ar e32 n_e_h, .u64 n_e_count_Lo, .u64 n_e_count_Hi, sl A_n_e_held n_n_e_held c_n_e_held, I n_e_block, .v (.func (.func 135) ⟨SV.vals []⟩ ⟨SV.vals []⟩), .v (.func (.func 136) ⟨SV.vals []⟩ ⟨SV.vals []⟩)], Ow e8 A_n_e_held n_n_e_held c_n_e_held n_e_held]) (r : (List UInt8 × Int × Vec UInt32 8 × UInt64 × UInt64 × List UInt8 × Int × Int × Int × List UInt8 × List UInt8 × Bool × UInt64)) (hm : m_node_Node_Out_s1 n_kind n_digest n_block n_key n_last n_written n_e_h n_e_count_Lo n_e_count_Hi n_e_held n_e_block most = some r) :
    Calls Tryz.prog 70 (vals [pt g_n 0, I most]) w (fun e w' => ∃ A n c A1 n1 c1 A2 n2 c2 A3 n3 c3, r.1.length = n ∧ r.2.2.2.2.2.1.length = n1 ∧ r.2.2.2.2.2.2.2.2.2.1.length = n2 ∧ r.2.2.2.2.2.2.2.2.2.2.1.length = n3 ∧ e = .returned (SV.val (.tup [sl A n c, I r.2.1])) ∧ Cx F O w w' [Ow e8 A n c r.1, Bx 213 g_n_e [.ar e32 r.2.2.1, .u64 r.2.2.2.1, .u64 r.2.2.2.2.1, sl A1 n1 c1, I r.2.2.2.2.2.2.1, .v (.func (.func 135) ⟨SV.vals []⟩ ⟨SV.vals []⟩), .v (.func (.func 136) ⟨SV.vals []⟩ ⟨SV.vals []⟩)], Ow e8 A1 n1 c1 r.2.2.2.2.2.1, Bx 125 g_n [I r.2.2.2.2.2.2.2.1, I r.2.2.2.2.2.2.2.2.1, sl A2 n2 c2, sl A3 n3 c3, .b r.2.2.2.2.2.2.2.2.2.2.2.1, .u64 r.2.2.2.2.2.2.2.2.2.2.2.2, .v (.iface 209 (SV.val (pt g_n_e 0)))], Ow e8 A2 n2 c2 r.2.2.2.2.2.2.2.2.2.1, Ow e8 A3 n3 c3 r.2.2.2.2.2.2.2.2.2.2.1]) := by
 unfold m_node_Node_Out_s1 at hm
 obtain rfl := k.len 1 rfl
 obtain rfl := k.len 2 rfl
 obtain rfl := k.len 4 rfl
 refine calls [pt g_n 0, I most] Tryz.func70 rfl (of_decide_eq_true (by kernel_rfl)) ?_
 refine W_seq <| W_q [] .a qe (by kernel_rfl) ?_
 refine At_go <| W_seq <| W_seq <| W_reg <| WLs 1 [] (.n 6 (pt g_n 0) .a) qe (by kernel_rfl) ?_
 refine WL_op ?_
 obtain ⟨r_, h_r_, hm⟩ := ob hm
 obtain ⟨F1, O1, kin, hO, hre, hF, hb⟩ := k.go (.i (.i (.i (.i (.i .e)))))
 refine Op_call [] 7 _ yz_go91 (by kernel_rfl) (c_node_Node_none_s1 (F := F1) (O := O1) _ _ _ _ _ _ _ _ _ _ _ _ _ _ _ _ _ _ _ _ _ _ kin _ h_r_) ?_
 rintro e_ w_ ⟨A0, _, c0, A4, _, c4, A5, _, c5, rfl, rfl, rfl, rfl, k_⟩
 have k_1 := hb w_ _ _ k_ (.c (.c (.c (.c (.c .n)))))
 refine ⟨.b false, rfl, ?_⟩
 refine WL_nil <| At_go <| W_cond false (by kernel_rfl) (fun h => by cases h) (fun _ => ?_)
 refine W_skip <| At_go <| W_seq <| W_seq <| W_reg <| WLs 3 [] (.n 10 (.b (decide (most < 1))) (.ss .a)) qe (by kernel_rfl) ?_
 refine WL_sp 10 (decide (most < 1)) (.s .a) (by kernel_rfl) (fun hg => ?_) (fun hg => ?_)
 · rw [if_pos (of_decide_eq_true hg)] at hm
   refine WLs 9 [10] (.n 19 (.b true) (.s .a)) qe (by kernel_rfl) ?_
   refine WL_nil <| At_go <| W_cond true (by kernel_rfl) (fun _ => ?_) (fun h => by cases h)
   refine W_seq <| W_q [] (.n 4 (sl none 0 0) (.n 5 (I 1) .z)) qe (by kernel_rfl) ?_
   refine At_go <| W_ret (At_tr ?_)
   have k_2 := k_1.nil e8
   obtain rfl := Option.some.inj hm
   refine At_rt [sl none 0 0, I 1] qe (by kernel_rfl) ?_
   have k_3 := (((((k_2.pk (.t (.t (.t (.t .h))))).pk (.t (.t (.t (.t .h))))).pk (.t (.t (.t (.t .h))))).pk (.t (.t (.t (.t .h))))).pk (.t (.t (.t (.t .h))))).pk (.t (.t (.t (.t (.t .h)))))
   exact ⟨none, 0, 0, A0, r_.2.2.2.1.length, c0, A4, r_.2.2.2.2.2.2.2.1.length, c4, A5, r_.2.2.2.2.2.2.2.2.1.length, c5, k_3.len 0 rfl, k_3.len 2 rfl, k_3.len 4 rfl, k_3.len 5 rfl, rfl, k_3⟩
 · rw [if_neg (of_decide_eq_false hg)] at hm
   refine WLs 5 [10] (.n 11 (I most) (.n 15 (I r_.2.2.2.2.2.1) .a)) (qs g_n 0 <| qs g_n 0 <| qB k_1 2 rfl 0 (I r_.2.2.2.2.2.1) (by kernel_rfl) <| qe) (by kernel_rfl) ?_
   refine WL_op ?_
   obtain ⟨r_1, h_r_1, hm⟩ := ob hm
   refine Op_call [10] 16 _ yz_go92 (by kernel_rfl) (c_node_blockOf (F := N0) (O := N0) _ (Cx.refl _) _ h_r_1) ?_
   rintro e_ w_1 ⟨rfl, k_4⟩
   have k_5 := k_1.call k_4
   refine ⟨I r_1, rfl, ?_⟩
   refine WLs 3 [10] (.n 19 (.b (decide ((w64 (Int.tdiv r_1 2)) < most))) (.ssss .a)) (qp ((2 : Int) ≠ (0 : Int)) (by omega) <| qe) (by kernel_rfl) ?_
   refine WL_nil <| At_go <| W_condp ((w64 (Int.tdiv r_1 2)) < most) (by kernel_rfl) (fun hc => ?_) (fun hc => ?_)
   · rw [if_pos hc] at hm
     refine W_seq <| W_q [] (.n 4 (sl none 0 0) (.n 5 (I 1) .z)) qe (by kernel_rfl) ?_
     refine At_go <| W_ret (At_tr ?_)
     have k_6 := k_5.nil e8
     obtain rfl := Option.some.inj hm
     refine At_rt [sl none 0 0, I 1] qe (by kernel_rfl) ?_
     have k_7 := (((((k_6.pk (.t (.t (.t (.t .h))))).pk (.t (.t (.t (.t .h))))).pk (.t (.t (.t (.t .h))))).pk (.t (.t (.t (.t .h))))).pk (.t (.t (.t (.t .h))))).pk (.t (.t (.t (.t (.t .h)))))
     exact ⟨none, 0, 0, A0, r_.2.2.2.1.length, c0, A4, r_.2.2.2.2.2.2.2.1.length, c4, A5, r_.2.2.2.2.2.2.2.2.1.length, c5, k_7.len 0 rfl, k_7.len 2 rfl, k_7.len 4 rfl, k_7.len 5 rfl, rfl, k_7⟩
   rw [if_neg hc] at hm
   refine W_skip <| At_go <| W_seq ?_
   have k_8 := k_5.drew 1
   refine W_m yz_mixed (.q 0 1 (.q 1 1 (.q 2 1 (.q 3 1 (.q 4 1 (.q 5 1 (.q 6 1 (.q 7 0 (.q 8 1 (.q 9 0 (.q 11 1 (.q 12 1 (.op 10 (.q 13 1 (.q 14 1 (.q 15 1 .nil)))))))))))))))) [10] k_8 (.c (.ss (.kk (.k .e))) .l) (by kernel_rfl) (fun _ => ?_)
   refine MXq 7 1 [] (.n 23 (.v (.iface 209 (SV.val (pt g_n_e 0)))) (.n 26 (pt g_n 4) (.ss .a))) (fun x hx => qs g_n 0 <| qs g_n 0 <| qB hx 0 rfl 6 (.v (.iface 209 (SV.val (pt g_n_e 0)))) (by kernel_rfl) <| qs g_n 0 <| qs g_n 0 <| qe) (by kernel_rfl) (fun _ => ?_)
   refine MXq 1 0 [] (.n 27 (.b r_.2.2.2.2.2.2.2.2.2.1) (.k (.s .a))) (fun x hx => qB hx 2 rfl 4 (.b r_.2.2.2.2.2.2.2.2.2.1) (by kernel_rfl) <| qe) (by kernel_rfl) (fun _ => ?_)
   refine MXq 1 1 [] .a (fun x hx => qe) (by kernel_rfl) (fun _ => ?_)
   refine MXq 1 0 [] (.n 29 (.v (.iface 209 (SV.val (pt g_n_e 0)))) (.k (.s .a))) (fun x hx => qe) (by kernel_rfl) (fun _ => ?_)
   refine MXq 2 1 [] (.n 31 (I most) (.n 32 (I most) (.kk .z))) (fun x hx => qe) (by kernel_rfl) (fun _ => ?_)
   refine MX_op (by kernel_rfl) rfl ?_
   obtain ⟨r_2, h_r_2, hm⟩ := ob hm
   obtain ⟨F11, O11, kin1, hO1, hre1, hF1, hb1⟩ := k_8.go (.i (.i (.r (.r (.r .e)))))
   refine Op_invoke [] 30 209 (pt g_n_e 0) [.b r_.2.2.2.2.2.2.2.2.2.1] yz_inv209_node_out rfl (by kernel_rfl) (c_node_half_uint32_out (F := F11) (O := O11) _ _ _ _ _ _ _ _ _ _ kin1 _ h_r_2) ?_
   rintro e_ w_2 ⟨A6, _, c6, A7, _, c7, rfl, rfl, rfl, k_9⟩
   have k_10 := hb1 w_2 _ _ k_9 (.c (.c (.c .n)))
   refine ⟨sl A6 r_2.1.length c6, rfl, ?_⟩
   refine ⟨(k_10.sel (.ss (.s (.kk (.k .e))))), fun _ => ?_⟩
   obtain ⟨b, h_b, hm⟩ := ob hm
   have hs := slc_some h_b
   have hl := slc_len h_b
   have hn : r_2.1.length = r_2.1.length := (k_10.len 0 rfl)
   have hc1 : r_2.1.length ≤ c6 := (k_10.lec 0 rfl)
   obtain ⟨u, h_u, hm⟩ := ob hm
   have hq := need_some h_u
   have hc2 : b.length ≤ Int.toNat most := by omega
   refine MXq 3 1 [] (.n 4 (sl A6 b.length (Int.toNat most)) (.n 5 (I 0) .z)) (fun x hx => qp (0 ≤ most ∧ most ≤ ((c6 : Nat) : Int)) (by omega) <| qp (0 ≤ most ∧ most ≤ ((Int.toNat most : Nat) : Int)) (by omega) <| qo (.v (.slice A6 b.length (Int.toNat most))) <| qp (Value.slice (slA A6 0 (Int.toNat most) 1) (Int.toNat most - 0) (Int.toNat most - 0) = .slice A6 b.length (Int.toNat most)) (slx0 _ _ _ _ _ (by omega)) <| qe) (by kernel_rfl) (fun _ => ?_)
   refine MX_nil <| At_go <| W_ret ?_
   have k_11 := k_10.pre 0 rfl b.length (Int.toNat most) b (by omega) (by omega) (by omega) (slc_pre h_b rfl)
   obtain rfl := Option.some.inj hm
   refine At_rt [sl A6 b.length (Int.toNat most), I 0] qe (by kernel_rfl) ?_
   exact ⟨A6, b.length, Int.toNat most, A7, r_2.2.2.2.2.1.length, c7, A4, r_.2.2.2.2.2.2.2.1.length, c4, A5, r_.2.2.2.2.2.2.2.2.1.length, c5, k_11.len 0 rfl, k_11.len 2 rfl, k_11.len 4 rfl, k_11.len 5 rfl, rfl, k_11⟩

-- quern/node.Hash
noncomputable def m_node_Hash (k_ : Int) (p_Digest : Int) (p_Key : Int) (p_Fanout : Int) (p_Depth : Int) (p_Leaf : UInt32) (p_Offset : UInt64) (p_Xof : UInt32) (p_NodeDepth : Int) (p_Inner : Int) (p_Salt : List UInt8) (p_Personal : List UInt8) (key : List UInt8) (last : Bool) (out : Int) (data : List UInt8) : Option (List UInt8 × Int) :=
  (m_node_New k_ p_Digest p_Key p_Fanout p_Depth p_Leaf p_Offset p_Xof p_NodeDepth p_Inner p_Salt p_Personal key).bind fun r_ => (Sum.elim (fun r_1 => if r_1 ≠ 0 then (some (([] : List UInt8), r_1)) else none) (Sum.elim (fun r_2 => if 0 ≠ 0 then (some (([] : List UInt8), (0 : Int))) else ((m_node_half_uint64_write r_2.2.2.2.2.1 r_2.2.2.2.2.2.1 r_2.2.2.2.2.2.2.1 r_2.2.2.2.2.2.2.2.1 r_2.2.2.2.2.2.2.2.2 data).bind fun r_4 => (m_node_Node_Out r_2.1 r_2.2.1 r_2.2.2.1 r_2.2.2.2.1 last (0 : UInt64) r_4.1 r_4.2.1 r_4.2.2.1 r_4.2.2.2.1 r_4.2.2.2.2 out).bind fun r_5 => some (r_5.1, r_5.2.1))) (fun r_3 => if 0 ≠ 0 then (some (([] : List UInt8), (0 : Int))) else ((m_node_half_uint32_write r_3.2.2.2.2.1 r_3.2.2.2.2.2.1 r_3.2.2.2.2.2.2.1 r_3.2.2.2.2.2.2.2.1 r_3.2.2.2.2.2.2.2.2 data).bind fun r_6 => (m_node_Node_Out_s1 r_3.1 r_3.2.1 r_3.2.2.1 r_3.2.2.2.1 last (0 : UInt64) r_6.1 r_6.2.1 r_6.2.2.1 r_6.2.2.2.1 r_6.2.2.2.2 out).bind fun r_7 => some (r_7.1, r_7.2.1))))) r_
theorem c_node_Hash {F O : Nat → Prop} {w : World} (k_ : Int) (p_Digest : Int) (p_Key : Int) (p_Fanout : Int) (p_Depth : Int) (p_Leaf : UInt32) (p_Offset : UInt64) (p_Xof : UInt32) (p_NodeDepth : Int) (p_Inner : Int) (p_Salt : List UInt8) (p_Personal : List UInt8) (key : List UInt8) (last : Bool) (out : Int) (data : List UInt8) (A_p_Salt : Option Addr) (n_p_Salt : Nat) (c_p_Salt : Nat) (A_p_Personal : Option Addr) (n_p_Personal : Nat) (c_p_Personal : Nat) (A_key : Option Addr) (n_key : Nat) (c_key : Nat) (A_data : Option Addr) (n_data : Nat) (c_data : Nat) (h_p_Salt : Ro F w A_p_Salt (e8.all p_Salt)) (hn_p_Salt : p_Salt.length = n_p_Salt) (hc_p_Salt : n_p_Salt ≤ c_p_Salt) (h_p_Personal : Ro F w A_p_Personal (e8.all p_Personal)) (hn_p_Personal : p_Personal.length = n_p_Personal) (hc_p_Personal : n_p_Personal ≤ c_p_Personal) (h_key : Ro F w A_key (e8.all key)) (hn_key : key.length = n_key) (hc_key : n_key ≤ c_key) (h_data : Ro F w A_data (e8.all data)) (hn_data : data.length = n_data) (hc_data : n_data ≤ c_data) (k : Cx F O w w []) (r : (List UInt8 × Int)) (hm : m_node_Hash k_ p_Digest p_Key p_Fanout p_Depth p_Leaf p_Offset p_Xof p_NodeDepth p_Inner p_Salt p_Personal key last out data = some r) :
    Calls Tryz.prog 58 (vals [I k_, .agg [I p_Digest, I p_Key, I p_Fanout, I p_Depth, .u32 p_Leaf, .u64 p_Offset, .u32 p_Xof, I p_NodeDepth, I p_Inner, sl A_p_Salt n_p_Salt c_p_Salt, sl A_p_Personal n_p_Personal c_p_Personal], sl A_key n_key c_key, .b last, I out, sl A_data n_data c_data]) w (fun e w' => ∃ A n c, r.1.length = n ∧ e = .returned (SV.val (.tup [sl A n c, I r.2])) ∧ Cx F O w w' [Ow e8 A n c r.1]) := by
 unfold m_node_Hash at hm
 subst hn_p_Salt
 subst hn_p_Personal
 subst hn_key
 subst hn_data
 refine calls [I k_, .agg [I p_Digest, I p_Key, I p_Fanout, I p_Depth, .u32 p_Leaf, .u64 p_Offset, .u32 p_Xof, I p_NodeDepth, I p_Inner, sl A_p_Salt p_Salt.length c_p_Salt, sl A_p_Personal p_Personal.length c_p_Personal], sl A_key key.length c_key, .b last, I out, sl A_data data.length c_data] Tryz.func58 rfl (of_decide_eq_true (by kernel_rfl)) ?_
 refine W_seq <| W_reg <| WL_op <| Op_box [] 7 (.agg [I p_Digest, I p_Key, I p_Fanout, I p_Depth, .u32 p_Leaf, .u64 p_Offset, .u32 p_Xof, I p_NodeDepth, I p_Inner, sl A_p_Salt p_Salt.length c_p_Salt, sl A_p_Personal p_Personal.length c_p_Personal]) [I p_Digest, I p_Key, I p_Fanout, I p_Depth, .u32 p_Leaf, .u64 p_Offset, .u32 p_Xof, I p_NodeDepth, I p_Inner, sl A_p_Salt p_Salt.length c_p_Salt, sl A_p_Personal p_Personal.length c_p_Personal] (by kernel_rfl) k ?_
 intro g w_ k_1
 refine WLs 2 [] (.kk (.s .a)) qe (by kernel_rfl) ?_
 refine WL_nil <| At_go <| W_seq <| W_reg <| WLs 3 [] (.n 17 (I k_) (.n 18 (.agg [I p_Digest, I p_Key, I p_Fanout, I p_Depth, .u32 p_Leaf, .u64 p_Offset, .u32 p_Xof, I p_NodeDepth, I p_Inner, sl A_p_Salt p_Salt.length c_p_Salt, sl A_p_Personal p_Personal.length c_p_Personal]) (.n 19 (sl A_key key.length c_key) (.sss .a)))) (qT k_1 0 rfl 0 11 [I p_Digest, I p_Key, I p_Fanout, I p_Depth, .u32 p_Leaf, .u64 p_Offset, .u32 p_Xof, I p_NodeDepth, I p_Inner, sl A_p_Salt p_Salt.length c_p_Salt, sl A_p_Personal p_Personal.length c_p_Personal] (by kernel_rfl) (by decide) <| qe) (by kernel_rfl) ?_
 refine WL_op ?_
 obtain ⟨r_, h_r_, hm⟩ := ob hm
 refine Op_call [] 20 _ yz_go69 (by kernel_rfl) (c_node_New (F := N0) (O := N0) _ _ _ _ _ _ _ _ _ _ _ _ _ _ _ _ _ _ _ _ _ _ (Ro.n0 (h_p_Salt.cx k_1)) rfl hc_p_Salt (Ro.n0 (h_p_Personal.cx k_1)) rfl hc_p_Personal (Ro.n0 (h_key.cx k_1)) rfl hc_key (Cx.refl _) _ h_r_) ?_
 rcases r_ with r_1 | r_2 | r_3
 · simp only [Sum.elim_inl, Sum.elim_inr] at hm
   rintro e_ w_1 ⟨rfl, k_2⟩
   have k_3 := k_1.call k_2
   refine ⟨.tup [.v (.pointer none), I r_1], rfl, ?_⟩
   have k_4 := k_3.sel .z
   refine WLs 5 [] (.n 14 (.v (.pointer none)) (.n 15 (I r_1) (.ssss .a))) qe (by kernel_rfl) ?_
   refine WL_nil <| At_go <| W_seq <| W_seq <| W_q [] (.n 24 (.b (decide (r_1 ≠ 0))) .a) qe (by kernel_rfl) ?_
   refine At_go <| W_condp (r_1 ≠ 0) (by kernel_rfl) (fun hc => ?_) (fun hc => ?_)
   · rw [if_pos hc] at hm
     refine W_seq <| W_q [] (.n 12 (sl none 0 0) (.n 13 (I r_1) .z)) qe (by kernel_rfl) ?_
     refine At_go <| W_ret (At_tr ?_)
     have k_5 := k_4.nil e8
     obtain rfl := Option.some.inj hm
     refine At_rt [sl none 0 0, I r_1] qe (by kernel_rfl) ?_
     exact ⟨none, 0, 0, k_5.len 0 rfl, rfl, k_5⟩
   rw [if_neg hc] at hm
   cases hm
 · simp only [Sum.elim_inl, Sum.elim_inr] at hm
   rintro e_ w_2 ⟨g1, A0, _, c0, A1, _, c1, g2, A2, _, c2, rfl, rfl, rfl, rfl, k_6⟩
   have k_7 := k_1.call k_6
   refine ⟨.tup [pt g1 0, I 0], rfl, ?_⟩
   have k_8 := k_7.sel (.s (.kkkk (.k .e)))
   refine WLs 5 [] (.n 14 (pt g1 0) (.n 15 (I 0) (.ssss .a))) qe (by kernel_rfl) ?_
   refine WL_nil <| At_go <| W_seq <| W_seq <| W_q [] (.n 24 (.b (decide (0 ≠ 0))) .a) qe (by kernel_rfl) ?_
   refine At_go <| W_condp (0 ≠ 0) (by kernel_rfl) (fun hc0 => ?_) (fun hc0 => ?_)
   · rw [if_pos hc0] at hm
     refine W_seq <| W_q [] (.n 12 (sl none 0 0) (.n 13 (I 0) .z)) qe (by kernel_rfl) ?_
     refine At_go <| W_ret (At_tr ?_)
     have k_9 := k_8.nil e8
     obtain rfl := Option.some.inj hm
     refine At_rt [sl none 0 0, I 0] qe (by kernel_rfl) ?_
     have k_10 := k_9.sel (.ssss (.s (.k .e)))
     exact ⟨none, 0, 0, k_10.len 0 rfl, rfl, k_10⟩
   rw [if_neg hc0] at hm
   refine W_skip <| At_go <| W_seq <| W_reg <| WLs 4 [] (.n 27 (.b last) (.n 29 (pt g1 4) (.s (.k (.ss .a))))) (qs g1 0 <| qs g1 0 <| qe) (by kernel_rfl) ?_
   refine WL_op <| Op_b [] 0 (.b last) [.b last] (Pt.at g1 4) k_8 rfl (.kkkk .h) (by kernel_rfl) (by kernel_rfl) ?_
   intro w_3 k_11
   refine WL_nil <| At_go <| W_seq <| W_reg <| WLs 5 [] (.n 33 (.v (.iface 200 (SV.val (pt g2 0)))) (.n 34 (sl A_data data.length c_data) (.ss (.kk .z)))) (qs g1 0 <| qs g1 0 <| qB k_11 0 rfl 6 (.v (.iface 200 (SV.val (pt g2 0)))) (by kernel_rfl) <| qe) (by kernel_rfl) ?_
   refine WL_op ?_
   obtain ⟨r_4, h_r_4, hm⟩ := ob hm
   obtain ⟨F1, O1, kin, hO, hre, hF, hb⟩ := k_11.go (.r (.r (.r (.i (.i .e)))))
   refine Op_invoke [] 35 200 (pt g2 0) [sl A_data data.length c_data] yz_inv200_node_write rfl (by kernel_rfl) (c_node_half_uint64_write (F := F1) (O := O1) _ _ _ _ _ _ _ _ _ _ _ _ _ (Ro.of_old h_data k_11 hF) rfl hc_data kin _ h_r_4) ?_
   rintro e_ w_4 ⟨A3, _, c3, rfl, rfl, k_12⟩
   have k_13 := hb w_4 _ _ k_12 (.c (.c .n))
   refine ⟨.tup [], rfl, ?_⟩
   refine WL_nil <| At_go <| W_seq <| W_reg <| WLs 2 [] (.n 36 (pt g1 0) (.n 37 (I out) .z)) qe (by kernel_rfl) ?_
   refine WL_op ?_
   have k_14 := k_13.sel (.kkkk (.k .e))
   obtain ⟨r_5, h_r_5, hm⟩ := ob hm
   have k_15 := ((((k_14.pk (.t .h)).pk (.t .h)).pk (.t (.t (.t (.t .h))))).pk (.t (.t (.t (.t .h))))).pk (.t (.t (.t (.t .h))))
   obtain ⟨F11, O11, kin1, hO1, hre1, hF1, hb1⟩ := k_15.go (.i (.i (.i (.i (.i .e)))))
   refine Op_call [] 38 _ yz_go70 (by kernel_rfl) (c_node_Node_Out (F := F11) (O := O11) _ _ _ _ _ _ _ _ _ _ _ _ _ _ _ _ _ _ _ _ _ _ _ kin1 _ h_r_5) ?_
   rintro e_ w_5 ⟨A4, _, c4, A5, _, c5, A6, _, c6, A7, _, c7, rfl, rfl, rfl, rfl, rfl, k_16⟩
   have k_17 := hb1 w_5 _ _ k_16 (.c (.c (.c (.c (.c (.c .n))))))
   refine ⟨.tup [sl A4 r_5.1.length c4, I r_5.2.1], rfl, ?_⟩
   have k_18 := k_17.sel (.k .z)
   refine WLs 4 [] (.n 12 (sl A4 r_5.1.length c4) (.n 13 (I r_5.2.1) .z)) qe (by kernel_rfl) ?_
   refine WL_nil <| At_go <| W_ret ?_
   obtain rfl := Option.some.inj hm
   refine At_rt [sl A4 r_5.1.length c4, I r_5.2.1] qe (by kernel_rfl) ?_
   exact ⟨A4, r_5.1.length, c4, k_18.len 0 rfl, rfl, k_18⟩
 · simp only [Sum.elim_inl, Sum.elim_inr] at hm
   rintro e_ w_6 ⟨g3, A8, _, c8, A9, _, c9, g4, A10, _, c10, rfl, rfl, rfl, rfl, k_19⟩
   have k_20 := k_1.call k_19
   refine ⟨.tup [pt g3 0, I 0], rfl, ?_⟩
   have k_21 := k_20.sel (.s (.kkkk (.k .e)))
   refine WLs 5 [] (.n 14 (pt g3 0) (.n 15 (I 0) (.ssss .a))) qe (by kernel_rfl) ?_
   refine WL_nil <| At_go <| W_seq <| W_seq <| W_q [] (.n 24 (.b (decide (0 ≠ 0))) .a) qe (by kernel_rfl) ?_
   refine At_go <| W_condp (0 ≠ 0) (by kernel_rfl) (fun hc1 => ?_) (fun hc1 => ?_)
   · rw [if_pos hc1] at hm
     refine W_seq <| W_q [] (.n 12 (sl none 0 0) (.n 13 (I 0) .z)) qe (by kernel_rfl) ?_
     refine At_go <| W_ret (At_tr ?_)
     have k_22 := k_21.nil e8
     obtain rfl := Option.some.inj hm
     refine At_rt [sl none 0 0, I 0] qe (by kernel_rfl) ?_
     have k_23 := k_22.sel (.ssss (.s (.k .e)))
     exact ⟨none, 0, 0, k_23.len 0 rfl, rfl, k_23⟩
   rw [if_neg hc1] at hm
   refine W_skip <| At_go <| W_seq <| W_reg <| WLs 4 [] (.n 27 (.b last) (.n 29 (pt g3 4) (.s (.k (.ss .a))))) (qs g3 0 <| qs g3 0 <| qe) (by kernel_rfl) ?_
   refine WL_op <| Op_b [] 0 (.b last) [.b last] (Pt.at g3 4) k_21 rfl (.kkkk .h) (by kernel_rfl) (by kernel_rfl) ?_
   intro w_7 k_24
   refine WL_nil <| At_go <| W_seq <| W_reg <| WLs 5 [] (.n 33 (.v (.iface 209 (SV.val (pt g4 0)))) (.n 34 (sl A_data data.length c_data) (.ss (.kk .z)))) (qs g3 0 <| qs g3 0 <| qB k_24 0 rfl 6 (.v (.iface 209 (SV.val (pt g4 0)))) (by kernel_rfl) <| qe) (by kernel_rfl) ?_
   refine WL_op ?_
   obtain ⟨r_6, h_r_6, hm⟩ := ob hm
   obtain ⟨F10, O10, kin0, hO0, hre0, hF0, hb0⟩ := k_24.go (.r (.r (.r (.i (.i .e)))))
   refine Op_invoke [] 35 209 (pt g4 0) [sl A_data data.length c_data] yz_inv209_node_write rfl (by kernel_rfl) (c_node_half_uint32_write (F := F10) (O := O10) _ _ _ _ _ _ _ _ _ _ _ _ _ (Ro.of_old h_data k_24 hF0) rfl hc_data kin0 _ h_r_6) ?_
   rintro e_ w_8 ⟨A11, _, c11, rfl, rfl, k_25⟩
   have k_26 := hb0 w_8 _ _ k_25 (.c (.c .n))
   refine ⟨.tup [], rfl, ?_⟩
   refine WL_nil <| At_go <| W_seq <| W_reg <| WLs 2 [] (.n 36 (pt g3 0) (.n 37 (I out) .z)) qe (by kernel_rfl) ?_
   refine WL_op ?_
   have k_27 := k_26.sel (.kkkk (.k .e))
   obtain ⟨r_7, h_r_7, hm⟩ := ob hm
   have k_28 := ((((k_27.pk (.t .h)).pk (.t .h)).pk (.t (.t (.t (.t .h))))).pk (.t (.t (.t (.t .h))))).pk (.t (.t (.t (.t .h))))
   obtain ⟨F12, O12, kin2, hO2, hre2, hF2, hb2⟩ := k_28.go (.i (.i (.i (.i (.i .e)))))
   refine Op_call [] 38 _ yz_go70 (by kernel_rfl) (c_node_Node_Out_s1 (F := F12) (O := O12) _ _ _ _ _ _ _ _ _ _ _ _ _ _ _ _ _ _ _ _ _ _ _ kin2 _ h_r_7) ?_
   rintro e_ w_9 ⟨A12, _, c12, A13, _, c13, A14, _, c14, A15, _, c15, rfl, rfl, rfl, rfl, rfl, k_29⟩
   have k_30 := hb2 w_9 _ _ k_29 (.c (.c (.c (.c (.c (.c .n))))))
   refine ⟨.tup [sl A12 r_7.1.length c12, I r_7.2.1], rfl, ?_⟩
   have k_31 := k_30.sel (.k .z)
   refine WLs 4 [] (.n 12 (sl A12 r_7.1.length c12) (.n 13 (I r_7.2.1) .z)) qe (by kernel_rfl) ?_
   refine WL_nil <| At_go <| W_ret ?_
   obtain rfl := Option.some.inj hm
   refine At_rt [sl A12 r_7.1.length c12, I r_7.2.1] qe (by kernel_rfl) ?_
   exact ⟨A12, r_7.1.length, c12, k_31.len 0 rfl, rfl, k_31⟩

-- quern/mac.digest
noncomputable def m_mac_digest (k_ : Int) (n : Int) (key : List UInt8) (salt : List UInt8) (personal : List UInt8) (data : List UInt8) : Option (List UInt8 × Int) :=
  (m_param_Size k_).bind fun r_ => if r_.2 ≠ 0 then (some (([] : List UInt8), (1 : Int))) else ((m_param_Check k_ n ((key.length : Nat) : Int) (1 : Int) (1 : Int) (0 : UInt32) (0 : UInt64) (0 : UInt32) (0 : Int) (0 : Int) salt personal).bind fun r_1 => if r_1 ≠ 0 then (some (([] : List UInt8), r_1)) else ((m_node_Hash k_ n ((key.length : Nat) : Int) (1 : Int) (1 : Int) (0 : UInt32) (0 : UInt64) (0 : UInt32) (0 : Int) (0 : Int) salt personal key false n data).bind fun r_2 => some (r_2.1, r_2.2)))
theorem c_mac_digest {F O : Nat → Prop} {w : World} (k_ : Int) (n : Int) (key : List UInt8) (salt : List UInt8) (personal : List UInt8) (data : List UInt8) (A_key : Option Addr) (n_key : Nat) (c_key : Nat) (A_salt : Option Addr) (n_salt : Nat) (c_salt : Nat) (A_personal : Option Addr) (n_personal : Nat) (c_personal : Nat) (A_data : Option Addr) (n_data : Nat) (c_data : Nat) (h_key : Ro F w A_key (e8.all key)) (hn_key : key.length = n_key) (hc_key : n_key ≤ c_key) (h_salt : Ro F w A_salt (e8.all salt)) (hn_salt : salt.length = n_salt) (hc_salt : n_salt ≤ c_salt) (h_personal : Ro F w A_personal (e8.all personal)) (hn_personal : personal.length = n_personal) (hc_personal : n_personal ≤ c_personal) (h_data : Ro F w A_data (e8.all data)) (hn_data : data.length = n_data) (hc_data : n_data ≤ c_data) (k : Cx F O w w []) (r : (List UInt8 × Int)) (hm : m_mac_digest k_ n key salt personal data = some r) :
    Calls Tryz.prog 41 (vals [I k_, I n, sl A_key n_key c_key, sl A_salt n_salt c_salt, sl A_personal n_personal c_personal, sl A_data n_data c_data]) w (fun e w' => ∃ A n1 c, r.1.length = n1 ∧ e = .returned (SV.val (.tup [sl A n1 c, I r.2])) ∧ Cx F O w w' [Ow e8 A n1 c r.1]) := by
 unfold m_mac_digest at hm
 subst hn_key
 subst hn_salt
 subst hn_personal
 subst hn_data
 refine calls [I k_, I n, sl A_key key.length c_key, sl A_salt salt.length c_salt, sl A_personal personal.length c_personal, sl A_data data.length c_data] Tryz.func41 rfl (of_decide_eq_true (by kernel_rfl)) ?_
 refine W_seq <| W_q [] .a qe (by kernel_rfl) ?_
 refine At_go <| W_seq <| W_seq <| W_reg <| WLs 1 [] (.n 19 (I k_) .a) qe (by kernel_rfl) ?_
 refine WL_op ?_
 obtain ⟨r_, h_r_, hm⟩ := ob hm
 refine Op_call [] 20 _ yz_go56 (by kernel_rfl) (c_param_Size (F := N0) (O := N0) _ (Cx.refl _) _ h_r_) ?_
 rintro e_ w_ ⟨rfl, k_1⟩
 have k_2 := k.call k_1
 refine ⟨.tup [I r_.1, I r_.2], rfl, ?_⟩
 refine WLs 5 [] (.n 15 (I r_.2) (.ss .a)) qe (by kernel_rfl) ?_
 refine WL_nil <| At_go <| W_seq <| W_q [] (.n 24 (.b (decide (r_.2 ≠ 0))) (.s .a)) qe (by kernel_rfl) ?_
 refine At_go <| W_condp (r_.2 ≠ 0) (by kernel_rfl) (fun hc => ?_) (fun hc => ?_)
 · rw [if_pos hc] at hm
   refine W_seq <| W_q [] (.n 12 (sl none 0 0) (.n 13 (I 1) .z)) qe (by kernel_rfl) ?_
   refine At_go <| W_ret (At_tr ?_)
   have k_3 := k_2.nil e8
   obtain rfl := Option.some.inj hm
   refine At_rt [sl none 0 0, I 1] qe (by kernel_rfl) ?_
   exact ⟨none, 0, 0, k_3.len 0 rfl, rfl, k_3⟩
 rw [if_neg hc] at hm
 refine W_skip <| At_go <| W_seq <| W_reg <| WLs 6 [] (.n 30 (.agg [I n, I ((key.length : Nat) : Int), I 1, I 1, .u32 0, .u64 0, .u32 0, I 0, I 0, sl A_salt salt.length c_salt, sl A_personal personal.length c_personal]) (.s (.kkk (.ss .a)))) qe (by kernel_rfl) ?_
 refine WL_op <| Op_alloc [] 16 [I 0, I 0, I 0, I 0, .u32 0, .u64 0, .u32 0, I 0, I 0, sl none 0 0, sl none 0 0] (by kernel_rfl) k_2 ?_
 intro g w_1 k_4
 refine WL_op <| Op_b [] 0 (.agg [I n, I ((key.length : Nat) : Int), I 1, I 1, .u32 0, .u64 0, .u32 0, I 0, I 0, sl A_salt salt.length c_salt, sl A_personal personal.length c_personal]) [I n, I ((key.length : Nat) : Int), I 1, I 1, .u32 0, .u64 0, .u32 0, I 0, I 0, sl A_salt salt.length c_salt, sl A_personal personal.length c_personal] (Pt.at g 0) k_4 rfl .all (by kernel_rfl) (by kernel_rfl) ?_
 intro w_2 k_5
 refine WL_nil <| At_go <| W_seq <| W_seq <| W_reg <| WLs 2 [] (.n 31 (I k_) (.n 32 (.agg [I n, I ((key.length : Nat) : Int), I 1, I 1, .u32 0, .u64 0, .u32 0, I 0, I 0, sl A_salt salt.length c_salt, sl A_personal personal.length c_personal]) (.k (.s .a)))) (qT k_5 0 rfl 0 11 [I n, I ((key.length : Nat) : Int), I 1, I 1, .u32 0, .u64 0, .u32 0, I 0, I 0, sl A_salt salt.length c_salt, sl A_personal personal.length c_personal] (by kernel_rfl) (by decide) <| qe) (by kernel_rfl) ?_
 refine WL_op ?_
 obtain ⟨r_1, h_r_1, hm⟩ := ob hm
 refine Op_call [] 33 _ yz_go57 (by kernel_rfl) (c_param_Check (F := N0) (O := N0) _ _ _ _ _ _ _ _ _ _ _ _ _ _ _ _ _ _ (Ro.n0 (h_salt.cx k_5)) rfl hc_salt (Ro.n0 (h_personal.cx k_5)) rfl hc_personal (Cx.refl _) _ h_r_1) ?_
 rintro e_ w_3 ⟨rfl, k_6⟩
 have k_7 := k_5.call k_6
 refine ⟨I r_1, rfl, ?_⟩
 refine WLs 1 [] (.n 17 (I r_1) (.sss .a)) qe (by kernel_rfl) ?_
 refine WL_nil <| At_go <| W_seq <| W_q [] (.n 35 (.b (decide (r_1 ≠ 0))) .a) qe (by kernel_rfl) ?_
 refine At_go <| W_condp (r_1 ≠ 0) (by kernel_rfl) (fun hc1 => ?_) (fun hc1 => ?_)
 · rw [if_pos hc1] at hm
   refine W_seq <| W_q [] (.n 12 (sl none 0 0) (.n 13 (I r_1) .z)) qe (by kernel_rfl) ?_
   refine At_go <| W_ret (At_tr ?_)
   have k_8 := k_7.nil e8
   obtain rfl := Option.some.inj hm
   refine At_rt [sl none 0 0, I r_1] qe (by kernel_rfl) ?_
   have k_9 := k_8.sel (.s (.k .e))
   exact ⟨none, 0, 0, k_9.len 0 rfl, rfl, k_9⟩
 rw [if_neg hc1] at hm
 refine W_skip <| At_go <| W_seq <| W_reg <| WLs 5 [] (.n 37 (I k_) (.n 38 (.agg [I n, I ((key.length : Nat) : Int), I 1, I 1, .u32 0, .u64 0, .u32 0, I 0, I 0, sl A_salt salt.length c_salt, sl A_personal personal.length c_personal]) (.n 39 (sl A_key key.length c_key) (.n 40 (I n) (.n 41 (sl A_data data.length c_data) .z))))) (qT k_7 0 rfl 0 11 [I n, I ((key.length : Nat) : Int), I 1, I 1, .u32 0, .u64 0, .u32 0, I 0, I 0, sl A_salt salt.length c_salt, sl A_personal personal.length c_personal] (by kernel_rfl) (by decide) <| qe) (by kernel_rfl) ?_
 refine WL_op ?_
 have k_10 := k_7.sel (.k .e)
 obtain ⟨r_2, h_r_2, hm⟩ := ob hm
 refine Op_call [] 42 _ yz_go58 (by kernel_rfl) (c_node_Hash (F := N0) (O := N0) _ _ _ _ _ _ _ _ _ _ _ _ _ _ _ _ _ _ _ _ _ _ _ _ _ _ _ _ (Ro.n0 (h_salt.cx k_10)) rfl hc_salt (Ro.n0 (h_personal.cx k_10)) rfl hc_personal (Ro.n0 (h_key.cx k_10)) rfl hc_key (Ro.n0 (h_data.cx k_10)) rfl hc_data (Cx.refl _) _ h_r_2) ?_
 rintro e_ w_4 ⟨A0, _, c0, rfl, rfl, k_11⟩
 have k_12 := k_10.call k_11
 refine ⟨.tup [sl A0 r_2.1.length c0, I r_2.2], rfl, ?_⟩
 have k_13 := k_12.sel (.s (.k .e))
 refine WLs 4 [] (.n 12 (sl A0 r_2.1.length c0) (.n 13 (I r_2.2) .z)) qe (by kernel_rfl) ?_
 refine WL_nil <| At_go <| W_ret ?_
 obtain rfl := Option.some.inj hm
 refine At_rt [sl A0 r_2.1.length c0, I r_2.2] qe (by kernel_rfl) ?_
 exact ⟨A0, r_2.1.length, c0, k_13.len 0 rfl, rfl, k_13⟩

-- quern/mac.Sum
noncomputable def m_mac_Sum (k_ : Int) (n : Int) (data : List UInt8) : Option (List UInt8 × Int) :=
  (m_mac_digest k_ n ([] : List UInt8) ([] : List UInt8) ([] : List UInt8) data).bind fun r_ => some (r_.1, r_.2)
theorem c_mac_Sum {F O : Nat → Prop} {w : World} (k_ : Int) (n : Int) (data : List UInt8) (A_data : Option Addr) (n_data : Nat) (c_data : Nat) (h_data : Ro F w A_data (e8.all data)) (hn_data : data.length = n_data) (hc_data : n_data ≤ c_data) (k : Cx F O w w []) (r : (List UInt8 × Int)) (hm : m_mac_Sum k_ n data = some r) :
    Calls Tryz.prog 8 (vals [I k_, I n, sl A_data n_data c_data]) w (fun e w' => ∃ A n1 c, r.1.length = n1 ∧ e = .returned (SV.val (.tup [sl A n1 c, I r.2])) ∧ Cx F O w w' [Ow e8 A n1 c r.1]) := by
 unfold m_mac_Sum at hm
 subst hn_data
 refine calls [I k_, I n, sl A_data data.length c_data] Tryz.func8 rfl (of_decide_eq_true (by kernel_rfl)) ?_
 refine W_seq <| W_q [] .a qe (by kernel_rfl) ?_
 refine At_go <| W_seq <| W_reg <| WLs 3 [] (.n 8 (I k_) (.n 9 (I n) (.n 10 (sl A_data data.length c_data) .z))) qe (by kernel_rfl) ?_
 refine WL_op ?_
 obtain ⟨r_, h_r_, hm⟩ := ob hm
 refine Op_call [] 11 _ yz_go41 (by kernel_rfl) (c_mac_digest (F := N0) (O := N0) _ _ _ _ _ _ _ _ _ _ _ _ _ _ _ _ _ _ (Ro.nilE e8) rfl (Nat.le_refl 0) (Ro.nilE e8) rfl (Nat.le_refl 0) (Ro.nilE e8) rfl (Nat.le_refl 0) (Ro.n0 (h_data.cx k)) rfl hc_data (Cx.refl _) _ h_r_) ?_
 rintro e_ w_ ⟨A0, _, c0, rfl, rfl, k_1⟩
 have k_2 := k.call k_1
 refine ⟨.tup [sl A0 r_.1.length c0, I r_.2], rfl, ?_⟩
 refine WLs 4 [] (.n 6 (sl A0 r_.1.length c0) (.n 7 (I r_.2) .z)) qe (by kernel_rfl) ?_
 refine WL_nil <| At_go <| W_ret ?_
 obtain rfl := Option.some.inj hm
 refine At_rt [sl A0 r_.1.length c0, I r_.2] qe (by kernel_rfl) ?_
 exact ⟨A0, r_.1.length, c0, k_2.len 0 rfl, rfl, k_2⟩
end Go.Sx
