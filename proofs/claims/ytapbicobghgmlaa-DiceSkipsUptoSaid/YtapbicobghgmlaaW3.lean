import Derived.Test.YtapbicobghgmlaaW2
namespace Go.Sx
open Go.RowKit Go.Proofs
set_option linter.unusedVariables false
set_option linter.unusedSimpArgs false
set_option maxRecDepth 20000

theorem c_xof_Stream_Read_k {F O : Nat → Prop} {w : World} (x_key : List UInt8) (x_salt : List UInt8) (x_personal : List UInt8) (x_n_kind : Int) (x_n_digest : Int) (x_n_block : List UInt8) (x_n_key : List UInt8) (x_n_last : Bool) (x_n_written : UInt64) (x_n_e_h : Vec UInt64 8) (x_n_e_count_Lo : UInt64) (x_n_e_count_Hi : UInt64) (x_n_e_held : List UInt8) (x_n_e_block : Int) (x_at : UInt64) (x_now : Vec UInt8 64) (x_have : Int) (g_x : Nat) (A_x_key : Option Addr) (n_x_key : Nat) (c_x_key : Nat) (A_x_salt : Option Addr) (n_x_salt : Nat) (c_x_salt : Nat) (A_x_personal : Option Addr) (n_x_personal : Nat) (c_x_personal : Nat) (g_x_n : Nat) (A_x_n_block : Option Addr) (n_x_n_block : Nat) (c_x_n_block : Nat) (A_x_n_key : Option Addr) (n_x_n_key : Nat) (c_x_n_key : Nat) (g_x_n_e : Nat) (A_x_n_e_held : Option Addr) (n_x_n_e_held : Nat) (c_x_n_e_held : Nat) (h_x_key : Ro F w A_x_key (e8.all x_key)) (hn_x_key : x_key.length = n_x_key) (hc_x_key : n_x_key ≤ c_x_key) (h_x_salt : Ro F w A_x_salt (e8.all x_salt)) (hn_x_salt : x_salt.length = n_x_salt) (hc_x_salt : n_x_salt ≤ c_x_salt) (h_x_personal : Ro F w A_x_personal (e8.all x_personal)) (hn_x_personal : x_personal.length = n_x_personal) (hc_x_personal : n_x_personal ≤ c_x_personal) (k : Cx F O w w [Bx 62 g_x [I 1, I 64, .u32 4294967295, .u64 274877906944, .b false, sl A_x_key n_x_key c_x_key, sl A_x_salt n_x_salt c_x_salt, sl A_x_personal n_x_personal c_x_personal, pt g_x_n 0, sl none 0 0, .u64 x_at, .ar e8 x_now, I x_have, .v (.func (.func 36) ⟨SV.vals [pt g_x 0]⟩ ⟨SV.vals []⟩)], Bx 95 g_x_n [I x_n_kind, I x_n_digest, sl A_x_n_block n_x_n_block c_x_n_block, sl A_x_n_key n_x_n_key c_x_n_key, .b x_n_last, .u64 x_n_written, .v (.iface 115 (SV.val (pt g_x_n_e 0)))], Ow e8 A_x_n_block n_x_n_block c_x_n_block x_n_block, Ow e8 A_x_n_key n_x_n_key c_x_n_key x_n_key, Bx 121 g_x_n_e [.ar e64 x_n_e_h, .u64 x_n_e_count_Lo, .u64 x_n_e_count_Hi, sl A_x_n_e_held n_x_n_e_held c_x_n_e_held, I x_n_e_block, .v (.func (.func 64) ⟨SV.vals []⟩ ⟨SV.vals []⟩), .v (.func (.func 65) ⟨SV.vals []⟩ ⟨SV.vals []⟩)], Ow e8 A_x_n_e_held n_x_n_e_held c_x_n_e_held x_n_e_held]) (r : (List UInt8 × Int × Vec UInt64 8 × UInt64 × UInt64 × List UInt8 × Int × Int × Int × List UInt8 × List UInt8 × Bool × UInt64 × List UInt8 × UInt64 × Vec UInt8 64 × Int)) (hm : m_xof_Stream_Read_k x_key x_salt x_personal x_n_kind x_n_digest x_n_block x_n_key x_n_last x_n_written x_n_e_h x_n_e_count_Lo x_n_e_count_Hi x_n_e_held x_n_e_block x_at x_now x_have = some r) :
    Calls Try.prog 26 (vals [pt g_x 0, I 8]) w (fun e w' => ∃ A n c A1 n1 c1 A2 n2 c2 A3 n3 c3 g n4 c4, r.1.length = n ∧ r.2.2.2.2.2.1.length = n1 ∧ r.2.2.2.2.2.2.2.2.2.1.length = n2 ∧ r.2.2.2.2.2.2.2.2.2.2.1.length = n3 ∧ r.2.2.2.2.2.2.2.2.2.2.2.2.2.1.length = n4 ∧ e = .returned (SV.val (.tup [sl A n c, I r.2.1])) ∧ Cx F O w w' [Ow e8 A n c r.1, Bx 121 g_x_n_e [.ar e64 r.2.2.1, .u64 r.2.2.2.1, .u64 r.2.2.2.2.1, sl A1 n1 c1, I r.2.2.2.2.2.2.1, .v (.func (.func 64) ⟨SV.vals []⟩ ⟨SV.vals []⟩), .v (.func (.func 65) ⟨SV.vals []⟩ ⟨SV.vals []⟩)], Ow e8 A1 n1 c1 r.2.2.2.2.2.1, Bx 95 g_x_n [I r.2.2.2.2.2.2.2.1, I r.2.2.2.2.2.2.2.2.1, sl A2 n2 c2, sl A3 n3 c3, .b r.2.2.2.2.2.2.2.2.2.2.2.1, .u64 r.2.2.2.2.2.2.2.2.2.2.2.2.1, .v (.iface 115 (SV.val (pt g_x_n_e 0)))], Ow e8 A2 n2 c2 r.2.2.2.2.2.2.2.2.2.1, Ow e8 A3 n3 c3 r.2.2.2.2.2.2.2.2.2.2.1, Bx 62 g_x [I 1, I 64, .u32 4294967295, .u64 274877906944, .b false, sl A_x_key n_x_key c_x_key, sl A_x_salt n_x_salt c_x_salt, sl A_x_personal n_x_personal c_x_personal, pt g_x_n 0, sl (some ⟨g, 0, none⟩) n4 c4, .u64 r.2.2.2.2.2.2.2.2.2.2.2.2.2.2.1, .ar e8 r.2.2.2.2.2.2.2.2.2.2.2.2.2.2.2.1, I r.2.2.2.2.2.2.2.2.2.2.2.2.2.2.2.2, .v (.func (.func 38) ⟨SV.vals [pt g_x 0]⟩ ⟨SV.vals []⟩)], Sh (SH e8) [((some ⟨g, 0, none⟩), n4, c4)] [r.2.2.2.2.2.2.2.2.2.2.2.2.2.1]]) := by
 unfold m_xof_Stream_Read_k at hm
 subst hn_x_key
 subst hn_x_salt
 subst hn_x_personal
 obtain rfl := k.len 2 rfl
 obtain rfl := k.len 3 rfl
 obtain rfl := k.len 5 rfl
 refine calls [pt g_x 0, I 8] Try.func26 rfl (of_decide_eq_true (by kernel_rfl)) ?_
 refine W_seq <| W_q [] .a qe (by kernel_rfl) ?_
 refine At_go <| W_seq <| W_seq <| W_reg <| WLs 1 [] (.n 11 (pt g_x 0) .a) qe (by kernel_rfl) ?_
 refine WL_op ?_
 obtain ⟨r_, h_r_, hm⟩ := ob hm
 obtain ⟨F1, O1, kin, hO, hre, hF, hb⟩ := k.go (.i (.i (.i (.i (.i (.i .e))))))
 refine Op_call [] 12 _ ds_go22 (by kernel_rfl) (c_xof_Stream_none_k (F := F1) (O := O1) _ _ _ _ _ _ _ _ _ _ _ _ _ _ _ _ _ _ _ _ _ _ _ _ _ _ _ _ _ _ _ _ _ _ _ _ _ _ (Ro.of_old h_x_key k hF) rfl hc_x_key (Ro.of_old h_x_salt k hF) rfl hc_x_salt (Ro.of_old h_x_personal k hF) rfl hc_x_personal kin _ h_r_) ?_
 rintro e_ w_ ⟨A0, _, c0, A4, _, c5, A5, _, c6, rfl, rfl, rfl, rfl, k_⟩
 have k_1 := hb w_ _ _ k_ (.c (.c (.c (.c (.c (.c .n))))))
 refine ⟨.b false, rfl, ?_⟩
 refine WL_nil <| At_go <| W_cond false (by kernel_rfl) (fun h => by cases h) (fun _ => ?_)
 refine W_skip <| At_go <| W_seq <| W_seq <| W_q [15] (.n 18 (.b false) (.ss .a)) qe (by kernel_rfl) ?_
 refine At_go <| W_cond false (by kernel_rfl) (fun h => by cases h) (fun _ => ?_)
 refine W_skip <| At_go <| W_seq <| W_reg <| WLs 1 [] (.n 19 (pt g_x 0) (.s .a)) qe (by kernel_rfl) ?_
 refine WL_op ?_
 obtain ⟨r_1, h_r_1, hm⟩ := ob hm
 have k_2 := (((((k_1.pk (.t .h)).pk (.t .h)).pk (.t (.t (.t (.t .h))))).pk (.t (.t (.t (.t .h))))).pk (.t (.t (.t (.t .h))))).pk (.t (.t (.t (.t (.t .h)))))
 obtain ⟨F11, O11, kin1, hO1, hre1, hF1, hb1⟩ := k_2.go (.i (.i (.i (.i (.i (.i .e))))))
 refine Op_call [] 20 _ ds_go23 (by kernel_rfl) (c_xof_Stream_give_k (F := F11) (O := O11) _ _ _ _ _ _ _ _ _ _ _ _ _ _ _ _ _ _ _ _ _ _ _ _ _ _ _ _ _ _ _ _ _ _ _ _ _ _ (Ro.of_old h_x_key k_2 hF1) rfl hc_x_key (Ro.of_old h_x_salt k_2 hF1) rfl hc_x_salt (Ro.of_old h_x_personal k_2 hF1) rfl hc_x_personal kin1 _ h_r_1) ?_
 rintro e_ w_1 ⟨A6, _, c7, A7, _, c8, A8, _, c9, g0, _, c10, rfl, rfl, rfl, rfl, rfl, k_3⟩
 have k_4 := hb1 w_1 _ _ k_3 (.c (.c (.c (.c (.c (.c (.c .n)))))))
 refine ⟨.tup [], rfl, ?_⟩
 refine WL_nil <| At_go <| W_seq <| W_d ds_mixed (by kernel_rfl) (.n 6 (.u64 ((274877906944 : UInt64) - r_1.2.2.2.2.2.2.2.2.2.2.2.2.1)) (.ss .a)) (fun m => qs g_x 0 <| qs g_x 0 <| qs g_x 0 <| qB (k_4.drew m) 5 rfl 3 (.u64 274877906944) (by kernel_rfl) <| qs g_x 0 <| qs g_x 0 <| qB (k_4.drew m) 5 rfl 10 (.u64 r_1.2.2.2.2.2.2.2.2.2.2.2.2.1) (by kernel_rfl) <| qe) (by kernel_rfl) (fun m_ => ?_)
 have k_5 := k_4.drew m_
 refine At_go <| W_seq <| W_seq <| W_q [33] (.n 36 (.b (decide (((274877906944 : UInt64) - r_1.2.2.2.2.2.2.2.2.2.2.2.2.1) = 0))) .a) qe (by kernel_rfl) ?_
 refine At_go <| W_condp (((274877906944 : UInt64) - r_1.2.2.2.2.2.2.2.2.2.2.2.2.1) = 0) (by kernel_rfl) (fun hc => ?_) (fun hc => ?_)
 · rw [if_pos hc] at hm
   refine W_seq <| W_q [] (.n 4 (sl none 0 0) (.n 5 (I 70) .z)) qe (by kernel_rfl) ?_
   refine At_go <| W_ret (At_tr ?_)
   have k_6 := k_5.nil e8
   obtain rfl := Option.some.inj hm
   refine At_rt [sl none 0 0, I 70] qe (by kernel_rfl) ?_
   have k_7 := (((((((k_6.pk (.t (.t (.t (.t (.t (.t .h))))))).pk (.t (.t (.t (.t (.t (.t .h))))))).pk (.t (.t (.t (.t (.t (.t .h))))))).pk (.t (.t (.t (.t (.t (.t .h))))))).pk (.t (.t (.t (.t (.t (.t .h))))))).pk (.t (.t (.t (.t (.t (.t .h))))))).pk (.t (.t (.t (.t (.t (.t .h))))))).pk (.t (.t (.t (.t (.t (.t (.t .h)))))))
   exact ⟨none, 0, 0, A6, r_1.2.2.2.1.length, c7, A7, r_1.2.2.2.2.2.2.2.1.length, c8, A8, r_1.2.2.2.2.2.2.2.2.1.length, c9, g0, r_1.2.2.2.2.2.2.2.2.2.2.2.1.length, c10, k_7.len 0 rfl, k_7.len 2 rfl, k_7.len 4 rfl, k_7.len 5 rfl, k_7.shlen 7 rfl, rfl, k_7⟩
 rw [if_neg hc] at hm
 refine W_skip <| At_go <| W_cut (fun L wr => ∃ (n0 : Int), m_xof_Stream_Read_k_j0 x_salt x_personal r_1 n0 = some r ∧ L = [(0, pt g_x 0), (1, I n0)] ∧ Cx F O w wr [Bx 62 g_x [I 1, I 64, .u32 4294967295, .u64 274877906944, .b false, sl A_x_key x_key.length c_x_key, sl A_x_salt x_salt.length c_x_salt, sl A_x_personal x_personal.length c_x_personal, pt g_x_n 0, sl (some ⟨g0, 0, none⟩) r_1.2.2.2.2.2.2.2.2.2.2.2.1.length c10, .u64 r_1.2.2.2.2.2.2.2.2.2.2.2.2.1, .ar e8 r_1.2.2.2.2.2.2.2.2.2.2.2.2.2.1, I r_1.2.2.2.2.2.2.2.2.2.2.2.2.2.2, .v (.func (.func 38) ⟨SV.vals [pt g_x 0]⟩ ⟨SV.vals []⟩)], Bx 95 g_x_n [I r_1.2.2.2.2.2.1, I r_1.2.2.2.2.2.2.1, sl A7 r_1.2.2.2.2.2.2.2.1.length c8, sl A8 r_1.2.2.2.2.2.2.2.2.1.length c9, .b r_1.2.2.2.2.2.2.2.2.2.1, .u64 r_1.2.2.2.2.2.2.2.2.2.2.1, .v (.iface 115 (SV.val (pt g_x_n_e 0)))], Ow e8 A7 r_1.2.2.2.2.2.2.2.1.length c8 r_1.2.2.2.2.2.2.2.1, Ow e8 A8 r_1.2.2.2.2.2.2.2.2.1.length c9 r_1.2.2.2.2.2.2.2.2.1, Bx 121 g_x_n_e [.ar e64 r_1.1, .u64 r_1.2.1, .u64 r_1.2.2.1, sl A6 r_1.2.2.2.1.length c7, I r_1.2.2.2.2.1, .v (.func (.func 64) ⟨SV.vals []⟩ ⟨SV.vals []⟩), .v (.func (.func 65) ⟨SV.vals []⟩ ⟨SV.vals []⟩)], Ow e8 A6 r_1.2.2.2.1.length c7 r_1.2.2.2.1, Sh (SH e8) [((some ⟨g0, 0, none⟩), r_1.2.2.2.2.2.2.2.2.2.2.2.1.length, c10)] [r_1.2.2.2.2.2.2.2.2.2.2.2.1]]) ?_ ?_
 ·
  refine W_seq <| W_q [] (.n 40 (.b (decide (((274877906944 : UInt64) - r_1.2.2.2.2.2.2.2.2.2.2.2.2.1) < (8 : UInt64)))) (.s .a)) qe (by kernel_rfl) ?_
  refine At_go <| W_condp (((274877906944 : UInt64) - r_1.2.2.2.2.2.2.2.2.2.2.2.2.1) < (8 : UInt64)) (by kernel_rfl) (fun hc1 => ?_) (fun hc1 => ?_)
  · rw [if_pos hc1] at hm
    refine W_q [] (.n 1 (I (w64 ((274877906944 : UInt64) - r_1.2.2.2.2.2.2.2.2.2.2.2.2.1).toNat)) (.ss (.k .z))) qe (by kernel_rfl) ?_
    have k_8 := ((((((k_5.pk (.t (.t (.t (.t (.t (.t .h))))))).pk (.t (.t .h))).pk (.t (.t .h))).pk (.t (.t (.t (.t (.t .h)))))).pk (.t (.t (.t (.t (.t .h)))))).pk (.t (.t (.t (.t (.t .h)))))).pk (.t (.t (.t (.t (.t (.t .h))))))
    exact At_c ⟨w64 ((274877906944 : UInt64) - r_1.2.2.2.2.2.2.2.2.2.2.2.2.1).toNat, hm, rfl, k_8⟩ (by kernel_rfl)
  rw [if_neg hc1] at hm
  refine W_skip ?_
  have k_9 := ((((((k_5.pk (.t (.t (.t (.t (.t (.t .h))))))).pk (.t (.t .h))).pk (.t (.t .h))).pk (.t (.t (.t (.t (.t .h)))))).pk (.t (.t (.t (.t (.t .h)))))).pk (.t (.t (.t (.t (.t .h)))))).pk (.t (.t (.t (.t (.t (.t .h))))))
  exact At_c ⟨(8 : Int), hm, rfl, k_9⟩ (by kernel_rfl)
 rintro L_ w_2 ⟨n0, hm, rfl, k_10⟩
 simp only [m_xof_Stream_Read_k_j0] at hm
 refine W_seq <| W_q [] (.n 7 (sl none 0 0) .a) qe (by kernel_rfl) ?_
 refine At_go <| W_seq <| W_block ?_
 have k_12 := k_10.nil e8
 refine W_lp (m_xof_Stream_Read_k_l0 x_salt x_personal r_1 n0) (fun s L wr => ∃ (x_0 : UInt64) (x_17 : Vec UInt8 64) (x_18 : Int) (out : List UInt8) (A9 : Option Addr) (n5 : Nat) (c11 : Nat), (x_0, x_17, x_18, out) = s ∧ L = [(0, pt g_x 0), (1, I n0), (7, sl A9 n5 c11)] ∧ out.length = n5 ∧ Cx F O w wr [Bx 62 g_x [I 1, I 64, .u32 4294967295, .u64 274877906944, .b false, sl A_x_key x_key.length c_x_key, sl A_x_salt x_salt.length c_x_salt, sl A_x_personal x_personal.length c_x_personal, pt g_x_n 0, sl (some ⟨g0, 0, none⟩) r_1.2.2.2.2.2.2.2.2.2.2.2.1.length c10, .u64 x_0, .ar e8 x_17, I x_18, .v (.func (.func 38) ⟨SV.vals [pt g_x 0]⟩ ⟨SV.vals []⟩)], Bx 95 g_x_n [I r_1.2.2.2.2.2.1, I r_1.2.2.2.2.2.2.1, sl A7 r_1.2.2.2.2.2.2.2.1.length c8, sl A8 r_1.2.2.2.2.2.2.2.2.1.length c9, .b r_1.2.2.2.2.2.2.2.2.2.1, .u64 r_1.2.2.2.2.2.2.2.2.2.2.1, .v (.iface 115 (SV.val (pt g_x_n_e 0)))], Ow e8 A7 r_1.2.2.2.2.2.2.2.1.length c8 r_1.2.2.2.2.2.2.2.1, Ow e8 A8 r_1.2.2.2.2.2.2.2.2.1.length c9 r_1.2.2.2.2.2.2.2.2.1, Bx 121 g_x_n_e [.ar e64 r_1.1, .u64 r_1.2.1, .u64 r_1.2.2.1, sl A6 r_1.2.2.2.1.length c7, I r_1.2.2.2.2.1, .v (.func (.func 64) ⟨SV.vals []⟩ ⟨SV.vals []⟩), .v (.func (.func 65) ⟨SV.vals []⟩ ⟨SV.vals []⟩)], Ow e8 A6 r_1.2.2.2.1.length c7 r_1.2.2.2.1, Sh (SH e8) [((some ⟨g0, 0, none⟩), r_1.2.2.2.2.2.2.2.2.2.2.2.1.length, c10)] [r_1.2.2.2.2.2.2.2.2.2.2.2.1], Ow e8 A9 n5 c11 out]) (r_1.2.2.2.2.2.2.2.2.2.2.2.2.1, r_1.2.2.2.2.2.2.2.2.2.2.2.2.2.1, r_1.2.2.2.2.2.2.2.2.2.2.2.2.2.2, ([] : List UInt8)) r hm ⟨r_1.2.2.2.2.2.2.2.2.2.2.2.2.1, r_1.2.2.2.2.2.2.2.2.2.2.2.2.2.1, r_1.2.2.2.2.2.2.2.2.2.2.2.2.2.2, ([] : List UInt8), none, 0, 0, rfl, rfl, k_12.len 7 rfl, k_12⟩ (by kernel_rfl) ?_
 intro s0_ L_ w_3 y0 hrel hstep hr0
 obtain ⟨x_0, x_17, x_18, out, A9, _, c11, rfl, rfl, rfl, k_11⟩ := hrel
 have hm := hstep; simp only [m_xof_Stream_Read_k_l0] at hm
 clear hstep
 refine W_seq <| W_seq <| W_q [] (.n 46 (.b (decide (((out.length : Nat) : Int) < n0))) .a) qe (by kernel_rfl) ?_
 refine At_go <| W_condp (((out.length : Nat) : Int) < n0) (by kernel_rfl) (fun hc2 => ?_) (fun hc2 => ?_)
 · rw [if_pos hc2] at hm
   refine W_skip <| At_go <| W_block <| W_seq <| W_d ds_mixed (by kernel_rfl) (.n 8 (.u64 (x_0 / 64)) (.s .a)) (fun m => qs g_x 0 <| qs g_x 0 <| qB (k_11.drew m) 0 rfl 10 (.u64 x_0) (by kernel_rfl) <| qs g_x 0 <| qs g_x 0 <| qs g_x 0 <| qB (k_11.drew m) 0 rfl 1 (I 64) (by kernel_rfl) <| qp ((64 : UInt64) ≠ 0) (by show (64 : UInt64) ≠ 0; decide) <| qe) (by kernel_rfl) (fun m_1 => ?_)
   have k_13 := k_11.drew m_1
   refine At_go <| W_cut (fun L wr => ∃ (x_19 : Vec UInt8 64) (x_20 : Int), m_xof_Stream_Read_k_j1 n0 x_0 out x_19 x_20 = some y0 ∧ L = [(0, pt g_x 0), (1, I n0), (7, sl A9 out.length c11)] ∧ Cx F O w wr [Bx 62 g_x [I 1, I 64, .u32 4294967295, .u64 274877906944, .b false, sl A_x_key x_key.length c_x_key, sl A_x_salt x_salt.length c_x_salt, sl A_x_personal x_personal.length c_x_personal, pt g_x_n 0, sl (some ⟨g0, 0, none⟩) r_1.2.2.2.2.2.2.2.2.2.2.2.1.length c10, .u64 x_0, .ar e8 x_19, I x_20, .v (.func (.func 38) ⟨SV.vals [pt g_x 0]⟩ ⟨SV.vals []⟩)], Bx 95 g_x_n [I r_1.2.2.2.2.2.1, I r_1.2.2.2.2.2.2.1, sl A7 r_1.2.2.2.2.2.2.2.1.length c8, sl A8 r_1.2.2.2.2.2.2.2.2.1.length c9, .b r_1.2.2.2.2.2.2.2.2.2.1, .u64 r_1.2.2.2.2.2.2.2.2.2.2.1, .v (.iface 115 (SV.val (pt g_x_n_e 0)))], Ow e8 A7 r_1.2.2.2.2.2.2.2.1.length c8 r_1.2.2.2.2.2.2.2.1, Ow e8 A8 r_1.2.2.2.2.2.2.2.2.1.length c9 r_1.2.2.2.2.2.2.2.2.1, Bx 121 g_x_n_e [.ar e64 r_1.1, .u64 r_1.2.1, .u64 r_1.2.2.1, sl A6 r_1.2.2.2.1.length c7, I r_1.2.2.2.2.1, .v (.func (.func 64) ⟨SV.vals []⟩ ⟨SV.vals []⟩), .v (.func (.func 65) ⟨SV.vals []⟩ ⟨SV.vals []⟩)], Ow e8 A6 r_1.2.2.2.1.length c7 r_1.2.2.2.1, Sh (SH e8) [((some ⟨g0, 0, none⟩), r_1.2.2.2.2.2.2.2.2.2.2.2.1.length, c10)] [r_1.2.2.2.2.2.2.2.2.2.2.2.1], Ow e8 A9 out.length c11 out]) ?_ ?_
   ·
    refine W_seq <| W_q [] (.n 64 (.b (decide (x_18 ≠ (w64 (x_0 / 64).toNat)))) .a) (qs g_x 0 <| qs g_x 0 <| qB k_13 0 rfl 75 (I x_18) (by kernel_rfl) <| qe) (by kernel_rfl) ?_
    refine At_go <| W_condp (x_18 ≠ (w64 (x_0 / 64).toNat)) (by kernel_rfl) (fun hc3 => ?_) (fun hc3 => ?_)
    · rw [if_pos hc3] at hm
      refine W_seq ?_
      have k_14 := k_13.drew 1
      refine W_m ds_mixed (.q 20 1 (.q 0 2 (.q 1 2 (.q 2 2 (.q 3 1 (.q 4 2 (.q 5 2 (.q 6 2 (.q 7 1 (.q 8 2 (.q 9 2 (.q 10 2 (.q 11 1 (.q 12 2 (.q 13 2 (.q 14 2 (.q 15 1 (.q 16 2 (.q 17 2 (.q 18 2 (.q 19 1 (.op 21 (.op 22 .nil))))))))))))))))))))))) [21, 22] k_14 (.c (.kkkk (.kkkk .e)) (.c (.s (.kkkk (.kk (.k .e)))) .l)) (by kernel_rfl) (fun _ => ?_)
      refine MXq 1 1 [] (.n 85 (.u64 (x_0 / 64)) (.s .a)) (fun x hx => qe) (by kernel_rfl) (fun _ => ?_)
      refine MXq 3 2 [] (.n 67 (pt g_x 11) .a) (fun x hx => qs g_x 0 <| qs g_x 0 <| qe) (by kernel_rfl) (fun _ => ?_)
      refine MXq 1 1 [] (.n 68 (sl (some ⟨g_x, 11, none⟩) 64 64) (.s .a)) (fun x hx => qo (.v (.slice (some ⟨g_x, 11, none⟩) 64 64)) <| qp (((some ⟨g_x, 11, none⟩) : Option Addr).isSome = true ∧ Value.slice (slA (some ⟨g_x, 11, none⟩) 0 64 1) (64 - 0) (64 - 0) = .slice (some ⟨g_x, 11, none⟩) 64 64) ⟨rfl, slx0 _ _ _ _ _ rfl⟩ <| qe) (by kernel_rfl) (fun _ => ?_)
      refine MXq 3 2 [] (.n 71 (pt g_x 0) .a) (fun x hx => qs g_x 0 <| qs g_x 0 <| qe) (by kernel_rfl) (fun _ => ?_)
      refine MXq 1 1 [] (.n 72 (.agg [I 1, I 64, .u32 4294967295, .u64 274877906944, .b false]) (.s .a)) (fun x hx => qT hx 0 rfl 0 5 [I 1, I 64, .u32 4294967295, .u64 274877906944, .b false] (by kernel_rfl) (by decide) <| qe) (by kernel_rfl) (fun _ => ?_)
      refine MXq 3 2 [] (.n 75 (pt g_x 6) .a) (fun x hx => qs g_x 0 <| qs g_x 0 <| qe) (by kernel_rfl) (fun _ => ?_)
      refine MXq 1 1 [] (.n 76 (sl A_x_salt x_salt.length c_x_salt) (.s .a)) (fun x hx => qB hx 0 rfl 6 (sl A_x_salt x_salt.length c_x_salt) (by kernel_rfl) <| qe) (by kernel_rfl) (fun _ => ?_)
      refine MXq 3 2 [] (.n 79 (pt g_x 7) .a) (fun x hx => qs g_x 0 <| qs g_x 0 <| qe) (by kernel_rfl) (fun _ => ?_)
      refine MXq 1 1 [] (.n 80 (sl A_x_personal x_personal.length c_x_personal) (.s .a)) (fun x hx => qB hx 0 rfl 7 (sl A_x_personal x_personal.length c_x_personal) (by kernel_rfl) <| qe) (by kernel_rfl) (fun _ => ?_)
      refine MXq 3 2 [] (.n 83 (pt g_x 9) .a) (fun x hx => qs g_x 0 <| qs g_x 0 <| qe) (by kernel_rfl) (fun _ => ?_)
      refine MXq 1 1 [] (.n 84 (sl (some ⟨g0, 0, none⟩) r_1.2.2.2.2.2.2.2.2.2.2.2.1.length c10) (.s .a)) (fun x hx => qB hx 0 rfl 9 (sl (some ⟨g0, 0, none⟩) r_1.2.2.2.2.2.2.2.2.2.2.2.1.length c10) (by kernel_rfl) <| qe) (by kernel_rfl) (fun _ => ?_)
      refine MX_op (by kernel_rfl) rfl ?_
      obtain ⟨r_2, h_r_2, hm⟩ := ob hm
      refine Op_call [] 86 _ ds_go41 (by kernel_rfl) (c_xof_shape_piece_k (F := N0) (O := N0) _ _ _ _ _ _ _ _ _ _ _ _ _ (Ro.n0 (h_x_salt.cx k_14)) rfl hc_x_salt (Ro.n0 (h_x_personal.cx k_14)) rfl hc_x_personal (Ro.n0 (k_14.shrd 6 rfl)) (k_14.shlen 6 rfl) (k_14.shlec 6 rfl) (Cx.refl _) _ h_r_2) ?_
      rintro e_ w_4 ⟨A10, _, c12, rfl, rfl, k_15⟩
      have k_16 := k_14.call k_15
      refine ⟨sl A10 r_2.length c12, rfl, ?_⟩
      refine ⟨(k_16.sel (.kkkk (.kkkk .z))), fun _ => ?_⟩
      refine MX_op (by kernel_rfl) rfl <| Op_vcp (E := e8) (dn := 64) (dc := 64) (v := sl A10 r_2.length c12) (src := r_2) (lo := 0) (m' := 64) ds_tf22 [] 87 0 [I 1, I 64, .u32 4294967295, .u64 274877906944, .b false, sl A_x_key x_key.length c_x_key, sl A_x_salt x_salt.length c_x_salt, sl A_x_personal x_personal.length c_x_personal, pt g_x_n 0, sl (some ⟨g0, 0, none⟩) r_1.2.2.2.2.2.2.2.2.2.2.2.1.length c10, .u64 x_0] [I x_18, .v (.func (.func 38) ⟨SV.vals [pt g_x 0]⟩ ⟨SV.vals []⟩)] x_17 (by kernel_rfl) (slA_zero _ _ _).symm k_16 rfl (Src.sl (k_16.rd 8 rfl) (k_16.len 8 rfl) (by rfl)) (k_16.len 8 rfl) (by have := x_17.h; omega) (by omega) (by omega) ?_
      intro w_5 k_17
      refine ⟨(k_17.sel (.s (.kkkk (.kk (.k .z))))), fun _ => ?_⟩
      refine MX_nil <| At_go <| W_reg <| WLs 5 [] (.n 90 (I (w64 (x_0 / 64).toNat)) (.n 92 (pt g_x 75) (.ssss (.ssss (.s .a))))) (qs g_x 0 <| qs g_x 0 <| qe) (by kernel_rfl) ?_
      refine WL_op <| Op_b [] 0 (I (w64 (x_0 / 64).toNat)) [I (w64 (x_0 / 64).toNat)] (Pt.at g_x 75) k_17 rfl (.kkkk (.kkkk (.kkkk .h))) (by kernel_rfl) (by kernel_rfl) ?_
      intro w_6 k_18
      have k_19 := k_18.sel (.kkkk (.kkkk .z))
      refine WL_nil ?_
      exact At_c ⟨(vcp x_17 0 64 r_2), w64 (x_0 / 64).toNat, hm, rfl, k_19⟩ (by kernel_rfl)
    rw [if_neg hc3] at hm
    refine W_skip ?_
    exact At_c ⟨x_17, x_18, hm, rfl, k_13⟩ (by kernel_rfl)
   rintro L_ w_7 ⟨x_19, x_20, hm, rfl, k_20⟩
   simp only [m_xof_Stream_Read_k_j1] at hm
   refine W_seq <| W_d ds_mixed (by kernel_rfl) (.n 9 (I (w64 (x_0 % 64).toNat)) .a) (fun m => qs g_x 0 <| qs g_x 0 <| qB (k_20.drew m) 0 rfl 10 (.u64 x_0) (by kernel_rfl) <| qs g_x 0 <| qs g_x 0 <| qs g_x 0 <| qB (k_20.drew m) 0 rfl 1 (I 64) (by kernel_rfl) <| qp ((64 : UInt64) ≠ 0) (by show (64 : UInt64) ≠ 0; decide) <| qe) (by kernel_rfl) (fun m_2 => ?_)
   have k_21 := k_20.drew m_2
   refine At_go <| W_seq <| W_q [] (.n 10 (I (if w64 (64 - (w64 (x_0 % 64).toNat)) < w64 (n0 - ((out.length : Nat) : Int)) then w64 (64 - (w64 (x_0 % 64).toNat)) else w64 (n0 - ((out.length : Nat) : Int)))) .a) (qs g_x 0 <| qs g_x 0 <| qs g_x 0 <| qB k_21 0 rfl 1 (I 64) (by kernel_rfl) <| qe) (by kernel_rfl) ?_
   refine At_go <| W_seq <| W_reg ?_
   obtain ⟨b, h_b, hm⟩ := ob hm
   have hs := slc_some h_b
   have hl := slc_len h_b
   have hn : x_19.l.length = 64 := x_19.h
   have hc4 : 64 ≤ 64 := (Nat.le_refl _)
   obtain ⟨A11, c13, e_, hc5, hA, hc6⟩ := slx (some ⟨g_x, 11, none⟩) (Int.toNat (w64 (x_0 % 64).toNat)) 64 1 (Int.toNat (w64 ((w64 (x_0 % 64).toNat) + (if w64 (64 - (w64 (x_0 % 64).toNat)) < w64 (n0 - ((out.length : Nat) : Int)) then w64 (64 - (w64 (x_0 % 64).toNat)) else w64 (n0 - ((out.length : Nat) : Int))))) - Int.toNat (w64 (x_0 % 64).toNat)) b.length (by omega) (by omega)
   refine WLs 9 [] (.n 117 (sl A9 out.length c11) (.n 125 (sl A11 b.length c13) (.k (.s .a)))) (qs g_x 0 <| qs g_x 0 <| qp (0 ≤ w64 ((w64 (x_0 % 64).toNat) + (if w64 (64 - (w64 (x_0 % 64).toNat)) < w64 (n0 - ((out.length : Nat) : Int)) then w64 (64 - (w64 (x_0 % 64).toNat)) else w64 (n0 - ((out.length : Nat) : Int)))) ∧ w64 ((w64 (x_0 % 64).toNat) + (if w64 (64 - (w64 (x_0 % 64).toNat)) < w64 (n0 - ((out.length : Nat) : Int)) then w64 (64 - (w64 (x_0 % 64).toNat)) else w64 (n0 - ((out.length : Nat) : Int)))) ≤ ((64 : Nat) : Int)) (by omega) <| qp (0 ≤ w64 (x_0 % 64).toNat ∧ w64 (x_0 % 64).toNat ≤ ((Int.toNat (w64 ((w64 (x_0 % 64).toNat) + (if w64 (64 - (w64 (x_0 % 64).toNat)) < w64 (n0 - ((out.length : Nat) : Int)) then w64 (64 - (w64 (x_0 % 64).toNat)) else w64 (n0 - ((out.length : Nat) : Int))))) : Nat) : Int)) (by omega) <| qo (.v (.slice A11 b.length c13)) <| qp (((some ⟨g_x, 11, none⟩) : Option Addr).isSome = true ∧ Value.slice (slA (some ⟨g_x, 11, none⟩) (Int.toNat (w64 (x_0 % 64).toNat)) 64 1) (Int.toNat (w64 ((w64 (x_0 % 64).toNat) + (if w64 (64 - (w64 (x_0 % 64).toNat)) < w64 (n0 - ((out.length : Nat) : Int)) then w64 (64 - (w64 (x_0 % 64).toNat)) else w64 (n0 - ((out.length : Nat) : Int))))) - Int.toNat (w64 (x_0 % 64).toNat)) (64 - Int.toNat (w64 (x_0 % 64).toNat)) = .slice A11 b.length c13) ⟨rfl, e_⟩ <| qe) (by kernel_rfl) ?_
   refine WL_op ?_
   obtain ⟨out1, h_out1, hm⟩ := ob hm
   obtain ⟨hz, hl1⟩ := app_some h_out1
   refine Op_append (E := e8) (v := sl A11 b.length c13) (ys := b) ds_tf22 [] 126 7 (by kernel_rfl) k_21 rfl (Src.sl (Rd.cut (Rd.vec (k_21.brd 0 rfl) (c := Enc.all e8 x_19.l) (off := 11) (by kernel_rfl)) h_b rfl (by rfl) hA (by omega)) rfl (by rfl)) rfl (by have := k_21.len 7 rfl; have := hm; omega) ?_
   intro A12 c14 w_8 k_22
   rw [← hl1] at k_22
   refine WLs 1 [] (.n 7 (sl A12 (out.length + b.length) c14) (.sss (.kkk .z))) qe (by kernel_rfl) ?_
   refine WL_nil <| At_go <| W_reg <| WLs 9 [] (.n 133 (.u64 (x_0 + (UInt64.ofInt (if w64 (64 - (w64 (x_0 % 64).toNat)) < w64 (n0 - ((out.length : Nat) : Int)) then w64 (64 - (w64 (x_0 % 64).toNat)) else w64 (n0 - ((out.length : Nat) : Int)))))) (.n 135 (pt g_x 10) (.k (.s .a)))) (qs g_x 0 <| qs g_x 0 <| qB k_22 0 rfl 10 (.u64 x_0) (by kernel_rfl) <| qs g_x 0 <| qs g_x 0 <| qe) (by kernel_rfl) ?_
   refine WL_op <| Op_b [] 0 (.u64 (x_0 + (UInt64.ofInt (if w64 (64 - (w64 (x_0 % 64).toNat)) < w64 (n0 - ((out.length : Nat) : Int)) then w64 (64 - (w64 (x_0 % 64).toNat)) else w64 (n0 - ((out.length : Nat) : Int)))))) [.u64 (x_0 + (UInt64.ofInt (if w64 (64 - (w64 (x_0 % 64).toNat)) < w64 (n0 - ((out.length : Nat) : Int)) then w64 (64 - (w64 (x_0 % 64).toNat)) else w64 (n0 - ((out.length : Nat) : Int)))))] (Pt.at g_x 10) k_22 rfl (.kkkk (.kkkk (.kk .h))) (by kernel_rfl) (by kernel_rfl) ?_
   intro w_9 k_23
   refine WL_nil <| At_in ?_
   exact At_rd (x_0 + (UInt64.ofInt (if w64 (64 - (w64 (x_0 % 64).toNat)) < w64 (n0 - ((out.length : Nat) : Int)) then w64 (64 - (w64 (x_0 % 64).toNat)) else w64 (n0 - ((out.length : Nat) : Int)))), x_19, x_20, out1) (Option.some.inj hm).symm ⟨x_0 + (UInt64.ofInt (if w64 (64 - (w64 (x_0 % 64).toNat)) < w64 (n0 - ((out.length : Nat) : Int)) then w64 (64 - (w64 (x_0 % 64).toNat)) else w64 (n0 - ((out.length : Nat) : Int)))), x_19, x_20, out1, A12, out.length + b.length, c14, rfl, rfl, k_23.len 7 rfl, k_23⟩ (by kernel_rfl)
 rw [if_neg hc2] at hm
 refine W_exit (At_te (At_te (At_ie ?_)))
 have hm := exit_of hm hr0
 refine At_go <| W_seq <| W_q [] (.n 4 (sl A9 out.length c11) (.n 5 (I 0) .z)) qe (by kernel_rfl) ?_
 refine At_go <| W_ret ?_
 obtain rfl := Option.some.inj hm
 refine At_rt [sl A9 out.length c11, I 0] qe (by kernel_rfl) ?_
 have k_24 := (((((((k_11.pk (.t (.t (.t (.t (.t (.t .h))))))).pk (.t .h)).pk (.t (.t (.t (.t .h))))).pk (.t (.t (.t (.t .h))))).pk (.t (.t (.t (.t .h))))).pk (.t (.t (.t (.t (.t (.t .h))))))).pk (.t (.t (.t (.t (.t (.t .h))))))).pk (.t (.t (.t (.t (.t (.t (.t .h)))))))
 exact ⟨A9, out.length, c11, A6, r_1.2.2.2.1.length, c7, A7, r_1.2.2.2.2.2.2.2.1.length, c8, A8, r_1.2.2.2.2.2.2.2.2.1.length, c9, g0, r_1.2.2.2.2.2.2.2.2.2.2.2.1.length, c10, k_24.len 0 rfl, k_24.len 2 rfl, k_24.len 4 rfl, k_24.len 5 rfl, k_24.shlen 7 rfl, rfl, k_24⟩

theorem c_dice_Dice_drawn_1_k {F O : Nat → Prop} {w : World} (p_seed : List UInt8) (p_s_key : List UInt8) (p_s_salt : List UInt8) (p_s_personal : List UInt8) (p_s_n_kind : Int) (p_s_n_digest : Int) (p_s_n_block : List UInt8) (p_s_n_key : List UInt8) (p_s_n_last : Bool) (p_s_n_written : UInt64) (p_s_n_e_h : Vec UInt64 8) (p_s_n_e_count_Lo : UInt64) (p_s_n_e_count_Hi : UInt64) (p_s_n_e_held : List UInt8) (p_s_n_e_block : Int) (p_s_at : UInt64) (p_s_now : Vec UInt8 64) (p_s_have : Int) (p : Int) (g_p : Nat) (g_p1 : Nat) (A_p_seed : Option Addr) (n_p_seed : Nat) (c_p_seed : Nat) (g_p_s : Nat) (A_p_s_key : Option Addr) (n_p_s_key : Nat) (c_p_s_key : Nat) (A_p_s_salt : Option Addr) (n_p_s_salt : Nat) (c_p_s_salt : Nat) (A_p_s_personal : Option Addr) (n_p_s_personal : Nat) (c_p_s_personal : Nat) (g_p_s_n : Nat) (A_p_s_n_block : Option Addr) (n_p_s_n_block : Nat) (c_p_s_n_block : Nat) (A_p_s_n_key : Option Addr) (n_p_s_n_key : Nat) (c_p_s_n_key : Nat) (g_p_s_n_e : Nat) (A_p_s_n_e_held : Option Addr) (n_p_s_n_e_held : Nat) (c_p_s_n_e_held : Nat) (g_p2 : Nat) (h_p_seed : Ro F w A_p_seed (e8.all p_seed)) (hn_p_seed : p_seed.length = n_p_seed) (hc_p_seed : n_p_seed ≤ c_p_seed) (h_p_s_key : Ro F w A_p_s_key (e8.all p_s_key)) (hn_p_s_key : p_s_key.length = n_p_s_key) (hc_p_s_key : n_p_s_key ≤ c_p_s_key) (h_p_s_salt : Ro F w A_p_s_salt (e8.all p_s_salt)) (hn_p_s_salt : p_s_salt.length = n_p_s_salt) (hc_p_s_salt : n_p_s_salt ≤ c_p_s_salt) (h_p_s_personal : Ro F w A_p_s_personal (e8.all p_s_personal)) (hn_p_s_personal : p_s_personal.length = n_p_s_personal) (hc_p_s_personal : n_p_s_personal ≤ c_p_s_personal) (k : Cx F O w w [Bx 25 g_p [pt g_p1 0], Bx 41 g_p1 [sl A_p_seed n_p_seed c_p_seed, pt g_p_s 0], Bx 62 g_p_s [I 1, I 64, .u32 4294967295, .u64 274877906944, .b false, sl A_p_s_key n_p_s_key c_p_s_key, sl A_p_s_salt n_p_s_salt c_p_s_salt, sl A_p_s_personal n_p_s_personal c_p_s_personal, pt g_p_s_n 0, sl none 0 0, .u64 p_s_at, .ar e8 p_s_now, I p_s_have, .v (.func (.func 36) ⟨SV.vals [pt g_p_s 0]⟩ ⟨SV.vals []⟩)], Bx 95 g_p_s_n [I p_s_n_kind, I p_s_n_digest, sl A_p_s_n_block n_p_s_n_block c_p_s_n_block, sl A_p_s_n_key n_p_s_n_key c_p_s_n_key, .b p_s_n_last, .u64 p_s_n_written, .v (.iface 115 (SV.val (pt g_p_s_n_e 0)))], Ow e8 A_p_s_n_block n_p_s_n_block c_p_s_n_block p_s_n_block, Ow e8 A_p_s_n_key n_p_s_n_key c_p_s_n_key p_s_n_key, Bx 121 g_p_s_n_e [.ar e64 p_s_n_e_h, .u64 p_s_n_e_count_Lo, .u64 p_s_n_e_count_Hi, sl A_p_s_n_e_held n_p_s_n_e_held c_p_s_n_e_held, I p_s_n_e_block, .v (.func (.func 64) ⟨SV.vals []⟩ ⟨SV.vals []⟩), .v (.func (.func 65) ⟨SV.vals []⟩ ⟨SV.vals []⟩)], Ow e8 A_p_s_n_e_held n_p_s_n_e_held c_p_s_n_e_held p_s_n_e_held, Bx 26 g_p2 [I p]]) (r : (UInt64 × Vec UInt64 8 × UInt64 × UInt64 × List UInt8 × Int × Int × Int × List UInt8 × List UInt8 × Bool × UInt64 × List UInt8 × UInt64 × Vec UInt8 64 × Int × Int)) (hm : m_dice_Dice_drawn_1_k p_seed p_s_key p_s_salt p_s_personal p_s_n_kind p_s_n_digest p_s_n_block p_s_n_key p_s_n_last p_s_n_written p_s_n_e_h p_s_n_e_count_Lo p_s_n_e_count_Hi p_s_n_e_held p_s_n_e_block p_s_at p_s_now p_s_have p = some r) :
    Calls Try.prog 25 (vals [pt g_p 0, pt g_p2 0]) w (fun e w' => ∃ A n c A1 n1 c1 A2 n2 c2 g n3 c3, r.2.2.2.2.1.length = n ∧ r.2.2.2.2.2.2.2.2.1.length = n1 ∧ r.2.2.2.2.2.2.2.2.2.1.length = n2 ∧ r.2.2.2.2.2.2.2.2.2.2.2.2.1.length = n3 ∧ e = .returned (SV.val (.u64 r.1)) ∧ Cx F O w w' [Bx 121 g_p_s_n_e [.ar e64 r.2.1, .u64 r.2.2.1, .u64 r.2.2.2.1, sl A n c, I r.2.2.2.2.2.1, .v (.func (.func 64) ⟨SV.vals []⟩ ⟨SV.vals []⟩), .v (.func (.func 65) ⟨SV.vals []⟩ ⟨SV.vals []⟩)], Ow e8 A n c r.2.2.2.2.1, Bx 95 g_p_s_n [I r.2.2.2.2.2.2.1, I r.2.2.2.2.2.2.2.1, sl A1 n1 c1, sl A2 n2 c2, .b r.2.2.2.2.2.2.2.2.2.2.1, .u64 r.2.2.2.2.2.2.2.2.2.2.2.1, .v (.iface 115 (SV.val (pt g_p_s_n_e 0)))], Ow e8 A1 n1 c1 r.2.2.2.2.2.2.2.2.1, Ow e8 A2 n2 c2 r.2.2.2.2.2.2.2.2.2.1, Bx 62 g_p_s [I 1, I 64, .u32 4294967295, .u64 274877906944, .b false, sl A_p_s_key n_p_s_key c_p_s_key, sl A_p_s_salt n_p_s_salt c_p_s_salt, sl A_p_s_personal n_p_s_personal c_p_s_personal, pt g_p_s_n 0, sl (some ⟨g, 0, none⟩) n3 c3, .u64 r.2.2.2.2.2.2.2.2.2.2.2.2.2.1, .ar e8 r.2.2.2.2.2.2.2.2.2.2.2.2.2.2.1, I r.2.2.2.2.2.2.2.2.2.2.2.2.2.2.2.1, .v (.func (.func 38) ⟨SV.vals [pt g_p_s 0]⟩ ⟨SV.vals []⟩)], Sh (SH e8) [((some ⟨g, 0, none⟩), n3, c3)] [r.2.2.2.2.2.2.2.2.2.2.2.2.1], Bx 41 g_p1 [sl A_p_seed n_p_seed c_p_seed, pt g_p_s 0], Bx 25 g_p [pt g_p1 0], Bx 26 g_p2 [I r.2.2.2.2.2.2.2.2.2.2.2.2.2.2.2.2]]) := by
 unfold m_dice_Dice_drawn_1_k at hm
 subst hn_p_seed
 subst hn_p_s_key
 subst hn_p_s_salt
 subst hn_p_s_personal
 obtain rfl := k.len 4 rfl
 obtain rfl := k.len 5 rfl
 obtain rfl := k.len 7 rfl
 refine calls [pt g_p 0, pt g_p2 0] Try.func25 rfl (of_decide_eq_true (by kernel_rfl)) ?_
 refine W_seq <| W_q [] .a qe (by kernel_rfl) ?_
 refine At_go <| W_seq <| W_reg <| WLs 4 [] (.n 11 (pt g_p_s 0) (.s .a)) (qB k 0 rfl 0 (pt g_p1 0) (by kernel_rfl) <| qs g_p1 0 <| qs g_p1 0 <| qB k 1 rfl 1 (pt g_p_s 0) (by kernel_rfl) <| qe) (by kernel_rfl) ?_
 refine WL_op ?_
 obtain ⟨r_, h_r_, hm⟩ := ob hm
 obtain ⟨F1, O1, kin, hO, hre, hF, hb⟩ := k.go (.r (.r (.i (.i (.i (.i (.i (.i (.r .e)))))))))
 refine Op_call [] 12 _ ds_go26 (by kernel_rfl) (c_xof_Stream_Read_k (F := F1) (O := O1) _ _ _ _ _ _ _ _ _ _ _ _ _ _ _ _ _ _ _ _ _ _ _ _ _ _ _ _ _ _ _ _ _ _ _ _ _ _ (Ro.of_old h_p_s_key k hF) rfl hc_p_s_key (Ro.of_old h_p_s_salt k hF) rfl hc_p_s_salt (Ro.of_old h_p_s_personal k hF) rfl hc_p_s_personal kin _ h_r_) ?_
 rintro e_ w_ ⟨A0, _, c0, A3, _, c4, A4, _, c5, A5, _, c6, g0, _, c7, rfl, rfl, rfl, rfl, rfl, rfl, k_⟩
 have k_1 := hb w_ _ _ k_ (.c (.c (.c (.c (.c (.c (.c (.c .n))))))))
 refine ⟨.tup [sl A0 r_.1.length c0, I r_.2.1], rfl, ?_⟩
 refine WLs 5 [] (.n 3 (sl A0 r_.1.length c0) (.n 4 (I r_.2.1) (.ss .a))) qe (by kernel_rfl) ?_
 refine WL_nil <| At_go <| W_seq <| W_seq <| W_q [] (.n 16 (.b (decide (r_.2.1 ≠ 0))) (.k (.s .a))) qe (by kernel_rfl) ?_
 refine At_go <| W_condp (r_.2.1 ≠ 0) (by kernel_rfl) (fun hc => ?_) (fun hc => ?_)
 · rw [if_pos hc] at hm
   refine W_seq <| W_reg <| WL_op <| Op_b [] 10 (I 6) [I 6] (Pt.at g_p2 0) k_1 rfl .all (by kernel_rfl) (by kernel_rfl) ?_
   intro w_1 k_2
   have k_3 := k_2.sel (.s (.kkkk (.kkkk (.kk .e))))
   refine WL_nil <| At_go <| W_seq <| W_q [] (.n 2 (.u64 0) .z) qe (by kernel_rfl) ?_
   refine At_go <| W_ret (At_tr ?_)
   obtain rfl := Option.some.inj hm
   refine At_rt [.u64 0] qe (by kernel_rfl) ?_
   have k_4 := (((((((((k_3.pk (.t (.t (.t (.t (.t (.t (.t (.t (.t .h)))))))))).pk (.t (.t (.t (.t (.t (.t (.t (.t .h))))))))).pk (.t (.t (.t (.t (.t (.t (.t (.t (.t .h)))))))))).pk (.t (.t (.t (.t (.t (.t (.t (.t (.t .h)))))))))).pk (.t (.t (.t (.t (.t (.t (.t (.t (.t .h)))))))))).pk (.t (.t (.t (.t (.t (.t (.t (.t (.t .h)))))))))).pk (.t (.t (.t (.t (.t (.t (.t (.t (.t .h)))))))))).pk (.t (.t (.t (.t (.t (.t (.t (.t (.t .h)))))))))).pk (.t (.t (.t (.t (.t (.t (.t (.t (.t .h)))))))))).pk (.t (.t (.t (.t (.t (.t (.t (.t (.t .h)))))))))
   exact ⟨A3, r_.2.2.2.2.2.1.length, c4, A4, r_.2.2.2.2.2.2.2.2.2.1.length, c5, A5, r_.2.2.2.2.2.2.2.2.2.2.1.length, c6, g0, r_.2.2.2.2.2.2.2.2.2.2.2.2.2.1.length, c7, k_4.len 1 rfl, k_4.len 3 rfl, k_4.len 4 rfl, k_4.shlen 6 rfl, rfl, k_4⟩
 rw [if_neg hc] at hm
 refine W_skip <| At_go <| W_seq <| W_reg <| WLs 1 [] (.n 18 (sl A0 r_.1.length c0) .z) qe (by kernel_rfl) ?_
 refine WL_op ?_
 obtain ⟨r_1, h_r_1, hm⟩ := ob hm
 refine Op_call [] 19 _ ds_go27 (by kernel_rfl) (c_word_Load64 (F := N0) (O := N0) _ _ _ _ _ (Ro.n0 (k_1.rd 0 rfl)) (k_1.len 0 rfl) (k_1.lec 0 rfl) (Cx.refl _) _ h_r_1) ?_
 rintro e_ w_2 ⟨rfl, k_5⟩
 have k_6 := k_1.call k_5
 refine ⟨.tup [.u64 r_1.1, I r_1.2], rfl, ?_⟩
 have k_7 := k_6.sel (.s (.kkkk (.kkkk (.kk .e))))
 refine WLs 5 [] (.n 5 (.u64 r_1.1) .z) qe (by kernel_rfl) ?_
 refine WL_nil <| At_go <| W_seq <| W_q [] (.n 2 (.u64 r_1.1) .z) qe (by kernel_rfl) ?_
 refine At_go <| W_ret ?_
 obtain rfl := Option.some.inj hm
 refine At_rt [.u64 r_1.1] qe (by kernel_rfl) ?_
 have k_8 := (((((((((k_7.pk (.t (.t (.t (.t (.t (.t (.t (.t (.t .h)))))))))).pk (.t (.t (.t (.t (.t (.t (.t (.t .h))))))))).pk (.t (.t (.t (.t (.t (.t (.t (.t (.t .h)))))))))).pk (.t (.t (.t (.t (.t (.t (.t (.t (.t .h)))))))))).pk (.t (.t (.t (.t (.t (.t (.t (.t (.t .h)))))))))).pk (.t (.t (.t (.t (.t (.t (.t (.t (.t .h)))))))))).pk (.t (.t (.t (.t (.t (.t (.t (.t (.t .h)))))))))).pk (.t (.t (.t (.t (.t (.t (.t (.t (.t .h)))))))))).pk (.t (.t (.t (.t (.t (.t (.t (.t (.t .h)))))))))).pk (.t (.t (.t (.t (.t (.t (.t (.t (.t .h)))))))))
 exact ⟨A3, r_.2.2.2.2.2.1.length, c4, A4, r_.2.2.2.2.2.2.2.2.2.1.length, c5, A5, r_.2.2.2.2.2.2.2.2.2.2.1.length, c6, g0, r_.2.2.2.2.2.2.2.2.2.2.2.2.2.1.length, c7, k_8.len 1 rfl, k_8.len 3 rfl, k_8.len 4 rfl, k_8.shlen 6 rfl, rfl, k_8⟩

theorem c_dice_Dice_Word_1_k {F O : Nat → Prop} {w : World} (draw_seed : List UInt8) (draw_s_key : List UInt8) (draw_s_salt : List UInt8) (draw_s_personal : List UInt8) (draw_s_n_kind : Int) (draw_s_n_digest : Int) (draw_s_n_block : List UInt8) (draw_s_n_key : List UInt8) (draw_s_n_last : Bool) (draw_s_n_written : UInt64) (draw_s_n_e_h : Vec UInt64 8) (draw_s_n_e_count_Lo : UInt64) (draw_s_n_e_count_Hi : UInt64) (draw_s_n_e_held : List UInt8) (draw_s_n_e_block : Int) (draw_s_at : UInt64) (draw_s_now : Vec UInt8 64) (draw_s_have : Int) (draw : Int) (p : UInt64) (g_draw : Nat) (g_draw1 : Nat) (A_draw_seed : Option Addr) (n_draw_seed : Nat) (c_draw_seed : Nat) (g_draw_s : Nat) (A_draw_s_key : Option Addr) (n_draw_s_key : Nat) (c_draw_s_key : Nat) (A_draw_s_salt : Option Addr) (n_draw_s_salt : Nat) (c_draw_s_salt : Nat) (A_draw_s_personal : Option Addr) (n_draw_s_personal : Nat) (c_draw_s_personal : Nat) (g_draw_s_n : Nat) (A_draw_s_n_block : Option Addr) (n_draw_s_n_block : Nat) (c_draw_s_n_block : Nat) (A_draw_s_n_key : Option Addr) (n_draw_s_n_key : Nat) (c_draw_s_n_key : Nat) (g_draw_s_n_e : Nat) (A_draw_s_n_e_held : Option Addr) (n_draw_s_n_e_held : Nat) (c_draw_s_n_e_held : Nat) (g_draw2 : Nat) (g_p : Nat) (h_draw_seed : Ro F w A_draw_seed (e8.all draw_seed)) (hn_draw_seed : draw_seed.length = n_draw_seed) (hc_draw_seed : n_draw_seed ≤ c_draw_seed) (h_draw_s_key : Ro F w A_draw_s_key (e8.all draw_s_key)) (hn_draw_s_key : draw_s_key.length = n_draw_s_key) (hc_draw_s_key : n_draw_s_key ≤ c_draw_s_key) (h_draw_s_salt : Ro F w A_draw_s_salt (e8.all draw_s_salt)) (hn_draw_s_salt : draw_s_salt.length = n_draw_s_salt) (hc_draw_s_salt : n_draw_s_salt ≤ c_draw_s_salt) (h_draw_s_personal : Ro F w A_draw_s_personal (e8.all draw_s_personal)) (hn_draw_s_personal : draw_s_personal.length = n_draw_s_personal) (hc_draw_s_personal : n_draw_s_personal ≤ c_draw_s_personal) (k : Cx F O w w [Bx 25 g_draw [pt g_draw1 0], Bx 41 g_draw1 [sl A_draw_seed n_draw_seed c_draw_seed, pt g_draw_s 0], Bx 62 g_draw_s [I 1, I 64, .u32 4294967295, .u64 274877906944, .b false, sl A_draw_s_key n_draw_s_key c_draw_s_key, sl A_draw_s_salt n_draw_s_salt c_draw_s_salt, sl A_draw_s_personal n_draw_s_personal c_draw_s_personal, pt g_draw_s_n 0, sl none 0 0, .u64 draw_s_at, .ar e8 draw_s_now, I draw_s_have, .v (.func (.func 36) ⟨SV.vals [pt g_draw_s 0]⟩ ⟨SV.vals []⟩)], Bx 95 g_draw_s_n [I draw_s_n_kind, I draw_s_n_digest, sl A_draw_s_n_block n_draw_s_n_block c_draw_s_n_block, sl A_draw_s_n_key n_draw_s_n_key c_draw_s_n_key, .b draw_s_n_last, .u64 draw_s_n_written, .v (.iface 115 (SV.val (pt g_draw_s_n_e 0)))], Ow e8 A_draw_s_n_block n_draw_s_n_block c_draw_s_n_block draw_s_n_block, Ow e8 A_draw_s_n_key n_draw_s_n_key c_draw_s_n_key draw_s_n_key, Bx 121 g_draw_s_n_e [.ar e64 draw_s_n_e_h, .u64 draw_s_n_e_count_Lo, .u64 draw_s_n_e_count_Hi, sl A_draw_s_n_e_held n_draw_s_n_e_held c_draw_s_n_e_held, I draw_s_n_e_block, .v (.func (.func 64) ⟨SV.vals []⟩ ⟨SV.vals []⟩), .v (.func (.func 65) ⟨SV.vals []⟩ ⟨SV.vals []⟩)], Ow e8 A_draw_s_n_e_held n_draw_s_n_e_held c_draw_s_n_e_held draw_s_n_e_held, Bx 26 g_draw2 [I draw], Bx 23 g_p [.u64 p]]) (r : (Vec UInt64 8 × UInt64 × UInt64 × List UInt8 × Int × Int × Int × List UInt8 × List UInt8 × Bool × UInt64 × List UInt8 × UInt64 × Vec UInt8 64 × Int × Int × UInt64)) (hm : m_dice_Dice_Word_1_k draw_seed draw_s_key draw_s_salt draw_s_personal draw_s_n_kind draw_s_n_digest draw_s_n_block draw_s_n_key draw_s_n_last draw_s_n_written draw_s_n_e_h draw_s_n_e_count_Lo draw_s_n_e_count_Hi draw_s_n_e_held draw_s_n_e_block draw_s_at draw_s_now draw_s_have draw p = some r) :
    Calls Try.prog 14 (vals [.v (.func (.func 25) ⟨SV.vals []⟩ ⟨SV.vals [pt g_draw 0, pt g_draw2 0]⟩), pt g_p 0]) w (fun e w' => ∃ A n c A1 n1 c1 A2 n2 c2 g n3 c3, r.2.2.2.1.length = n ∧ r.2.2.2.2.2.2.2.1.length = n1 ∧ r.2.2.2.2.2.2.2.2.1.length = n2 ∧ r.2.2.2.2.2.2.2.2.2.2.2.1.length = n3 ∧ e = .returned (SV.val (.tup [])) ∧ Cx F O w w' [Bx 121 g_draw_s_n_e [.ar e64 r.1, .u64 r.2.1, .u64 r.2.2.1, sl A n c, I r.2.2.2.2.1, .v (.func (.func 64) ⟨SV.vals []⟩ ⟨SV.vals []⟩), .v (.func (.func 65) ⟨SV.vals []⟩ ⟨SV.vals []⟩)], Ow e8 A n c r.2.2.2.1, Bx 95 g_draw_s_n [I r.2.2.2.2.2.1, I r.2.2.2.2.2.2.1, sl A1 n1 c1, sl A2 n2 c2, .b r.2.2.2.2.2.2.2.2.2.1, .u64 r.2.2.2.2.2.2.2.2.2.2.1, .v (.iface 115 (SV.val (pt g_draw_s_n_e 0)))], Ow e8 A1 n1 c1 r.2.2.2.2.2.2.2.1, Ow e8 A2 n2 c2 r.2.2.2.2.2.2.2.2.1, Bx 62 g_draw_s [I 1, I 64, .u32 4294967295, .u64 274877906944, .b false, sl A_draw_s_key n_draw_s_key c_draw_s_key, sl A_draw_s_salt n_draw_s_salt c_draw_s_salt, sl A_draw_s_personal n_draw_s_personal c_draw_s_personal, pt g_draw_s_n 0, sl (some ⟨g, 0, none⟩) n3 c3, .u64 r.2.2.2.2.2.2.2.2.2.2.2.2.1, .ar e8 r.2.2.2.2.2.2.2.2.2.2.2.2.2.1, I r.2.2.2.2.2.2.2.2.2.2.2.2.2.2.1, .v (.func (.func 38) ⟨SV.vals [pt g_draw_s 0]⟩ ⟨SV.vals []⟩)], Sh (SH e8) [((some ⟨g, 0, none⟩), n3, c3)] [r.2.2.2.2.2.2.2.2.2.2.2.1], Bx 41 g_draw1 [sl A_draw_seed n_draw_seed c_draw_seed, pt g_draw_s 0], Bx 25 g_draw [pt g_draw1 0], Bx 26 g_draw2 [I r.2.2.2.2.2.2.2.2.2.2.2.2.2.2.2.1], Bx 23 g_p [.u64 r.2.2.2.2.2.2.2.2.2.2.2.2.2.2.2.2]]) := by
 unfold m_dice_Dice_Word_1_k at hm
 subst hn_draw_seed
 subst hn_draw_s_key
 subst hn_draw_s_salt
 subst hn_draw_s_personal
 obtain rfl := k.len 4 rfl
 obtain rfl := k.len 5 rfl
 obtain rfl := k.len 7 rfl
 refine calls [.v (.func (.func 25) ⟨SV.vals []⟩ ⟨SV.vals [pt g_draw 0, pt g_draw2 0]⟩), pt g_p 0] Try.func14 rfl (of_decide_eq_true (by kernel_rfl)) ?_
 refine W_reg <| WLs 1 [] (.n 3 (.v (.func (.func 25) ⟨SV.vals []⟩ ⟨SV.vals [pt g_draw 0, pt g_draw2 0]⟩)) (.s .a)) qe (by kernel_rfl) ?_
 refine WL_op ?_
 obtain ⟨r_, h_r_, hm⟩ := ob hm
 obtain ⟨F1, O1, kin, hO, hre, hF, hb⟩ := k.go (.i (.i (.i (.i (.i (.i (.i (.i (.i (.r .e))))))))))
 refine Op_callv [] 4 [] [] [pt g_draw 0, pt g_draw2 0] ds_go25 (by kernel_rfl) (c_dice_Dice_drawn_1_k (F := F1) (O := O1) _ _ _ _ _ _ _ _ _ _ _ _ _ _ _ _ _ _ _ _ _ _ _ _ _ _ _ _ _ _ _ _ _ _ _ _ _ _ _ _ _ _ _ _ _ _ (Ro.of_old h_draw_seed k hF) rfl hc_draw_seed (Ro.of_old h_draw_s_key k hF) rfl hc_draw_s_key (Ro.of_old h_draw_s_salt k hF) rfl hc_draw_s_salt (Ro.of_old h_draw_s_personal k hF) rfl hc_draw_s_personal kin _ h_r_) ?_
 rintro e_ w_ ⟨A0, _, c0, A3, _, c4, A4, _, c5, g0, _, c6, rfl, rfl, rfl, rfl, rfl, k_⟩
 have k_1 := hb w_ _ _ k_ (.c (.c (.c (.c (.c (.c (.c (.c (.c (.c .n))))))))))
 refine ⟨.u64 r_.1, rfl, ?_⟩
 refine WL_op <| Op_b [] 10 (.u64 r_.1) [.u64 r_.1] (Pt.at g_p 0) k_1 rfl .all (by kernel_rfl) (by kernel_rfl) ?_
 intro w_1 k_2
 refine WL_nil ?_
 obtain rfl := Option.some.inj hm
 refine At_en [] qe (by kernel_rfl) ?_
 exact ⟨A0, r_.2.2.2.2.1.length, c0, A3, r_.2.2.2.2.2.2.2.2.1.length, c4, A4, r_.2.2.2.2.2.2.2.2.2.1.length, c5, g0, r_.2.2.2.2.2.2.2.2.2.2.2.2.1.length, c6, k_2.len 1 rfl, k_2.len 3 rfl, k_2.len 4 rfl, k_2.shlen 6 rfl, rfl, k_2⟩

theorem c_dice_Dice_drawn_k {F O : Nat → Prop} {w : World} (d_seed : List UInt8) (d_s_key : List UInt8) (d_s_salt : List UInt8) (d_s_personal : List UInt8) (d_s_n_kind : Int) (d_s_n_digest : Int) (d_s_n_block : List UInt8) (d_s_n_key : List UInt8) (d_s_n_last : Bool) (d_s_n_written : UInt64) (d_s_n_e_h : Vec UInt64 8) (d_s_n_e_count_Lo : UInt64) (d_s_n_e_count_Hi : UInt64) (d_s_n_e_held : List UInt8) (d_s_n_e_block : Int) (d_s_at : UInt64) (d_s_now : Vec UInt8 64) (d_s_have : Int) (work : UInt64) (g_d : Nat) (A_d_seed : Option Addr) (n_d_seed : Nat) (c_d_seed : Nat) (g_d_s : Nat) (A_d_s_key : Option Addr) (n_d_s_key : Nat) (c_d_s_key : Nat) (A_d_s_salt : Option Addr) (n_d_s_salt : Nat) (c_d_s_salt : Nat) (A_d_s_personal : Option Addr) (n_d_s_personal : Nat) (c_d_s_personal : Nat) (g_d_s_n : Nat) (A_d_s_n_block : Option Addr) (n_d_s_n_block : Nat) (c_d_s_n_block : Nat) (A_d_s_n_key : Option Addr) (n_d_s_n_key : Nat) (c_d_s_n_key : Nat) (g_d_s_n_e : Nat) (A_d_s_n_e_held : Option Addr) (n_d_s_n_e_held : Nat) (c_d_s_n_e_held : Nat) (g_work : Nat) (h_d_seed : Ro F w A_d_seed (e8.all d_seed)) (hn_d_seed : d_seed.length = n_d_seed) (hc_d_seed : n_d_seed ≤ c_d_seed) (h_d_s_key : Ro F w A_d_s_key (e8.all d_s_key)) (hn_d_s_key : d_s_key.length = n_d_s_key) (hc_d_s_key : n_d_s_key ≤ c_d_s_key) (h_d_s_salt : Ro F w A_d_s_salt (e8.all d_s_salt)) (hn_d_s_salt : d_s_salt.length = n_d_s_salt) (hc_d_s_salt : n_d_s_salt ≤ c_d_s_salt) (h_d_s_personal : Ro F w A_d_s_personal (e8.all d_s_personal)) (hn_d_s_personal : d_s_personal.length = n_d_s_personal) (hc_d_s_personal : n_d_s_personal ≤ c_d_s_personal) (k : Cx F O w w [Bx 41 g_d [sl A_d_seed n_d_seed c_d_seed, pt g_d_s 0], Bx 62 g_d_s [I 1, I 64, .u32 4294967295, .u64 274877906944, .b false, sl A_d_s_key n_d_s_key c_d_s_key, sl A_d_s_salt n_d_s_salt c_d_s_salt, sl A_d_s_personal n_d_s_personal c_d_s_personal, pt g_d_s_n 0, sl none 0 0, .u64 d_s_at, .ar e8 d_s_now, I d_s_have, .v (.func (.func 36) ⟨SV.vals [pt g_d_s 0]⟩ ⟨SV.vals []⟩)], Bx 95 g_d_s_n [I d_s_n_kind, I d_s_n_digest, sl A_d_s_n_block n_d_s_n_block c_d_s_n_block, sl A_d_s_n_key n_d_s_n_key c_d_s_n_key, .b d_s_n_last, .u64 d_s_n_written, .v (.iface 115 (SV.val (pt g_d_s_n_e 0)))], Ow e8 A_d_s_n_block n_d_s_n_block c_d_s_n_block d_s_n_block, Ow e8 A_d_s_n_key n_d_s_n_key c_d_s_n_key d_s_n_key, Bx 121 g_d_s_n_e [.ar e64 d_s_n_e_h, .u64 d_s_n_e_count_Lo, .u64 d_s_n_e_count_Hi, sl A_d_s_n_e_held n_d_s_n_e_held c_d_s_n_e_held, I d_s_n_e_block, .v (.func (.func 64) ⟨SV.vals []⟩ ⟨SV.vals []⟩), .v (.func (.func 65) ⟨SV.vals []⟩ ⟨SV.vals []⟩)], Ow e8 A_d_s_n_e_held n_d_s_n_e_held c_d_s_n_e_held d_s_n_e_held, Bx 23 g_work [.u64 work]]) (r : (Int × Vec UInt64 8 × UInt64 × UInt64 × List UInt8 × Int × Int × Int × List UInt8 × List UInt8 × Bool × UInt64 × List UInt8 × UInt64 × Vec UInt8 64 × Int × UInt64)) (hm : m_dice_Dice_drawn_k d_seed d_s_key d_s_salt d_s_personal d_s_n_kind d_s_n_digest d_s_n_block d_s_n_key d_s_n_last d_s_n_written d_s_n_e_h d_s_n_e_count_Lo d_s_n_e_count_Hi d_s_n_e_held d_s_n_e_block d_s_at d_s_now d_s_have work = some r) :
    Calls Try.prog 13 (vals [pt g_d 0, .v (.func (.func 14) ⟨SV.vals []⟩ ⟨SV.vals [pt g_work 0]⟩)]) w (fun e w' => ∃ A n c A1 n1 c1 A2 n2 c2 g n3 c3, r.2.2.2.2.1.length = n ∧ r.2.2.2.2.2.2.2.2.1.length = n1 ∧ r.2.2.2.2.2.2.2.2.2.1.length = n2 ∧ r.2.2.2.2.2.2.2.2.2.2.2.2.1.length = n3 ∧ e = .returned (SV.val (I r.1)) ∧ Cx F O w w' [Bx 121 g_d_s_n_e [.ar e64 r.2.1, .u64 r.2.2.1, .u64 r.2.2.2.1, sl A n c, I r.2.2.2.2.2.1, .v (.func (.func 64) ⟨SV.vals []⟩ ⟨SV.vals []⟩), .v (.func (.func 65) ⟨SV.vals []⟩ ⟨SV.vals []⟩)], Ow e8 A n c r.2.2.2.2.1, Bx 95 g_d_s_n [I r.2.2.2.2.2.2.1, I r.2.2.2.2.2.2.2.1, sl A1 n1 c1, sl A2 n2 c2, .b r.2.2.2.2.2.2.2.2.2.2.1, .u64 r.2.2.2.2.2.2.2.2.2.2.2.1, .v (.iface 115 (SV.val (pt g_d_s_n_e 0)))], Ow e8 A1 n1 c1 r.2.2.2.2.2.2.2.2.1, Ow e8 A2 n2 c2 r.2.2.2.2.2.2.2.2.2.1, Bx 62 g_d_s [I 1, I 64, .u32 4294967295, .u64 274877906944, .b false, sl A_d_s_key n_d_s_key c_d_s_key, sl A_d_s_salt n_d_s_salt c_d_s_salt, sl A_d_s_personal n_d_s_personal c_d_s_personal, pt g_d_s_n 0, sl (some ⟨g, 0, none⟩) n3 c3, .u64 r.2.2.2.2.2.2.2.2.2.2.2.2.2.1, .ar e8 r.2.2.2.2.2.2.2.2.2.2.2.2.2.2.1, I r.2.2.2.2.2.2.2.2.2.2.2.2.2.2.2.1, .v (.func (.func 38) ⟨SV.vals [pt g_d_s 0]⟩ ⟨SV.vals []⟩)], Sh (SH e8) [((some ⟨g, 0, none⟩), n3, c3)] [r.2.2.2.2.2.2.2.2.2.2.2.2.1], Bx 41 g_d [sl A_d_seed n_d_seed c_d_seed, pt g_d_s 0], Bx 23 g_work [.u64 r.2.2.2.2.2.2.2.2.2.2.2.2.2.2.2.2]]) := by
 unfold m_dice_Dice_drawn_k at hm
 subst hn_d_seed
 subst hn_d_s_key
 subst hn_d_s_salt
 subst hn_d_s_personal
 obtain rfl := k.len 3 rfl
 obtain rfl := k.len 4 rfl
 obtain rfl := k.len 6 rfl
 refine calls [pt g_d 0, .v (.func (.func 14) ⟨SV.vals []⟩ ⟨SV.vals [pt g_work 0]⟩)] Try.func13 rfl (of_decide_eq_true (by kernel_rfl)) ?_
 refine W_seq <| W_reg <| WL_op <| Op_box [] 2 (pt g_d 0) [pt g_d 0] (by kernel_rfl) k ?_
 intro g0 w_ k_
 refine WLs 1 [] (.k (.s .a)) qe (by kernel_rfl) ?_
 refine WL_nil <| At_go <| W_seq <| W_seq <| W_reg <| WLs 1 [] (.n 7 (pt g_d 0) .a) (qB k_ 8 rfl 0 (pt g_d 0) (by kernel_rfl) <| qe) (by kernel_rfl) ?_
 refine WL_op ?_
 obtain ⟨r_, h_r_, hm⟩ := ob hm
 obtain ⟨F1, O1, kin, hO, hre, hF, hb⟩ := k_.go (.i (.i (.i (.i (.i (.i (.i (.r (.r .e)))))))))
 refine Op_call [] 8 _ ds_go11 (by kernel_rfl) (c_dice_Dice_none_k (F := F1) (O := O1) _ _ _ _ _ _ _ _ _ _ _ _ _ _ _ _ _ _ _ _ _ _ _ _ _ _ _ _ _ _ _ _ _ _ _ _ _ _ _ _ _ _ _ (Ro.of_old h_d_seed k_ hF) rfl hc_d_seed (Ro.of_old h_d_s_key k_ hF) rfl hc_d_s_key (Ro.of_old h_d_s_salt k_ hF) rfl hc_d_s_salt (Ro.of_old h_d_s_personal k_ hF) rfl hc_d_s_personal kin _ h_r_) ?_
 rintro e_ w_1 ⟨A0, _, c0, A3, _, c4, A4, _, c5, rfl, rfl, rfl, rfl, k_1⟩
 have k_2 := hb w_1 _ _ k_1 (.c (.c (.c (.c (.c (.c (.c .n)))))))
 refine ⟨.b false, rfl, ?_⟩
 refine WL_nil <| At_go <| W_cond false (by kernel_rfl) (fun h => by cases h) (fun _ => ?_)
 refine W_skip <| At_go <| W_seq <| W_reg <| WLs 4 [] (.n 12 (pt g_d_s 0) (.ss .a)) (qB k_2 8 rfl 0 (pt g_d 0) (by kernel_rfl) <| qs g_d 0 <| qs g_d 0 <| qB k_2 6 rfl 1 (pt g_d_s 0) (by kernel_rfl) <| qe) (by kernel_rfl) ?_
 refine WL_op ?_
 obtain ⟨r_1, h_r_1, hm⟩ := ob hm
 have k_3 := ((((((((k_2.pk (.t (.t (.t (.t (.t (.t (.t (.t .h))))))))).pk (.t (.t (.t (.t (.t (.t (.t (.t .h))))))))).pk (.t (.t (.t (.t (.t (.t (.t (.t .h))))))))).pk (.t (.t (.t (.t .h))))).pk (.t (.t (.t (.t .h))))).pk (.t (.t (.t (.t (.t (.t (.t .h)))))))).pk (.t (.t (.t (.t (.t (.t (.t .h)))))))).pk (.t (.t (.t (.t (.t (.t (.t .h)))))))).pk (.t (.t (.t (.t (.t (.t (.t (.t .h))))))))
 obtain ⟨F11, O11, kin1, hO1, hre1, hF1, hb1⟩ := k_3.go (.i (.i (.i (.i (.i (.i (.r (.r (.r .e)))))))))
 refine Op_call [] 13 _ ds_go24 (by kernel_rfl) (c_xof_Stream_Copy_k (F := F11) (O := O11) _ _ _ _ _ _ _ _ _ _ _ _ _ _ _ _ _ _ _ _ _ _ _ _ _ _ _ _ _ _ _ _ _ _ _ _ _ _ (Ro.of_old h_d_s_key k_3 hF1) rfl hc_d_s_key (Ro.of_old h_d_s_salt k_3 hF1) rfl hc_d_s_salt (Ro.of_old h_d_s_personal k_3 hF1) rfl hc_d_s_personal kin1 _ h_r_1) ?_
 rintro e_ w_2 ⟨g1, g2, A5, _, c6, A6, _, c7, g3, A7, _, c8, A8, _, c9, rfl, rfl, rfl, rfl, rfl, k_4⟩
 have k_5 := hb1 w_2 _ _ k_4 (.c (.c (.c (.c (.c (.c (.c (.c (.c (.c .n))))))))))
 refine ⟨pt g1 0, rfl, ?_⟩
 refine WLs 1 [] (.n 5 (pt g1 0) (.ss .a)) qe (by kernel_rfl) ?_
 refine WL_nil <| At_go <| W_seq <| W_reg <| WL_op <| Op_alloc [] 6 [I 0] (by kernel_rfl) k_5 ?_
 intro g4 w_3 k_6
 refine WL_op ?_
 have k_7 := k_6.sel (.kkkk (.kkkk (.kkkk (.kk .e))))
 refine Op_b [] 13 (I 0) [I 0] (Pt.at g4 0) k_7 rfl .all (by kernel_rfl) (by kernel_rfl) ?_
 intro w_4 k_8
 refine WL_nil <| At_go <| W_seq <| W_reg <| WLs 2 [] (.n 14 (.v (.func (.func 14) ⟨SV.vals []⟩ ⟨SV.vals [pt g_work 0]⟩)) (.n 15 (.v (.func (.func 25) ⟨SV.vals []⟩ ⟨SV.vals [pt g0 0, pt g4 0]⟩)) (.kkk .z))) qe (by kernel_rfl) ?_
 refine WL_op ?_
 obtain ⟨r_2, h_r_2, hm⟩ := ob hm
 have k_9 := (((((((((((((k_8.pk (.t (.t (.t (.t (.t .h)))))).pk (.t (.t (.t (.t (.t .h)))))).pk (.t (.t (.t .h)))).pk (.t (.t (.t .h)))).pk (.t (.t (.t (.t (.t (.t (.t (.t (.t (.t (.t .h)))))))))))).pk (.t (.t (.t (.t (.t (.t (.t (.t (.t (.t (.t (.t (.t .h)))))))))))))).pk (.t (.t (.t (.t (.t (.t (.t (.t (.t .h)))))))))).pk (.t (.t (.t (.t (.t (.t (.t (.t (.t .h)))))))))).pk (.t (.t (.t (.t (.t (.t (.t (.t (.t .h)))))))))).pk (.t (.t (.t (.t (.t (.t (.t (.t (.t .h)))))))))).pk (.t (.t (.t (.t (.t (.t (.t (.t (.t (.t .h))))))))))).pk (.t (.t (.t (.t (.t (.t (.t (.t (.t (.t (.t .h)))))))))))).pk (.t (.t (.t (.t (.t (.t (.t (.t (.t (.t (.t (.t .h))))))))))))).pk (.t (.t (.t (.t (.t (.t (.t (.t (.t (.t (.t (.t (.t .h)))))))))))))
 obtain ⟨F12, O12, kin2, hO2, hre2, hF2, hb2⟩ := k_9.go (.i (.i (.i (.i (.i (.i (.i (.i (.i (.i (.r (.r (.r (.r .e))))))))))))))
 refine Op_callv [] 16 [] [.v (.func (.func 25) ⟨SV.vals []⟩ ⟨SV.vals [pt g0 0, pt g4 0]⟩)] [pt g_work 0] ds_go14 (by kernel_rfl) (c_dice_Dice_Word_1_k (F := F12) (O := O12) _ _ _ _ _ _ _ _ _ _ _ _ _ _ _ _ _ _ _ _ _ _ _ _ _ _ _ _ _ _ _ _ _ _ _ _ _ _ _ _ _ _ _ _ _ _ _ _ (Ro.of_old h_d_seed k_9 hF2) rfl hc_d_seed (Ro.of_old h_d_s_key k_9 hF2) rfl hc_d_s_key (Ro.of_old h_d_s_salt k_9 hF2) rfl hc_d_s_salt (Ro.of_old h_d_s_personal k_9 hF2) rfl hc_d_s_personal kin2 _ h_r_2) ?_
 rintro e_ w_5 ⟨A9, _, c10, A10, _, c11, A11, _, c12, g5, _, c13, rfl, rfl, rfl, rfl, rfl, k_10⟩
 have k_11 := hb2 w_5 _ _ k_10 (.c (.c (.c (.c (.c (.c (.c (.c (.c (.c (.c .n)))))))))))
 refine ⟨.tup [], rfl, ?_⟩
 refine WL_nil <| At_go <| W_seq <| W_seq <| W_q [] (.n 18 (.b (decide (r_2.2.2.2.2.2.2.2.2.2.2.2.2.2.2.2.1 ≠ 0))) (.sss .a)) (qB k_11 9 rfl 0 (I r_2.2.2.2.2.2.2.2.2.2.2.2.2.2.2.2.1) (by kernel_rfl) <| qe) (by kernel_rfl) ?_
 refine At_go <| W_condp (r_2.2.2.2.2.2.2.2.2.2.2.2.2.2.2.2.1 ≠ 0) (by kernel_rfl) (fun hc => ?_) (fun hc => ?_)
 · rw [if_pos hc] at hm
   cases hm
 rw [if_neg hc] at hm
 refine W_skip <| At_go <| W_seq <| W_q [] (.n 4 (I r_2.2.2.2.2.2.2.2.2.2.2.2.2.2.2.2.1) .z) (qB k_11 9 rfl 0 (I r_2.2.2.2.2.2.2.2.2.2.2.2.2.2.2.2.1) (by kernel_rfl) <| qe) (by kernel_rfl) ?_
 refine At_go <| W_ret ?_
 obtain rfl := Option.some.inj hm
 refine At_rt [I r_2.2.2.2.2.2.2.2.2.2.2.2.2.2.2.2.1] qe (by kernel_rfl) ?_
 have k_14 := k_11.sel (.kkkk (.kkkk (.ss (.k .z))))
 exact ⟨A9, r_2.2.2.2.1.length, c10, A10, r_2.2.2.2.2.2.2.2.1.length, c11, A11, r_2.2.2.2.2.2.2.2.2.1.length, c12, g5, r_2.2.2.2.2.2.2.2.2.2.2.2.1.length, c13, k_14.len 1 rfl, k_14.len 3 rfl, k_14.len 4 rfl, k_14.shlen 6 rfl, rfl, k_14⟩

theorem c_dice_Dice_Word_k {F O : Nat → Prop} {w : World} (d_seed : List UInt8) (d_s_key : List UInt8) (d_s_salt : List UInt8) (d_s_personal : List UInt8) (d_s_n_kind : Int) (d_s_n_digest : Int) (d_s_n_block : List UInt8) (d_s_n_key : List UInt8) (d_s_n_last : Bool) (d_s_n_written : UInt64) (d_s_n_e_h : Vec UInt64 8) (d_s_n_e_count_Lo : UInt64) (d_s_n_e_count_Hi : UInt64) (d_s_n_e_held : List UInt8) (d_s_n_e_block : Int) (d_s_at : UInt64) (d_s_now : Vec UInt8 64) (d_s_have : Int) (g_d : Nat) (A_d_seed : Option Addr) (n_d_seed : Nat) (c_d_seed : Nat) (g_d_s : Nat) (A_d_s_key : Option Addr) (n_d_s_key : Nat) (c_d_s_key : Nat) (A_d_s_salt : Option Addr) (n_d_s_salt : Nat) (c_d_s_salt : Nat) (A_d_s_personal : Option Addr) (n_d_s_personal : Nat) (c_d_s_personal : Nat) (g_d_s_n : Nat) (A_d_s_n_block : Option Addr) (n_d_s_n_block : Nat) (c_d_s_n_block : Nat) (A_d_s_n_key : Option Addr) (n_d_s_n_key : Nat) (c_d_s_n_key : Nat) (g_d_s_n_e : Nat) (A_d_s_n_e_held : Option Addr) (n_d_s_n_e_held : Nat) (c_d_s_n_e_held : Nat) (h_d_seed : Ro F w A_d_seed (e8.all d_seed)) (hn_d_seed : d_seed.length = n_d_seed) (hc_d_seed : n_d_seed ≤ c_d_seed) (h_d_s_key : Ro F w A_d_s_key (e8.all d_s_key)) (hn_d_s_key : d_s_key.length = n_d_s_key) (hc_d_s_key : n_d_s_key ≤ c_d_s_key) (h_d_s_salt : Ro F w A_d_s_salt (e8.all d_s_salt)) (hn_d_s_salt : d_s_salt.length = n_d_s_salt) (hc_d_s_salt : n_d_s_salt ≤ c_d_s_salt) (h_d_s_personal : Ro F w A_d_s_personal (e8.all d_s_personal)) (hn_d_s_personal : d_s_personal.length = n_d_s_personal) (hc_d_s_personal : n_d_s_personal ≤ c_d_s_personal) (k : Cx F O w w [Bx 41 g_d [sl A_d_seed n_d_seed c_d_seed, pt g_d_s 0], Bx 62 g_d_s [I 1, I 64, .u32 4294967295, .u64 274877906944, .b false, sl A_d_s_key n_d_s_key c_d_s_key, sl A_d_s_salt n_d_s_salt c_d_s_salt, sl A_d_s_personal n_d_s_personal c_d_s_personal, pt g_d_s_n 0, sl none 0 0, .u64 d_s_at, .ar e8 d_s_now, I d_s_have, .v (.func (.func 36) ⟨SV.vals [pt g_d_s 0]⟩ ⟨SV.vals []⟩)], Bx 95 g_d_s_n [I d_s_n_kind, I d_s_n_digest, sl A_d_s_n_block n_d_s_n_block c_d_s_n_block, sl A_d_s_n_key n_d_s_n_key c_d_s_n_key, .b d_s_n_last, .u64 d_s_n_written, .v (.iface 115 (SV.val (pt g_d_s_n_e 0)))], Ow e8 A_d_s_n_block n_d_s_n_block c_d_s_n_block d_s_n_block, Ow e8 A_d_s_n_key n_d_s_n_key c_d_s_n_key d_s_n_key, Bx 121 g_d_s_n_e [.ar e64 d_s_n_e_h, .u64 d_s_n_e_count_Lo, .u64 d_s_n_e_count_Hi, sl A_d_s_n_e_held n_d_s_n_e_held c_d_s_n_e_held, I d_s_n_e_block, .v (.func (.func 64) ⟨SV.vals []⟩ ⟨SV.vals []⟩), .v (.func (.func 65) ⟨SV.vals []⟩ ⟨SV.vals []⟩)], Ow e8 A_d_s_n_e_held n_d_s_n_e_held c_d_s_n_e_held d_s_n_e_held]) (r : (UInt64 × Int × Vec UInt64 8 × UInt64 × UInt64 × List UInt8 × Int × Int × Int × List UInt8 × List UInt8 × Bool × UInt64 × List UInt8 × UInt64 × Vec UInt8 64 × Int)) (hm : m_dice_Dice_Word_k d_seed d_s_key d_s_salt d_s_personal d_s_n_kind d_s_n_digest d_s_n_block d_s_n_key d_s_n_last d_s_n_written d_s_n_e_h d_s_n_e_count_Lo d_s_n_e_count_Hi d_s_n_e_held d_s_n_e_block d_s_at d_s_now d_s_have = some r) :
    Calls Try.prog 7 (vals [pt g_d 0]) w (fun e w' => ∃ A n c A1 n1 c1 A2 n2 c2 g n3 c3, r.2.2.2.2.2.1.length = n ∧ r.2.2.2.2.2.2.2.2.2.1.length = n1 ∧ r.2.2.2.2.2.2.2.2.2.2.1.length = n2 ∧ r.2.2.2.2.2.2.2.2.2.2.2.2.2.1.length = n3 ∧ e = .returned (SV.val (.tup [.u64 r.1, I r.2.1])) ∧ Cx F O w w' [Bx 121 g_d_s_n_e [.ar e64 r.2.2.1, .u64 r.2.2.2.1, .u64 r.2.2.2.2.1, sl A n c, I r.2.2.2.2.2.2.1, .v (.func (.func 64) ⟨SV.vals []⟩ ⟨SV.vals []⟩), .v (.func (.func 65) ⟨SV.vals []⟩ ⟨SV.vals []⟩)], Ow e8 A n c r.2.2.2.2.2.1, Bx 95 g_d_s_n [I r.2.2.2.2.2.2.2.1, I r.2.2.2.2.2.2.2.2.1, sl A1 n1 c1, sl A2 n2 c2, .b r.2.2.2.2.2.2.2.2.2.2.2.1, .u64 r.2.2.2.2.2.2.2.2.2.2.2.2.1, .v (.iface 115 (SV.val (pt g_d_s_n_e 0)))], Ow e8 A1 n1 c1 r.2.2.2.2.2.2.2.2.2.1, Ow e8 A2 n2 c2 r.2.2.2.2.2.2.2.2.2.2.1, Bx 62 g_d_s [I 1, I 64, .u32 4294967295, .u64 274877906944, .b false, sl A_d_s_key n_d_s_key c_d_s_key, sl A_d_s_salt n_d_s_salt c_d_s_salt, sl A_d_s_personal n_d_s_personal c_d_s_personal, pt g_d_s_n 0, sl (some ⟨g, 0, none⟩) n3 c3, .u64 r.2.2.2.2.2.2.2.2.2.2.2.2.2.2.1, .ar e8 r.2.2.2.2.2.2.2.2.2.2.2.2.2.2.2.1, I r.2.2.2.2.2.2.2.2.2.2.2.2.2.2.2.2, .v (.func (.func 38) ⟨SV.vals [pt g_d_s 0]⟩ ⟨SV.vals []⟩)], Sh (SH e8) [((some ⟨g, 0, none⟩), n3, c3)] [r.2.2.2.2.2.2.2.2.2.2.2.2.2.1], Bx 41 g_d [sl A_d_seed n_d_seed c_d_seed, pt g_d_s 0]]) := by
 unfold m_dice_Dice_Word_k at hm
 subst hn_d_seed
 subst hn_d_s_key
 subst hn_d_s_salt
 subst hn_d_s_personal
 obtain rfl := k.len 3 rfl
 obtain rfl := k.len 4 rfl
 obtain rfl := k.len 6 rfl
 refine calls [pt g_d 0] Try.func7 rfl (of_decide_eq_true (by kernel_rfl)) ?_
 refine W_seq <| W_q [] .a qe (by kernel_rfl) ?_
 refine At_go <| W_seq <| W_reg <| WL_op <| Op_alloc [] 4 [.u64 0] (by kernel_rfl) k ?_
 intro g0 w_ k_
 refine WL_op <| Op_b [] 7 (.u64 0) [.u64 0] (Pt.at g0 0) k_ rfl .all (by kernel_rfl) (by kernel_rfl) ?_
 intro w_1 k_1
 refine WL_nil <| At_go <| W_seq <| W_reg <| WLs 2 [] (.n 6 (pt g_d 0) (.n 7 (.v (.func (.func 14) ⟨SV.vals []⟩ ⟨SV.vals [pt g0 0]⟩)) (.k .z))) qe (by kernel_rfl) ?_
 refine WL_op ?_
 obtain ⟨r_, h_r_, hm⟩ := ob hm
 obtain ⟨F1, O1, kin, hO, hre, hF, hb⟩ := k_1.go (.i (.i (.i (.i (.i (.i (.i (.i .e))))))))
 refine Op_call [] 8 _ ds_go13 (by kernel_rfl) (c_dice_Dice_drawn_k (F := F1) (O := O1) _ _ _ _ _ _ _ _ _ _ _ _ _ _ _ _ _ _ _ _ _ _ _ _ _ _ _ _ _ _ _ _ _ _ _ _ _ _ _ _ _ _ _ _ _ (Ro.of_old h_d_seed k_1 hF) rfl hc_d_seed (Ro.of_old h_d_s_key k_1 hF) rfl hc_d_s_key (Ro.of_old h_d_s_salt k_1 hF) rfl hc_d_s_salt (Ro.of_old h_d_s_personal k_1 hF) rfl hc_d_s_personal kin _ h_r_) ?_
 rintro e_ w_2 ⟨A0, _, c0, A3, _, c4, A4, _, c5, g1, _, c6, rfl, rfl, rfl, rfl, rfl, k_2⟩
 have k_3 := hb w_2 _ _ k_2 (.c (.c (.c (.c (.c (.c (.c (.c (.c .n)))))))))
 refine ⟨I r_.1, rfl, ?_⟩
 refine WLs 1 [] (.n 5 (I r_.1) (.sss .a)) qe (by kernel_rfl) ?_
 refine WL_nil <| At_go <| W_seq <| W_seq <| W_q [] (.n 10 (.b (decide (r_.1 ≠ 0))) .a) qe (by kernel_rfl) ?_
 refine At_go <| W_condp (r_.1 ≠ 0) (by kernel_rfl) (fun hc => ?_) (fun hc => ?_)
 · rw [if_pos hc] at hm
   refine W_seq <| W_q [] (.n 2 (.u64 0) (.n 3 (I r_.1) .z)) qe (by kernel_rfl) ?_
   refine At_go <| W_ret (At_tr ?_)
   obtain rfl := Option.some.inj hm
   refine At_rt [.u64 0, I r_.1] qe (by kernel_rfl) ?_
   have k_4 := k_3.sel (.kkkk (.kkkk .z))
   exact ⟨A0, r_.2.2.2.2.1.length, c0, A3, r_.2.2.2.2.2.2.2.2.1.length, c4, A4, r_.2.2.2.2.2.2.2.2.2.1.length, c5, g1, r_.2.2.2.2.2.2.2.2.2.2.2.2.1.length, c6, k_4.len 1 rfl, k_4.len 3 rfl, k_4.len 4 rfl, k_4.shlen 6 rfl, rfl, k_4⟩
 rw [if_neg hc] at hm
 refine W_skip <| At_go <| W_seq <| W_q [] (.n 2 (.u64 r_.2.2.2.2.2.2.2.2.2.2.2.2.2.2.2.2) (.n 3 (I 0) .z)) (qB k_3 8 rfl 0 (.u64 r_.2.2.2.2.2.2.2.2.2.2.2.2.2.2.2.2) (by kernel_rfl) <| qe) (by kernel_rfl) ?_
 refine At_go <| W_ret ?_
 obtain rfl := Option.some.inj hm
 refine At_rt [.u64 r_.2.2.2.2.2.2.2.2.2.2.2.2.2.2.2.2, I 0] qe (by kernel_rfl) ?_
 have k_5 := k_3.sel (.kkkk (.kkkk .z))
 exact ⟨A0, r_.2.2.2.2.1.length, c0, A3, r_.2.2.2.2.2.2.2.2.1.length, c4, A4, r_.2.2.2.2.2.2.2.2.2.1.length, c5, g1, r_.2.2.2.2.2.2.2.2.2.2.2.2.1.length, c6, k_5.len 1 rfl, k_5.len 3 rfl, k_5.len 4 rfl, k_5.shlen 6 rfl, rfl, k_5⟩

theorem c_dice_Dice_none_k_s1 {F O : Nat → Prop} {w : World} (d_seed : List UInt8) (d_s_key : List UInt8) (d_s_salt : List UInt8) (d_s_personal : List UInt8) (d_s_n_kind : Int) (d_s_n_digest : Int) (d_s_n_block : List UInt8) (d_s_n_key : List UInt8) (d_s_n_last : Bool) (d_s_n_written : UInt64) (d_s_n_e_h : Vec UInt64 8) (d_s_n_e_count_Lo : UInt64) (d_s_n_e_count_Hi : UInt64) (d_s_n_e_held : List UInt8) (d_s_n_e_block : Int) (d_s_root : List UInt8) (d_s_at : UInt64) (d_s_now : Vec UInt8 64) (d_s_have : Int) (g_d : Nat) (A_d_seed : Option Addr) (n_d_seed : Nat) (c_d_seed : Nat) (g_d_s : Nat) (A_d_s_key : Option Addr) (n_d_s_key : Nat) (c_d_s_key : Nat) (A_d_s_salt : Option Addr) (n_d_s_salt : Nat) (c_d_s_salt : Nat) (A_d_s_personal : Option Addr) (n_d_s_personal : Nat) (c_d_s_personal : Nat) (g_d_s_n : Nat) (A_d_s_n_block : Option Addr) (n_d_s_n_block : Nat) (c_d_s_n_block : Nat) (A_d_s_n_key : Option Addr) (n_d_s_n_key : Nat) (c_d_s_n_key : Nat) (g_d_s_n_e : Nat) (A_d_s_n_e_held : Option Addr) (n_d_s_n_e_held : Nat) (c_d_s_n_e_held : Nat) (g_d_s_root : Nat) (n_d_s_root : Nat) (c_d_s_root : Nat) (h_d_seed : Ro F w A_d_seed (e8.all d_seed)) (hn_d_seed : d_seed.length = n_d_seed) (hc_d_seed : n_d_seed ≤ c_d_seed) (h_d_s_key : Ro F w A_d_s_key (e8.all d_s_key)) (hn_d_s_key : d_s_key.length = n_d_s_key) (hc_d_s_key : n_d_s_key ≤ c_d_s_key) (h_d_s_salt : Ro F w A_d_s_salt (e8.all d_s_salt)) (hn_d_s_salt : d_s_salt.length = n_d_s_salt) (hc_d_s_salt : n_d_s_salt ≤ c_d_s_salt) (h_d_s_personal : Ro F w A_d_s_personal (e8.all d_s_personal)) (hn_d_s_personal : d_s_personal.length = n_d_s_personal) (hc_d_s_personal : n_d_s_personal ≤ c_d_s_personal) (h_d_s_root : Ro F w (some ⟨g_d_s_root, 0, none⟩) (e8.all d_s_root)) (hn_d_s_root : d_s_root.length = n_d_s_root) (hc_d_s_root : n_d_s_root ≤ c_d_s_root) (k : Cx F O w w [Bx 41 g_d [sl A_d_seed n_d_seed c_d_seed, pt g_d_s 0], Bx 62 g_d_s [I 1, I 64, .u32 4294967295, .u64 274877906944, .b false, sl A_d_s_key n_d_s_key c_d_s_key, sl A_d_s_salt n_d_s_salt c_d_s_salt, sl A_d_s_personal n_d_s_personal c_d_s_personal, pt g_d_s_n 0, sl (some ⟨g_d_s_root, 0, none⟩) n_d_s_root c_d_s_root, .u64 d_s_at, .ar e8 d_s_now, I d_s_have, .v (.func (.func 38) ⟨SV.vals [pt g_d_s 0]⟩ ⟨SV.vals []⟩)], Bx 95 g_d_s_n [I d_s_n_kind, I d_s_n_digest, sl A_d_s_n_block n_d_s_n_block c_d_s_n_block, sl A_d_s_n_key n_d_s_n_key c_d_s_n_key, .b d_s_n_last, .u64 d_s_n_written, .v (.iface 115 (SV.val (pt g_d_s_n_e 0)))], Ow e8 A_d_s_n_block n_d_s_n_block c_d_s_n_block d_s_n_block, Ow e8 A_d_s_n_key n_d_s_n_key c_d_s_n_key d_s_n_key, Bx 121 g_d_s_n_e [.ar e64 d_s_n_e_h, .u64 d_s_n_e_count_Lo, .u64 d_s_n_e_count_Hi, sl A_d_s_n_e_held n_d_s_n_e_held c_d_s_n_e_held, I d_s_n_e_block, .v (.func (.func 64) ⟨SV.vals []⟩ ⟨SV.vals []⟩), .v (.func (.func 65) ⟨SV.vals []⟩ ⟨SV.vals []⟩)], Ow e8 A_d_s_n_e_held n_d_s_n_e_held c_d_s_n_e_held d_s_n_e_held]) (r : (Vec UInt64 8 × UInt64 × UInt64 × List UInt8 × Int × Int × Int × List UInt8 × List UInt8 × Bool × UInt64 × UInt64 × Vec UInt8 64 × Int)) (hm : m_dice_Dice_none_k_s1 d_seed d_s_key d_s_salt d_s_personal d_s_n_kind d_s_n_digest d_s_n_block d_s_n_key d_s_n_last d_s_n_written d_s_n_e_h d_s_n_e_count_Lo d_s_n_e_count_Hi d_s_n_e_held d_s_n_e_block d_s_root d_s_at d_s_now d_s_have = some r) :
    Calls Try.prog 11 (vals [pt g_d 0]) w (fun e w' => ∃ A n c A1 n1 c1 A2 n2 c2, r.2.2.2.1.length = n ∧ r.2.2.2.2.2.2.2.1.length = n1 ∧ r.2.2.2.2.2.2.2.2.1.length = n2 ∧ e = .returned (SV.val (.b false)) ∧ Cx F O w w' [Bx 121 g_d_s_n_e [.ar e64 r.1, .u64 r.2.1, .u64 r.2.2.1, sl A n c, I r.2.2.2.2.1, .v (.func (.func 64) ⟨SV.vals []⟩ ⟨SV.vals []⟩), .v (.func (.func 65) ⟨SV.vals []⟩ ⟨SV.vals []⟩)], Ow e8 A n c r.2.2.2.1, Bx 95 g_d_s_n [I r.2.2.2.2.2.1, I r.2.2.2.2.2.2.1, sl A1 n1 c1, sl A2 n2 c2, .b r.2.2.2.2.2.2.2.2.2.1, .u64 r.2.2.2.2.2.2.2.2.2.2.1, .v (.iface 115 (SV.val (pt g_d_s_n_e 0)))], Ow e8 A1 n1 c1 r.2.2.2.2.2.2.2.1, Ow e8 A2 n2 c2 r.2.2.2.2.2.2.2.2.1, Bx 62 g_d_s [I 1, I 64, .u32 4294967295, .u64 274877906944, .b false, sl A_d_s_key n_d_s_key c_d_s_key, sl A_d_s_salt n_d_s_salt c_d_s_salt, sl A_d_s_personal n_d_s_personal c_d_s_personal, pt g_d_s_n 0, sl (some ⟨g_d_s_root, 0, none⟩) n_d_s_root c_d_s_root, .u64 r.2.2.2.2.2.2.2.2.2.2.2.1, .ar e8 r.2.2.2.2.2.2.2.2.2.2.2.2.1, I r.2.2.2.2.2.2.2.2.2.2.2.2.2, .v (.func (.func 38) ⟨SV.vals [pt g_d_s 0]⟩ ⟨SV.vals []⟩)], Bx 41 g_d [sl A_d_seed n_d_seed c_d_seed, pt g_d_s 0]]) := by
 unfold m_dice_Dice_none_k_s1 at hm
 subst hn_d_seed
 subst hn_d_s_key
 subst hn_d_s_salt
 subst hn_d_s_personal
 obtain rfl := k.len 3 rfl
 obtain rfl := k.len 4 rfl
 obtain rfl := k.len 6 rfl
 subst hn_d_s_root
 refine calls [pt g_d 0] Try.func11 rfl (of_decide_eq_true (by kernel_rfl)) ?_
 refine W_seq <| W_q [] .a qe (by kernel_rfl) ?_
 refine At_go <| W_seq <| W_q [5] (.n 2 (.b false) .z) (qs g_d 0 <| qs g_d 0 <| qB k 0 rfl 1 (pt g_d_s 0) (by kernel_rfl) <| qe) (by kernel_rfl) ?_
 refine At_go <| W_ret ?_
 obtain rfl := Option.some.inj hm
 refine At_rt [.b false] qe (by kernel_rfl) ?_
 have k_ := ((((((k.pk .h).pk (.t .h)).pk (.t (.t (.t (.t .h))))).pk (.t (.t (.t (.t .h))))).pk (.t (.t (.t (.t .h))))).pk (.t (.t (.t (.t (.t (.t .h))))))).pk (.t (.t (.t (.t (.t (.t .h))))))
 exact ⟨A_d_s_n_e_held, d_s_n_e_held.length, c_d_s_n_e_held, A_d_s_n_block, d_s_n_block.length, c_d_s_n_block, A_d_s_n_key, d_s_n_key.length, c_d_s_n_key, k_.len 1 rfl, k_.len 3 rfl, k_.len 4 rfl, rfl, k_⟩

theorem c_xof_Stream_none_k_s1 {F O : Nat → Prop} {w : World} (x_key : List UInt8) (x_salt : List UInt8) (x_personal : List UInt8) (x_n_kind : Int) (x_n_digest : Int) (x_n_block : List UInt8) (x_n_key : List UInt8) (x_n_last : Bool) (x_n_written : UInt64) (x_n_e_h : Vec UInt64 8) (x_n_e_count_Lo : UInt64) (x_n_e_count_Hi : UInt64) (x_n_e_held : List UInt8) (x_n_e_block : Int) (x_root : List UInt8) (x_at : UInt64) (x_now : Vec UInt8 64) (x_have : Int) (g_x : Nat) (A_x_key : Option Addr) (n_x_key : Nat) (c_x_key : Nat) (A_x_salt : Option Addr) (n_x_salt : Nat) (c_x_salt : Nat) (A_x_personal : Option Addr) (n_x_personal : Nat) (c_x_personal : Nat) (g_x_n : Nat) (A_x_n_block : Option Addr) (n_x_n_block : Nat) (c_x_n_block : Nat) (A_x_n_key : Option Addr) (n_x_n_key : Nat) (c_x_n_key : Nat) (g_x_n_e : Nat) (A_x_n_e_held : Option Addr) (n_x_n_e_held : Nat) (c_x_n_e_held : Nat) (g_x_root : Nat) (n_x_root : Nat) (c_x_root : Nat) (h_x_key : Ro F w A_x_key (e8.all x_key)) (hn_x_key : x_key.length = n_x_key) (hc_x_key : n_x_key ≤ c_x_key) (h_x_salt : Ro F w A_x_salt (e8.all x_salt)) (hn_x_salt : x_salt.length = n_x_salt) (hc_x_salt : n_x_salt ≤ c_x_salt) (h_x_personal : Ro F w A_x_personal (e8.all x_personal)) (hn_x_personal : x_personal.length = n_x_personal) (hc_x_personal : n_x_personal ≤ c_x_personal) (h_x_root : Ro F w (some ⟨g_x_root, 0, none⟩) (e8.all x_root)) (hn_x_root : x_root.length = n_x_root) (hc_x_root : n_x_root ≤ c_x_root) (k : Cx F O w w [Bx 62 g_x [I 1, I 64, .u32 4294967295, .u64 274877906944, .b false, sl A_x_key n_x_key c_x_key, sl A_x_salt n_x_salt c_x_salt, sl A_x_personal n_x_personal c_x_personal, pt g_x_n 0, sl (some ⟨g_x_root, 0, none⟩) n_x_root c_x_root, .u64 x_at, .ar e8 x_now, I x_have, .v (.func (.func 38) ⟨SV.vals [pt g_x 0]⟩ ⟨SV.vals []⟩)], Bx 95 g_x_n [I x_n_kind, I x_n_digest, sl A_x_n_block n_x_n_block c_x_n_block, sl A_x_n_key n_x_n_key c_x_n_key, .b x_n_last, .u64 x_n_written, .v (.iface 115 (SV.val (pt g_x_n_e 0)))], Ow e8 A_x_n_block n_x_n_block c_x_n_block x_n_block, Ow e8 A_x_n_key n_x_n_key c_x_n_key x_n_key, Bx 121 g_x_n_e [.ar e64 x_n_e_h, .u64 x_n_e_count_Lo, .u64 x_n_e_count_Hi, sl A_x_n_e_held n_x_n_e_held c_x_n_e_held, I x_n_e_block, .v (.func (.func 64) ⟨SV.vals []⟩ ⟨SV.vals []⟩), .v (.func (.func 65) ⟨SV.vals []⟩ ⟨SV.vals []⟩)], Ow e8 A_x_n_e_held n_x_n_e_held c_x_n_e_held x_n_e_held]) (r : (Vec UInt64 8 × UInt64 × UInt64 × List UInt8 × Int × Int × Int × List UInt8 × List UInt8 × Bool × UInt64 × UInt64 × Vec UInt8 64 × Int)) (hm : m_xof_Stream_none_k_s1 x_key x_salt x_personal x_n_kind x_n_digest x_n_block x_n_key x_n_last x_n_written x_n_e_h x_n_e_count_Lo x_n_e_count_Hi x_n_e_held x_n_e_block x_root x_at x_now x_have = some r) :
    Calls Try.prog 22 (vals [pt g_x 0]) w (fun e w' => ∃ A n c A1 n1 c1 A2 n2 c2, r.2.2.2.1.length = n ∧ r.2.2.2.2.2.2.2.1.length = n1 ∧ r.2.2.2.2.2.2.2.2.1.length = n2 ∧ e = .returned (SV.val (.b false)) ∧ Cx F O w w' [Bx 121 g_x_n_e [.ar e64 r.1, .u64 r.2.1, .u64 r.2.2.1, sl A n c, I r.2.2.2.2.1, .v (.func (.func 64) ⟨SV.vals []⟩ ⟨SV.vals []⟩), .v (.func (.func 65) ⟨SV.vals []⟩ ⟨SV.vals []⟩)], Ow e8 A n c r.2.2.2.1, Bx 95 g_x_n [I r.2.2.2.2.2.1, I r.2.2.2.2.2.2.1, sl A1 n1 c1, sl A2 n2 c2, .b r.2.2.2.2.2.2.2.2.2.1, .u64 r.2.2.2.2.2.2.2.2.2.2.1, .v (.iface 115 (SV.val (pt g_x_n_e 0)))], Ow e8 A1 n1 c1 r.2.2.2.2.2.2.2.1, Ow e8 A2 n2 c2 r.2.2.2.2.2.2.2.2.1, Bx 62 g_x [I 1, I 64, .u32 4294967295, .u64 274877906944, .b false, sl A_x_key n_x_key c_x_key, sl A_x_salt n_x_salt c_x_salt, sl A_x_personal n_x_personal c_x_personal, pt g_x_n 0, sl (some ⟨g_x_root, 0, none⟩) n_x_root c_x_root, .u64 r.2.2.2.2.2.2.2.2.2.2.2.1, .ar e8 r.2.2.2.2.2.2.2.2.2.2.2.2.1, I r.2.2.2.2.2.2.2.2.2.2.2.2.2, .v (.func (.func 38) ⟨SV.vals [pt g_x 0]⟩ ⟨SV.vals []⟩)]]) := by
 unfold m_xof_Stream_none_k_s1 at hm
 subst hn_x_key
 subst hn_x_salt
 subst hn_x_personal
 obtain rfl := k.len 2 rfl
 obtain rfl := k.len 3 rfl
 obtain rfl := k.len 5 rfl
 subst hn_x_root
 refine calls [pt g_x 0] Try.func22 rfl (of_decide_eq_true (by kernel_rfl)) ?_
 refine W_seq <| W_q [] .a qe (by kernel_rfl) ?_
 refine At_go <| W_seq <| W_q [5] (.n 2 (.b false) .z) (qs g_x 0 <| qs g_x 0 <| qB k 0 rfl 76 (.v (.func (.func 38) ⟨SV.vals [pt g_x 0]⟩ ⟨SV.vals []⟩)) (by kernel_rfl) <| qe) (by kernel_rfl) ?_
 refine At_go <| W_ret ?_
 obtain rfl := Option.some.inj hm
 refine At_rt [.b false] qe (by kernel_rfl) ?_
 have k_ := (((((k.pk .h).pk (.t (.t (.t .h)))).pk (.t (.t (.t .h)))).pk (.t (.t (.t .h)))).pk (.t (.t (.t (.t (.t .h)))))).pk (.t (.t (.t (.t (.t .h)))))
 exact ⟨A_x_n_e_held, x_n_e_held.length, c_x_n_e_held, A_x_n_block, x_n_block.length, c_x_n_block, A_x_n_key, x_n_key.length, c_x_n_key, k_.len 1 rfl, k_.len 3 rfl, k_.len 4 rfl, rfl, k_⟩

theorem c_xof_bound_k_s1 {F O : Nat → Prop} {w : World} (y_key : List UInt8) (y_salt : List UInt8) (y_personal : List UInt8) (y_n_kind : Int) (y_n_digest : Int) (y_n_block : List UInt8) (y_n_key : List UInt8) (y_n_last : Bool) (y_n_written : UInt64) (y_n_e_h : Vec UInt64 8) (y_n_e_count_Lo : UInt64) (y_n_e_count_Hi : UInt64) (y_n_e_held : List UInt8) (y_n_e_block : Int) (y_root : List UInt8) (y_at : UInt64) (y_now : Vec UInt8 64) (y_have : Int) (y_write_key : List UInt8) (y_write_salt : List UInt8) (y_write_personal : List UInt8) (y_write_n_kind : Int) (y_write_n_digest : Int) (y_write_n_last : Bool) (y_write_n_written : UInt64) (y_write_n_e_h : Vec UInt64 8) (y_write_n_e_count_Lo : UInt64) (y_write_n_e_count_Hi : UInt64) (y_write_n_e_held : List UInt8) (y_write_n_e_block : Int) (y_write_root : List UInt8) (y_write_at : UInt64) (y_write_now : Vec UInt8 64) (y_write_have : Int) (g_y : Nat) (A_y_key : Option Addr) (n_y_key : Nat) (c_y_key : Nat) (A_y_salt : Option Addr) (n_y_salt : Nat) (c_y_salt : Nat) (A_y_personal : Option Addr) (n_y_personal : Nat) (c_y_personal : Nat) (g_y_n : Nat) (A_y_n_block : Option Addr) (n_y_n_block : Nat) (c_y_n_block : Nat) (A_y_n_key : Option Addr) (n_y_n_key : Nat) (c_y_n_key : Nat) (g_y_n_e : Nat) (A_y_n_e_held : Option Addr) (n_y_n_e_held : Nat) (c_y_n_e_held : Nat) (g_y_root : Nat) (n_y_root : Nat) (c_y_root : Nat) (g_y_write : Nat) (A_y_write_key : Option Addr) (n_y_write_key : Nat) (c_y_write_key : Nat) (A_y_write_salt : Option Addr) (n_y_write_salt : Nat) (c_y_write_salt : Nat) (A_y_write_personal : Option Addr) (n_y_write_personal : Nat) (c_y_write_personal : Nat) (g_y_write_n : Nat) (g_y_write_n_e : Nat) (A_y_write_n_e_held : Option Addr) (n_y_write_n_e_held : Nat) (c_y_write_n_e_held : Nat) (g_y_write_root : Nat) (n_y_write_root : Nat) (c_y_write_root : Nat) (h_y_key : Ro F w A_y_key (e8.all y_key)) (hn_y_key : y_key.length = n_y_key) (hc_y_key : n_y_key ≤ c_y_key) (h_y_salt : Ro F w A_y_salt (e8.all y_salt)) (hn_y_salt : y_salt.length = n_y_salt) (hc_y_salt : n_y_salt ≤ c_y_salt) (h_y_personal : Ro F w A_y_personal (e8.all y_personal)) (hn_y_personal : y_personal.length = n_y_personal) (hc_y_personal : n_y_personal ≤ c_y_personal) (h_y_root : Ro F w (some ⟨g_y_root, 0, none⟩) (e8.all y_root)) (hn_y_root : y_root.length = n_y_root) (hc_y_root : n_y_root ≤ c_y_root) (h_y_write_key : Ro F w A_y_write_key (e8.all y_write_key)) (hn_y_write_key : y_write_key.length = n_y_write_key) (hc_y_write_key : n_y_write_key ≤ c_y_write_key) (h_y_write_salt : Ro F w A_y_write_salt (e8.all y_write_salt)) (hn_y_write_salt : y_write_salt.length = n_y_write_salt) (hc_y_write_salt : n_y_write_salt ≤ c_y_write_salt) (h_y_write_personal : Ro F w A_y_write_personal (e8.all y_write_personal)) (hn_y_write_personal : y_write_personal.length = n_y_write_personal) (hc_y_write_personal : n_y_write_personal ≤ c_y_write_personal) (h_y_write_root : Ro F w (some ⟨g_y_write_root, 0, none⟩) (e8.all y_write_root)) (hn_y_write_root : y_write_root.length = n_y_write_root) (hc_y_write_root : n_y_write_root ≤ c_y_write_root) (k : Cx F O w w [Bx 62 g_y [I 1, I 64, .u32 4294967295, .u64 274877906944, .b false, sl A_y_key n_y_key c_y_key, sl A_y_salt n_y_salt c_y_salt, sl A_y_personal n_y_personal c_y_personal, pt g_y_n 0, sl (some ⟨g_y_root, 0, none⟩) n_y_root c_y_root, .u64 y_at, .ar e8 y_now, I y_have, .v (.func (.func 38) ⟨SV.vals [pt g_y_write 0]⟩ ⟨SV.vals []⟩)], Bx 95 g_y_n [I y_n_kind, I y_n_digest, sl A_y_n_block n_y_n_block c_y_n_block, sl A_y_n_key n_y_n_key c_y_n_key, .b y_n_last, .u64 y_n_written, .v (.iface 115 (SV.val (pt g_y_n_e 0)))], Ow e8 A_y_n_block n_y_n_block c_y_n_block y_n_block, Ow e8 A_y_n_key n_y_n_key c_y_n_key y_n_key, Bx 121 g_y_n_e [.ar e64 y_n_e_h, .u64 y_n_e_count_Lo, .u64 y_n_e_count_Hi, sl A_y_n_e_held n_y_n_e_held c_y_n_e_held, I y_n_e_block, .v (.func (.func 64) ⟨SV.vals []⟩ ⟨SV.vals []⟩), .v (.func (.func 65) ⟨SV.vals []⟩ ⟨SV.vals []⟩)], Ow e8 A_y_n_e_held n_y_n_e_held c_y_n_e_held y_n_e_held, Bx 62 g_y_write [I 1, I 64, .u32 4294967295, .u64 274877906944, .b false, sl A_y_write_key n_y_write_key c_y_write_key, sl A_y_write_salt n_y_write_salt c_y_write_salt, sl A_y_write_personal n_y_write_personal c_y_write_personal, pt g_y_write_n 0, sl (some ⟨g_y_write_root, 0, none⟩) n_y_write_root c_y_write_root, .u64 y_write_at, .ar e8 y_write_now, I y_write_have, .v (.func (.func 38) ⟨SV.vals [pt g_y_write 0]⟩ ⟨SV.vals []⟩)], Bx 95 g_y_write_n [I y_write_n_kind, I y_write_n_digest, sl A_y_n_block n_y_n_block c_y_n_block, sl A_y_n_key n_y_n_key c_y_n_key, .b y_write_n_last, .u64 y_write_n_written, .v (.iface 115 (SV.val (pt g_y_write_n_e 0)))], Bx 121 g_y_write_n_e [.ar e64 y_write_n_e_h, .u64 y_write_n_e_count_Lo, .u64 y_write_n_e_count_Hi, sl A_y_write_n_e_held n_y_write_n_e_held c_y_write_n_e_held, I y_write_n_e_block, .v (.func (.func 64) ⟨SV.vals []⟩ ⟨SV.vals []⟩), .v (.func (.func 65) ⟨SV.vals []⟩ ⟨SV.vals []⟩)], Ow e8 A_y_write_n_e_held n_y_write_n_e_held c_y_write_n_e_held y_write_n_e_held]) (r : (Int × Int × List UInt8 × List UInt8 × Bool × UInt64 × Vec UInt64 8 × UInt64 × UInt64 × List UInt8 × Int × UInt64 × Vec UInt8 64 × Int × Vec UInt64 8 × UInt64 × UInt64 × List UInt8 × Int × Int × Int × Bool × UInt64 × UInt64 × Vec UInt8 64 × Int)) (hm : m_xof_bound_k_s1 y_key y_salt y_personal y_n_kind y_n_digest y_n_block y_n_key y_n_last y_n_written y_n_e_h y_n_e_count_Lo y_n_e_count_Hi y_n_e_held y_n_e_block y_root y_at y_now y_have y_write_key y_write_salt y_write_personal y_write_n_kind y_write_n_digest y_write_n_last y_write_n_written y_write_n_e_h y_write_n_e_count_Lo y_write_n_e_count_Hi y_write_n_e_held y_write_n_e_block y_write_root y_write_at y_write_now y_write_have = some r) :
    Calls Try.prog 40 (vals [pt g_y 0]) w (fun e w' => ∃ A n c A1 n1 c1 A2 n2 c2 A3 n3 c3, r.2.2.1.length = n ∧ r.2.2.2.1.length = n1 ∧ r.2.2.2.2.2.2.2.2.2.1.length = n2 ∧ r.2.2.2.2.2.2.2.2.2.2.2.2.2.2.2.2.2.1.length = n3 ∧ e = .returned (SV.val (pt g_y 0)) ∧ Cx F O w w' [Bx 62 g_y [I 1, I 64, .u32 4294967295, .u64 274877906944, .b false, sl A_y_key n_y_key c_y_key, sl A_y_salt n_y_salt c_y_salt, sl A_y_personal n_y_personal c_y_personal, pt g_y_n 0, sl (some ⟨g_y_root, 0, none⟩) n_y_root c_y_root, .u64 r.2.2.2.2.2.2.2.2.2.2.2.1, .ar e8 r.2.2.2.2.2.2.2.2.2.2.2.2.1, I r.2.2.2.2.2.2.2.2.2.2.2.2.2.1, .v (.func (.func 38) ⟨SV.vals [pt g_y 0]⟩ ⟨SV.vals []⟩)], Bx 95 g_y_n [I r.1, I r.2.1, sl A n c, sl A1 n1 c1, .b r.2.2.2.2.1, .u64 r.2.2.2.2.2.1, .v (.iface 115 (SV.val (pt g_y_n_e 0)))], Ow e8 A n c r.2.2.1, Ow e8 A1 n1 c1 r.2.2.2.1, Bx 121 g_y_n_e [.ar e64 r.2.2.2.2.2.2.1, .u64 r.2.2.2.2.2.2.2.1, .u64 r.2.2.2.2.2.2.2.2.1, sl A2 n2 c2, I r.2.2.2.2.2.2.2.2.2.2.1, .v (.func (.func 64) ⟨SV.vals []⟩ ⟨SV.vals []⟩), .v (.func (.func 65) ⟨SV.vals []⟩ ⟨SV.vals []⟩)], Ow e8 A2 n2 c2 r.2.2.2.2.2.2.2.2.2.1, Bx 121 g_y_write_n_e [.ar e64 r.2.2.2.2.2.2.2.2.2.2.2.2.2.2.1, .u64 r.2.2.2.2.2.2.2.2.2.2.2.2.2.2.2.1, .u64 r.2.2.2.2.2.2.2.2.2.2.2.2.2.2.2.2.1, sl A3 n3 c3, I r.2.2.2.2.2.2.2.2.2.2.2.2.2.2.2.2.2.2.1, .v (.func (.func 64) ⟨SV.vals []⟩ ⟨SV.vals []⟩), .v (.func (.func 65) ⟨SV.vals []⟩ ⟨SV.vals []⟩)], Ow e8 A3 n3 c3 r.2.2.2.2.2.2.2.2.2.2.2.2.2.2.2.2.2.1, Bx 95 g_y_write_n [I r.2.2.2.2.2.2.2.2.2.2.2.2.2.2.2.2.2.2.2.1, I r.2.2.2.2.2.2.2.2.2.2.2.2.2.2.2.2.2.2.2.2.1, sl A n c, sl A1 n1 c1, .b r.2.2.2.2.2.2.2.2.2.2.2.2.2.2.2.2.2.2.2.2.2.1, .u64 r.2.2.2.2.2.2.2.2.2.2.2.2.2.2.2.2.2.2.2.2.2.2.1, .v (.iface 115 (SV.val (pt g_y_write_n_e 0)))], Bx 62 g_y_write [I 1, I 64, .u32 4294967295, .u64 274877906944, .b false, sl A_y_write_key n_y_write_key c_y_write_key, sl A_y_write_salt n_y_write_salt c_y_write_salt, sl A_y_write_personal n_y_write_personal c_y_write_personal, pt g_y_write_n 0, sl (some ⟨g_y_write_root, 0, none⟩) n_y_write_root c_y_write_root, .u64 r.2.2.2.2.2.2.2.2.2.2.2.2.2.2.2.2.2.2.2.2.2.2.2.1, .ar e8 r.2.2.2.2.2.2.2.2.2.2.2.2.2.2.2.2.2.2.2.2.2.2.2.2.1, I r.2.2.2.2.2.2.2.2.2.2.2.2.2.2.2.2.2.2.2.2.2.2.2.2.2, .v (.func (.func 38) ⟨SV.vals [pt g_y_write 0]⟩ ⟨SV.vals []⟩)]]) := by
 unfold m_xof_bound_k_s1 at hm
 subst hn_y_key
 subst hn_y_salt
 subst hn_y_personal
 obtain rfl := k.len 2 rfl
 obtain rfl := k.len 3 rfl
 obtain rfl := k.len 5 rfl
 subst hn_y_root
 subst hn_y_write_key
 subst hn_y_write_salt
 subst hn_y_write_personal
 obtain rfl := k.len 9 rfl
 subst hn_y_write_root
 refine calls [pt g_y 0] Try.func40 rfl (of_decide_eq_true (by kernel_rfl)) ?_
 refine W_seq <| W_q [] .a qe (by kernel_rfl) ?_
 refine At_go <| W_seq <| W_reg <| WLs 5 [] (.n 5 (.v (.func (.func 36) ⟨SV.vals [pt g_y 0]⟩ ⟨SV.vals []⟩)) (.n 7 (pt g_y 76) .a)) (qs g_y 0 <| qs g_y 0 <| qe) (by kernel_rfl) ?_
 refine WL_op <| Op_b [] 0 (.v (.func (.func 36) ⟨SV.vals [pt g_y 0]⟩ ⟨SV.vals []⟩)) [.v (.func (.func 36) ⟨SV.vals [pt g_y 0]⟩ ⟨SV.vals []⟩)] (Pt.at g_y 76) k rfl (.kkkk (.kkkk (.kkkk (.k .h)))) (by kernel_rfl) (by kernel_rfl) ?_
 intro w_ k_
 refine WL_nil <| At_go <| W_cut (fun L wr => m_xof_bound_k_s1_j0 y_n_kind y_n_digest y_n_block y_n_key y_n_last y_n_written y_n_e_h y_n_e_count_Lo y_n_e_count_Hi y_n_e_held y_n_e_block y_at y_now y_have y_write_n_kind y_write_n_digest y_write_n_last y_write_n_written y_write_n_e_h y_write_n_e_count_Lo y_write_n_e_count_Hi y_write_n_e_held y_write_n_e_block y_write_at y_write_now y_write_have  = some r ∧ L = [(0, pt g_y 0)] ∧ Cx F O w wr [Bx 62 g_y [I 1, I 64, .u32 4294967295, .u64 274877906944, .b false, sl A_y_key y_key.length c_y_key, sl A_y_salt y_salt.length c_y_salt, sl A_y_personal y_personal.length c_y_personal, pt g_y_n 0, sl (some ⟨g_y_root, 0, none⟩) y_root.length c_y_root, .u64 y_at, .ar e8 y_now, I y_have, .v (.func (.func 38) ⟨SV.vals [pt g_y 0]⟩ ⟨SV.vals []⟩)], Bx 95 g_y_n [I y_n_kind, I y_n_digest, sl A_y_n_block y_n_block.length c_y_n_block, sl A_y_n_key y_n_key.length c_y_n_key, .b y_n_last, .u64 y_n_written, .v (.iface 115 (SV.val (pt g_y_n_e 0)))], Ow e8 A_y_n_block y_n_block.length c_y_n_block y_n_block, Ow e8 A_y_n_key y_n_key.length c_y_n_key y_n_key, Bx 121 g_y_n_e [.ar e64 y_n_e_h, .u64 y_n_e_count_Lo, .u64 y_n_e_count_Hi, sl A_y_n_e_held y_n_e_held.length c_y_n_e_held, I y_n_e_block, .v (.func (.func 64) ⟨SV.vals []⟩ ⟨SV.vals []⟩), .v (.func (.func 65) ⟨SV.vals []⟩ ⟨SV.vals []⟩)], Ow e8 A_y_n_e_held y_n_e_held.length c_y_n_e_held y_n_e_held, Bx 121 g_y_write_n_e [.ar e64 y_write_n_e_h, .u64 y_write_n_e_count_Lo, .u64 y_write_n_e_count_Hi, sl A_y_write_n_e_held y_write_n_e_held.length c_y_write_n_e_held, I y_write_n_e_block, .v (.func (.func 64) ⟨SV.vals []⟩ ⟨SV.vals []⟩), .v (.func (.func 65) ⟨SV.vals []⟩ ⟨SV.vals []⟩)], Ow e8 A_y_write_n_e_held y_write_n_e_held.length c_y_write_n_e_held y_write_n_e_held, Bx 95 g_y_write_n [I y_write_n_kind, I y_write_n_digest, sl A_y_n_block y_n_block.length c_y_n_block, sl A_y_n_key y_n_key.length c_y_n_key, .b y_write_n_last, .u64 y_write_n_written, .v (.iface 115 (SV.val (pt g_y_write_n_e 0)))], Bx 62 g_y_write [I 1, I 64, .u32 4294967295, .u64 274877906944, .b false, sl A_y_write_key y_write_key.length c_y_write_key, sl A_y_write_salt y_write_salt.length c_y_write_salt, sl A_y_write_personal y_write_personal.length c_y_write_personal, pt g_y_write_n 0, sl (some ⟨g_y_write_root, 0, none⟩) y_write_root.length c_y_write_root, .u64 y_write_at, .ar e8 y_write_now, I y_write_have, .v (.func (.func 38) ⟨SV.vals [pt g_y_write 0]⟩ ⟨SV.vals []⟩)]]) ?_ ?_
 ·
  refine W_seq <| W_q [] (.n 12 (.b true) (.ss .a)) (qs g_y 0 <| qs g_y 0 <| qB k_ 0 rfl 9 (sl (some ⟨g_y_root, 0, none⟩) y_root.length c_y_root) (by kernel_rfl) <| qe) (by kernel_rfl) ?_
  refine At_go <| W_cond true (by kernel_rfl) (fun _ => ?_) (fun h => by cases h)
  refine W_reg <| WLs 5 [] (.n 15 (.v (.func (.func 38) ⟨SV.vals [pt g_y 0]⟩ ⟨SV.vals []⟩)) (.n 17 (pt g_y 76) (.s .a))) (qs g_y 0 <| qs g_y 0 <| qe) (by kernel_rfl) ?_
  refine WL_op <| Op_b [] 0 (.v (.func (.func 38) ⟨SV.vals [pt g_y 0]⟩ ⟨SV.vals []⟩)) [.v (.func (.func 38) ⟨SV.vals [pt g_y 0]⟩ ⟨SV.vals []⟩)] (Pt.at g_y 76) k_ rfl (.kkkk (.kkkk (.kkkk (.k .h)))) (by kernel_rfl) (by kernel_rfl) ?_
  intro w_1 k_1
  refine WL_nil ?_
  have k_2 := (((((((((k_1.pk (.t (.t (.t (.t (.t (.t .h))))))).pk (.t (.t (.t (.t (.t (.t (.t .h)))))))).pk (.t (.t (.t (.t (.t (.t (.t (.t (.t .h)))))))))).pk (.t (.t (.t (.t (.t (.t (.t (.t (.t .h)))))))))).pk (.t (.t (.t (.t (.t (.t (.t (.t (.t .h)))))))))).pk (.t (.t (.t (.t (.t (.t (.t (.t (.t .h)))))))))).pk (.t (.t (.t (.t (.t (.t (.t (.t (.t .h)))))))))).pk (.t (.t (.t (.t (.t (.t (.t (.t (.t .h)))))))))).pk (.t (.t (.t (.t (.t (.t (.t (.t (.t .h)))))))))).pk (.t (.t (.t (.t (.t (.t (.t (.t (.t .h)))))))))
  exact At_c ⟨hm, rfl, k_2⟩ (by kernel_rfl)
 rintro L_ w_2 ⟨hm, rfl, k_3⟩
 simp only [m_xof_bound_k_s1_j0] at hm
 refine W_seq <| W_q [] (.n 2 (pt g_y 0) .z) qe (by kernel_rfl) ?_
 refine At_go <| W_ret ?_
 obtain rfl := Option.some.inj hm
 refine At_rt [pt g_y 0] qe (by kernel_rfl) ?_
 exact ⟨A_y_n_block, y_n_block.length, c_y_n_block, A_y_n_key, y_n_key.length, c_y_n_key, A_y_n_e_held, y_n_e_held.length, c_y_n_e_held, A_y_write_n_e_held, y_write_n_e_held.length, c_y_write_n_e_held, k_3.len 2 rfl, k_3.len 3 rfl, k_3.len 5 rfl, k_3.len 7 rfl, rfl, k_3⟩

theorem c_xof_Stream_Copy_k_s1 {F O : Nat → Prop} {w : World} (x_key : List UInt8) (x_salt : List UInt8) (x_personal : List UInt8) (x_n_kind : Int) (x_n_digest : Int) (x_n_block : List UInt8) (x_n_key : List UInt8) (x_n_last : Bool) (x_n_written : UInt64) (x_n_e_h : Vec UInt64 8) (x_n_e_count_Lo : UInt64) (x_n_e_count_Hi : UInt64) (x_n_e_held : List UInt8) (x_n_e_block : Int) (x_root : List UInt8) (x_at : UInt64) (x_now : Vec UInt8 64) (x_have : Int) (g_x : Nat) (A_x_key : Option Addr) (n_x_key : Nat) (c_x_key : Nat) (A_x_salt : Option Addr) (n_x_salt : Nat) (c_x_salt : Nat) (A_x_personal : Option Addr) (n_x_personal : Nat) (c_x_personal : Nat) (g_x_n : Nat) (A_x_n_block : Option Addr) (n_x_n_block : Nat) (c_x_n_block : Nat) (A_x_n_key : Option Addr) (n_x_n_key : Nat) (c_x_n_key : Nat) (g_x_n_e : Nat) (A_x_n_e_held : Option Addr) (n_x_n_e_held : Nat) (c_x_n_e_held : Nat) (g_x_root : Nat) (n_x_root : Nat) (c_x_root : Nat) (h_x_key : Ro F w A_x_key (e8.all x_key)) (hn_x_key : x_key.length = n_x_key) (hc_x_key : n_x_key ≤ c_x_key) (h_x_salt : Ro F w A_x_salt (e8.all x_salt)) (hn_x_salt : x_salt.length = n_x_salt) (hc_x_salt : n_x_salt ≤ c_x_salt) (h_x_personal : Ro F w A_x_personal (e8.all x_personal)) (hn_x_personal : x_personal.length = n_x_personal) (hc_x_personal : n_x_personal ≤ c_x_personal) (h_x_root : Ro F w (some ⟨g_x_root, 0, none⟩) (e8.all x_root)) (hn_x_root : x_root.length = n_x_root) (hc_x_root : n_x_root ≤ c_x_root) (k : Cx F O w w [Bx 62 g_x [I 1, I 64, .u32 4294967295, .u64 274877906944, .b false, sl A_x_key n_x_key c_x_key, sl A_x_salt n_x_salt c_x_salt, sl A_x_personal n_x_personal c_x_personal, pt g_x_n 0, sl (some ⟨g_x_root, 0, none⟩) n_x_root c_x_root, .u64 x_at, .ar e8 x_now, I x_have, .v (.func (.func 38) ⟨SV.vals [pt g_x 0]⟩ ⟨SV.vals []⟩)], Bx 95 g_x_n [I x_n_kind, I x_n_digest, sl A_x_n_block n_x_n_block c_x_n_block, sl A_x_n_key n_x_n_key c_x_n_key, .b x_n_last, .u64 x_n_written, .v (.iface 115 (SV.val (pt g_x_n_e 0)))], Ow e8 A_x_n_block n_x_n_block c_x_n_block x_n_block, Ow e8 A_x_n_key n_x_n_key c_x_n_key x_n_key, Bx 121 g_x_n_e [.ar e64 x_n_e_h, .u64 x_n_e_count_Lo, .u64 x_n_e_count_Hi, sl A_x_n_e_held n_x_n_e_held c_x_n_e_held, I x_n_e_block, .v (.func (.func 64) ⟨SV.vals []⟩ ⟨SV.vals []⟩), .v (.func (.func 65) ⟨SV.vals []⟩ ⟨SV.vals []⟩)], Ow e8 A_x_n_e_held n_x_n_e_held c_x_n_e_held x_n_e_held]) (r : (Int × Int × List UInt8 × List UInt8 × Bool × UInt64 × Vec UInt64 8 × UInt64 × UInt64 × List UInt8 × Int × UInt64 × Vec UInt8 64 × Int × Vec UInt64 8 × UInt64 × UInt64 × List UInt8 × Int × Int × Int × Bool × UInt64 × UInt64 × Vec UInt8 64 × Int)) (hm : m_xof_Stream_Copy_k_s1 x_key x_salt x_personal x_n_kind x_n_digest x_n_block x_n_key x_n_last x_n_written x_n_e_h x_n_e_count_Lo x_n_e_count_Hi x_n_e_held x_n_e_block x_root x_at x_now x_have = some r) :
    Calls Try.prog 24 (vals [pt g_x 0]) w (fun e w' => ∃ g g1 A n c A1 n1 c1 g2 A2 n2 c2 A3 n3 c3, r.2.2.1.length = n ∧ r.2.2.2.1.length = n1 ∧ r.2.2.2.2.2.2.2.2.2.1.length = n2 ∧ r.2.2.2.2.2.2.2.2.2.2.2.2.2.2.2.2.2.1.length = n3 ∧ e = .returned (SV.val (pt g 0)) ∧ Cx F O w w' [Bx 62 g [I 1, I 64, .u32 4294967295, .u64 274877906944, .b false, sl A_x_key n_x_key c_x_key, sl A_x_salt n_x_salt c_x_salt, sl A_x_personal n_x_personal c_x_personal, pt g1 0, sl (some ⟨g_x_root, 0, none⟩) n_x_root c_x_root, .u64 r.2.2.2.2.2.2.2.2.2.2.2.1, .ar e8 r.2.2.2.2.2.2.2.2.2.2.2.2.1, I r.2.2.2.2.2.2.2.2.2.2.2.2.2.1, .v (.func (.func 38) ⟨SV.vals [pt g 0]⟩ ⟨SV.vals []⟩)], Bx 95 g1 [I r.1, I r.2.1, sl A n c, sl A1 n1 c1, .b r.2.2.2.2.1, .u64 r.2.2.2.2.2.1, .v (.iface 115 (SV.val (pt g2 0)))], Ow e8 A n c r.2.2.1, Ow e8 A1 n1 c1 r.2.2.2.1, Bx 121 g2 [.ar e64 r.2.2.2.2.2.2.1, .u64 r.2.2.2.2.2.2.2.1, .u64 r.2.2.2.2.2.2.2.2.1, sl A2 n2 c2, I r.2.2.2.2.2.2.2.2.2.2.1, .v (.func (.func 64) ⟨SV.vals []⟩ ⟨SV.vals []⟩), .v (.func (.func 65) ⟨SV.vals []⟩ ⟨SV.vals []⟩)], Ow e8 A2 n2 c2 r.2.2.2.2.2.2.2.2.2.1, Bx 121 g_x_n_e [.ar e64 r.2.2.2.2.2.2.2.2.2.2.2.2.2.2.1, .u64 r.2.2.2.2.2.2.2.2.2.2.2.2.2.2.2.1, .u64 r.2.2.2.2.2.2.2.2.2.2.2.2.2.2.2.2.1, sl A3 n3 c3, I r.2.2.2.2.2.2.2.2.2.2.2.2.2.2.2.2.2.2.1, .v (.func (.func 64) ⟨SV.vals []⟩ ⟨SV.vals []⟩), .v (.func (.func 65) ⟨SV.vals []⟩ ⟨SV.vals []⟩)], Ow e8 A3 n3 c3 r.2.2.2.2.2.2.2.2.2.2.2.2.2.2.2.2.2.1, Bx 95 g_x_n [I r.2.2.2.2.2.2.2.2.2.2.2.2.2.2.2.2.2.2.2.1, I r.2.2.2.2.2.2.2.2.2.2.2.2.2.2.2.2.2.2.2.2.1, sl A n c, sl A1 n1 c1, .b r.2.2.2.2.2.2.2.2.2.2.2.2.2.2.2.2.2.2.2.2.2.1, .u64 r.2.2.2.2.2.2.2.2.2.2.2.2.2.2.2.2.2.2.2.2.2.2.1, .v (.iface 115 (SV.val (pt g_x_n_e 0)))], Bx 62 g_x [I 1, I 64, .u32 4294967295, .u64 274877906944, .b false, sl A_x_key n_x_key c_x_key, sl A_x_salt n_x_salt c_x_salt, sl A_x_personal n_x_personal c_x_personal, pt g_x_n 0, sl (some ⟨g_x_root, 0, none⟩) n_x_root c_x_root, .u64 r.2.2.2.2.2.2.2.2.2.2.2.2.2.2.2.2.2.2.2.2.2.2.2.1, .ar e8 r.2.2.2.2.2.2.2.2.2.2.2.2.2.2.2.2.2.2.2.2.2.2.2.2.1, I r.2.2.2.2.2.2.2.2.2.2.2.2.2.2.2.2.2.2.2.2.2.2.2.2.2, .v (.func (.func 38) ⟨SV.vals [pt g_x 0]⟩ ⟨SV.vals []⟩)]]) := by
 unfold m_xof_Stream_Copy_k_s1 at hm
 subst hn_x_key
 subst hn_x_salt
 subst hn_x_personal
 obtain rfl := k.len 2 rfl
 obtain rfl := k.len 3 rfl
 obtain rfl := k.len 5 rfl
 subst hn_x_root
 refine calls [pt g_x 0] Try.func24 rfl (of_decide_eq_true (by kernel_rfl)) ?_
 refine W_seq <| W_q [] .a qe (by kernel_rfl) ?_
 refine At_go <| W_seq <| W_seq <| W_reg <| WLs 1 [] (.n 4 (pt g_x 0) .a) qe (by kernel_rfl) ?_
 refine WL_op ?_
 obtain ⟨r_, h_r_, hm⟩ := ob hm
 obtain ⟨F1, O1, kin, hO, hre, hF, hb⟩ := k.go (.i (.i (.i (.i (.i (.i .e))))))
 refine Op_call [] 5 _ ds_go22 (by kernel_rfl) (c_xof_Stream_none_k_s1 (F := F1) (O := O1) _ _ _ _ _ _ _ _ _ _ _ _ _ _ _ _ _ _ _ _ _ _ _ _ _ _ _ _ _ _ _ _ _ _ _ _ _ _ _ _ _ _ (Ro.of_old h_x_key k hF) rfl hc_x_key (Ro.of_old h_x_salt k hF) rfl hc_x_salt (Ro.of_old h_x_personal k hF) rfl hc_x_personal (Ro.of_old h_x_root k hF) rfl hc_x_root kin _ h_r_) ?_
 rintro e_ w_ ⟨A0, _, c0, A4, _, c4, A5, _, c5, rfl, rfl, rfl, rfl, k_⟩
 have k_1 := hb w_ _ _ k_ (.c (.c (.c (.c (.c (.c .n))))))
 refine ⟨.b false, rfl, ?_⟩
 refine WL_nil <| At_go <| W_cond false (by kernel_rfl) (fun h => by cases h) (fun _ => ?_)
 refine W_skip <| At_go <| W_seq <| W_reg <| WLs 3 [] (.n 8 (.agg [I 1, I 64, .u32 4294967295, .u64 274877906944, .b false, sl A_x_key x_key.length c_x_key, sl A_x_salt x_salt.length c_x_salt, sl A_x_personal x_personal.length c_x_personal, pt g_x_n 0, sl (some ⟨g_x_root, 0, none⟩) x_root.length c_x_root, .u64 r_.2.2.2.2.2.2.2.2.2.2.2.1, .ar e8 r_.2.2.2.2.2.2.2.2.2.2.2.2.1, I r_.2.2.2.2.2.2.2.2.2.2.2.2.2, .v (.func (.func 38) ⟨SV.vals [pt g_x 0]⟩ ⟨SV.vals []⟩)]) (.ss .a)) (qs g_x 0 <| qT k_1 5 rfl 0 77 [I 1, I 64, .u32 4294967295, .u64 274877906944, .b false, sl A_x_key x_key.length c_x_key, sl A_x_salt x_salt.length c_x_salt, sl A_x_personal x_personal.length c_x_personal, pt g_x_n 0, sl (some ⟨g_x_root, 0, none⟩) x_root.length c_x_root, .u64 r_.2.2.2.2.2.2.2.2.2.2.2.1, .ar e8 r_.2.2.2.2.2.2.2.2.2.2.2.2.1, I r_.2.2.2.2.2.2.2.2.2.2.2.2.2, .v (.func (.func 38) ⟨SV.vals [pt g_x 0]⟩ ⟨SV.vals []⟩)] (by kernel_rfl) (by decide) <| qe) (by kernel_rfl) ?_
 refine WL_op <| Op_alloc [] 3 [I 0, I 0, .u32 0, .u64 0, .b false, sl none 0 0, sl none 0 0, sl none 0 0, .v (.pointer none), sl none 0 0, .u64 0, .ar e8 (Vec.rep 64 (0 : UInt8)), I 0, .v .nilFunc] (by kernel_rfl) k_1 ?_
 intro g0 w_1 k_2
 refine WL_op <| Op_b [] 6 (.agg [I 1, I 64, .u32 4294967295, .u64 274877906944, .b false, sl A_x_key x_key.length c_x_key, sl A_x_salt x_salt.length c_x_salt, sl A_x_personal x_personal.length c_x_personal, pt g_x_n 0, sl (some ⟨g_x_root, 0, none⟩) x_root.length c_x_root, .u64 r_.2.2.2.2.2.2.2.2.2.2.2.1, .ar e8 r_.2.2.2.2.2.2.2.2.2.2.2.2.1, I r_.2.2.2.2.2.2.2.2.2.2.2.2.2, .v (.func (.func 38) ⟨SV.vals [pt g_x 0]⟩ ⟨SV.vals []⟩)]) [I 1, I 64, .u32 4294967295, .u64 274877906944, .b false, sl A_x_key x_key.length c_x_key, sl A_x_salt x_salt.length c_x_salt, sl A_x_personal x_personal.length c_x_personal, pt g_x_n 0, sl (some ⟨g_x_root, 0, none⟩) x_root.length c_x_root, .u64 r_.2.2.2.2.2.2.2.2.2.2.2.1, .ar e8 r_.2.2.2.2.2.2.2.2.2.2.2.2.1, I r_.2.2.2.2.2.2.2.2.2.2.2.2.2, .v (.func (.func 38) ⟨SV.vals [pt g_x 0]⟩ ⟨SV.vals []⟩)] (Pt.at g0 0) k_2 rfl .all (by kernel_rfl) (by kernel_rfl) ?_
 intro w_2 k_3
 refine WL_nil <| At_go <| W_seq <| W_reg <| WLs 4 [] (.n 12 (pt g_x_n 0) (.k .z)) (qs g_x 0 <| qs g_x 0 <| qB k_3 5 rfl 8 (pt g_x_n 0) (by kernel_rfl) <| qe) (by kernel_rfl) ?_
 refine WL_op ?_
 obtain ⟨r_1, h_r_1, hm⟩ := ob hm
 have k_4 := ((((((k_3.pk (.t (.t (.t (.t (.t (.t .h))))))).pk (.t (.t (.t (.t (.t (.t .h))))))).pk (.t (.t (.t .h)))).pk (.t (.t (.t .h)))).pk (.t (.t (.t (.t (.t (.t .h))))))).pk (.t (.t (.t (.t (.t (.t .h))))))).pk (.t (.t (.t (.t (.t (.t .h))))))
 obtain ⟨F11, O11, kin1, hO1, hre1, hF1, hb1⟩ := k_4.go (.i (.i (.i (.i (.i (.r (.r .e)))))))
 refine Op_call [] 13 _ ds_go39 (by kernel_rfl) (c_node_Node_Copy (F := F11) (O := O11) _ _ _ _ _ _ _ _ _ _ _ _ _ _ _ _ _ _ _ _ _ _ kin1 _ h_r_1) ?_
 rintro e_ w_3 ⟨g3, A6, _, c6, A7, _, c7, g4, A8, _, c8, A9, _, c9, rfl, rfl, rfl, rfl, rfl, k_5⟩
 have k_6 := hb1 w_3 _ _ k_5 (.c (.c (.c (.c (.c (.c (.c (.c .n))))))))
 refine ⟨pt g3 0, rfl, ?_⟩
 refine WLs 1 [] (.n 14 (pt g0 8) (.k (.s .a))) (qs g0 0 <| qe) (by kernel_rfl) ?_
 refine WL_op ?_
 have k_7 := k_6.sel (.kkkk (.kkkk (.kk .e)))
 refine Op_b [] 9 (pt g3 0) [pt g3 0] (Pt.at g0 8) k_7 rfl (.kkkk (.kkkk .h)) (by kernel_rfl) (by kernel_rfl) ?_
 intro w_4 k_8
 refine WL_nil <| At_go <| W_seq <| W_reg <| WL_op ?_
 obtain ⟨r_2, h_r_2, hm⟩ := ob hm
 have k_9 := (((((((((k_8.pk (.t (.t (.t (.t (.t (.t .h))))))).pk (.t (.t (.t (.t (.t (.t .h))))))).pk (.t (.t (.t (.t (.t (.t (.t .h)))))))).pk (.t (.t (.t (.t (.t (.t (.t (.t .h))))))))).pk (.t (.t (.t (.t (.t (.t (.t (.t .h))))))))).pk (.t (.t (.t (.t (.t (.t (.t (.t .h))))))))).pk (.t (.t (.t (.t (.t (.t (.t (.t .h))))))))).pk (.t (.t (.t (.t (.t (.t (.t (.t .h))))))))).pk (.t (.t (.t (.t (.t (.t (.t (.t .h))))))))).pk (.t (.t (.t (.t (.t (.t (.t (.t (.t .h)))))))))
 obtain ⟨F12, O12, kin2, hO2, hre2, hF2, hb2⟩ := k_9.go (.i (.i (.i (.i (.i (.i (.i (.i (.i (.i .e))))))))))
 refine Op_call [] 15 _ ds_go40 (by kernel_rfl) (c_xof_bound_k_s1 (F := F12) (O := O12) _ _ _ _ _ _ _ _ _ _ _ _ _ _ _ _ _ _ _ _ _ _ _ _ _ _ _ _ _ _ _ _ _ _ _ _ _ _ _ _ _ _ _ _ _ _ _ _ _ _ _ _ _ _ _ _ _ _ _ _ _ _ _ _ _ _ _ _ _ _ _ _ _ _ _ _ (Ro.of_old h_x_key k_9 hF2) rfl hc_x_key (Ro.of_old h_x_salt k_9 hF2) rfl hc_x_salt (Ro.of_old h_x_personal k_9 hF2) rfl hc_x_personal (Ro.of_old h_x_root k_9 hF2) rfl hc_x_root (Ro.of_old h_x_key k_9 hF2) rfl hc_x_key (Ro.of_old h_x_salt k_9 hF2) rfl hc_x_salt (Ro.of_old h_x_personal k_9 hF2) rfl hc_x_personal (Ro.of_old h_x_root k_9 hF2) rfl hc_x_root kin2 _ h_r_2) ?_
 rintro e_ w_5 ⟨A10, _, c10, A11, _, c11, A12, _, c12, A13, _, c13, rfl, rfl, rfl, rfl, rfl, k_10⟩
 have k_11 := hb2 w_5 _ _ k_10 (.c (.c (.c (.c (.c (.c (.c (.c (.c (.c .n))))))))))
 refine ⟨pt g0 0, rfl, ?_⟩
 refine WLs 1 [] (.n 2 (pt g0 0) .z) qe (by kernel_rfl) ?_
 refine WL_nil <| At_go <| W_ret ?_
 obtain rfl := Option.some.inj hm
 refine At_rt [pt g0 0] qe (by kernel_rfl) ?_
 exact ⟨g0, g3, A10, r_2.2.2.1.length, c10, A11, r_2.2.2.2.1.length, c11, g4, A12, r_2.2.2.2.2.2.2.2.2.2.1.length, c12, A13, r_2.2.2.2.2.2.2.2.2.2.2.2.2.2.2.2.2.2.1.length, c13, k_11.len 2 rfl, k_11.len 3 rfl, k_11.len 5 rfl, k_11.len 7 rfl, rfl, k_11⟩

theorem c_xof_Stream_give_k_s1 {F O : Nat → Prop} {w : World} (x_key : List UInt8) (x_salt : List UInt8) (x_personal : List UInt8) (x_n_kind : Int) (x_n_digest : Int) (x_n_block : List UInt8) (x_n_key : List UInt8) (x_n_last : Bool) (x_n_written : UInt64) (x_n_e_h : Vec UInt64 8) (x_n_e_count_Lo : UInt64) (x_n_e_count_Hi : UInt64) (x_n_e_held : List UInt8) (x_n_e_block : Int) (x_root : List UInt8) (x_at : UInt64) (x_now : Vec UInt8 64) (x_have : Int) (g_x : Nat) (A_x_key : Option Addr) (n_x_key : Nat) (c_x_key : Nat) (A_x_salt : Option Addr) (n_x_salt : Nat) (c_x_salt : Nat) (A_x_personal : Option Addr) (n_x_personal : Nat) (c_x_personal : Nat) (g_x_n : Nat) (A_x_n_block : Option Addr) (n_x_n_block : Nat) (c_x_n_block : Nat) (A_x_n_key : Option Addr) (n_x_n_key : Nat) (c_x_n_key : Nat) (g_x_n_e : Nat) (A_x_n_e_held : Option Addr) (n_x_n_e_held : Nat) (c_x_n_e_held : Nat) (g_x_root : Nat) (n_x_root : Nat) (c_x_root : Nat) (h_x_key : Ro F w A_x_key (e8.all x_key)) (hn_x_key : x_key.length = n_x_key) (hc_x_key : n_x_key ≤ c_x_key) (h_x_salt : Ro F w A_x_salt (e8.all x_salt)) (hn_x_salt : x_salt.length = n_x_salt) (hc_x_salt : n_x_salt ≤ c_x_salt) (h_x_personal : Ro F w A_x_personal (e8.all x_personal)) (hn_x_personal : x_personal.length = n_x_personal) (hc_x_personal : n_x_personal ≤ c_x_personal) (h_x_root : Ro F w (some ⟨g_x_root, 0, none⟩) (e8.all x_root)) (hn_x_root : x_root.length = n_x_root) (hc_x_root : n_x_root ≤ c_x_root) (k : Cx F O w w [Bx 62 g_x [I 1, I 64, .u32 4294967295, .u64 274877906944, .b false, sl A_x_key n_x_key c_x_key, sl A_x_salt n_x_salt c_x_salt, sl A_x_personal n_x_personal c_x_personal, pt g_x_n 0, sl (some ⟨g_x_root, 0, none⟩) n_x_root c_x_root, .u64 x_at, .ar e8 x_now, I x_have, .v (.func (.func 38) ⟨SV.vals [pt g_x 0]⟩ ⟨SV.vals []⟩)], Bx 95 g_x_n [I x_n_kind, I x_n_digest, sl A_x_n_block n_x_n_block c_x_n_block, sl A_x_n_key n_x_n_key c_x_n_key, .b x_n_last, .u64 x_n_written, .v (.iface 115 (SV.val (pt g_x_n_e 0)))], Ow e8 A_x_n_block n_x_n_block c_x_n_block x_n_block, Ow e8 A_x_n_key n_x_n_key c_x_n_key x_n_key, Bx 121 g_x_n_e [.ar e64 x_n_e_h, .u64 x_n_e_count_Lo, .u64 x_n_e_count_Hi, sl A_x_n_e_held n_x_n_e_held c_x_n_e_held, I x_n_e_block, .v (.func (.func 64) ⟨SV.vals []⟩ ⟨SV.vals []⟩), .v (.func (.func 65) ⟨SV.vals []⟩ ⟨SV.vals []⟩)], Ow e8 A_x_n_e_held n_x_n_e_held c_x_n_e_held x_n_e_held]) (r : (Vec UInt64 8 × UInt64 × UInt64 × List UInt8 × Int × Int × Int × List UInt8 × List UInt8 × Bool × UInt64 × UInt64 × Vec UInt8 64 × Int)) (hm : m_xof_Stream_give_k_s1 x_key x_salt x_personal x_n_kind x_n_digest x_n_block x_n_key x_n_last x_n_written x_n_e_h x_n_e_count_Lo x_n_e_count_Hi x_n_e_held x_n_e_block x_root x_at x_now x_have = some r) :
    Calls Try.prog 23 (vals [pt g_x 0]) w (fun e w' => ∃ A n c A1 n1 c1 A2 n2 c2, r.2.2.2.1.length = n ∧ r.2.2.2.2.2.2.2.1.length = n1 ∧ r.2.2.2.2.2.2.2.2.1.length = n2 ∧ e = .returned (SV.val (.tup [])) ∧ Cx F O w w' [Bx 121 g_x_n_e [.ar e64 r.1, .u64 r.2.1, .u64 r.2.2.1, sl A n c, I r.2.2.2.2.1, .v (.func (.func 64) ⟨SV.vals []⟩ ⟨SV.vals []⟩), .v (.func (.func 65) ⟨SV.vals []⟩ ⟨SV.vals []⟩)], Ow e8 A n c r.2.2.2.1, Bx 95 g_x_n [I r.2.2.2.2.2.1, I r.2.2.2.2.2.2.1, sl A1 n1 c1, sl A2 n2 c2, .b r.2.2.2.2.2.2.2.2.2.1, .u64 r.2.2.2.2.2.2.2.2.2.2.1, .v (.iface 115 (SV.val (pt g_x_n_e 0)))], Ow e8 A1 n1 c1 r.2.2.2.2.2.2.2.1, Ow e8 A2 n2 c2 r.2.2.2.2.2.2.2.2.1, Bx 62 g_x [I 1, I 64, .u32 4294967295, .u64 274877906944, .b false, sl A_x_key n_x_key c_x_key, sl A_x_salt n_x_salt c_x_salt, sl A_x_personal n_x_personal c_x_personal, pt g_x_n 0, sl (some ⟨g_x_root, 0, none⟩) n_x_root c_x_root, .u64 r.2.2.2.2.2.2.2.2.2.2.2.1, .ar e8 r.2.2.2.2.2.2.2.2.2.2.2.2.1, I r.2.2.2.2.2.2.2.2.2.2.2.2.2, .v (.func (.func 38) ⟨SV.vals [pt g_x 0]⟩ ⟨SV.vals []⟩)]]) := by
 unfold m_xof_Stream_give_k_s1 at hm
 subst hn_x_key
 subst hn_x_salt
 subst hn_x_personal
 obtain rfl := k.len 2 rfl
 obtain rfl := k.len 3 rfl
 obtain rfl := k.len 5 rfl
 subst hn_x_root
 refine calls [pt g_x 0] Try.func23 rfl (of_decide_eq_true (by kernel_rfl)) ?_
 refine W_seq <| W_q [] (.n 6 (.b false) .a) (qs g_x 0 <| qs g_x 0 <| qB k 0 rfl 9 (sl (some ⟨g_x_root, 0, none⟩) x_root.length c_x_root) (by kernel_rfl) <| qe) (by kernel_rfl) ?_
 refine At_go <| W_cond false (by kernel_rfl) (fun h => by cases h) (fun _ => ?_)
 refine W_skip ?_
 obtain rfl := Option.some.inj hm
 refine At_en [] qe (by kernel_rfl) ?_
 have k_ := (((((k.pk .h).pk (.t (.t (.t .h)))).pk (.t (.t (.t .h)))).pk (.t (.t (.t .h)))).pk (.t (.t (.t (.t (.t .h)))))).pk (.t (.t (.t (.t (.t .h)))))
 exact ⟨A_x_n_e_held, x_n_e_held.length, c_x_n_e_held, A_x_n_block, x_n_block.length, c_x_n_block, A_x_n_key, x_n_key.length, c_x_n_key, k_.len 1 rfl, k_.len 3 rfl, k_.len 4 rfl, rfl, k_⟩

theorem c_xof_Stream_Read_k_s1 {F O : Nat → Prop} {w : World} (x_key : List UInt8) (x_salt : List UInt8) (x_personal : List UInt8) (x_n_kind : Int) (x_n_digest : Int) (x_n_block : List UInt8) (x_n_key : List UInt8) (x_n_last : Bool) (x_n_written : UInt64) (x_n_e_h : Vec UInt64 8) (x_n_e_count_Lo : UInt64) (x_n_e_count_Hi : UInt64) (x_n_e_held : List UInt8) (x_n_e_block : Int) (x_root : List UInt8) (x_at : UInt64) (x_now : Vec UInt8 64) (x_have : Int) (g_x : Nat) (A_x_key : Option Addr) (n_x_key : Nat) (c_x_key : Nat) (A_x_salt : Option Addr) (n_x_salt : Nat) (c_x_salt : Nat) (A_x_personal : Option Addr) (n_x_personal : Nat) (c_x_personal : Nat) (g_x_n : Nat) (A_x_n_block : Option Addr) (n_x_n_block : Nat) (c_x_n_block : Nat) (A_x_n_key : Option Addr) (n_x_n_key : Nat) (c_x_n_key : Nat) (g_x_n_e : Nat) (A_x_n_e_held : Option Addr) (n_x_n_e_held : Nat) (c_x_n_e_held : Nat) (g_x_root : Nat) (n_x_root : Nat) (c_x_root : Nat) (h_x_key : Ro F w A_x_key (e8.all x_key)) (hn_x_key : x_key.length = n_x_key) (hc_x_key : n_x_key ≤ c_x_key) (h_x_salt : Ro F w A_x_salt (e8.all x_salt)) (hn_x_salt : x_salt.length = n_x_salt) (hc_x_salt : n_x_salt ≤ c_x_salt) (h_x_personal : Ro F w A_x_personal (e8.all x_personal)) (hn_x_personal : x_personal.length = n_x_personal) (hc_x_personal : n_x_personal ≤ c_x_personal) (h_x_root : Ro F w (some ⟨g_x_root, 0, none⟩) (e8.all x_root)) (hn_x_root : x_root.length = n_x_root) (hc_x_root : n_x_root ≤ c_x_root) (k : Cx F O w w [Bx 62 g_x [I 1, I 64, .u32 4294967295, .u64 274877906944, .b false, sl A_x_key n_x_key c_x_key, sl A_x_salt n_x_salt c_x_salt, sl A_x_personal n_x_personal c_x_personal, pt g_x_n 0, sl (some ⟨g_x_root, 0, none⟩) n_x_root c_x_root, .u64 x_at, .ar e8 x_now, I x_have, .v (.func (.func 38) ⟨SV.vals [pt g_x 0]⟩ ⟨SV.vals []⟩)], Bx 95 g_x_n [I x_n_kind, I x_n_digest, sl A_x_n_block n_x_n_block c_x_n_block, sl A_x_n_key n_x_n_key c_x_n_key, .b x_n_last, .u64 x_n_written, .v (.iface 115 (SV.val (pt g_x_n_e 0)))], Ow e8 A_x_n_block n_x_n_block c_x_n_block x_n_block, Ow e8 A_x_n_key n_x_n_key c_x_n_key x_n_key, Bx 121 g_x_n_e [.ar e64 x_n_e_h, .u64 x_n_e_count_Lo, .u64 x_n_e_count_Hi, sl A_x_n_e_held n_x_n_e_held c_x_n_e_held, I x_n_e_block, .v (.func (.func 64) ⟨SV.vals []⟩ ⟨SV.vals []⟩), .v (.func (.func 65) ⟨SV.vals []⟩ ⟨SV.vals []⟩)], Ow e8 A_x_n_e_held n_x_n_e_held c_x_n_e_held x_n_e_held]) (r : (List UInt8 × Int × Vec UInt64 8 × UInt64 × UInt64 × List UInt8 × Int × Int × Int × List UInt8 × List UInt8 × Bool × UInt64 × UInt64 × Vec UInt8 64 × Int)) (hm : m_xof_Stream_Read_k_s1 x_key x_salt x_personal x_n_kind x_n_digest x_n_block x_n_key x_n_last x_n_written x_n_e_h x_n_e_count_Lo x_n_e_count_Hi x_n_e_held x_n_e_block x_root x_at x_now x_have = some r) :
    Calls Try.prog 26 (vals [pt g_x 0, I 8]) w (fun e w' => ∃ A n c A1 n1 c1 A2 n2 c2 A3 n3 c3, r.1.length = n ∧ r.2.2.2.2.2.1.length = n1 ∧ r.2.2.2.2.2.2.2.2.2.1.length = n2 ∧ r.2.2.2.2.2.2.2.2.2.2.1.length = n3 ∧ e = .returned (SV.val (.tup [sl A n c, I r.2.1])) ∧ Cx F O w w' [Ow e8 A n c r.1, Bx 121 g_x_n_e [.ar e64 r.2.2.1, .u64 r.2.2.2.1, .u64 r.2.2.2.2.1, sl A1 n1 c1, I r.2.2.2.2.2.2.1, .v (.func (.func 64) ⟨SV.vals []⟩ ⟨SV.vals []⟩), .v (.func (.func 65) ⟨SV.vals []⟩ ⟨SV.vals []⟩)], Ow e8 A1 n1 c1 r.2.2.2.2.2.1, Bx 95 g_x_n [I r.2.2.2.2.2.2.2.1, I r.2.2.2.2.2.2.2.2.1, sl A2 n2 c2, sl A3 n3 c3, .b r.2.2.2.2.2.2.2.2.2.2.2.1, .u64 r.2.2.2.2.2.2.2.2.2.2.2.2.1, .v (.iface 115 (SV.val (pt g_x_n_e 0)))], Ow e8 A2 n2 c2 r.2.2.2.2.2.2.2.2.2.1, Ow e8 A3 n3 c3 r.2.2.2.2.2.2.2.2.2.2.1, Bx 62 g_x [I 1, I 64, .u32 4294967295, .u64 274877906944, .b false, sl A_x_key n_x_key c_x_key, sl A_x_salt n_x_salt c_x_salt, sl A_x_personal n_x_personal c_x_personal, pt g_x_n 0, sl (some ⟨g_x_root, 0, none⟩) n_x_root c_x_root, .u64 r.2.2.2.2.2.2.2.2.2.2.2.2.2.1, .ar e8 r.2.2.2.2.2.2.2.2.2.2.2.2.2.2.1, I r.2.2.2.2.2.2.2.2.2.2.2.2.2.2.2, .v (.func (.func 38) ⟨SV.vals [pt g_x 0]⟩ ⟨SV.vals []⟩)]]) := by
 unfold m_xof_Stream_Read_k_s1 at hm
 subst hn_x_key
 subst hn_x_salt
 subst hn_x_personal
 obtain rfl := k.len 2 rfl
 obtain rfl := k.len 3 rfl
 obtain rfl := k.len 5 rfl
 subst hn_x_root
 refine calls [pt g_x 0, I 8] Try.func26 rfl (of_decide_eq_true (by kernel_rfl)) ?_
 refine W_seq <| W_q [] .a qe (by kernel_rfl) ?_
 refine At_go <| W_seq <| W_seq <| W_reg <| WLs 1 [] (.n 11 (pt g_x 0) .a) qe (by kernel_rfl) ?_
 refine WL_op ?_
 obtain ⟨r_, h_r_, hm⟩ := ob hm
 obtain ⟨F1, O1, kin, hO, hre, hF, hb⟩ := k.go (.i (.i (.i (.i (.i (.i .e))))))
 refine Op_call [] 12 _ ds_go22 (by kernel_rfl) (c_xof_Stream_none_k_s1 (F := F1) (O := O1) _ _ _ _ _ _ _ _ _ _ _ _ _ _ _ _ _ _ _ _ _ _ _ _ _ _ _ _ _ _ _ _ _ _ _ _ _ _ _ _ _ _ (Ro.of_old h_x_key k hF) rfl hc_x_key (Ro.of_old h_x_salt k hF) rfl hc_x_salt (Ro.of_old h_x_personal k hF) rfl hc_x_personal (Ro.of_old h_x_root k hF) rfl hc_x_root kin _ h_r_) ?_
 rintro e_ w_ ⟨A0, _, c0, A4, _, c4, A5, _, c5, rfl, rfl, rfl, rfl, k_⟩
 have k_1 := hb w_ _ _ k_ (.c (.c (.c (.c (.c (.c .n))))))
 refine ⟨.b false, rfl, ?_⟩
 refine WL_nil <| At_go <| W_cond false (by kernel_rfl) (fun h => by cases h) (fun _ => ?_)
 refine W_skip <| At_go <| W_seq <| W_seq <| W_q [15] (.n 18 (.b false) (.ss .a)) qe (by kernel_rfl) ?_
 refine At_go <| W_cond false (by kernel_rfl) (fun h => by cases h) (fun _ => ?_)
 refine W_skip <| At_go <| W_seq <| W_reg <| WLs 1 [] (.n 19 (pt g_x 0) (.s .a)) qe (by kernel_rfl) ?_
 refine WL_op ?_
 obtain ⟨r_1, h_r_1, hm⟩ := ob hm
 have k_2 := (((((k_1.pk (.t .h)).pk (.t .h)).pk (.t (.t (.t (.t .h))))).pk (.t (.t (.t (.t .h))))).pk (.t (.t (.t (.t .h))))).pk (.t (.t (.t (.t (.t .h)))))
 obtain ⟨F11, O11, kin1, hO1, hre1, hF1, hb1⟩ := k_2.go (.i (.i (.i (.i (.i (.i .e))))))
 refine Op_call [] 20 _ ds_go23 (by kernel_rfl) (c_xof_Stream_give_k_s1 (F := F11) (O := O11) _ _ _ _ _ _ _ _ _ _ _ _ _ _ _ _ _ _ _ _ _ _ _ _ _ _ _ _ _ _ _ _ _ _ _ _ _ _ _ _ _ _ (Ro.of_old h_x_key k_2 hF1) rfl hc_x_key (Ro.of_old h_x_salt k_2 hF1) rfl hc_x_salt (Ro.of_old h_x_personal k_2 hF1) rfl hc_x_personal (Ro.of_old h_x_root k_2 hF1) rfl hc_x_root kin1 _ h_r_1) ?_
 rintro e_ w_1 ⟨A6, _, c6, A7, _, c7, A8, _, c8, rfl, rfl, rfl, rfl, k_3⟩
 have k_4 := hb1 w_1 _ _ k_3 (.c (.c (.c (.c (.c (.c .n))))))
 refine ⟨.tup [], rfl, ?_⟩
 refine WL_nil <| At_go <| W_seq <| W_d ds_mixed (by kernel_rfl) (.n 6 (.u64 ((274877906944 : UInt64) - r_1.2.2.2.2.2.2.2.2.2.2.2.1)) (.ss .a)) (fun m => qs g_x 0 <| qs g_x 0 <| qs g_x 0 <| qB (k_4.drew m) 5 rfl 3 (.u64 274877906944) (by kernel_rfl) <| qs g_x 0 <| qs g_x 0 <| qB (k_4.drew m) 5 rfl 10 (.u64 r_1.2.2.2.2.2.2.2.2.2.2.2.1) (by kernel_rfl) <| qe) (by kernel_rfl) (fun m_ => ?_)
 have k_5 := k_4.drew m_
 refine At_go <| W_seq <| W_seq <| W_q [33] (.n 36 (.b (decide (((274877906944 : UInt64) - r_1.2.2.2.2.2.2.2.2.2.2.2.1) = 0))) .a) qe (by kernel_rfl) ?_
 refine At_go <| W_condp (((274877906944 : UInt64) - r_1.2.2.2.2.2.2.2.2.2.2.2.1) = 0) (by kernel_rfl) (fun hc => ?_) (fun hc => ?_)
 · rw [if_pos hc] at hm
   refine W_seq <| W_q [] (.n 4 (sl none 0 0) (.n 5 (I 70) .z)) qe (by kernel_rfl) ?_
   refine At_go <| W_ret (At_tr ?_)
   have k_6 := k_5.nil e8
   obtain rfl := Option.some.inj hm
   refine At_rt [sl none 0 0, I 70] qe (by kernel_rfl) ?_
   have k_7 := ((((((k_6.pk (.t (.t (.t (.t (.t .h)))))).pk (.t (.t (.t (.t (.t .h)))))).pk (.t (.t (.t (.t (.t .h)))))).pk (.t (.t (.t (.t (.t .h)))))).pk (.t (.t (.t (.t (.t .h)))))).pk (.t (.t (.t (.t (.t .h)))))).pk (.t (.t (.t (.t (.t (.t .h))))))
   exact ⟨none, 0, 0, A6, r_1.2.2.2.1.length, c6, A7, r_1.2.2.2.2.2.2.2.1.length, c7, A8, r_1.2.2.2.2.2.2.2.2.1.length, c8, k_7.len 0 rfl, k_7.len 2 rfl, k_7.len 4 rfl, k_7.len 5 rfl, rfl, k_7⟩
 rw [if_neg hc] at hm
 refine W_skip <| At_go <| W_cut (fun L wr => ∃ (n0 : Int), m_xof_Stream_Read_k_s1_j0 x_salt x_personal x_root r_1 n0 = some r ∧ L = [(0, pt g_x 0), (1, I n0)] ∧ Cx F O w wr [Bx 62 g_x [I 1, I 64, .u32 4294967295, .u64 274877906944, .b false, sl A_x_key x_key.length c_x_key, sl A_x_salt x_salt.length c_x_salt, sl A_x_personal x_personal.length c_x_personal, pt g_x_n 0, sl (some ⟨g_x_root, 0, none⟩) x_root.length c_x_root, .u64 r_1.2.2.2.2.2.2.2.2.2.2.2.1, .ar e8 r_1.2.2.2.2.2.2.2.2.2.2.2.2.1, I r_1.2.2.2.2.2.2.2.2.2.2.2.2.2, .v (.func (.func 38) ⟨SV.vals [pt g_x 0]⟩ ⟨SV.vals []⟩)], Bx 95 g_x_n [I r_1.2.2.2.2.2.1, I r_1.2.2.2.2.2.2.1, sl A7 r_1.2.2.2.2.2.2.2.1.length c7, sl A8 r_1.2.2.2.2.2.2.2.2.1.length c8, .b r_1.2.2.2.2.2.2.2.2.2.1, .u64 r_1.2.2.2.2.2.2.2.2.2.2.1, .v (.iface 115 (SV.val (pt g_x_n_e 0)))], Ow e8 A7 r_1.2.2.2.2.2.2.2.1.length c7 r_1.2.2.2.2.2.2.2.1, Ow e8 A8 r_1.2.2.2.2.2.2.2.2.1.length c8 r_1.2.2.2.2.2.2.2.2.1, Bx 121 g_x_n_e [.ar e64 r_1.1, .u64 r_1.2.1, .u64 r_1.2.2.1, sl A6 r_1.2.2.2.1.length c6, I r_1.2.2.2.2.1, .v (.func (.func 64) ⟨SV.vals []⟩ ⟨SV.vals []⟩), .v (.func (.func 65) ⟨SV.vals []⟩ ⟨SV.vals []⟩)], Ow e8 A6 r_1.2.2.2.1.length c6 r_1.2.2.2.1]) ?_ ?_
 ·
  refine W_seq <| W_q [] (.n 40 (.b (decide (((274877906944 : UInt64) - r_1.2.2.2.2.2.2.2.2.2.2.2.1) < (8 : UInt64)))) (.s .a)) qe (by kernel_rfl) ?_
  refine At_go <| W_condp (((274877906944 : UInt64) - r_1.2.2.2.2.2.2.2.2.2.2.2.1) < (8 : UInt64)) (by kernel_rfl) (fun hc1 => ?_) (fun hc1 => ?_)
  · rw [if_pos hc1] at hm
    refine W_q [] (.n 1 (I (w64 ((274877906944 : UInt64) - r_1.2.2.2.2.2.2.2.2.2.2.2.1).toNat)) (.ss (.k .z))) qe (by kernel_rfl) ?_
    have k_8 := (((((k_5.pk (.t .h)).pk (.t .h)).pk (.t (.t (.t (.t .h))))).pk (.t (.t (.t (.t .h))))).pk (.t (.t (.t (.t .h))))).pk (.t (.t (.t (.t (.t .h)))))
    exact At_c ⟨w64 ((274877906944 : UInt64) - r_1.2.2.2.2.2.2.2.2.2.2.2.1).toNat, hm, rfl, k_8⟩ (by kernel_rfl)
  rw [if_neg hc1] at hm
  refine W_skip ?_
  have k_9 := (((((k_5.pk (.t .h)).pk (.t .h)).pk (.t (.t (.t (.t .h))))).pk (.t (.t (.t (.t .h))))).pk (.t (.t (.t (.t .h))))).pk (.t (.t (.t (.t (.t .h)))))
  exact At_c ⟨(8 : Int), hm, rfl, k_9⟩ (by kernel_rfl)
 rintro L_ w_2 ⟨n0, hm, rfl, k_10⟩
 simp only [m_xof_Stream_Read_k_s1_j0] at hm
 refine W_seq <| W_q [] (.n 7 (sl none 0 0) .a) qe (by kernel_rfl) ?_
 refine At_go <| W_seq <| W_block ?_
 have k_12 := k_10.nil e8
 refine W_lp (m_xof_Stream_Read_k_s1_l0 x_salt x_personal x_root r_1 n0) (fun s L wr => ∃ (x_0 : UInt64) (x_16 : Vec UInt8 64) (x_17 : Int) (out : List UInt8) (A9 : Option Addr) (n4 : Nat) (c9 : Nat), (x_0, x_16, x_17, out) = s ∧ L = [(0, pt g_x 0), (1, I n0), (7, sl A9 n4 c9)] ∧ out.length = n4 ∧ Cx F O w wr [Bx 62 g_x [I 1, I 64, .u32 4294967295, .u64 274877906944, .b false, sl A_x_key x_key.length c_x_key, sl A_x_salt x_salt.length c_x_salt, sl A_x_personal x_personal.length c_x_personal, pt g_x_n 0, sl (some ⟨g_x_root, 0, none⟩) x_root.length c_x_root, .u64 x_0, .ar e8 x_16, I x_17, .v (.func (.func 38) ⟨SV.vals [pt g_x 0]⟩ ⟨SV.vals []⟩)], Bx 95 g_x_n [I r_1.2.2.2.2.2.1, I r_1.2.2.2.2.2.2.1, sl A7 r_1.2.2.2.2.2.2.2.1.length c7, sl A8 r_1.2.2.2.2.2.2.2.2.1.length c8, .b r_1.2.2.2.2.2.2.2.2.2.1, .u64 r_1.2.2.2.2.2.2.2.2.2.2.1, .v (.iface 115 (SV.val (pt g_x_n_e 0)))], Ow e8 A7 r_1.2.2.2.2.2.2.2.1.length c7 r_1.2.2.2.2.2.2.2.1, Ow e8 A8 r_1.2.2.2.2.2.2.2.2.1.length c8 r_1.2.2.2.2.2.2.2.2.1, Bx 121 g_x_n_e [.ar e64 r_1.1, .u64 r_1.2.1, .u64 r_1.2.2.1, sl A6 r_1.2.2.2.1.length c6, I r_1.2.2.2.2.1, .v (.func (.func 64) ⟨SV.vals []⟩ ⟨SV.vals []⟩), .v (.func (.func 65) ⟨SV.vals []⟩ ⟨SV.vals []⟩)], Ow e8 A6 r_1.2.2.2.1.length c6 r_1.2.2.2.1, Ow e8 A9 n4 c9 out]) (r_1.2.2.2.2.2.2.2.2.2.2.2.1, r_1.2.2.2.2.2.2.2.2.2.2.2.2.1, r_1.2.2.2.2.2.2.2.2.2.2.2.2.2, ([] : List UInt8)) r hm ⟨r_1.2.2.2.2.2.2.2.2.2.2.2.1, r_1.2.2.2.2.2.2.2.2.2.2.2.2.1, r_1.2.2.2.2.2.2.2.2.2.2.2.2.2, ([] : List UInt8), none, 0, 0, rfl, rfl, k_12.len 6 rfl, k_12⟩ (by kernel_rfl) ?_
 intro s0_ L_ w_3 y0 hrel hstep hr0
 obtain ⟨x_0, x_16, x_17, out, A9, _, c9, rfl, rfl, rfl, k_11⟩ := hrel
 have hm := hstep; simp only [m_xof_Stream_Read_k_s1_l0] at hm
 clear hstep
 refine W_seq <| W_seq <| W_q [] (.n 46 (.b (decide (((out.length : Nat) : Int) < n0))) .a) qe (by kernel_rfl) ?_
 refine At_go <| W_condp (((out.length : Nat) : Int) < n0) (by kernel_rfl) (fun hc2 => ?_) (fun hc2 => ?_)
 · rw [if_pos hc2] at hm
   refine W_skip <| At_go <| W_block <| W_seq <| W_d ds_mixed (by kernel_rfl) (.n 8 (.u64 (x_0 / 64)) (.s .a)) (fun m => qs g_x 0 <| qs g_x 0 <| qB (k_11.drew m) 0 rfl 10 (.u64 x_0) (by kernel_rfl) <| qs g_x 0 <| qs g_x 0 <| qs g_x 0 <| qB (k_11.drew m) 0 rfl 1 (I 64) (by kernel_rfl) <| qp ((64 : UInt64) ≠ 0) (by show (64 : UInt64) ≠ 0; decide) <| qe) (by kernel_rfl) (fun m_1 => ?_)
   have k_13 := k_11.drew m_1
   refine At_go <| W_cut (fun L wr => ∃ (x_18 : Vec UInt8 64) (x_19 : Int), m_xof_Stream_Read_k_s1_j1 n0 x_0 out x_18 x_19 = some y0 ∧ L = [(0, pt g_x 0), (1, I n0), (7, sl A9 out.length c9)] ∧ Cx F O w wr [Bx 62 g_x [I 1, I 64, .u32 4294967295, .u64 274877906944, .b false, sl A_x_key x_key.length c_x_key, sl A_x_salt x_salt.length c_x_salt, sl A_x_personal x_personal.length c_x_personal, pt g_x_n 0, sl (some ⟨g_x_root, 0, none⟩) x_root.length c_x_root, .u64 x_0, .ar e8 x_18, I x_19, .v (.func (.func 38) ⟨SV.vals [pt g_x 0]⟩ ⟨SV.vals []⟩)], Bx 95 g_x_n [I r_1.2.2.2.2.2.1, I r_1.2.2.2.2.2.2.1, sl A7 r_1.2.2.2.2.2.2.2.1.length c7, sl A8 r_1.2.2.2.2.2.2.2.2.1.length c8, .b r_1.2.2.2.2.2.2.2.2.2.1, .u64 r_1.2.2.2.2.2.2.2.2.2.2.1, .v (.iface 115 (SV.val (pt g_x_n_e 0)))], Ow e8 A7 r_1.2.2.2.2.2.2.2.1.length c7 r_1.2.2.2.2.2.2.2.1, Ow e8 A8 r_1.2.2.2.2.2.2.2.2.1.length c8 r_1.2.2.2.2.2.2.2.2.1, Bx 121 g_x_n_e [.ar e64 r_1.1, .u64 r_1.2.1, .u64 r_1.2.2.1, sl A6 r_1.2.2.2.1.length c6, I r_1.2.2.2.2.1, .v (.func (.func 64) ⟨SV.vals []⟩ ⟨SV.vals []⟩), .v (.func (.func 65) ⟨SV.vals []⟩ ⟨SV.vals []⟩)], Ow e8 A6 r_1.2.2.2.1.length c6 r_1.2.2.2.1, Ow e8 A9 out.length c9 out]) ?_ ?_
   ·
    refine W_seq <| W_q [] (.n 64 (.b (decide (x_17 ≠ (w64 (x_0 / 64).toNat)))) .a) (qs g_x 0 <| qs g_x 0 <| qB k_13 0 rfl 75 (I x_17) (by kernel_rfl) <| qe) (by kernel_rfl) ?_
    refine At_go <| W_condp (x_17 ≠ (w64 (x_0 / 64).toNat)) (by kernel_rfl) (fun hc3 => ?_) (fun hc3 => ?_)
    · rw [if_pos hc3] at hm
      refine W_seq ?_
      have k_14 := k_13.drew 1
      refine W_m ds_mixed (.q 20 1 (.q 0 2 (.q 1 2 (.q 2 2 (.q 3 1 (.q 4 2 (.q 5 2 (.q 6 2 (.q 7 1 (.q 8 2 (.q 9 2 (.q 10 2 (.q 11 1 (.q 12 2 (.q 13 2 (.q 14 2 (.q 15 1 (.q 16 2 (.q 17 2 (.q 18 2 (.q 19 1 (.op 21 (.op 22 .nil))))))))))))))))))))))) [21, 22] k_14 (.c (.kkkk (.kk (.k .e))) (.c (.s (.kkkk (.kk .e))) .l)) (by kernel_rfl) (fun _ => ?_)
      refine MXq 1 1 [] (.n 85 (.u64 (x_0 / 64)) (.s .a)) (fun x hx => qe) (by kernel_rfl) (fun _ => ?_)
      refine MXq 3 2 [] (.n 67 (pt g_x 11) .a) (fun x hx => qs g_x 0 <| qs g_x 0 <| qe) (by kernel_rfl) (fun _ => ?_)
      refine MXq 1 1 [] (.n 68 (sl (some ⟨g_x, 11, none⟩) 64 64) (.s .a)) (fun x hx => qo (.v (.slice (some ⟨g_x, 11, none⟩) 64 64)) <| qp (((some ⟨g_x, 11, none⟩) : Option Addr).isSome = true ∧ Value.slice (slA (some ⟨g_x, 11, none⟩) 0 64 1) (64 - 0) (64 - 0) = .slice (some ⟨g_x, 11, none⟩) 64 64) ⟨rfl, slx0 _ _ _ _ _ rfl⟩ <| qe) (by kernel_rfl) (fun _ => ?_)
      refine MXq 3 2 [] (.n 71 (pt g_x 0) .a) (fun x hx => qs g_x 0 <| qs g_x 0 <| qe) (by kernel_rfl) (fun _ => ?_)
      refine MXq 1 1 [] (.n 72 (.agg [I 1, I 64, .u32 4294967295, .u64 274877906944, .b false]) (.s .a)) (fun x hx => qT hx 0 rfl 0 5 [I 1, I 64, .u32 4294967295, .u64 274877906944, .b false] (by kernel_rfl) (by decide) <| qe) (by kernel_rfl) (fun _ => ?_)
      refine MXq 3 2 [] (.n 75 (pt g_x 6) .a) (fun x hx => qs g_x 0 <| qs g_x 0 <| qe) (by kernel_rfl) (fun _ => ?_)
      refine MXq 1 1 [] (.n 76 (sl A_x_salt x_salt.length c_x_salt) (.s .a)) (fun x hx => qB hx 0 rfl 6 (sl A_x_salt x_salt.length c_x_salt) (by kernel_rfl) <| qe) (by kernel_rfl) (fun _ => ?_)
      refine MXq 3 2 [] (.n 79 (pt g_x 7) .a) (fun x hx => qs g_x 0 <| qs g_x 0 <| qe) (by kernel_rfl) (fun _ => ?_)
      refine MXq 1 1 [] (.n 80 (sl A_x_personal x_personal.length c_x_personal) (.s .a)) (fun x hx => qB hx 0 rfl 7 (sl A_x_personal x_personal.length c_x_personal) (by kernel_rfl) <| qe) (by kernel_rfl) (fun _ => ?_)
      refine MXq 3 2 [] (.n 83 (pt g_x 9) .a) (fun x hx => qs g_x 0 <| qs g_x 0 <| qe) (by kernel_rfl) (fun _ => ?_)
      refine MXq 1 1 [] (.n 84 (sl (some ⟨g_x_root, 0, none⟩) x_root.length c_x_root) (.s .a)) (fun x hx => qB hx 0 rfl 9 (sl (some ⟨g_x_root, 0, none⟩) x_root.length c_x_root) (by kernel_rfl) <| qe) (by kernel_rfl) (fun _ => ?_)
      refine MX_op (by kernel_rfl) rfl ?_
      obtain ⟨r_2, h_r_2, hm⟩ := ob hm
      refine Op_call [] 86 _ ds_go41 (by kernel_rfl) (c_xof_shape_piece_k (F := N0) (O := N0) _ _ _ _ _ _ _ _ _ _ _ _ _ (Ro.n0 (h_x_salt.cx k_14)) rfl hc_x_salt (Ro.n0 (h_x_personal.cx k_14)) rfl hc_x_personal (Ro.n0 (h_x_root.cx k_14)) rfl hc_x_root (Cx.refl _) _ h_r_2) ?_
      rintro e_ w_4 ⟨A10, _, c10, rfl, rfl, k_15⟩
      have k_16 := k_14.call k_15
      refine ⟨sl A10 r_2.length c10, rfl, ?_⟩
      refine ⟨(k_16.sel (.kkkk (.kk (.k .z)))), fun _ => ?_⟩
      refine MX_op (by kernel_rfl) rfl <| Op_vcp (E := e8) (dn := 64) (dc := 64) (v := sl A10 r_2.length c10) (src := r_2) (lo := 0) (m' := 64) ds_tf22 [] 87 0 [I 1, I 64, .u32 4294967295, .u64 274877906944, .b false, sl A_x_key x_key.length c_x_key, sl A_x_salt x_salt.length c_x_salt, sl A_x_personal x_personal.length c_x_personal, pt g_x_n 0, sl (some ⟨g_x_root, 0, none⟩) x_root.length c_x_root, .u64 x_0] [I x_17, .v (.func (.func 38) ⟨SV.vals [pt g_x 0]⟩ ⟨SV.vals []⟩)] x_16 (by kernel_rfl) (slA_zero _ _ _).symm k_16 rfl (Src.sl (k_16.rd 7 rfl) (k_16.len 7 rfl) (by rfl)) (k_16.len 7 rfl) (by have := x_16.h; omega) (by omega) (by omega) ?_
      intro w_5 k_17
      refine ⟨(k_17.sel (.s (.kkkk (.kk .z)))), fun _ => ?_⟩
      refine MX_nil <| At_go <| W_reg <| WLs 5 [] (.n 90 (I (w64 (x_0 / 64).toNat)) (.n 92 (pt g_x 75) (.ssss (.ssss (.s .a))))) (qs g_x 0 <| qs g_x 0 <| qe) (by kernel_rfl) ?_
      refine WL_op <| Op_b [] 0 (I (w64 (x_0 / 64).toNat)) [I (w64 (x_0 / 64).toNat)] (Pt.at g_x 75) k_17 rfl (.kkkk (.kkkk (.kkkk .h))) (by kernel_rfl) (by kernel_rfl) ?_
      intro w_6 k_18
      have k_19 := k_18.sel (.kkkk (.kk (.k .z)))
      refine WL_nil ?_
      exact At_c ⟨(vcp x_16 0 64 r_2), w64 (x_0 / 64).toNat, hm, rfl, k_19⟩ (by kernel_rfl)
    rw [if_neg hc3] at hm
    refine W_skip ?_
    exact At_c ⟨x_16, x_17, hm, rfl, k_13⟩ (by kernel_rfl)
   rintro L_ w_7 ⟨x_18, x_19, hm, rfl, k_20⟩
   simp only [m_xof_Stream_Read_k_s1_j1] at hm
   refine W_seq <| W_d ds_mixed (by kernel_rfl) (.n 9 (I (w64 (x_0 % 64).toNat)) .a) (fun m => qs g_x 0 <| qs g_x 0 <| qB (k_20.drew m) 0 rfl 10 (.u64 x_0) (by kernel_rfl) <| qs g_x 0 <| qs g_x 0 <| qs g_x 0 <| qB (k_20.drew m) 0 rfl 1 (I 64) (by kernel_rfl) <| qp ((64 : UInt64) ≠ 0) (by show (64 : UInt64) ≠ 0; decide) <| qe) (by kernel_rfl) (fun m_2 => ?_)
   have k_21 := k_20.drew m_2
   refine At_go <| W_seq <| W_q [] (.n 10 (I (if w64 (64 - (w64 (x_0 % 64).toNat)) < w64 (n0 - ((out.length : Nat) : Int)) then w64 (64 - (w64 (x_0 % 64).toNat)) else w64 (n0 - ((out.length : Nat) : Int)))) .a) (qs g_x 0 <| qs g_x 0 <| qs g_x 0 <| qB k_21 0 rfl 1 (I 64) (by kernel_rfl) <| qe) (by kernel_rfl) ?_
   refine At_go <| W_seq <| W_reg ?_
   obtain ⟨b, h_b, hm⟩ := ob hm
   have hs := slc_some h_b
   have hl := slc_len h_b
   have hn : x_18.l.length = 64 := x_18.h
   have hc4 : 64 ≤ 64 := (Nat.le_refl _)
   obtain ⟨A11, c11, e_, hc5, hA, hc6⟩ := slx (some ⟨g_x, 11, none⟩) (Int.toNat (w64 (x_0 % 64).toNat)) 64 1 (Int.toNat (w64 ((w64 (x_0 % 64).toNat) + (if w64 (64 - (w64 (x_0 % 64).toNat)) < w64 (n0 - ((out.length : Nat) : Int)) then w64 (64 - (w64 (x_0 % 64).toNat)) else w64 (n0 - ((out.length : Nat) : Int))))) - Int.toNat (w64 (x_0 % 64).toNat)) b.length (by omega) (by omega)
   refine WLs 9 [] (.n 117 (sl A9 out.length c9) (.n 125 (sl A11 b.length c11) (.k (.s .a)))) (qs g_x 0 <| qs g_x 0 <| qp (0 ≤ w64 ((w64 (x_0 % 64).toNat) + (if w64 (64 - (w64 (x_0 % 64).toNat)) < w64 (n0 - ((out.length : Nat) : Int)) then w64 (64 - (w64 (x_0 % 64).toNat)) else w64 (n0 - ((out.length : Nat) : Int)))) ∧ w64 ((w64 (x_0 % 64).toNat) + (if w64 (64 - (w64 (x_0 % 64).toNat)) < w64 (n0 - ((out.length : Nat) : Int)) then w64 (64 - (w64 (x_0 % 64).toNat)) else w64 (n0 - ((out.length : Nat) : Int)))) ≤ ((64 : Nat) : Int)) (by omega) <| qp (0 ≤ w64 (x_0 % 64).toNat ∧ w64 (x_0 % 64).toNat ≤ ((Int.toNat (w64 ((w64 (x_0 % 64).toNat) + (if w64 (64 - (w64 (x_0 % 64).toNat)) < w64 (n0 - ((out.length : Nat) : Int)) then w64 (64 - (w64 (x_0 % 64).toNat)) else w64 (n0 - ((out.length : Nat) : Int))))) : Nat) : Int)) (by omega) <| qo (.v (.slice A11 b.length c11)) <| qp (((some ⟨g_x, 11, none⟩) : Option Addr).isSome = true ∧ Value.slice (slA (some ⟨g_x, 11, none⟩) (Int.toNat (w64 (x_0 % 64).toNat)) 64 1) (Int.toNat (w64 ((w64 (x_0 % 64).toNat) + (if w64 (64 - (w64 (x_0 % 64).toNat)) < w64 (n0 - ((out.length : Nat) : Int)) then w64 (64 - (w64 (x_0 % 64).toNat)) else w64 (n0 - ((out.length : Nat) : Int))))) - Int.toNat (w64 (x_0 % 64).toNat)) (64 - Int.toNat (w64 (x_0 % 64).toNat)) = .slice A11 b.length c11) ⟨rfl, e_⟩ <| qe) (by kernel_rfl) ?_
   refine WL_op ?_
   obtain ⟨out1, h_out1, hm⟩ := ob hm
   obtain ⟨hz, hl1⟩ := app_some h_out1
   refine Op_append (E := e8) (v := sl A11 b.length c11) (ys := b) ds_tf22 [] 126 6 (by kernel_rfl) k_21 rfl (Src.sl (Rd.cut (Rd.vec (k_21.brd 0 rfl) (c := Enc.all e8 x_18.l) (off := 11) (by kernel_rfl)) h_b rfl (by rfl) hA (by omega)) rfl (by rfl)) rfl (by have := k_21.len 6 rfl; have := hm; omega) ?_
   intro A12 c12 w_8 k_22
   rw [← hl1] at k_22
   refine WLs 1 [] (.n 7 (sl A12 (out.length + b.length) c12) (.sss (.kkk .z))) qe (by kernel_rfl) ?_
   refine WL_nil <| At_go <| W_reg <| WLs 9 [] (.n 133 (.u64 (x_0 + (UInt64.ofInt (if w64 (64 - (w64 (x_0 % 64).toNat)) < w64 (n0 - ((out.length : Nat) : Int)) then w64 (64 - (w64 (x_0 % 64).toNat)) else w64 (n0 - ((out.length : Nat) : Int)))))) (.n 135 (pt g_x 10) (.k (.s .a)))) (qs g_x 0 <| qs g_x 0 <| qB k_22 0 rfl 10 (.u64 x_0) (by kernel_rfl) <| qs g_x 0 <| qs g_x 0 <| qe) (by kernel_rfl) ?_
   refine WL_op <| Op_b [] 0 (.u64 (x_0 + (UInt64.ofInt (if w64 (64 - (w64 (x_0 % 64).toNat)) < w64 (n0 - ((out.length : Nat) : Int)) then w64 (64 - (w64 (x_0 % 64).toNat)) else w64 (n0 - ((out.length : Nat) : Int)))))) [.u64 (x_0 + (UInt64.ofInt (if w64 (64 - (w64 (x_0 % 64).toNat)) < w64 (n0 - ((out.length : Nat) : Int)) then w64 (64 - (w64 (x_0 % 64).toNat)) else w64 (n0 - ((out.length : Nat) : Int)))))] (Pt.at g_x 10) k_22 rfl (.kkkk (.kkkk (.kk .h))) (by kernel_rfl) (by kernel_rfl) ?_
   intro w_9 k_23
   refine WL_nil <| At_in ?_
   exact At_rd (x_0 + (UInt64.ofInt (if w64 (64 - (w64 (x_0 % 64).toNat)) < w64 (n0 - ((out.length : Nat) : Int)) then w64 (64 - (w64 (x_0 % 64).toNat)) else w64 (n0 - ((out.length : Nat) : Int)))), x_18, x_19, out1) (Option.some.inj hm).symm ⟨x_0 + (UInt64.ofInt (if w64 (64 - (w64 (x_0 % 64).toNat)) < w64 (n0 - ((out.length : Nat) : Int)) then w64 (64 - (w64 (x_0 % 64).toNat)) else w64 (n0 - ((out.length : Nat) : Int)))), x_18, x_19, out1, A12, out.length + b.length, c12, rfl, rfl, k_23.len 6 rfl, k_23⟩ (by kernel_rfl)
 rw [if_neg hc2] at hm
 refine W_exit (At_te (At_te (At_ie ?_)))
 have hm := exit_of hm hr0
 refine At_go <| W_seq <| W_q [] (.n 4 (sl A9 out.length c9) (.n 5 (I 0) .z)) qe (by kernel_rfl) ?_
 refine At_go <| W_ret ?_
 obtain rfl := Option.some.inj hm
 refine At_rt [sl A9 out.length c9, I 0] qe (by kernel_rfl) ?_
 have k_24 := ((((((k_11.pk .h).pk (.t (.t (.t .h)))).pk (.t (.t (.t .h)))).pk (.t (.t (.t .h)))).pk (.t (.t (.t (.t (.t .h)))))).pk (.t (.t (.t (.t (.t .h)))))).pk (.t (.t (.t (.t (.t (.t .h))))))
 exact ⟨A9, out.length, c9, A6, r_1.2.2.2.1.length, c6, A7, r_1.2.2.2.2.2.2.2.1.length, c7, A8, r_1.2.2.2.2.2.2.2.2.1.length, c8, k_24.len 0 rfl, k_24.len 2 rfl, k_24.len 4 rfl, k_24.len 5 rfl, rfl, k_24⟩

theorem c_dice_Dice_drawn_1_k_s1 {F O : Nat → Prop} {w : World} (p_seed : List UInt8) (p_s_key : List UInt8) (p_s_salt : List UInt8) (p_s_personal : List UInt8) (p_s_n_kind : Int) (p_s_n_digest : Int) (p_s_n_block : List UInt8) (p_s_n_key : List UInt8) (p_s_n_last : Bool) (p_s_n_written : UInt64) (p_s_n_e_h : Vec UInt64 8) (p_s_n_e_count_Lo : UInt64) (p_s_n_e_count_Hi : UInt64) (p_s_n_e_held : List UInt8) (p_s_n_e_block : Int) (p_s_root : List UInt8) (p_s_at : UInt64) (p_s_now : Vec UInt8 64) (p_s_have : Int) (p : Int) (g_p : Nat) (g_p1 : Nat) (A_p_seed : Option Addr) (n_p_seed : Nat) (c_p_seed : Nat) (g_p_s : Nat) (A_p_s_key : Option Addr) (n_p_s_key : Nat) (c_p_s_key : Nat) (A_p_s_salt : Option Addr) (n_p_s_salt : Nat) (c_p_s_salt : Nat) (A_p_s_personal : Option Addr) (n_p_s_personal : Nat) (c_p_s_personal : Nat) (g_p_s_n : Nat) (A_p_s_n_block : Option Addr) (n_p_s_n_block : Nat) (c_p_s_n_block : Nat) (A_p_s_n_key : Option Addr) (n_p_s_n_key : Nat) (c_p_s_n_key : Nat) (g_p_s_n_e : Nat) (A_p_s_n_e_held : Option Addr) (n_p_s_n_e_held : Nat) (c_p_s_n_e_held : Nat) (g_p_s_root : Nat) (n_p_s_root : Nat) (c_p_s_root : Nat) (g_p2 : Nat) (h_p_seed : Ro F w A_p_seed (e8.all p_seed)) (hn_p_seed : p_seed.length = n_p_seed) (hc_p_seed : n_p_seed ≤ c_p_seed) (h_p_s_key : Ro F w A_p_s_key (e8.all p_s_key)) (hn_p_s_key : p_s_key.length = n_p_s_key) (hc_p_s_key : n_p_s_key ≤ c_p_s_key) (h_p_s_salt : Ro F w A_p_s_salt (e8.all p_s_salt)) (hn_p_s_salt : p_s_salt.length = n_p_s_salt) (hc_p_s_salt : n_p_s_salt ≤ c_p_s_salt) (h_p_s_personal : Ro F w A_p_s_personal (e8.all p_s_personal)) (hn_p_s_personal : p_s_personal.length = n_p_s_personal) (hc_p_s_personal : n_p_s_personal ≤ c_p_s_personal) (h_p_s_root : Ro F w (some ⟨g_p_s_root, 0, none⟩) (e8.all p_s_root)) (hn_p_s_root : p_s_root.length = n_p_s_root) (hc_p_s_root : n_p_s_root ≤ c_p_s_root) (k : Cx F O w w [Bx 25 g_p [pt g_p1 0], Bx 41 g_p1 [sl A_p_seed n_p_seed c_p_seed, pt g_p_s 0], Bx 62 g_p_s [I 1, I 64, .u32 4294967295, .u64 274877906944, .b false, sl A_p_s_key n_p_s_key c_p_s_key, sl A_p_s_salt n_p_s_salt c_p_s_salt, sl A_p_s_personal n_p_s_personal c_p_s_personal, pt g_p_s_n 0, sl (some ⟨g_p_s_root, 0, none⟩) n_p_s_root c_p_s_root, .u64 p_s_at, .ar e8 p_s_now, I p_s_have, .v (.func (.func 38) ⟨SV.vals [pt g_p_s 0]⟩ ⟨SV.vals []⟩)], Bx 95 g_p_s_n [I p_s_n_kind, I p_s_n_digest, sl A_p_s_n_block n_p_s_n_block c_p_s_n_block, sl A_p_s_n_key n_p_s_n_key c_p_s_n_key, .b p_s_n_last, .u64 p_s_n_written, .v (.iface 115 (SV.val (pt g_p_s_n_e 0)))], Ow e8 A_p_s_n_block n_p_s_n_block c_p_s_n_block p_s_n_block, Ow e8 A_p_s_n_key n_p_s_n_key c_p_s_n_key p_s_n_key, Bx 121 g_p_s_n_e [.ar e64 p_s_n_e_h, .u64 p_s_n_e_count_Lo, .u64 p_s_n_e_count_Hi, sl A_p_s_n_e_held n_p_s_n_e_held c_p_s_n_e_held, I p_s_n_e_block, .v (.func (.func 64) ⟨SV.vals []⟩ ⟨SV.vals []⟩), .v (.func (.func 65) ⟨SV.vals []⟩ ⟨SV.vals []⟩)], Ow e8 A_p_s_n_e_held n_p_s_n_e_held c_p_s_n_e_held p_s_n_e_held, Bx 26 g_p2 [I p]]) (r : (UInt64 × Vec UInt64 8 × UInt64 × UInt64 × List UInt8 × Int × Int × Int × List UInt8 × List UInt8 × Bool × UInt64 × UInt64 × Vec UInt8 64 × Int × Int)) (hm : m_dice_Dice_drawn_1_k_s1 p_seed p_s_key p_s_salt p_s_personal p_s_n_kind p_s_n_digest p_s_n_block p_s_n_key p_s_n_last p_s_n_written p_s_n_e_h p_s_n_e_count_Lo p_s_n_e_count_Hi p_s_n_e_held p_s_n_e_block p_s_root p_s_at p_s_now p_s_have p = some r) :
    Calls Try.prog 25 (vals [pt g_p 0, pt g_p2 0]) w (fun e w' => ∃ A n c A1 n1 c1 A2 n2 c2, r.2.2.2.2.1.length = n ∧ r.2.2.2.2.2.2.2.2.1.length = n1 ∧ r.2.2.2.2.2.2.2.2.2.1.length = n2 ∧ e = .returned (SV.val (.u64 r.1)) ∧ Cx F O w w' [Bx 121 g_p_s_n_e [.ar e64 r.2.1, .u64 r.2.2.1, .u64 r.2.2.2.1, sl A n c, I r.2.2.2.2.2.1, .v (.func (.func 64) ⟨SV.vals []⟩ ⟨SV.vals []⟩), .v (.func (.func 65) ⟨SV.vals []⟩ ⟨SV.vals []⟩)], Ow e8 A n c r.2.2.2.2.1, Bx 95 g_p_s_n [I r.2.2.2.2.2.2.1, I r.2.2.2.2.2.2.2.1, sl A1 n1 c1, sl A2 n2 c2, .b r.2.2.2.2.2.2.2.2.2.2.1, .u64 r.2.2.2.2.2.2.2.2.2.2.2.1, .v (.iface 115 (SV.val (pt g_p_s_n_e 0)))], Ow e8 A1 n1 c1 r.2.2.2.2.2.2.2.2.1, Ow e8 A2 n2 c2 r.2.2.2.2.2.2.2.2.2.1, Bx 62 g_p_s [I 1, I 64, .u32 4294967295, .u64 274877906944, .b false, sl A_p_s_key n_p_s_key c_p_s_key, sl A_p_s_salt n_p_s_salt c_p_s_salt, sl A_p_s_personal n_p_s_personal c_p_s_personal, pt g_p_s_n 0, sl (some ⟨g_p_s_root, 0, none⟩) n_p_s_root c_p_s_root, .u64 r.2.2.2.2.2.2.2.2.2.2.2.2.1, .ar e8 r.2.2.2.2.2.2.2.2.2.2.2.2.2.1, I r.2.2.2.2.2.2.2.2.2.2.2.2.2.2.1, .v (.func (.func 38) ⟨SV.vals [pt g_p_s 0]⟩ ⟨SV.vals []⟩)], Bx 41 g_p1 [sl A_p_seed n_p_seed c_p_seed, pt g_p_s 0], Bx 25 g_p [pt g_p1 0], Bx 26 g_p2 [I r.2.2.2.2.2.2.2.2.2.2.2.2.2.2.2]]) := by
 unfold m_dice_Dice_drawn_1_k_s1 at hm
 subst hn_p_seed
 subst hn_p_s_key
 subst hn_p_s_salt
 subst hn_p_s_personal
 obtain rfl := k.len 4 rfl
 obtain rfl := k.len 5 rfl
 obtain rfl := k.len 7 rfl
 subst hn_p_s_root
 refine calls [pt g_p 0, pt g_p2 0] Try.func25 rfl (of_decide_eq_true (by kernel_rfl)) ?_
 refine W_seq <| W_q [] .a qe (by kernel_rfl) ?_
 refine At_go <| W_seq <| W_reg <| WLs 4 [] (.n 11 (pt g_p_s 0) (.s .a)) (qB k 0 rfl 0 (pt g_p1 0) (by kernel_rfl) <| qs g_p1 0 <| qs g_p1 0 <| qB k 1 rfl 1 (pt g_p_s 0) (by kernel_rfl) <| qe) (by kernel_rfl) ?_
 refine WL_op ?_
 obtain ⟨r_, h_r_, hm⟩ := ob hm
 obtain ⟨F1, O1, kin, hO, hre, hF, hb⟩ := k.go (.r (.r (.i (.i (.i (.i (.i (.i (.r .e)))))))))
 refine Op_call [] 12 _ ds_go26 (by kernel_rfl) (c_xof_Stream_Read_k_s1 (F := F1) (O := O1) _ _ _ _ _ _ _ _ _ _ _ _ _ _ _ _ _ _ _ _ _ _ _ _ _ _ _ _ _ _ _ _ _ _ _ _ _ _ _ _ _ _ (Ro.of_old h_p_s_key k hF) rfl hc_p_s_key (Ro.of_old h_p_s_salt k hF) rfl hc_p_s_salt (Ro.of_old h_p_s_personal k hF) rfl hc_p_s_personal (Ro.of_old h_p_s_root k hF) rfl hc_p_s_root kin _ h_r_) ?_
 rintro e_ w_ ⟨A0, _, c0, A3, _, c3, A4, _, c4, A5, _, c5, rfl, rfl, rfl, rfl, rfl, k_⟩
 have k_1 := hb w_ _ _ k_ (.c (.c (.c (.c (.c (.c (.c .n)))))))
 refine ⟨.tup [sl A0 r_.1.length c0, I r_.2.1], rfl, ?_⟩
 refine WLs 5 [] (.n 3 (sl A0 r_.1.length c0) (.n 4 (I r_.2.1) (.ss .a))) qe (by kernel_rfl) ?_
 refine WL_nil <| At_go <| W_seq <| W_seq <| W_q [] (.n 16 (.b (decide (r_.2.1 ≠ 0))) (.k (.s .a))) qe (by kernel_rfl) ?_
 refine At_go <| W_condp (r_.2.1 ≠ 0) (by kernel_rfl) (fun hc => ?_) (fun hc => ?_)
 · rw [if_pos hc] at hm
   refine W_seq <| W_reg <| WL_op <| Op_b [] 9 (I 6) [I 6] (Pt.at g_p2 0) k_1 rfl .all (by kernel_rfl) (by kernel_rfl) ?_
   intro w_1 k_2
   have k_3 := k_2.sel (.s (.kkkk (.kkkk (.k .e))))
   refine WL_nil <| At_go <| W_seq <| W_q [] (.n 2 (.u64 0) .z) qe (by kernel_rfl) ?_
   refine At_go <| W_ret (At_tr ?_)
   obtain rfl := Option.some.inj hm
   refine At_rt [.u64 0] qe (by kernel_rfl) ?_
   have k_4 := ((((((((k_3.pk (.t (.t (.t (.t (.t (.t (.t (.t .h))))))))).pk (.t (.t (.t (.t (.t (.t (.t .h)))))))).pk (.t (.t (.t (.t (.t (.t (.t (.t .h))))))))).pk (.t (.t (.t (.t (.t (.t (.t (.t .h))))))))).pk (.t (.t (.t (.t (.t (.t (.t (.t .h))))))))).pk (.t (.t (.t (.t (.t (.t (.t (.t .h))))))))).pk (.t (.t (.t (.t (.t (.t (.t (.t .h))))))))).pk (.t (.t (.t (.t (.t (.t (.t (.t .h))))))))).pk (.t (.t (.t (.t (.t (.t (.t (.t .h))))))))
   exact ⟨A3, r_.2.2.2.2.2.1.length, c3, A4, r_.2.2.2.2.2.2.2.2.2.1.length, c4, A5, r_.2.2.2.2.2.2.2.2.2.2.1.length, c5, k_4.len 1 rfl, k_4.len 3 rfl, k_4.len 4 rfl, rfl, k_4⟩
 rw [if_neg hc] at hm
 refine W_skip <| At_go <| W_seq <| W_reg <| WLs 1 [] (.n 18 (sl A0 r_.1.length c0) .z) qe (by kernel_rfl) ?_
 refine WL_op ?_
 obtain ⟨r_1, h_r_1, hm⟩ := ob hm
 refine Op_call [] 19 _ ds_go27 (by kernel_rfl) (c_word_Load64 (F := N0) (O := N0) _ _ _ _ _ (Ro.n0 (k_1.rd 0 rfl)) (k_1.len 0 rfl) (k_1.lec 0 rfl) (Cx.refl _) _ h_r_1) ?_
 rintro e_ w_2 ⟨rfl, k_5⟩
 have k_6 := k_1.call k_5
 refine ⟨.tup [.u64 r_1.1, I r_1.2], rfl, ?_⟩
 have k_7 := k_6.sel (.s (.kkkk (.kkkk (.k .e))))
 refine WLs 5 [] (.n 5 (.u64 r_1.1) .z) qe (by kernel_rfl) ?_
 refine WL_nil <| At_go <| W_seq <| W_q [] (.n 2 (.u64 r_1.1) .z) qe (by kernel_rfl) ?_
 refine At_go <| W_ret ?_
 obtain rfl := Option.some.inj hm
 refine At_rt [.u64 r_1.1] qe (by kernel_rfl) ?_
 have k_8 := ((((((((k_7.pk (.t (.t (.t (.t (.t (.t (.t (.t .h))))))))).pk (.t (.t (.t (.t (.t (.t (.t .h)))))))).pk (.t (.t (.t (.t (.t (.t (.t (.t .h))))))))).pk (.t (.t (.t (.t (.t (.t (.t (.t .h))))))))).pk (.t (.t (.t (.t (.t (.t (.t (.t .h))))))))).pk (.t (.t (.t (.t (.t (.t (.t (.t .h))))))))).pk (.t (.t (.t (.t (.t (.t (.t (.t .h))))))))).pk (.t (.t (.t (.t (.t (.t (.t (.t .h))))))))).pk (.t (.t (.t (.t (.t (.t (.t (.t .h))))))))
 exact ⟨A3, r_.2.2.2.2.2.1.length, c3, A4, r_.2.2.2.2.2.2.2.2.2.1.length, c4, A5, r_.2.2.2.2.2.2.2.2.2.2.1.length, c5, k_8.len 1 rfl, k_8.len 3 rfl, k_8.len 4 rfl, rfl, k_8⟩

theorem c_dice_Dice_Word_1_k_s1 {F O : Nat → Prop} {w : World} (draw_seed : List UInt8) (draw_s_key : List UInt8) (draw_s_salt : List UInt8) (draw_s_personal : List UInt8) (draw_s_n_kind : Int) (draw_s_n_digest : Int) (draw_s_n_block : List UInt8) (draw_s_n_key : List UInt8) (draw_s_n_last : Bool) (draw_s_n_written : UInt64) (draw_s_n_e_h : Vec UInt64 8) (draw_s_n_e_count_Lo : UInt64) (draw_s_n_e_count_Hi : UInt64) (draw_s_n_e_held : List UInt8) (draw_s_n_e_block : Int) (draw_s_root : List UInt8) (draw_s_at : UInt64) (draw_s_now : Vec UInt8 64) (draw_s_have : Int) (draw : Int) (p : UInt64) (g_draw : Nat) (g_draw1 : Nat) (A_draw_seed : Option Addr) (n_draw_seed : Nat) (c_draw_seed : Nat) (g_draw_s : Nat) (A_draw_s_key : Option Addr) (n_draw_s_key : Nat) (c_draw_s_key : Nat) (A_draw_s_salt : Option Addr) (n_draw_s_salt : Nat) (c_draw_s_salt : Nat) (A_draw_s_personal : Option Addr) (n_draw_s_personal : Nat) (c_draw_s_personal : Nat) (g_draw_s_n : Nat) (A_draw_s_n_block : Option Addr) (n_draw_s_n_block : Nat) (c_draw_s_n_block : Nat) (A_draw_s_n_key : Option Addr) (n_draw_s_n_key : Nat) (c_draw_s_n_key : Nat) (g_draw_s_n_e : Nat) (A_draw_s_n_e_held : Option Addr) (n_draw_s_n_e_held : Nat) (c_draw_s_n_e_held : Nat) (g_draw_s_root : Nat) (n_draw_s_root : Nat) (c_draw_s_root : Nat) (g_draw2 : Nat) (g_p : Nat) (h_draw_seed : Ro F w A_draw_seed (e8.all draw_seed)) (hn_draw_seed : draw_seed.length = n_draw_seed) (hc_draw_seed : n_draw_seed ≤ c_draw_seed) (h_draw_s_key : Ro F w A_draw_s_key (e8.all draw_s_key)) (hn_draw_s_key : draw_s_key.length = n_draw_s_key) (hc_draw_s_key : n_draw_s_key ≤ c_draw_s_key) (h_draw_s_salt : Ro F w A_draw_s_salt (e8.all draw_s_salt)) (hn_draw_s_salt : draw_s_salt.length = n_draw_s_salt) (hc_draw_s_salt : n_draw_s_salt ≤ c_draw_s_salt) (h_draw_s_personal : Ro F w A_draw_s_personal (e8.all draw_s_personal)) (hn_draw_s_personal : draw_s_personal.length = n_draw_s_personal) (hc_draw_s_personal : n_draw_s_personal ≤ c_draw_s_personal) (h_draw_s_root : Ro F w (some ⟨g_draw_s_root, 0, none⟩) (e8.all draw_s_root)) (hn_draw_s_root : draw_s_root.length = n_draw_s_root) (hc_draw_s_root : n_draw_s_root ≤ c_draw_s_root) (k : Cx F O w w [Bx 25 g_draw [pt g_draw1 0], Bx 41 g_draw1 [sl A_draw_seed n_draw_seed c_draw_seed, pt g_draw_s 0], Bx 62 g_draw_s [I 1, I 64, .u32 4294967295, .u64 274877906944, .b false, sl A_draw_s_key n_draw_s_key c_draw_s_key, sl A_draw_s_salt n_draw_s_salt c_draw_s_salt, sl A_draw_s_personal n_draw_s_personal c_draw_s_personal, pt g_draw_s_n 0, sl (some ⟨g_draw_s_root, 0, none⟩) n_draw_s_root c_draw_s_root, .u64 draw_s_at, .ar e8 draw_s_now, I draw_s_have, .v (.func (.func 38) ⟨SV.vals [pt g_draw_s 0]⟩ ⟨SV.vals []⟩)], Bx 95 g_draw_s_n [I draw_s_n_kind, I draw_s_n_digest, sl A_draw_s_n_block n_draw_s_n_block c_draw_s_n_block, sl A_draw_s_n_key n_draw_s_n_key c_draw_s_n_key, .b draw_s_n_last, .u64 draw_s_n_written, .v (.iface 115 (SV.val (pt g_draw_s_n_e 0)))], Ow e8 A_draw_s_n_block n_draw_s_n_block c_draw_s_n_block draw_s_n_block, Ow e8 A_draw_s_n_key n_draw_s_n_key c_draw_s_n_key draw_s_n_key, Bx 121 g_draw_s_n_e [.ar e64 draw_s_n_e_h, .u64 draw_s_n_e_count_Lo, .u64 draw_s_n_e_count_Hi, sl A_draw_s_n_e_held n_draw_s_n_e_held c_draw_s_n_e_held, I draw_s_n_e_block, .v (.func (.func 64) ⟨SV.vals []⟩ ⟨SV.vals []⟩), .v (.func (.func 65) ⟨SV.vals []⟩ ⟨SV.vals []⟩)], Ow e8 A_draw_s_n_e_held n_draw_s_n_e_held c_draw_s_n_e_held draw_s_n_e_held, Bx 26 g_draw2 [I draw], Bx 23 g_p [.u64 p]]) (r : (Vec UInt64 8 × UInt64 × UInt64 × List UInt8 × Int × Int × Int × List UInt8 × List UInt8 × Bool × UInt64 × UInt64 × Vec UInt8 64 × Int × Int × UInt64)) (hm : m_dice_Dice_Word_1_k_s1 draw_seed draw_s_key draw_s_salt draw_s_personal draw_s_n_kind draw_s_n_digest draw_s_n_block draw_s_n_key draw_s_n_last draw_s_n_written draw_s_n_e_h draw_s_n_e_count_Lo draw_s_n_e_count_Hi draw_s_n_e_held draw_s_n_e_block draw_s_root draw_s_at draw_s_now draw_s_have draw p = some r) :
    Calls Try.prog 14 (vals [.v (.func (.func 25) ⟨SV.vals []⟩ ⟨SV.vals [pt g_draw 0, pt g_draw2 0]⟩), pt g_p 0]) w (fun e w' => ∃ A n c A1 n1 c1 A2 n2 c2, r.2.2.2.1.length = n ∧ r.2.2.2.2.2.2.2.1.length = n1 ∧ r.2.2.2.2.2.2.2.2.1.length = n2 ∧ e = .returned (SV.val (.tup [])) ∧ Cx F O w w' [Bx 121 g_draw_s_n_e [.ar e64 r.1, .u64 r.2.1, .u64 r.2.2.1, sl A n c, I r.2.2.2.2.1, .v (.func (.func 64) ⟨SV.vals []⟩ ⟨SV.vals []⟩), .v (.func (.func 65) ⟨SV.vals []⟩ ⟨SV.vals []⟩)], Ow e8 A n c r.2.2.2.1, Bx 95 g_draw_s_n [I r.2.2.2.2.2.1, I r.2.2.2.2.2.2.1, sl A1 n1 c1, sl A2 n2 c2, .b r.2.2.2.2.2.2.2.2.2.1, .u64 r.2.2.2.2.2.2.2.2.2.2.1, .v (.iface 115 (SV.val (pt g_draw_s_n_e 0)))], Ow e8 A1 n1 c1 r.2.2.2.2.2.2.2.1, Ow e8 A2 n2 c2 r.2.2.2.2.2.2.2.2.1, Bx 62 g_draw_s [I 1, I 64, .u32 4294967295, .u64 274877906944, .b false, sl A_draw_s_key n_draw_s_key c_draw_s_key, sl A_draw_s_salt n_draw_s_salt c_draw_s_salt, sl A_draw_s_personal n_draw_s_personal c_draw_s_personal, pt g_draw_s_n 0, sl (some ⟨g_draw_s_root, 0, none⟩) n_draw_s_root c_draw_s_root, .u64 r.2.2.2.2.2.2.2.2.2.2.2.1, .ar e8 r.2.2.2.2.2.2.2.2.2.2.2.2.1, I r.2.2.2.2.2.2.2.2.2.2.2.2.2.1, .v (.func (.func 38) ⟨SV.vals [pt g_draw_s 0]⟩ ⟨SV.vals []⟩)], Bx 41 g_draw1 [sl A_draw_seed n_draw_seed c_draw_seed, pt g_draw_s 0], Bx 25 g_draw [pt g_draw1 0], Bx 26 g_draw2 [I r.2.2.2.2.2.2.2.2.2.2.2.2.2.2.1], Bx 23 g_p [.u64 r.2.2.2.2.2.2.2.2.2.2.2.2.2.2.2]]) := by
 unfold m_dice_Dice_Word_1_k_s1 at hm
 subst hn_draw_seed
 subst hn_draw_s_key
 subst hn_draw_s_salt
 subst hn_draw_s_personal
 obtain rfl := k.len 4 rfl
 obtain rfl := k.len 5 rfl
 obtain rfl := k.len 7 rfl
 subst hn_draw_s_root
 refine calls [.v (.func (.func 25) ⟨SV.vals []⟩ ⟨SV.vals [pt g_draw 0, pt g_draw2 0]⟩), pt g_p 0] Try.func14 rfl (of_decide_eq_true (by kernel_rfl)) ?_
 refine W_reg <| WLs 1 [] (.n 3 (.v (.func (.func 25) ⟨SV.vals []⟩ ⟨SV.vals [pt g_draw 0, pt g_draw2 0]⟩)) (.s .a)) qe (by kernel_rfl) ?_
 refine WL_op ?_
 obtain ⟨r_, h_r_, hm⟩ := ob hm
 obtain ⟨F1, O1, kin, hO, hre, hF, hb⟩ := k.go (.i (.i (.i (.i (.i (.i (.i (.i (.i (.r .e))))))))))
 refine Op_callv [] 4 [] [] [pt g_draw 0, pt g_draw2 0] ds_go25 (by kernel_rfl) (c_dice_Dice_drawn_1_k_s1 (F := F1) (O := O1) _ _ _ _ _ _ _ _ _ _ _ _ _ _ _ _ _ _ _ _ _ _ _ _ _ _ _ _ _ _ _ _ _ _ _ _ _ _ _ _ _ _ _ _ _ _ _ _ _ _ (Ro.of_old h_draw_seed k hF) rfl hc_draw_seed (Ro.of_old h_draw_s_key k hF) rfl hc_draw_s_key (Ro.of_old h_draw_s_salt k hF) rfl hc_draw_s_salt (Ro.of_old h_draw_s_personal k hF) rfl hc_draw_s_personal (Ro.of_old h_draw_s_root k hF) rfl hc_draw_s_root kin _ h_r_) ?_
 rintro e_ w_ ⟨A0, _, c0, A3, _, c3, A4, _, c4, rfl, rfl, rfl, rfl, k_⟩
 have k_1 := hb w_ _ _ k_ (.c (.c (.c (.c (.c (.c (.c (.c (.c .n)))))))))
 refine ⟨.u64 r_.1, rfl, ?_⟩
 refine WL_op <| Op_b [] 9 (.u64 r_.1) [.u64 r_.1] (Pt.at g_p 0) k_1 rfl .all (by kernel_rfl) (by kernel_rfl) ?_
 intro w_1 k_2
 refine WL_nil ?_
 obtain rfl := Option.some.inj hm
 refine At_en [] qe (by kernel_rfl) ?_
 exact ⟨A0, r_.2.2.2.2.1.length, c0, A3, r_.2.2.2.2.2.2.2.2.1.length, c3, A4, r_.2.2.2.2.2.2.2.2.2.1.length, c4, k_2.len 1 rfl, k_2.len 3 rfl, k_2.len 4 rfl, rfl, k_2⟩

theorem c_dice_Dice_drawn_k_s1 {F O : Nat → Prop} {w : World} (d_seed : List UInt8) (d_s_key : List UInt8) (d_s_salt : List UInt8) (d_s_personal : List UInt8) (d_s_n_kind : Int) (d_s_n_digest : Int) (d_s_n_block : List UInt8) (d_s_n_key : List UInt8) (d_s_n_last : Bool) (d_s_n_written : UInt64) (d_s_n_e_h : Vec UInt64 8) (d_s_n_e_count_Lo : UInt64) (d_s_n_e_count_Hi : UInt64) (d_s_n_e_held : List UInt8) (d_s_n_e_block : Int) (d_s_root : List UInt8) (d_s_at : UInt64) (d_s_now : Vec UInt8 64) (d_s_have : Int) (work : UInt64) (g_d : Nat) (A_d_seed : Option Addr) (n_d_seed : Nat) (c_d_seed : Nat) (g_d_s : Nat) (A_d_s_key : Option Addr) (n_d_s_key : Nat) (c_d_s_key : Nat) (A_d_s_salt : Option Addr) (n_d_s_salt : Nat) (c_d_s_salt : Nat) (A_d_s_personal : Option Addr) (n_d_s_personal : Nat) (c_d_s_personal : Nat) (g_d_s_n : Nat) (A_d_s_n_block : Option Addr) (n_d_s_n_block : Nat) (c_d_s_n_block : Nat) (A_d_s_n_key : Option Addr) (n_d_s_n_key : Nat) (c_d_s_n_key : Nat) (g_d_s_n_e : Nat) (A_d_s_n_e_held : Option Addr) (n_d_s_n_e_held : Nat) (c_d_s_n_e_held : Nat) (g_d_s_root : Nat) (n_d_s_root : Nat) (c_d_s_root : Nat) (g_work : Nat) (h_d_seed : Ro F w A_d_seed (e8.all d_seed)) (hn_d_seed : d_seed.length = n_d_seed) (hc_d_seed : n_d_seed ≤ c_d_seed) (h_d_s_key : Ro F w A_d_s_key (e8.all d_s_key)) (hn_d_s_key : d_s_key.length = n_d_s_key) (hc_d_s_key : n_d_s_key ≤ c_d_s_key) (h_d_s_salt : Ro F w A_d_s_salt (e8.all d_s_salt)) (hn_d_s_salt : d_s_salt.length = n_d_s_salt) (hc_d_s_salt : n_d_s_salt ≤ c_d_s_salt) (h_d_s_personal : Ro F w A_d_s_personal (e8.all d_s_personal)) (hn_d_s_personal : d_s_personal.length = n_d_s_personal) (hc_d_s_personal : n_d_s_personal ≤ c_d_s_personal) (h_d_s_root : Ro F w (some ⟨g_d_s_root, 0, none⟩) (e8.all d_s_root)) (hn_d_s_root : d_s_root.length = n_d_s_root) (hc_d_s_root : n_d_s_root ≤ c_d_s_root) (k : Cx F O w w [Bx 41 g_d [sl A_d_seed n_d_seed c_d_seed, pt g_d_s 0], Bx 62 g_d_s [I 1, I 64, .u32 4294967295, .u64 274877906944, .b false, sl A_d_s_key n_d_s_key c_d_s_key, sl A_d_s_salt n_d_s_salt c_d_s_salt, sl A_d_s_personal n_d_s_personal c_d_s_personal, pt g_d_s_n 0, sl (some ⟨g_d_s_root, 0, none⟩) n_d_s_root c_d_s_root, .u64 d_s_at, .ar e8 d_s_now, I d_s_have, .v (.func (.func 38) ⟨SV.vals [pt g_d_s 0]⟩ ⟨SV.vals []⟩)], Bx 95 g_d_s_n [I d_s_n_kind, I d_s_n_digest, sl A_d_s_n_block n_d_s_n_block c_d_s_n_block, sl A_d_s_n_key n_d_s_n_key c_d_s_n_key, .b d_s_n_last, .u64 d_s_n_written, .v (.iface 115 (SV.val (pt g_d_s_n_e 0)))], Ow e8 A_d_s_n_block n_d_s_n_block c_d_s_n_block d_s_n_block, Ow e8 A_d_s_n_key n_d_s_n_key c_d_s_n_key d_s_n_key, Bx 121 g_d_s_n_e [.ar e64 d_s_n_e_h, .u64 d_s_n_e_count_Lo, .u64 d_s_n_e_count_Hi, sl A_d_s_n_e_held n_d_s_n_e_held c_d_s_n_e_held, I d_s_n_e_block, .v (.func (.func 64) ⟨SV.vals []⟩ ⟨SV.vals []⟩), .v (.func (.func 65) ⟨SV.vals []⟩ ⟨SV.vals []⟩)], Ow e8 A_d_s_n_e_held n_d_s_n_e_held c_d_s_n_e_held d_s_n_e_held, Bx 23 g_work [.u64 work]]) (r : (Int × Vec UInt64 8 × UInt64 × UInt64 × List UInt8 × Int × Int × Int × List UInt8 × List UInt8 × Bool × UInt64 × UInt64 × Vec UInt8 64 × Int × UInt64)) (hm : m_dice_Dice_drawn_k_s1 d_seed d_s_key d_s_salt d_s_personal d_s_n_kind d_s_n_digest d_s_n_block d_s_n_key d_s_n_last d_s_n_written d_s_n_e_h d_s_n_e_count_Lo d_s_n_e_count_Hi d_s_n_e_held d_s_n_e_block d_s_root d_s_at d_s_now d_s_have work = some r) :
    Calls Try.prog 13 (vals [pt g_d 0, .v (.func (.func 14) ⟨SV.vals []⟩ ⟨SV.vals [pt g_work 0]⟩)]) w (fun e w' => ∃ A n c A1 n1 c1 A2 n2 c2, r.2.2.2.2.1.length = n ∧ r.2.2.2.2.2.2.2.2.1.length = n1 ∧ r.2.2.2.2.2.2.2.2.2.1.length = n2 ∧ e = .returned (SV.val (I r.1)) ∧ Cx F O w w' [Bx 121 g_d_s_n_e [.ar e64 r.2.1, .u64 r.2.2.1, .u64 r.2.2.2.1, sl A n c, I r.2.2.2.2.2.1, .v (.func (.func 64) ⟨SV.vals []⟩ ⟨SV.vals []⟩), .v (.func (.func 65) ⟨SV.vals []⟩ ⟨SV.vals []⟩)], Ow e8 A n c r.2.2.2.2.1, Bx 95 g_d_s_n [I r.2.2.2.2.2.2.1, I r.2.2.2.2.2.2.2.1, sl A1 n1 c1, sl A2 n2 c2, .b r.2.2.2.2.2.2.2.2.2.2.1, .u64 r.2.2.2.2.2.2.2.2.2.2.2.1, .v (.iface 115 (SV.val (pt g_d_s_n_e 0)))], Ow e8 A1 n1 c1 r.2.2.2.2.2.2.2.2.1, Ow e8 A2 n2 c2 r.2.2.2.2.2.2.2.2.2.1, Bx 62 g_d_s [I 1, I 64, .u32 4294967295, .u64 274877906944, .b false, sl A_d_s_key n_d_s_key c_d_s_key, sl A_d_s_salt n_d_s_salt c_d_s_salt, sl A_d_s_personal n_d_s_personal c_d_s_personal, pt g_d_s_n 0, sl (some ⟨g_d_s_root, 0, none⟩) n_d_s_root c_d_s_root, .u64 r.2.2.2.2.2.2.2.2.2.2.2.2.1, .ar e8 r.2.2.2.2.2.2.2.2.2.2.2.2.2.1, I r.2.2.2.2.2.2.2.2.2.2.2.2.2.2.1, .v (.func (.func 38) ⟨SV.vals [pt g_d_s 0]⟩ ⟨SV.vals []⟩)], Bx 41 g_d [sl A_d_seed n_d_seed c_d_seed, pt g_d_s 0], Bx 23 g_work [.u64 r.2.2.2.2.2.2.2.2.2.2.2.2.2.2.2]]) := by
 unfold m_dice_Dice_drawn_k_s1 at hm
 subst hn_d_seed
 subst hn_d_s_key
 subst hn_d_s_salt
 subst hn_d_s_personal
 obtain rfl := k.len 3 rfl
 obtain rfl := k.len 4 rfl
 obtain rfl := k.len 6 rfl
 subst hn_d_s_root
 refine calls [pt g_d 0, .v (.func (.func 14) ⟨SV.vals []⟩ ⟨SV.vals [pt g_work 0]⟩)] Try.func13 rfl (of_decide_eq_true (by kernel_rfl)) ?_
 refine W_seq <| W_reg <| WL_op <| Op_box [] 2 (pt g_d 0) [pt g_d 0] (by kernel_rfl) k ?_
 intro g w_ k_
 refine WLs 1 [] (.k (.s .a)) qe (by kernel_rfl) ?_
 refine WL_nil <| At_go <| W_seq <| W_seq <| W_reg <| WLs 1 [] (.n 7 (pt g_d 0) .a) (qB k_ 8 rfl 0 (pt g_d 0) (by kernel_rfl) <| qe) (by kernel_rfl) ?_
 refine WL_op ?_
 obtain ⟨r_, h_r_, hm⟩ := ob hm
 obtain ⟨F1, O1, kin, hO, hre, hF, hb⟩ := k_.go (.i (.i (.i (.i (.i (.i (.i (.r (.r .e)))))))))
 refine Op_call [] 8 _ ds_go11 (by kernel_rfl) (c_dice_Dice_none_k_s1 (F := F1) (O := O1) _ _ _ _ _ _ _ _ _ _ _ _ _ _ _ _ _ _ _ _ _ _ _ _ _ _ _ _ _ _ _ _ _ _ _ _ _ _ _ _ _ _ _ _ _ _ _ (Ro.of_old h_d_seed k_ hF) rfl hc_d_seed (Ro.of_old h_d_s_key k_ hF) rfl hc_d_s_key (Ro.of_old h_d_s_salt k_ hF) rfl hc_d_s_salt (Ro.of_old h_d_s_personal k_ hF) rfl hc_d_s_personal (Ro.of_old h_d_s_root k_ hF) rfl hc_d_s_root kin _ h_r_) ?_
 rintro e_ w_1 ⟨A0, _, c0, A3, _, c3, A4, _, c4, rfl, rfl, rfl, rfl, k_1⟩
 have k_2 := hb w_1 _ _ k_1 (.c (.c (.c (.c (.c (.c (.c .n)))))))
 refine ⟨.b false, rfl, ?_⟩
 refine WL_nil <| At_go <| W_cond false (by kernel_rfl) (fun h => by cases h) (fun _ => ?_)
 refine W_skip <| At_go <| W_seq <| W_reg <| WLs 4 [] (.n 12 (pt g_d_s 0) (.ss .a)) (qB k_2 8 rfl 0 (pt g_d 0) (by kernel_rfl) <| qs g_d 0 <| qs g_d 0 <| qB k_2 6 rfl 1 (pt g_d_s 0) (by kernel_rfl) <| qe) (by kernel_rfl) ?_
 refine WL_op ?_
 obtain ⟨r_1, h_r_1, hm⟩ := ob hm
 have k_3 := ((((((((k_2.pk (.t (.t (.t (.t (.t (.t (.t (.t .h))))))))).pk (.t (.t (.t (.t (.t (.t (.t (.t .h))))))))).pk (.t (.t (.t (.t (.t (.t (.t (.t .h))))))))).pk (.t (.t (.t (.t .h))))).pk (.t (.t (.t (.t .h))))).pk (.t (.t (.t (.t (.t (.t (.t .h)))))))).pk (.t (.t (.t (.t (.t (.t (.t .h)))))))).pk (.t (.t (.t (.t (.t (.t (.t .h)))))))).pk (.t (.t (.t (.t (.t (.t (.t (.t .h))))))))
 obtain ⟨F11, O11, kin1, hO1, hre1, hF1, hb1⟩ := k_3.go (.i (.i (.i (.i (.i (.i (.r (.r (.r .e)))))))))
 refine Op_call [] 13 _ ds_go24 (by kernel_rfl) (c_xof_Stream_Copy_k_s1 (F := F11) (O := O11) _ _ _ _ _ _ _ _ _ _ _ _ _ _ _ _ _ _ _ _ _ _ _ _ _ _ _ _ _ _ _ _ _ _ _ _ _ _ _ _ _ _ (Ro.of_old h_d_s_key k_3 hF1) rfl hc_d_s_key (Ro.of_old h_d_s_salt k_3 hF1) rfl hc_d_s_salt (Ro.of_old h_d_s_personal k_3 hF1) rfl hc_d_s_personal (Ro.of_old h_d_s_root k_3 hF1) rfl hc_d_s_root kin1 _ h_r_1) ?_
 rintro e_ w_2 ⟨g1, g2, A5, _, c5, A6, _, c6, g3, A7, _, c7, A8, _, c8, rfl, rfl, rfl, rfl, rfl, k_4⟩
 have k_5 := hb1 w_2 _ _ k_4 (.c (.c (.c (.c (.c (.c (.c (.c (.c (.c .n))))))))))
 refine ⟨pt g1 0, rfl, ?_⟩
 refine WLs 1 [] (.n 5 (pt g1 0) (.ss .a)) qe (by kernel_rfl) ?_
 refine WL_nil <| At_go <| W_seq <| W_reg <| WL_op <| Op_alloc [] 6 [I 0] (by kernel_rfl) k_5 ?_
 intro g4 w_3 k_6
 refine WL_op ?_
 have k_7 := k_6.sel (.kkkk (.kkkk (.kkkk (.kk .e))))
 refine Op_b [] 13 (I 0) [I 0] (Pt.at g4 0) k_7 rfl .all (by kernel_rfl) (by kernel_rfl) ?_
 intro w_4 k_8
 refine WL_nil <| At_go <| W_seq <| W_reg <| WLs 2 [] (.n 14 (.v (.func (.func 14) ⟨SV.vals []⟩ ⟨SV.vals [pt g_work 0]⟩)) (.n 15 (.v (.func (.func 25) ⟨SV.vals []⟩ ⟨SV.vals [pt g 0, pt g4 0]⟩)) (.kkk .z))) qe (by kernel_rfl) ?_
 refine WL_op ?_
 obtain ⟨r_2, h_r_2, hm⟩ := ob hm
 have k_9 := (((((((((((((k_8.pk (.t (.t (.t (.t (.t .h)))))).pk (.t (.t (.t (.t (.t .h)))))).pk (.t (.t (.t .h)))).pk (.t (.t (.t .h)))).pk (.t (.t (.t (.t (.t (.t (.t (.t (.t (.t (.t .h)))))))))))).pk (.t (.t (.t (.t (.t (.t (.t (.t (.t (.t (.t (.t (.t .h)))))))))))))).pk (.t (.t (.t (.t (.t (.t (.t (.t (.t .h)))))))))).pk (.t (.t (.t (.t (.t (.t (.t (.t (.t .h)))))))))).pk (.t (.t (.t (.t (.t (.t (.t (.t (.t .h)))))))))).pk (.t (.t (.t (.t (.t (.t (.t (.t (.t .h)))))))))).pk (.t (.t (.t (.t (.t (.t (.t (.t (.t (.t .h))))))))))).pk (.t (.t (.t (.t (.t (.t (.t (.t (.t (.t (.t .h)))))))))))).pk (.t (.t (.t (.t (.t (.t (.t (.t (.t (.t (.t (.t .h))))))))))))).pk (.t (.t (.t (.t (.t (.t (.t (.t (.t (.t (.t (.t (.t .h)))))))))))))
 obtain ⟨F12, O12, kin2, hO2, hre2, hF2, hb2⟩ := k_9.go (.i (.i (.i (.i (.i (.i (.i (.i (.i (.i (.r (.r (.r (.r .e))))))))))))))
 refine Op_callv [] 16 [] [.v (.func (.func 25) ⟨SV.vals []⟩ ⟨SV.vals [pt g 0, pt g4 0]⟩)] [pt g_work 0] ds_go14 (by kernel_rfl) (c_dice_Dice_Word_1_k_s1 (F := F12) (O := O12) _ _ _ _ _ _ _ _ _ _ _ _ _ _ _ _ _ _ _ _ _ _ _ _ _ _ _ _ _ _ _ _ _ _ _ _ _ _ _ _ _ _ _ _ _ _ _ _ _ _ _ _ (Ro.of_old h_d_seed k_9 hF2) rfl hc_d_seed (Ro.of_old h_d_s_key k_9 hF2) rfl hc_d_s_key (Ro.of_old h_d_s_salt k_9 hF2) rfl hc_d_s_salt (Ro.of_old h_d_s_personal k_9 hF2) rfl hc_d_s_personal (Ro.of_old h_d_s_root k_9 hF2) rfl hc_d_s_root kin2 _ h_r_2) ?_
 rintro e_ w_5 ⟨A9, _, c9, A10, _, c10, A11, _, c11, rfl, rfl, rfl, rfl, k_10⟩
 have k_11 := hb2 w_5 _ _ k_10 (.c (.c (.c (.c (.c (.c (.c (.c (.c (.c .n))))))))))
 refine ⟨.tup [], rfl, ?_⟩
 refine WL_nil <| At_go <| W_seq <| W_seq <| W_q [] (.n 18 (.b (decide (r_2.2.2.2.2.2.2.2.2.2.2.2.2.2.2.1 ≠ 0))) (.sss .a)) (qB k_11 8 rfl 0 (I r_2.2.2.2.2.2.2.2.2.2.2.2.2.2.2.1) (by kernel_rfl) <| qe) (by kernel_rfl) ?_
 refine At_go <| W_condp (r_2.2.2.2.2.2.2.2.2.2.2.2.2.2.2.1 ≠ 0) (by kernel_rfl) (fun hc => ?_) (fun hc => ?_)
 · rw [if_pos hc] at hm
   cases hm
 rw [if_neg hc] at hm
 refine W_skip <| At_go <| W_seq <| W_q [] (.n 4 (I r_2.2.2.2.2.2.2.2.2.2.2.2.2.2.2.1) .z) (qB k_11 8 rfl 0 (I r_2.2.2.2.2.2.2.2.2.2.2.2.2.2.2.1) (by kernel_rfl) <| qe) (by kernel_rfl) ?_
 refine At_go <| W_ret ?_
 obtain rfl := Option.some.inj hm
 refine At_rt [I r_2.2.2.2.2.2.2.2.2.2.2.2.2.2.2.1] qe (by kernel_rfl) ?_
 have k_14 := k_11.sel (.kkkk (.kk (.k (.ss (.k .z)))))
 exact ⟨A9, r_2.2.2.2.1.length, c9, A10, r_2.2.2.2.2.2.2.2.1.length, c10, A11, r_2.2.2.2.2.2.2.2.2.1.length, c11, k_14.len 1 rfl, k_14.len 3 rfl, k_14.len 4 rfl, rfl, k_14⟩

theorem c_dice_Dice_Word_k_s1 {F O : Nat → Prop} {w : World} (d_seed : List UInt8) (d_s_key : List UInt8) (d_s_salt : List UInt8) (d_s_personal : List UInt8) (d_s_n_kind : Int) (d_s_n_digest : Int) (d_s_n_block : List UInt8) (d_s_n_key : List UInt8) (d_s_n_last : Bool) (d_s_n_written : UInt64) (d_s_n_e_h : Vec UInt64 8) (d_s_n_e_count_Lo : UInt64) (d_s_n_e_count_Hi : UInt64) (d_s_n_e_held : List UInt8) (d_s_n_e_block : Int) (d_s_root : List UInt8) (d_s_at : UInt64) (d_s_now : Vec UInt8 64) (d_s_have : Int) (g_d : Nat) (A_d_seed : Option Addr) (n_d_seed : Nat) (c_d_seed : Nat) (g_d_s : Nat) (A_d_s_key : Option Addr) (n_d_s_key : Nat) (c_d_s_key : Nat) (A_d_s_salt : Option Addr) (n_d_s_salt : Nat) (c_d_s_salt : Nat) (A_d_s_personal : Option Addr) (n_d_s_personal : Nat) (c_d_s_personal : Nat) (g_d_s_n : Nat) (A_d_s_n_block : Option Addr) (n_d_s_n_block : Nat) (c_d_s_n_block : Nat) (A_d_s_n_key : Option Addr) (n_d_s_n_key : Nat) (c_d_s_n_key : Nat) (g_d_s_n_e : Nat) (A_d_s_n_e_held : Option Addr) (n_d_s_n_e_held : Nat) (c_d_s_n_e_held : Nat) (g_d_s_root : Nat) (n_d_s_root : Nat) (c_d_s_root : Nat) (h_d_seed : Ro F w A_d_seed (e8.all d_seed)) (hn_d_seed : d_seed.length = n_d_seed) (hc_d_seed : n_d_seed ≤ c_d_seed) (h_d_s_key : Ro F w A_d_s_key (e8.all d_s_key)) (hn_d_s_key : d_s_key.length = n_d_s_key) (hc_d_s_key : n_d_s_key ≤ c_d_s_key) (h_d_s_salt : Ro F w A_d_s_salt (e8.all d_s_salt)) (hn_d_s_salt : d_s_salt.length = n_d_s_salt) (hc_d_s_salt : n_d_s_salt ≤ c_d_s_salt) (h_d_s_personal : Ro F w A_d_s_personal (e8.all d_s_personal)) (hn_d_s_personal : d_s_personal.length = n_d_s_personal) (hc_d_s_personal : n_d_s_personal ≤ c_d_s_personal) (h_d_s_root : Ro F w (some ⟨g_d_s_root, 0, none⟩) (e8.all d_s_root)) (hn_d_s_root : d_s_root.length = n_d_s_root) (hc_d_s_root : n_d_s_root ≤ c_d_s_root) (k : Cx F O w w [Bx 41 g_d [sl A_d_seed n_d_seed c_d_seed, pt g_d_s 0], Bx 62 g_d_s [I 1, I 64, .u32 4294967295, .u64 274877906944, .b false, sl A_d_s_key n_d_s_key c_d_s_key, sl A_d_s_salt n_d_s_salt c_d_s_salt, sl A_d_s_personal n_d_s_personal c_d_s_personal, pt g_d_s_n 0, sl (some ⟨g_d_s_root, 0, none⟩) n_d_s_root c_d_s_root, .u64 d_s_at, .ar e8 d_s_now, I d_s_have, .v (.func (.func 38) ⟨SV.vals [pt g_d_s 0]⟩ ⟨SV.vals []⟩)], Bx 95 g_d_s_n [I d_s_n_kind, I d_s_n_digest, sl A_d_s_n_block n_d_s_n_block c_d_s_n_block, sl A_d_s_n_key n_d_s_n_key c_d_s_n_key, .b d_s_n_last, .u64 d_s_n_written, .v (.iface 115 (SV.val (pt g_d_s_n_e 0)))], Ow e8 A_d_s_n_block n_d_s_n_block c_d_s_n_block d_s_n_block, Ow e8 A_d_s_n_key n_d_s_n_key c_d_s_n_key d_s_n_key, Bx 121 g_d_s_n_e [.ar e64 d_s_n_e_h, .u64 d_s_n_e_count_Lo, .u64 d_s_n_e_count_Hi, sl A_d_s_n_e_held n_d_s_n_e_held c_d_s_n_e_held, I d_s_n_e_block, .v (.func (.func 64) ⟨SV.vals []⟩ ⟨SV.vals []⟩), .v (.func (.func 65) ⟨SV.vals []⟩ ⟨SV.vals []⟩)], Ow e8 A_d_s_n_e_held n_d_s_n_e_held c_d_s_n_e_held d_s_n_e_held]) (r : (UInt64 × Int × Vec UInt64 8 × UInt64 × UInt64 × List UInt8 × Int × Int × Int × List UInt8 × List UInt8 × Bool × UInt64 × UInt64 × Vec UInt8 64 × Int)) (hm : m_dice_Dice_Word_k_s1 d_seed d_s_key d_s_salt d_s_personal d_s_n_kind d_s_n_digest d_s_n_block d_s_n_key d_s_n_last d_s_n_written d_s_n_e_h d_s_n_e_count_Lo d_s_n_e_count_Hi d_s_n_e_held d_s_n_e_block d_s_root d_s_at d_s_now d_s_have = some r) :
    Calls Try.prog 7 (vals [pt g_d 0]) w (fun e w' => ∃ A n c A1 n1 c1 A2 n2 c2, r.2.2.2.2.2.1.length = n ∧ r.2.2.2.2.2.2.2.2.2.1.length = n1 ∧ r.2.2.2.2.2.2.2.2.2.2.1.length = n2 ∧ e = .returned (SV.val (.tup [.u64 r.1, I r.2.1])) ∧ Cx F O w w' [Bx 121 g_d_s_n_e [.ar e64 r.2.2.1, .u64 r.2.2.2.1, .u64 r.2.2.2.2.1, sl A n c, I r.2.2.2.2.2.2.1, .v (.func (.func 64) ⟨SV.vals []⟩ ⟨SV.vals []⟩), .v (.func (.func 65) ⟨SV.vals []⟩ ⟨SV.vals []⟩)], Ow e8 A n c r.2.2.2.2.2.1, Bx 95 g_d_s_n [I r.2.2.2.2.2.2.2.1, I r.2.2.2.2.2.2.2.2.1, sl A1 n1 c1, sl A2 n2 c2, .b r.2.2.2.2.2.2.2.2.2.2.2.1, .u64 r.2.2.2.2.2.2.2.2.2.2.2.2.1, .v (.iface 115 (SV.val (pt g_d_s_n_e 0)))], Ow e8 A1 n1 c1 r.2.2.2.2.2.2.2.2.2.1, Ow e8 A2 n2 c2 r.2.2.2.2.2.2.2.2.2.2.1, Bx 62 g_d_s [I 1, I 64, .u32 4294967295, .u64 274877906944, .b false, sl A_d_s_key n_d_s_key c_d_s_key, sl A_d_s_salt n_d_s_salt c_d_s_salt, sl A_d_s_personal n_d_s_personal c_d_s_personal, pt g_d_s_n 0, sl (some ⟨g_d_s_root, 0, none⟩) n_d_s_root c_d_s_root, .u64 r.2.2.2.2.2.2.2.2.2.2.2.2.2.1, .ar e8 r.2.2.2.2.2.2.2.2.2.2.2.2.2.2.1, I r.2.2.2.2.2.2.2.2.2.2.2.2.2.2.2, .v (.func (.func 38) ⟨SV.vals [pt g_d_s 0]⟩ ⟨SV.vals []⟩)], Bx 41 g_d [sl A_d_seed n_d_seed c_d_seed, pt g_d_s 0]]) := by
 unfold m_dice_Dice_Word_k_s1 at hm
 subst hn_d_seed
 subst hn_d_s_key
 subst hn_d_s_salt
 subst hn_d_s_personal
 obtain rfl := k.len 3 rfl
 obtain rfl := k.len 4 rfl
 obtain rfl := k.len 6 rfl
 subst hn_d_s_root
 refine calls [pt g_d 0] Try.func7 rfl (of_decide_eq_true (by kernel_rfl)) ?_
 refine W_seq <| W_q [] .a qe (by kernel_rfl) ?_
 refine At_go <| W_seq <| W_reg <| WL_op <| Op_alloc [] 4 [.u64 0] (by kernel_rfl) k ?_
 intro g w_ k_
 refine WL_op <| Op_b [] 7 (.u64 0) [.u64 0] (Pt.at g 0) k_ rfl .all (by kernel_rfl) (by kernel_rfl) ?_
 intro w_1 k_1
 refine WL_nil <| At_go <| W_seq <| W_reg <| WLs 2 [] (.n 6 (pt g_d 0) (.n 7 (.v (.func (.func 14) ⟨SV.vals []⟩ ⟨SV.vals [pt g 0]⟩)) (.k .z))) qe (by kernel_rfl) ?_
 refine WL_op ?_
 obtain ⟨r_, h_r_, hm⟩ := ob hm
 obtain ⟨F1, O1, kin, hO, hre, hF, hb⟩ := k_1.go (.i (.i (.i (.i (.i (.i (.i (.i .e))))))))
 refine Op_call [] 8 _ ds_go13 (by kernel_rfl) (c_dice_Dice_drawn_k_s1 (F := F1) (O := O1) _ _ _ _ _ _ _ _ _ _ _ _ _ _ _ _ _ _ _ _ _ _ _ _ _ _ _ _ _ _ _ _ _ _ _ _ _ _ _ _ _ _ _ _ _ _ _ _ _ (Ro.of_old h_d_seed k_1 hF) rfl hc_d_seed (Ro.of_old h_d_s_key k_1 hF) rfl hc_d_s_key (Ro.of_old h_d_s_salt k_1 hF) rfl hc_d_s_salt (Ro.of_old h_d_s_personal k_1 hF) rfl hc_d_s_personal (Ro.of_old h_d_s_root k_1 hF) rfl hc_d_s_root kin _ h_r_) ?_
 rintro e_ w_2 ⟨A0, _, c0, A3, _, c3, A4, _, c4, rfl, rfl, rfl, rfl, k_2⟩
 have k_3 := hb w_2 _ _ k_2 (.c (.c (.c (.c (.c (.c (.c (.c .n))))))))
 refine ⟨I r_.1, rfl, ?_⟩
 refine WLs 1 [] (.n 5 (I r_.1) (.sss .a)) qe (by kernel_rfl) ?_
 refine WL_nil <| At_go <| W_seq <| W_seq <| W_q [] (.n 10 (.b (decide (r_.1 ≠ 0))) .a) qe (by kernel_rfl) ?_
 refine At_go <| W_condp (r_.1 ≠ 0) (by kernel_rfl) (fun hc => ?_) (fun hc => ?_)
 · rw [if_pos hc] at hm
   refine W_seq <| W_q [] (.n 2 (.u64 0) (.n 3 (I r_.1) .z)) qe (by kernel_rfl) ?_
   refine At_go <| W_ret (At_tr ?_)
   obtain rfl := Option.some.inj hm
   refine At_rt [.u64 0, I r_.1] qe (by kernel_rfl) ?_
   have k_4 := k_3.sel (.kkkk (.kk (.k .z)))
   exact ⟨A0, r_.2.2.2.2.1.length, c0, A3, r_.2.2.2.2.2.2.2.2.1.length, c3, A4, r_.2.2.2.2.2.2.2.2.2.1.length, c4, k_4.len 1 rfl, k_4.len 3 rfl, k_4.len 4 rfl, rfl, k_4⟩
 rw [if_neg hc] at hm
 refine W_skip <| At_go <| W_seq <| W_q [] (.n 2 (.u64 r_.2.2.2.2.2.2.2.2.2.2.2.2.2.2.2) (.n 3 (I 0) .z)) (qB k_3 7 rfl 0 (.u64 r_.2.2.2.2.2.2.2.2.2.2.2.2.2.2.2) (by kernel_rfl) <| qe) (by kernel_rfl) ?_
 refine At_go <| W_ret ?_
 obtain rfl := Option.some.inj hm
 refine At_rt [.u64 r_.2.2.2.2.2.2.2.2.2.2.2.2.2.2.2, I 0] qe (by kernel_rfl) ?_
 have k_5 := k_3.sel (.kkkk (.kk (.k .z)))
 exact ⟨A0, r_.2.2.2.2.1.length, c0, A3, r_.2.2.2.2.2.2.2.2.1.length, c3, A4, r_.2.2.2.2.2.2.2.2.2.1.length, c4, k_5.len 1 rfl, k_5.len 3 rfl, k_5.len 4 rfl, rfl, k_5⟩

theorem c_xof_Stream_At_k_s1 {F O : Nat → Prop} {w : World} (x_key : List UInt8) (x_salt : List UInt8) (x_personal : List UInt8) (x_n_kind : Int) (x_n_digest : Int) (x_n_block : List UInt8) (x_n_key : List UInt8) (x_n_last : Bool) (x_n_written : UInt64) (x_n_e_h : Vec UInt64 8) (x_n_e_count_Lo : UInt64) (x_n_e_count_Hi : UInt64) (x_n_e_held : List UInt8) (x_n_e_block : Int) (x_root : List UInt8) (x_at : UInt64) (x_now : Vec UInt8 64) (x_have : Int) (g_x : Nat) (A_x_key : Option Addr) (n_x_key : Nat) (c_x_key : Nat) (A_x_salt : Option Addr) (n_x_salt : Nat) (c_x_salt : Nat) (A_x_personal : Option Addr) (n_x_personal : Nat) (c_x_personal : Nat) (g_x_n : Nat) (A_x_n_block : Option Addr) (n_x_n_block : Nat) (c_x_n_block : Nat) (A_x_n_key : Option Addr) (n_x_n_key : Nat) (c_x_n_key : Nat) (g_x_n_e : Nat) (A_x_n_e_held : Option Addr) (n_x_n_e_held : Nat) (c_x_n_e_held : Nat) (g_x_root : Nat) (n_x_root : Nat) (c_x_root : Nat) (h_x_key : Ro F w A_x_key (e8.all x_key)) (hn_x_key : x_key.length = n_x_key) (hc_x_key : n_x_key ≤ c_x_key) (h_x_salt : Ro F w A_x_salt (e8.all x_salt)) (hn_x_salt : x_salt.length = n_x_salt) (hc_x_salt : n_x_salt ≤ c_x_salt) (h_x_personal : Ro F w A_x_personal (e8.all x_personal)) (hn_x_personal : x_personal.length = n_x_personal) (hc_x_personal : n_x_personal ≤ c_x_personal) (h_x_root : Ro F w (some ⟨g_x_root, 0, none⟩) (e8.all x_root)) (hn_x_root : x_root.length = n_x_root) (hc_x_root : n_x_root ≤ c_x_root) (k : Cx F O w w [Bx 62 g_x [I 1, I 64, .u32 4294967295, .u64 274877906944, .b false, sl A_x_key n_x_key c_x_key, sl A_x_salt n_x_salt c_x_salt, sl A_x_personal n_x_personal c_x_personal, pt g_x_n 0, sl (some ⟨g_x_root, 0, none⟩) n_x_root c_x_root, .u64 x_at, .ar e8 x_now, I x_have, .v (.func (.func 38) ⟨SV.vals [pt g_x 0]⟩ ⟨SV.vals []⟩)], Bx 95 g_x_n [I x_n_kind, I x_n_digest, sl A_x_n_block n_x_n_block c_x_n_block, sl A_x_n_key n_x_n_key c_x_n_key, .b x_n_last, .u64 x_n_written, .v (.iface 115 (SV.val (pt g_x_n_e 0)))], Ow e8 A_x_n_block n_x_n_block c_x_n_block x_n_block, Ow e8 A_x_n_key n_x_n_key c_x_n_key x_n_key, Bx 121 g_x_n_e [.ar e64 x_n_e_h, .u64 x_n_e_count_Lo, .u64 x_n_e_count_Hi, sl A_x_n_e_held n_x_n_e_held c_x_n_e_held, I x_n_e_block, .v (.func (.func 64) ⟨SV.vals []⟩ ⟨SV.vals []⟩), .v (.func (.func 65) ⟨SV.vals []⟩ ⟨SV.vals []⟩)], Ow e8 A_x_n_e_held n_x_n_e_held c_x_n_e_held x_n_e_held]) (r : (UInt64 × Vec UInt64 8 × UInt64 × UInt64 × List UInt8 × Int × Int × Int × List UInt8 × List UInt8 × Bool × UInt64 × UInt64 × Vec UInt8 64 × Int)) (hm : m_xof_Stream_At_k_s1 x_key x_salt x_personal x_n_kind x_n_digest x_n_block x_n_key x_n_last x_n_written x_n_e_h x_n_e_count_Lo x_n_e_count_Hi x_n_e_held x_n_e_block x_root x_at x_now x_have = some r) :
    Calls Try.prog 15 (vals [pt g_x 0]) w (fun e w' => ∃ A n c A1 n1 c1 A2 n2 c2, r.2.2.2.2.1.length = n ∧ r.2.2.2.2.2.2.2.2.1.length = n1 ∧ r.2.2.2.2.2.2.2.2.2.1.length = n2 ∧ e = .returned (SV.val (.u64 r.1)) ∧ Cx F O w w' [Bx 121 g_x_n_e [.ar e64 r.2.1, .u64 r.2.2.1, .u64 r.2.2.2.1, sl A n c, I r.2.2.2.2.2.1, .v (.func (.func 64) ⟨SV.vals []⟩ ⟨SV.vals []⟩), .v (.func (.func 65) ⟨SV.vals []⟩ ⟨SV.vals []⟩)], Ow e8 A n c r.2.2.2.2.1, Bx 95 g_x_n [I r.2.2.2.2.2.2.1, I r.2.2.2.2.2.2.2.1, sl A1 n1 c1, sl A2 n2 c2, .b r.2.2.2.2.2.2.2.2.2.2.1, .u64 r.2.2.2.2.2.2.2.2.2.2.2.1, .v (.iface 115 (SV.val (pt g_x_n_e 0)))], Ow e8 A1 n1 c1 r.2.2.2.2.2.2.2.2.1, Ow e8 A2 n2 c2 r.2.2.2.2.2.2.2.2.2.1, Bx 62 g_x [I 1, I 64, .u32 4294967295, .u64 274877906944, .b false, sl A_x_key n_x_key c_x_key, sl A_x_salt n_x_salt c_x_salt, sl A_x_personal n_x_personal c_x_personal, pt g_x_n 0, sl (some ⟨g_x_root, 0, none⟩) n_x_root c_x_root, .u64 r.2.2.2.2.2.2.2.2.2.2.2.2.1, .ar e8 r.2.2.2.2.2.2.2.2.2.2.2.2.2.1, I r.2.2.2.2.2.2.2.2.2.2.2.2.2.2, .v (.func (.func 38) ⟨SV.vals [pt g_x 0]⟩ ⟨SV.vals []⟩)]]) := by
 unfold m_xof_Stream_At_k_s1 at hm
 subst hn_x_key
 subst hn_x_salt
 subst hn_x_personal
 obtain rfl := k.len 2 rfl
 obtain rfl := k.len 3 rfl
 obtain rfl := k.len 5 rfl
 subst hn_x_root
 refine calls [pt g_x 0] Try.func15 rfl (of_decide_eq_true (by kernel_rfl)) ?_
 refine W_seq <| W_q [] .a qe (by kernel_rfl) ?_
 refine At_go <| W_seq <| W_seq <| W_reg <| WLs 1 [] (.n 3 (pt g_x 0) .a) qe (by kernel_rfl) ?_
 refine WL_op ?_
 obtain ⟨r_, h_r_, hm⟩ := ob hm
 obtain ⟨F1, O1, kin, hO, hre, hF, hb⟩ := k.go (.i (.i (.i (.i (.i (.i .e))))))
 refine Op_call [] 4 _ ds_go22 (by kernel_rfl) (c_xof_Stream_none_k_s1 (F := F1) (O := O1) _ _ _ _ _ _ _ _ _ _ _ _ _ _ _ _ _ _ _ _ _ _ _ _ _ _ _ _ _ _ _ _ _ _ _ _ _ _ _ _ _ _ (Ro.of_old h_x_key k hF) rfl hc_x_key (Ro.of_old h_x_salt k hF) rfl hc_x_salt (Ro.of_old h_x_personal k hF) rfl hc_x_personal (Ro.of_old h_x_root k hF) rfl hc_x_root kin _ h_r_) ?_
 rintro e_ w_ ⟨A0, _, c0, A3, _, c3, A4, _, c4, rfl, rfl, rfl, rfl, k_⟩
 have k_1 := hb w_ _ _ k_ (.c (.c (.c (.c (.c (.c .n))))))
 refine ⟨.b false, rfl, ?_⟩
 refine WL_nil <| At_go <| W_cond false (by kernel_rfl) (fun h => by cases h) (fun _ => ?_)
 refine W_skip <| At_go <| W_seq <| W_q [] (.n 2 (.u64 r_.2.2.2.2.2.2.2.2.2.2.2.1) .z) (qs g_x 0 <| qs g_x 0 <| qB k_1 5 rfl 10 (.u64 r_.2.2.2.2.2.2.2.2.2.2.2.1) (by kernel_rfl) <| qe) (by kernel_rfl) ?_
 refine At_go <| W_ret ?_
 obtain rfl := Option.some.inj hm
 refine At_rt [.u64 r_.2.2.2.2.2.2.2.2.2.2.2.1] qe (by kernel_rfl) ?_
 exact ⟨A0, r_.2.2.2.1.length, c0, A3, r_.2.2.2.2.2.2.2.1.length, c3, A4, r_.2.2.2.2.2.2.2.2.1.length, c4, k_1.len 1 rfl, k_1.len 3 rfl, k_1.len 4 rfl, rfl, k_1⟩

theorem c_dice_Dice_At_k_s1 {F O : Nat → Prop} {w : World} (d_seed : List UInt8) (d_s_key : List UInt8) (d_s_salt : List UInt8) (d_s_personal : List UInt8) (d_s_n_kind : Int) (d_s_n_digest : Int) (d_s_n_block : List UInt8) (d_s_n_key : List UInt8) (d_s_n_last : Bool) (d_s_n_written : UInt64) (d_s_n_e_h : Vec UInt64 8) (d_s_n_e_count_Lo : UInt64) (d_s_n_e_count_Hi : UInt64) (d_s_n_e_held : List UInt8) (d_s_n_e_block : Int) (d_s_root : List UInt8) (d_s_at : UInt64) (d_s_now : Vec UInt8 64) (d_s_have : Int) (g_d : Nat) (A_d_seed : Option Addr) (n_d_seed : Nat) (c_d_seed : Nat) (g_d_s : Nat) (A_d_s_key : Option Addr) (n_d_s_key : Nat) (c_d_s_key : Nat) (A_d_s_salt : Option Addr) (n_d_s_salt : Nat) (c_d_s_salt : Nat) (A_d_s_personal : Option Addr) (n_d_s_personal : Nat) (c_d_s_personal : Nat) (g_d_s_n : Nat) (A_d_s_n_block : Option Addr) (n_d_s_n_block : Nat) (c_d_s_n_block : Nat) (A_d_s_n_key : Option Addr) (n_d_s_n_key : Nat) (c_d_s_n_key : Nat) (g_d_s_n_e : Nat) (A_d_s_n_e_held : Option Addr) (n_d_s_n_e_held : Nat) (c_d_s_n_e_held : Nat) (g_d_s_root : Nat) (n_d_s_root : Nat) (c_d_s_root : Nat) (h_d_seed : Ro F w A_d_seed (e8.all d_seed)) (hn_d_seed : d_seed.length = n_d_seed) (hc_d_seed : n_d_seed ≤ c_d_seed) (h_d_s_key : Ro F w A_d_s_key (e8.all d_s_key)) (hn_d_s_key : d_s_key.length = n_d_s_key) (hc_d_s_key : n_d_s_key ≤ c_d_s_key) (h_d_s_salt : Ro F w A_d_s_salt (e8.all d_s_salt)) (hn_d_s_salt : d_s_salt.length = n_d_s_salt) (hc_d_s_salt : n_d_s_salt ≤ c_d_s_salt) (h_d_s_personal : Ro F w A_d_s_personal (e8.all d_s_personal)) (hn_d_s_personal : d_s_personal.length = n_d_s_personal) (hc_d_s_personal : n_d_s_personal ≤ c_d_s_personal) (h_d_s_root : Ro F w (some ⟨g_d_s_root, 0, none⟩) (e8.all d_s_root)) (hn_d_s_root : d_s_root.length = n_d_s_root) (hc_d_s_root : n_d_s_root ≤ c_d_s_root) (k : Cx F O w w [Bx 41 g_d [sl A_d_seed n_d_seed c_d_seed, pt g_d_s 0], Bx 62 g_d_s [I 1, I 64, .u32 4294967295, .u64 274877906944, .b false, sl A_d_s_key n_d_s_key c_d_s_key, sl A_d_s_salt n_d_s_salt c_d_s_salt, sl A_d_s_personal n_d_s_personal c_d_s_personal, pt g_d_s_n 0, sl (some ⟨g_d_s_root, 0, none⟩) n_d_s_root c_d_s_root, .u64 d_s_at, .ar e8 d_s_now, I d_s_have, .v (.func (.func 38) ⟨SV.vals [pt g_d_s 0]⟩ ⟨SV.vals []⟩)], Bx 95 g_d_s_n [I d_s_n_kind, I d_s_n_digest, sl A_d_s_n_block n_d_s_n_block c_d_s_n_block, sl A_d_s_n_key n_d_s_n_key c_d_s_n_key, .b d_s_n_last, .u64 d_s_n_written, .v (.iface 115 (SV.val (pt g_d_s_n_e 0)))], Ow e8 A_d_s_n_block n_d_s_n_block c_d_s_n_block d_s_n_block, Ow e8 A_d_s_n_key n_d_s_n_key c_d_s_n_key d_s_n_key, Bx 121 g_d_s_n_e [.ar e64 d_s_n_e_h, .u64 d_s_n_e_count_Lo, .u64 d_s_n_e_count_Hi, sl A_d_s_n_e_held n_d_s_n_e_held c_d_s_n_e_held, I d_s_n_e_block, .v (.func (.func 64) ⟨SV.vals []⟩ ⟨SV.vals []⟩), .v (.func (.func 65) ⟨SV.vals []⟩ ⟨SV.vals []⟩)], Ow e8 A_d_s_n_e_held n_d_s_n_e_held c_d_s_n_e_held d_s_n_e_held]) (r : (UInt64 × Vec UInt64 8 × UInt64 × UInt64 × List UInt8 × Int × Int × Int × List UInt8 × List UInt8 × Bool × UInt64 × UInt64 × Vec UInt8 64 × Int)) (hm : m_dice_Dice_At_k_s1 d_seed d_s_key d_s_salt d_s_personal d_s_n_kind d_s_n_digest d_s_n_block d_s_n_key d_s_n_last d_s_n_written d_s_n_e_h d_s_n_e_count_Lo d_s_n_e_count_Hi d_s_n_e_held d_s_n_e_block d_s_root d_s_at d_s_now d_s_have = some r) :
    Calls Try.prog 8 (vals [pt g_d 0]) w (fun e w' => ∃ A n c A1 n1 c1 A2 n2 c2, r.2.2.2.2.1.length = n ∧ r.2.2.2.2.2.2.2.2.1.length = n1 ∧ r.2.2.2.2.2.2.2.2.2.1.length = n2 ∧ e = .returned (SV.val (.u64 r.1)) ∧ Cx F O w w' [Bx 121 g_d_s_n_e [.ar e64 r.2.1, .u64 r.2.2.1, .u64 r.2.2.2.1, sl A n c, I r.2.2.2.2.2.1, .v (.func (.func 64) ⟨SV.vals []⟩ ⟨SV.vals []⟩), .v (.func (.func 65) ⟨SV.vals []⟩ ⟨SV.vals []⟩)], Ow e8 A n c r.2.2.2.2.1, Bx 95 g_d_s_n [I r.2.2.2.2.2.2.1, I r.2.2.2.2.2.2.2.1, sl A1 n1 c1, sl A2 n2 c2, .b r.2.2.2.2.2.2.2.2.2.2.1, .u64 r.2.2.2.2.2.2.2.2.2.2.2.1, .v (.iface 115 (SV.val (pt g_d_s_n_e 0)))], Ow e8 A1 n1 c1 r.2.2.2.2.2.2.2.2.1, Ow e8 A2 n2 c2 r.2.2.2.2.2.2.2.2.2.1, Bx 62 g_d_s [I 1, I 64, .u32 4294967295, .u64 274877906944, .b false, sl A_d_s_key n_d_s_key c_d_s_key, sl A_d_s_salt n_d_s_salt c_d_s_salt, sl A_d_s_personal n_d_s_personal c_d_s_personal, pt g_d_s_n 0, sl (some ⟨g_d_s_root, 0, none⟩) n_d_s_root c_d_s_root, .u64 r.2.2.2.2.2.2.2.2.2.2.2.2.1, .ar e8 r.2.2.2.2.2.2.2.2.2.2.2.2.2.1, I r.2.2.2.2.2.2.2.2.2.2.2.2.2.2, .v (.func (.func 38) ⟨SV.vals [pt g_d_s 0]⟩ ⟨SV.vals []⟩)], Bx 41 g_d [sl A_d_seed n_d_seed c_d_seed, pt g_d_s 0]]) := by
 unfold m_dice_Dice_At_k_s1 at hm
 subst hn_d_seed
 subst hn_d_s_key
 subst hn_d_s_salt
 subst hn_d_s_personal
 obtain rfl := k.len 3 rfl
 obtain rfl := k.len 4 rfl
 obtain rfl := k.len 6 rfl
 subst hn_d_s_root
 refine calls [pt g_d 0] Try.func8 rfl (of_decide_eq_true (by kernel_rfl)) ?_
 refine W_seq <| W_q [] .a qe (by kernel_rfl) ?_
 refine At_go <| W_seq <| W_seq <| W_reg <| WLs 1 [] (.n 3 (pt g_d 0) .a) qe (by kernel_rfl) ?_
 refine WL_op ?_
 obtain ⟨r_, h_r_, hm⟩ := ob hm
 obtain ⟨F1, O1, kin, hO, hre, hF, hb⟩ := k.go (.i (.i (.i (.i (.i (.i (.i .e)))))))
 refine Op_call [] 4 _ ds_go11 (by kernel_rfl) (c_dice_Dice_none_k_s1 (F := F1) (O := O1) _ _ _ _ _ _ _ _ _ _ _ _ _ _ _ _ _ _ _ _ _ _ _ _ _ _ _ _ _ _ _ _ _ _ _ _ _ _ _ _ _ _ _ _ _ _ _ (Ro.of_old h_d_seed k hF) rfl hc_d_seed (Ro.of_old h_d_s_key k hF) rfl hc_d_s_key (Ro.of_old h_d_s_salt k hF) rfl hc_d_s_salt (Ro.of_old h_d_s_personal k hF) rfl hc_d_s_personal (Ro.of_old h_d_s_root k hF) rfl hc_d_s_root kin _ h_r_) ?_
 rintro e_ w_ ⟨A0, _, c0, A3, _, c3, A4, _, c4, rfl, rfl, rfl, rfl, k_⟩
 have k_1 := hb w_ _ _ k_ (.c (.c (.c (.c (.c (.c (.c .n)))))))
 refine ⟨.b false, rfl, ?_⟩
 refine WL_nil <| At_go <| W_cond false (by kernel_rfl) (fun h => by cases h) (fun _ => ?_)
 refine W_skip <| At_go <| W_seq <| W_reg <| WLs 4 [] (.n 8 (pt g_d_s 0) .z) (qs g_d 0 <| qs g_d 0 <| qB k_1 6 rfl 1 (pt g_d_s 0) (by kernel_rfl) <| qe) (by kernel_rfl) ?_
 refine WL_op ?_
 obtain ⟨r_1, h_r_1, hm⟩ := ob hm
 have k_2 := ((((((k_1.pk (.t (.t (.t (.t (.t (.t .h))))))).pk (.t (.t .h))).pk (.t (.t .h))).pk (.t (.t (.t (.t (.t .h)))))).pk (.t (.t (.t (.t (.t .h)))))).pk (.t (.t (.t (.t (.t .h)))))).pk (.t (.t (.t (.t (.t (.t .h))))))
 obtain ⟨F11, O11, kin1, hO1, hre1, hF1, hb1⟩ := k_2.go (.i (.i (.i (.i (.i (.i (.r .e)))))))
 refine Op_call [] 9 _ ds_go15 (by kernel_rfl) (c_xof_Stream_At_k_s1 (F := F11) (O := O11) _ _ _ _ _ _ _ _ _ _ _ _ _ _ _ _ _ _ _ _ _ _ _ _ _ _ _ _ _ _ _ _ _ _ _ _ _ _ _ _ _ _ (Ro.of_old h_d_s_key k_2 hF1) rfl hc_d_s_key (Ro.of_old h_d_s_salt k_2 hF1) rfl hc_d_s_salt (Ro.of_old h_d_s_personal k_2 hF1) rfl hc_d_s_personal (Ro.of_old h_d_s_root k_2 hF1) rfl hc_d_s_root kin1 _ h_r_1) ?_
 rintro e_ w_1 ⟨A5, _, c5, A6, _, c6, A7, _, c7, rfl, rfl, rfl, rfl, k_3⟩
 have k_4 := hb1 w_1 _ _ k_3 (.c (.c (.c (.c (.c (.c .n))))))
 refine ⟨.u64 r_1.1, rfl, ?_⟩
 refine WLs 2 [] (.n 2 (.u64 (r_1.1 / 8)) .z) (qp ((8 : UInt64) ≠ 0) (by show (8 : UInt64) ≠ 0; decide) <| qe) (by kernel_rfl) ?_
 refine WL_nil <| At_go <| W_ret ?_
 obtain rfl := Option.some.inj hm
 refine At_rt [.u64 (r_1.1 / 8)] qe (by kernel_rfl) ?_
 exact ⟨A5, r_1.2.2.2.2.1.length, c5, A6, r_1.2.2.2.2.2.2.2.2.1.length, c6, A7, r_1.2.2.2.2.2.2.2.2.2.1.length, c7, k_4.len 1 rfl, k_4.len 3 rfl, k_4.len 4 rfl, rfl, k_4⟩

theorem c_xof_Stream_Skip_k_s1 {F O : Nat → Prop} {w : World} (x_key : List UInt8) (x_salt : List UInt8) (x_personal : List UInt8) (x_n_kind : Int) (x_n_digest : Int) (x_n_block : List UInt8) (x_n_key : List UInt8) (x_n_last : Bool) (x_n_written : UInt64) (x_n_e_h : Vec UInt64 8) (x_n_e_count_Lo : UInt64) (x_n_e_count_Hi : UInt64) (x_n_e_held : List UInt8) (x_n_e_block : Int) (x_root : List UInt8) (x_at : UInt64) (x_now : Vec UInt8 64) (x_have : Int) (n : UInt64) (g_x : Nat) (A_x_key : Option Addr) (n_x_key : Nat) (c_x_key : Nat) (A_x_salt : Option Addr) (n_x_salt : Nat) (c_x_salt : Nat) (A_x_personal : Option Addr) (n_x_personal : Nat) (c_x_personal : Nat) (g_x_n : Nat) (A_x_n_block : Option Addr) (n_x_n_block : Nat) (c_x_n_block : Nat) (A_x_n_key : Option Addr) (n_x_n_key : Nat) (c_x_n_key : Nat) (g_x_n_e : Nat) (A_x_n_e_held : Option Addr) (n_x_n_e_held : Nat) (c_x_n_e_held : Nat) (g_x_root : Nat) (n_x_root : Nat) (c_x_root : Nat) (h_x_key : Ro F w A_x_key (e8.all x_key)) (hn_x_key : x_key.length = n_x_key) (hc_x_key : n_x_key ≤ c_x_key) (h_x_salt : Ro F w A_x_salt (e8.all x_salt)) (hn_x_salt : x_salt.length = n_x_salt) (hc_x_salt : n_x_salt ≤ c_x_salt) (h_x_personal : Ro F w A_x_personal (e8.all x_personal)) (hn_x_personal : x_personal.length = n_x_personal) (hc_x_personal : n_x_personal ≤ c_x_personal) (h_x_root : Ro F w (some ⟨g_x_root, 0, none⟩) (e8.all x_root)) (hn_x_root : x_root.length = n_x_root) (hc_x_root : n_x_root ≤ c_x_root) (k : Cx F O w w [Bx 62 g_x [I 1, I 64, .u32 4294967295, .u64 274877906944, .b false, sl A_x_key n_x_key c_x_key, sl A_x_salt n_x_salt c_x_salt, sl A_x_personal n_x_personal c_x_personal, pt g_x_n 0, sl (some ⟨g_x_root, 0, none⟩) n_x_root c_x_root, .u64 x_at, .ar e8 x_now, I x_have, .v (.func (.func 38) ⟨SV.vals [pt g_x 0]⟩ ⟨SV.vals []⟩)], Bx 95 g_x_n [I x_n_kind, I x_n_digest, sl A_x_n_block n_x_n_block c_x_n_block, sl A_x_n_key n_x_n_key c_x_n_key, .b x_n_last, .u64 x_n_written, .v (.iface 115 (SV.val (pt g_x_n_e 0)))], Ow e8 A_x_n_block n_x_n_block c_x_n_block x_n_block, Ow e8 A_x_n_key n_x_n_key c_x_n_key x_n_key, Bx 121 g_x_n_e [.ar e64 x_n_e_h, .u64 x_n_e_count_Lo, .u64 x_n_e_count_Hi, sl A_x_n_e_held n_x_n_e_held c_x_n_e_held, I x_n_e_block, .v (.func (.func 64) ⟨SV.vals []⟩ ⟨SV.vals []⟩), .v (.func (.func 65) ⟨SV.vals []⟩ ⟨SV.vals []⟩)], Ow e8 A_x_n_e_held n_x_n_e_held c_x_n_e_held x_n_e_held]) (r : (UInt64 × Int × Vec UInt64 8 × UInt64 × UInt64 × List UInt8 × Int × Int × Int × List UInt8 × List UInt8 × Bool × UInt64 × UInt64 × Vec UInt8 64 × Int)) (hm : m_xof_Stream_Skip_k_s1 x_key x_salt x_personal x_n_kind x_n_digest x_n_block x_n_key x_n_last x_n_written x_n_e_h x_n_e_count_Lo x_n_e_count_Hi x_n_e_held x_n_e_block x_root x_at x_now x_have n = some r) :
    Calls Try.prog 12 (vals [pt g_x 0, .u64 n]) w (fun e w' => ∃ A n1 c A1 n2 c1 A2 n3 c2, r.2.2.2.2.2.1.length = n1 ∧ r.2.2.2.2.2.2.2.2.2.1.length = n2 ∧ r.2.2.2.2.2.2.2.2.2.2.1.length = n3 ∧ e = .returned (SV.val (.tup [.u64 r.1, I r.2.1])) ∧ Cx F O w w' [Bx 121 g_x_n_e [.ar e64 r.2.2.1, .u64 r.2.2.2.1, .u64 r.2.2.2.2.1, sl A n1 c, I r.2.2.2.2.2.2.1, .v (.func (.func 64) ⟨SV.vals []⟩ ⟨SV.vals []⟩), .v (.func (.func 65) ⟨SV.vals []⟩ ⟨SV.vals []⟩)], Ow e8 A n1 c r.2.2.2.2.2.1, Bx 95 g_x_n [I r.2.2.2.2.2.2.2.1, I r.2.2.2.2.2.2.2.2.1, sl A1 n2 c1, sl A2 n3 c2, .b r.2.2.2.2.2.2.2.2.2.2.2.1, .u64 r.2.2.2.2.2.2.2.2.2.2.2.2.1, .v (.iface 115 (SV.val (pt g_x_n_e 0)))], Ow e8 A1 n2 c1 r.2.2.2.2.2.2.2.2.2.1, Ow e8 A2 n3 c2 r.2.2.2.2.2.2.2.2.2.2.1, Bx 62 g_x [I 1, I 64, .u32 4294967295, .u64 274877906944, .b false, sl A_x_key n_x_key c_x_key, sl A_x_salt n_x_salt c_x_salt, sl A_x_personal n_x_personal c_x_personal, pt g_x_n 0, sl (some ⟨g_x_root, 0, none⟩) n_x_root c_x_root, .u64 r.2.2.2.2.2.2.2.2.2.2.2.2.2.1, .ar e8 r.2.2.2.2.2.2.2.2.2.2.2.2.2.2.1, I r.2.2.2.2.2.2.2.2.2.2.2.2.2.2.2, .v (.func (.func 38) ⟨SV.vals [pt g_x 0]⟩ ⟨SV.vals []⟩)]]) := by
 unfold m_xof_Stream_Skip_k_s1 at hm
 subst hn_x_key
 subst hn_x_salt
 subst hn_x_personal
 obtain rfl := k.len 2 rfl
 obtain rfl := k.len 3 rfl
 obtain rfl := k.len 5 rfl
 subst hn_x_root
 refine calls [pt g_x 0, .u64 n] Try.func12 rfl (of_decide_eq_true (by kernel_rfl)) ?_
 refine W_seq <| W_q [] .a qe (by kernel_rfl) ?_
 refine At_go <| W_seq <| W_seq <| W_reg <| WLs 1 [] (.n 7 (pt g_x 0) .a) qe (by kernel_rfl) ?_
 refine WL_op ?_
 obtain ⟨r_, h_r_, hm⟩ := ob hm
 obtain ⟨F1, O1, kin, hO, hre, hF, hb⟩ := k.go (.i (.i (.i (.i (.i (.i .e))))))
 refine Op_call [] 8 _ ds_go22 (by kernel_rfl) (c_xof_Stream_none_k_s1 (F := F1) (O := O1) _ _ _ _ _ _ _ _ _ _ _ _ _ _ _ _ _ _ _ _ _ _ _ _ _ _ _ _ _ _ _ _ _ _ _ _ _ _ _ _ _ _ (Ro.of_old h_x_key k hF) rfl hc_x_key (Ro.of_old h_x_salt k hF) rfl hc_x_salt (Ro.of_old h_x_personal k hF) rfl hc_x_personal (Ro.of_old h_x_root k hF) rfl hc_x_root kin _ h_r_) ?_
 rintro e_ w_ ⟨A0, _, c0, A3, _, c3, A4, _, c4, rfl, rfl, rfl, rfl, k_⟩
 have k_1 := hb w_ _ _ k_ (.c (.c (.c (.c (.c (.c .n))))))
 refine ⟨.b false, rfl, ?_⟩
 refine WL_nil <| At_go <| W_cond false (by kernel_rfl) (fun h => by cases h) (fun _ => ?_)
 refine W_skip <| At_go <| W_seq <| W_reg <| WLs 1 [] (.n 9 (pt g_x 0) (.ss .a)) qe (by kernel_rfl) ?_
 refine WL_op ?_
 obtain ⟨r_1, h_r_1, hm⟩ := ob hm
 have k_2 := (((((k_1.pk (.t .h)).pk (.t .h)).pk (.t (.t (.t (.t .h))))).pk (.t (.t (.t (.t .h))))).pk (.t (.t (.t (.t .h))))).pk (.t (.t (.t (.t (.t .h)))))
 obtain ⟨F11, O11, kin1, hO1, hre1, hF1, hb1⟩ := k_2.go (.i (.i (.i (.i (.i (.i .e))))))
 refine Op_call [] 10 _ ds_go23 (by kernel_rfl) (c_xof_Stream_give_k_s1 (F := F11) (O := O11) _ _ _ _ _ _ _ _ _ _ _ _ _ _ _ _ _ _ _ _ _ _ _ _ _ _ _ _ _ _ _ _ _ _ _ _ _ _ _ _ _ _ (Ro.of_old h_x_key k_2 hF1) rfl hc_x_key (Ro.of_old h_x_salt k_2 hF1) rfl hc_x_salt (Ro.of_old h_x_personal k_2 hF1) rfl hc_x_personal (Ro.of_old h_x_root k_2 hF1) rfl hc_x_root kin1 _ h_r_1) ?_
 rintro e_ w_1 ⟨A5, _, c5, A6, _, c6, A7, _, c7, rfl, rfl, rfl, rfl, k_3⟩
 have k_4 := hb1 w_1 _ _ k_3 (.c (.c (.c (.c (.c (.c .n))))))
 refine ⟨.tup [], rfl, ?_⟩
 refine WL_nil <| At_go <| W_seq <| W_d ds_mixed (by kernel_rfl) (.n 6 (.u64 ((274877906944 : UInt64) - r_1.2.2.2.2.2.2.2.2.2.2.2.1)) (.ss .a)) (fun m => qs g_x 0 <| qs g_x 0 <| qs g_x 0 <| qB (k_4.drew m) 5 rfl 3 (.u64 274877906944) (by kernel_rfl) <| qs g_x 0 <| qs g_x 0 <| qB (k_4.drew m) 5 rfl 10 (.u64 r_1.2.2.2.2.2.2.2.2.2.2.2.1) (by kernel_rfl) <| qe) (by kernel_rfl) (fun m_ => ?_)
 have k_5 := k_4.drew m_
 refine At_go <| W_seq <| W_seq <| W_q [] (.n 26 (.b ((decide ((0 : UInt64) < n)) && (decide (((274877906944 : UInt64) - r_1.2.2.2.2.2.2.2.2.2.2.2.1) = 0)))) .a) qe (by kernel_rfl) ?_
 refine At_go <| W_cond ((decide ((0 : UInt64) < n)) && (decide (((274877906944 : UInt64) - r_1.2.2.2.2.2.2.2.2.2.2.2.1) = 0))) (by kernel_rfl) (fun hc => ?_) (fun hc => ?_)
 · rw [if_pos hc] at hm
   refine W_seq <| W_q [] (.n 4 (.u64 0) (.n 5 (I 70) .z)) qe (by kernel_rfl) ?_
   refine At_go <| W_ret (At_tr ?_)
   obtain rfl := Option.some.inj hm
   refine At_rt [.u64 0, I 70] qe (by kernel_rfl) ?_
   exact ⟨A5, r_1.2.2.2.1.length, c5, A6, r_1.2.2.2.2.2.2.2.1.length, c6, A7, r_1.2.2.2.2.2.2.2.2.1.length, c7, k_5.len 1 rfl, k_5.len 3 rfl, k_5.len 4 rfl, rfl, k_5⟩
 rw [if_neg (by rw [hc]; decide)] at hm
 refine W_skip <| At_go <| W_seq <| W_q [] (.n 1 (.u64 (umin n ((274877906944 : UInt64) - r_1.2.2.2.2.2.2.2.2.2.2.2.1))) (.ss (.k .z))) qe (by kernel_rfl) ?_
 refine At_go <| W_seq <| W_reg <| WLs 8 [] (.n 35 (.u64 (r_1.2.2.2.2.2.2.2.2.2.2.2.1 + (umin n ((274877906944 : UInt64) - r_1.2.2.2.2.2.2.2.2.2.2.2.1)))) (.n 37 (pt g_x 10) (.k .z))) (qs g_x 0 <| qs g_x 0 <| qB k_5 5 rfl 10 (.u64 r_1.2.2.2.2.2.2.2.2.2.2.2.1) (by kernel_rfl) <| qs g_x 0 <| qs g_x 0 <| qe) (by kernel_rfl) ?_
 refine WL_op ?_
 obtain ⟨v, h_v, hm⟩ := nm hm
 refine Op_b [] 5 (.u64 (r_1.2.2.2.2.2.2.2.2.2.2.2.1 + (umin n ((274877906944 : UInt64) - r_1.2.2.2.2.2.2.2.2.2.2.2.1)))) [.u64 (r_1.2.2.2.2.2.2.2.2.2.2.2.1 + (umin n ((274877906944 : UInt64) - r_1.2.2.2.2.2.2.2.2.2.2.2.1)))] (Pt.at g_x 10) k_5 rfl (.kkkk (.kkkk (.kk .h))) (by kernel_rfl) (by kernel_rfl) ?_
 intro w_2 k_6
 rw [h_v] at k_6
 refine WL_nil <| At_go <| W_seq <| W_q [] (.n 4 (.u64 (umin n ((274877906944 : UInt64) - r_1.2.2.2.2.2.2.2.2.2.2.2.1))) (.n 5 (I 0) .z)) qe (by kernel_rfl) ?_
 refine At_go <| W_ret ?_
 obtain rfl := Option.some.inj hm
 refine At_rt [.u64 (umin n ((274877906944 : UInt64) - r_1.2.2.2.2.2.2.2.2.2.2.2.1)), I 0] qe (by kernel_rfl) ?_
 exact ⟨A5, r_1.2.2.2.1.length, c5, A6, r_1.2.2.2.2.2.2.2.1.length, c6, A7, r_1.2.2.2.2.2.2.2.2.1.length, c7, k_6.len 1 rfl, k_6.len 3 rfl, k_6.len 4 rfl, rfl, k_6⟩

theorem c_dice_Dice_Skip_k_s1 {F O : Nat → Prop} {w : World} (d_seed : List UInt8) (d_s_key : List UInt8) (d_s_salt : List UInt8) (d_s_personal : List UInt8) (d_s_n_kind : Int) (d_s_n_digest : Int) (d_s_n_block : List UInt8) (d_s_n_key : List UInt8) (d_s_n_last : Bool) (d_s_n_written : UInt64) (d_s_n_e_h : Vec UInt64 8) (d_s_n_e_count_Lo : UInt64) (d_s_n_e_count_Hi : UInt64) (d_s_n_e_held : List UInt8) (d_s_n_e_block : Int) (d_s_root : List UInt8) (d_s_at : UInt64) (d_s_now : Vec UInt8 64) (d_s_have : Int) (n : UInt64) (g_d : Nat) (A_d_seed : Option Addr) (n_d_seed : Nat) (c_d_seed : Nat) (g_d_s : Nat) (A_d_s_key : Option Addr) (n_d_s_key : Nat) (c_d_s_key : Nat) (A_d_s_salt : Option Addr) (n_d_s_salt : Nat) (c_d_s_salt : Nat) (A_d_s_personal : Option Addr) (n_d_s_personal : Nat) (c_d_s_personal : Nat) (g_d_s_n : Nat) (A_d_s_n_block : Option Addr) (n_d_s_n_block : Nat) (c_d_s_n_block : Nat) (A_d_s_n_key : Option Addr) (n_d_s_n_key : Nat) (c_d_s_n_key : Nat) (g_d_s_n_e : Nat) (A_d_s_n_e_held : Option Addr) (n_d_s_n_e_held : Nat) (c_d_s_n_e_held : Nat) (g_d_s_root : Nat) (n_d_s_root : Nat) (c_d_s_root : Nat) (h_d_seed : Ro F w A_d_seed (e8.all d_seed)) (hn_d_seed : d_seed.length = n_d_seed) (hc_d_seed : n_d_seed ≤ c_d_seed) (h_d_s_key : Ro F w A_d_s_key (e8.all d_s_key)) (hn_d_s_key : d_s_key.length = n_d_s_key) (hc_d_s_key : n_d_s_key ≤ c_d_s_key) (h_d_s_salt : Ro F w A_d_s_salt (e8.all d_s_salt)) (hn_d_s_salt : d_s_salt.length = n_d_s_salt) (hc_d_s_salt : n_d_s_salt ≤ c_d_s_salt) (h_d_s_personal : Ro F w A_d_s_personal (e8.all d_s_personal)) (hn_d_s_personal : d_s_personal.length = n_d_s_personal) (hc_d_s_personal : n_d_s_personal ≤ c_d_s_personal) (h_d_s_root : Ro F w (some ⟨g_d_s_root, 0, none⟩) (e8.all d_s_root)) (hn_d_s_root : d_s_root.length = n_d_s_root) (hc_d_s_root : n_d_s_root ≤ c_d_s_root) (k : Cx F O w w [Bx 41 g_d [sl A_d_seed n_d_seed c_d_seed, pt g_d_s 0], Bx 62 g_d_s [I 1, I 64, .u32 4294967295, .u64 274877906944, .b false, sl A_d_s_key n_d_s_key c_d_s_key, sl A_d_s_salt n_d_s_salt c_d_s_salt, sl A_d_s_personal n_d_s_personal c_d_s_personal, pt g_d_s_n 0, sl (some ⟨g_d_s_root, 0, none⟩) n_d_s_root c_d_s_root, .u64 d_s_at, .ar e8 d_s_now, I d_s_have, .v (.func (.func 38) ⟨SV.vals [pt g_d_s 0]⟩ ⟨SV.vals []⟩)], Bx 95 g_d_s_n [I d_s_n_kind, I d_s_n_digest, sl A_d_s_n_block n_d_s_n_block c_d_s_n_block, sl A_d_s_n_key n_d_s_n_key c_d_s_n_key, .b d_s_n_last, .u64 d_s_n_written, .v (.iface 115 (SV.val (pt g_d_s_n_e 0)))], Ow e8 A_d_s_n_block n_d_s_n_block c_d_s_n_block d_s_n_block, Ow e8 A_d_s_n_key n_d_s_n_key c_d_s_n_key d_s_n_key, Bx 121 g_d_s_n_e [.ar e64 d_s_n_e_h, .u64 d_s_n_e_count_Lo, .u64 d_s_n_e_count_Hi, sl A_d_s_n_e_held n_d_s_n_e_held c_d_s_n_e_held, I d_s_n_e_block, .v (.func (.func 64) ⟨SV.vals []⟩ ⟨SV.vals []⟩), .v (.func (.func 65) ⟨SV.vals []⟩ ⟨SV.vals []⟩)], Ow e8 A_d_s_n_e_held n_d_s_n_e_held c_d_s_n_e_held d_s_n_e_held]) (r : (Int × Vec UInt64 8 × UInt64 × UInt64 × List UInt8 × Int × Int × Int × List UInt8 × List UInt8 × Bool × UInt64 × UInt64 × Vec UInt8 64 × Int)) (hm : m_dice_Dice_Skip_k_s1 d_seed d_s_key d_s_salt d_s_personal d_s_n_kind d_s_n_digest d_s_n_block d_s_n_key d_s_n_last d_s_n_written d_s_n_e_h d_s_n_e_count_Lo d_s_n_e_count_Hi d_s_n_e_held d_s_n_e_block d_s_root d_s_at d_s_now d_s_have n = some r) :
    Calls Try.prog 6 (vals [pt g_d 0, .u64 n]) w (fun e w' => ∃ A n1 c A1 n2 c1 A2 n3 c2, r.2.2.2.2.1.length = n1 ∧ r.2.2.2.2.2.2.2.2.1.length = n2 ∧ r.2.2.2.2.2.2.2.2.2.1.length = n3 ∧ e = .returned (SV.val (I r.1)) ∧ Cx F O w w' [Bx 121 g_d_s_n_e [.ar e64 r.2.1, .u64 r.2.2.1, .u64 r.2.2.2.1, sl A n1 c, I r.2.2.2.2.2.1, .v (.func (.func 64) ⟨SV.vals []⟩ ⟨SV.vals []⟩), .v (.func (.func 65) ⟨SV.vals []⟩ ⟨SV.vals []⟩)], Ow e8 A n1 c r.2.2.2.2.1, Bx 95 g_d_s_n [I r.2.2.2.2.2.2.1, I r.2.2.2.2.2.2.2.1, sl A1 n2 c1, sl A2 n3 c2, .b r.2.2.2.2.2.2.2.2.2.2.1, .u64 r.2.2.2.2.2.2.2.2.2.2.2.1, .v (.iface 115 (SV.val (pt g_d_s_n_e 0)))], Ow e8 A1 n2 c1 r.2.2.2.2.2.2.2.2.1, Ow e8 A2 n3 c2 r.2.2.2.2.2.2.2.2.2.1, Bx 62 g_d_s [I 1, I 64, .u32 4294967295, .u64 274877906944, .b false, sl A_d_s_key n_d_s_key c_d_s_key, sl A_d_s_salt n_d_s_salt c_d_s_salt, sl A_d_s_personal n_d_s_personal c_d_s_personal, pt g_d_s_n 0, sl (some ⟨g_d_s_root, 0, none⟩) n_d_s_root c_d_s_root, .u64 r.2.2.2.2.2.2.2.2.2.2.2.2.1, .ar e8 r.2.2.2.2.2.2.2.2.2.2.2.2.2.1, I r.2.2.2.2.2.2.2.2.2.2.2.2.2.2, .v (.func (.func 38) ⟨SV.vals [pt g_d_s 0]⟩ ⟨SV.vals []⟩)], Bx 41 g_d [sl A_d_seed n_d_seed c_d_seed, pt g_d_s 0]]) := by
 unfold m_dice_Dice_Skip_k_s1 at hm
 subst hn_d_seed
 subst hn_d_s_key
 subst hn_d_s_salt
 subst hn_d_s_personal
 obtain rfl := k.len 3 rfl
 obtain rfl := k.len 4 rfl
 obtain rfl := k.len 6 rfl
 subst hn_d_s_root
 refine calls [pt g_d 0, .u64 n] Try.func6 rfl (of_decide_eq_true (by kernel_rfl)) ?_
 refine W_seq <| W_q [] .a qe (by kernel_rfl) ?_
 refine At_go <| W_seq <| W_seq <| W_reg <| WLs 1 [] (.n 5 (pt g_d 0) .a) qe (by kernel_rfl) ?_
 refine WL_op ?_
 obtain ⟨r_, h_r_, hm⟩ := ob hm
 obtain ⟨F1, O1, kin, hO, hre, hF, hb⟩ := k.go (.i (.i (.i (.i (.i (.i (.i .e)))))))
 refine Op_call [] 6 _ ds_go11 (by kernel_rfl) (c_dice_Dice_none_k_s1 (F := F1) (O := O1) _ _ _ _ _ _ _ _ _ _ _ _ _ _ _ _ _ _ _ _ _ _ _ _ _ _ _ _ _ _ _ _ _ _ _ _ _ _ _ _ _ _ _ _ _ _ _ (Ro.of_old h_d_seed k hF) rfl hc_d_seed (Ro.of_old h_d_s_key k hF) rfl hc_d_s_key (Ro.of_old h_d_s_salt k hF) rfl hc_d_s_salt (Ro.of_old h_d_s_personal k hF) rfl hc_d_s_personal (Ro.of_old h_d_s_root k hF) rfl hc_d_s_root kin _ h_r_) ?_
 rintro e_ w_ ⟨A0, _, c0, A3, _, c3, A4, _, c4, rfl, rfl, rfl, rfl, k_⟩
 have k_1 := hb w_ _ _ k_ (.c (.c (.c (.c (.c (.c (.c .n)))))))
 refine ⟨.b false, rfl, ?_⟩
 refine WL_nil <| At_go <| W_cond false (by kernel_rfl) (fun h => by cases h) (fun _ => ?_)
 refine W_skip <| At_go <| W_seq <| W_seq <| W_reg <| WLs 2 [] (.n 7 (.u64 n) (.n 8 (pt g_d 0) (.ss .a))) qe (by kernel_rfl) ?_
 refine WL_op ?_
 obtain ⟨r_1, h_r_1, hm⟩ := ob hm
 have k_2 := ((((((k_1.pk (.t .h)).pk (.t .h)).pk (.t (.t (.t (.t .h))))).pk (.t (.t (.t (.t .h))))).pk (.t (.t (.t (.t .h))))).pk (.t (.t (.t (.t (.t .h)))))).pk (.t (.t (.t (.t (.t (.t .h))))))
 obtain ⟨F11, O11, kin1, hO1, hre1, hF1, hb1⟩ := k_2.go (.i (.i (.i (.i (.i (.i (.i .e)))))))
 refine Op_call [] 9 _ ds_go8 (by kernel_rfl) (c_dice_Dice_At_k_s1 (F := F11) (O := O11) _ _ _ _ _ _ _ _ _ _ _ _ _ _ _ _ _ _ _ _ _ _ _ _ _ _ _ _ _ _ _ _ _ _ _ _ _ _ _ _ _ _ _ _ _ _ _ (Ro.of_old h_d_seed k_2 hF1) rfl hc_d_seed (Ro.of_old h_d_s_key k_2 hF1) rfl hc_d_s_key (Ro.of_old h_d_s_salt k_2 hF1) rfl hc_d_s_salt (Ro.of_old h_d_s_personal k_2 hF1) rfl hc_d_s_personal (Ro.of_old h_d_s_root k_2 hF1) rfl hc_d_s_root kin1 _ h_r_1) ?_
 rintro e_ w_1 ⟨A5, _, c5, A6, _, c6, A7, _, c7, rfl, rfl, rfl, rfl, k_3⟩
 have k_4 := hb1 w_1 _ _ k_3 (.c (.c (.c (.c (.c (.c (.c .n)))))))
 refine ⟨.u64 r_1.1, rfl, ?_⟩
 refine WLs 2 [] (.n 11 (.b (decide (((34359738368 : UInt64) - r_1.1) < n))) (.sss .a)) qe (by kernel_rfl) ?_
 refine WL_nil <| At_go <| W_condp (((34359738368 : UInt64) - r_1.1) < n) (by kernel_rfl) (fun hc => ?_) (fun hc => ?_)
 · rw [if_pos hc] at hm
   refine W_seq <| W_q [] (.n 4 (I 1) .z) qe (by kernel_rfl) ?_
   refine At_go <| W_ret (At_tr ?_)
   obtain rfl := Option.some.inj hm
   refine At_rt [I 1] qe (by kernel_rfl) ?_
   exact ⟨A5, r_1.2.2.2.2.1.length, c5, A6, r_1.2.2.2.2.2.2.2.2.1.length, c6, A7, r_1.2.2.2.2.2.2.2.2.2.1.length, c7, k_4.len 1 rfl, k_4.len 3 rfl, k_4.len 4 rfl, rfl, k_4⟩
 rw [if_neg hc] at hm
 refine W_skip <| At_go <| W_seq <| W_reg <| WLs 6 [] (.n 15 (pt g_d_s 0) (.n 17 (.u64 ((8 : UInt64) * n)) .z)) (qs g_d 0 <| qs g_d 0 <| qB k_4 6 rfl 1 (pt g_d_s 0) (by kernel_rfl) <| qe) (by kernel_rfl) ?_
 refine WL_op ?_
 obtain ⟨r_2, h_r_2, hm⟩ := ob hm
 have k_5 := ((((((k_4.pk (.t (.t (.t (.t (.t (.t .h))))))).pk (.t (.t .h))).pk (.t (.t .h))).pk (.t (.t (.t (.t (.t .h)))))).pk (.t (.t (.t (.t (.t .h)))))).pk (.t (.t (.t (.t (.t .h)))))).pk (.t (.t (.t (.t (.t (.t .h))))))
 obtain ⟨F12, O12, kin2, hO2, hre2, hF2, hb2⟩ := k_5.go (.i (.i (.i (.i (.i (.i (.r .e)))))))
 refine Op_call [] 18 _ ds_go12 (by kernel_rfl) (c_xof_Stream_Skip_k_s1 (F := F12) (O := O12) _ _ _ _ _ _ _ _ _ _ _ _ _ _ _ _ _ _ _ _ _ _ _ _ _ _ _ _ _ _ _ _ _ _ _ _ _ _ _ _ _ _ _ (Ro.of_old h_d_s_key k_5 hF2) rfl hc_d_s_key (Ro.of_old h_d_s_salt k_5 hF2) rfl hc_d_s_salt (Ro.of_old h_d_s_personal k_5 hF2) rfl hc_d_s_personal (Ro.of_old h_d_s_root k_5 hF2) rfl hc_d_s_root kin2 _ h_r_2) ?_
 rintro e_ w_2 ⟨A8, _, c8, A9, _, c9, A10, _, c10, rfl, rfl, rfl, rfl, k_6⟩
 have k_7 := hb2 w_2 _ _ k_6 (.c (.c (.c (.c (.c (.c .n))))))
 refine ⟨.tup [.u64 r_2.1, I r_2.2.1], rfl, ?_⟩
 refine WL_nil <| At_go <| W_seq <| W_q [] (.n 4 (I 0) .z) qe (by kernel_rfl) ?_
 refine At_go <| W_ret ?_
 obtain rfl := Option.some.inj hm
 refine At_rt [I 0] qe (by kernel_rfl) ?_
 exact ⟨A8, r_2.2.2.2.2.2.1.length, c8, A9, r_2.2.2.2.2.2.2.2.2.2.1.length, c9, A10, r_2.2.2.2.2.2.2.2.2.2.2.1.length, c10, k_7.len 1 rfl, k_7.len 3 rfl, k_7.len 4 rfl, rfl, k_7⟩
end Go.Sx

