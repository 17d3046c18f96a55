import Derived.Test.YtapbicobghgmlaaGreatW2
namespace Go.Sx
open Go.RowKit Go.Proofs
set_option linter.unusedVariables false
set_option linter.unusedSimpArgs false
set_option maxRecDepth 20000

theorem c_dice_Dice_drawn_1_k {F O : Nat → Prop} {w : World} (p_seed : List UInt8) (p_s_key : List UInt8) (p_s_salt : List UInt8) (p_s_personal : List UInt8) (p_s_n_kind : Int) (p_s_n_digest : Int) (p_s_n_block : List UInt8) (p_s_n_key : List UInt8) (p_s_n_last : Bool) (p_s_n_written : UInt64) (p_s_n_e_h : Vec UInt64 8) (p_s_n_e_count_Lo : UInt64) (p_s_n_e_count_Hi : UInt64) (p_s_n_e_held : List UInt8) (p_s_n_e_block : Int) (p_s_at : UInt64) (p_s_now : Vec UInt8 64) (p_s_have : Int) (p : Int) (g_p : Nat) (g_p1 : Nat) (A_p_seed : Option Addr) (n_p_seed : Nat) (c_p_seed : Nat) (g_p_s : Nat) (A_p_s_key : Option Addr) (n_p_s_key : Nat) (c_p_s_key : Nat) (A_p_s_salt : Option Addr) (n_p_s_salt : Nat) (c_p_s_salt : Nat) (A_p_s_personal : Option Addr) (n_p_s_personal : Nat) (c_p_s_personal : Nat) (g_p_s_n : Nat) (A_p_s_n_block : Option Addr) (n_p_s_n_block : Nat) (c_p_s_n_block : Nat) (A_p_s_n_key : Option Addr) (n_p_s_n_key : Nat) (c_p_s_n_key : Nat) (g_p_s_n_e : Nat) (A_p_s_n_e_held : Option Addr) (n_p_s_n_e_held : Nat) (c_p_s_n_e_held : Nat) (g_p2 : Nat) (h_p_seed : Ro F w A_p_seed (e8.all p_seed)) (hn_p_seed : p_seed.length = n_p_seed) (hc_p_seed : n_p_seed ≤ c_p_seed) (h_p_s_key : Ro F w A_p_s_key (e8.all p_s_key)) (hn_p_s_key : p_s_key.length = n_p_s_key) (hc_p_s_key : n_p_s_key ≤ c_p_s_key) (h_p_s_salt : Ro F w A_p_s_salt (e8.all p_s_salt)) (hn_p_s_salt : p_s_salt.length = n_p_s_salt) (hc_p_s_salt : n_p_s_salt ≤ c_p_s_salt) (h_p_s_personal : Ro F w A_p_s_personal (e8.all p_s_personal)) (hn_p_s_personal : p_s_personal.length = n_p_s_personal) (hc_p_s_personal : n_p_s_personal ≤ c_p_s_personal) (k : Cx F O w w [Bx 24 g_p [pt g_p1 0], Bx 42 g_p1 [sl A_p_seed n_p_seed c_p_seed, pt g_p_s 0], Bx 67 g_p_s [I 1, I 64, .u32 4294967295, .u64 274877906944, .b false, sl A_p_s_key n_p_s_key c_p_s_key, sl A_p_s_salt n_p_s_salt c_p_s_salt, sl A_p_s_personal n_p_s_personal c_p_s_personal, pt g_p_s_n 0, sl none 0 0, .u64 p_s_at, .ar e8 p_s_now, I p_s_have, .v (.func (.func 36) ⟨SV.vals [pt g_p_s 0]⟩ ⟨SV.vals []⟩)], Bx 114 g_p_s_n [I p_s_n_kind, I p_s_n_digest, sl A_p_s_n_block n_p_s_n_block c_p_s_n_block, sl A_p_s_n_key n_p_s_n_key c_p_s_n_key, .b p_s_n_last, .u64 p_s_n_written, .v (.iface 141 (SV.val (pt g_p_s_n_e 0)))], Ow e8 A_p_s_n_block n_p_s_n_block c_p_s_n_block p_s_n_block, Ow e8 A_p_s_n_key n_p_s_n_key c_p_s_n_key p_s_n_key, Bx 147 g_p_s_n_e [.ar e64 p_s_n_e_h, .u64 p_s_n_e_count_Lo, .u64 p_s_n_e_count_Hi, sl A_p_s_n_e_held n_p_s_n_e_held c_p_s_n_e_held, I p_s_n_e_block, .v (.func (.func 83) ⟨SV.vals []⟩ ⟨SV.vals []⟩), .v (.func (.func 84) ⟨SV.vals []⟩ ⟨SV.vals []⟩)], Ow e8 A_p_s_n_e_held n_p_s_n_e_held c_p_s_n_e_held p_s_n_e_held, Bx 25 g_p2 [I p]]) (r : (UInt64 × Vec UInt64 8 × UInt64 × UInt64 × List UInt8 × Int × Int × Int × List UInt8 × List UInt8 × Bool × UInt64 × List UInt8 × UInt64 × Vec UInt8 64 × Int × Int)) (hm : m_dice_Dice_drawn_1_k p_seed p_s_key p_s_salt p_s_personal p_s_n_kind p_s_n_digest p_s_n_block p_s_n_key p_s_n_last p_s_n_written p_s_n_e_h p_s_n_e_count_Lo p_s_n_e_count_Hi p_s_n_e_held p_s_n_e_block p_s_at p_s_now p_s_have p = some r) :
    Calls Tryz.prog 22 (vals [pt g_p 0, pt g_p2 0]) w (fun e w' => ∃ A n c A1 n1 c1 A2 n2 c2 g n3 c3, r.2.2.2.2.1.length = n ∧ r.2.2.2.2.2.2.2.2.1.length = n1 ∧ r.2.2.2.2.2.2.2.2.2.1.length = n2 ∧ r.2.2.2.2.2.2.2.2.2.2.2.2.1.length = n3 ∧ e = .returned (SV.val (.u64 r.1)) ∧ Cx F O w w' [Bx 147 g_p_s_n_e [.ar e64 r.2.1, .u64 r.2.2.1, .u64 r.2.2.2.1, sl A n c, I r.2.2.2.2.2.1, .v (.func (.func 83) ⟨SV.vals []⟩ ⟨SV.vals []⟩), .v (.func (.func 84) ⟨SV.vals []⟩ ⟨SV.vals []⟩)], Ow e8 A n c r.2.2.2.2.1, Bx 114 g_p_s_n [I r.2.2.2.2.2.2.1, I r.2.2.2.2.2.2.2.1, sl A1 n1 c1, sl A2 n2 c2, .b r.2.2.2.2.2.2.2.2.2.2.1, .u64 r.2.2.2.2.2.2.2.2.2.2.2.1, .v (.iface 141 (SV.val (pt g_p_s_n_e 0)))], Ow e8 A1 n1 c1 r.2.2.2.2.2.2.2.2.1, Ow e8 A2 n2 c2 r.2.2.2.2.2.2.2.2.2.1, Bx 67 g_p_s [I 1, I 64, .u32 4294967295, .u64 274877906944, .b false, sl A_p_s_key n_p_s_key c_p_s_key, sl A_p_s_salt n_p_s_salt c_p_s_salt, sl A_p_s_personal n_p_s_personal c_p_s_personal, pt g_p_s_n 0, sl (some ⟨g, 0, none⟩) n3 c3, .u64 r.2.2.2.2.2.2.2.2.2.2.2.2.2.1, .ar e8 r.2.2.2.2.2.2.2.2.2.2.2.2.2.2.1, I r.2.2.2.2.2.2.2.2.2.2.2.2.2.2.2.1, .v (.func (.func 63) ⟨SV.vals [pt g_p_s 0]⟩ ⟨SV.vals []⟩)], Sh (SH e8) [((some ⟨g, 0, none⟩), n3, c3)] [r.2.2.2.2.2.2.2.2.2.2.2.2.1], Bx 42 g_p1 [sl A_p_seed n_p_seed c_p_seed, pt g_p_s 0], Bx 24 g_p [pt g_p1 0], Bx 25 g_p2 [I r.2.2.2.2.2.2.2.2.2.2.2.2.2.2.2.2]]) := by
 unfold m_dice_Dice_drawn_1_k at hm
 subst hn_p_seed
 subst hn_p_s_key
 subst hn_p_s_salt
 subst hn_p_s_personal
 obtain rfl := k.len 4 rfl
 obtain rfl := k.len 5 rfl
 obtain rfl := k.len 7 rfl
 refine calls [pt g_p 0, pt g_p2 0] Tryz.func22 rfl (of_decide_eq_true (by kernel_rfl)) ?_
 refine W_seq <| W_q [] .a qe (by kernel_rfl) ?_
 refine At_go <| W_seq <| W_reg <| WLs 4 [] (.n 11 (pt g_p_s 0) (.s .a)) (qB k 0 rfl 0 (pt g_p1 0) (by kernel_rfl) <| qs g_p1 0 <| qs g_p1 0 <| qB k 1 rfl 1 (pt g_p_s 0) (by kernel_rfl) <| qe) (by kernel_rfl) ?_
 refine WL_op ?_
 obtain ⟨r_, h_r_, hm⟩ := ob hm
 obtain ⟨F1, O1, kin, hO, hre, hF, hb⟩ := k.go (.r (.r (.i (.i (.i (.i (.i (.i (.r .e)))))))))
 refine Op_call [] 12 _ do_go23 (by kernel_rfl) (c_xof_Stream_Read_k (F := F1) (O := O1) _ _ _ _ _ _ _ _ _ _ _ _ _ _ _ _ _ _ _ _ _ _ _ _ _ _ _ _ _ _ _ _ _ _ _ _ _ _ (Ro.of_old h_p_s_key k hF) rfl hc_p_s_key (Ro.of_old h_p_s_salt k hF) rfl hc_p_s_salt (Ro.of_old h_p_s_personal k hF) rfl hc_p_s_personal kin _ h_r_) ?_
 rintro e_ w_ ⟨A0, _, c0, A3, _, c4, A4, _, c5, A5, _, c6, g0, _, c7, rfl, rfl, rfl, rfl, rfl, rfl, k_⟩
 have k_1 := hb w_ _ _ k_ (.c (.c (.c (.c (.c (.c (.c (.c .n))))))))
 refine ⟨.tup [sl A0 r_.1.length c0, I r_.2.1], rfl, ?_⟩
 refine WLs 5 [] (.n 3 (sl A0 r_.1.length c0) (.n 4 (I r_.2.1) (.ss .a))) qe (by kernel_rfl) ?_
 refine WL_nil <| At_go <| W_seq <| W_seq <| W_q [] (.n 16 (.b (decide (r_.2.1 ≠ 0))) (.k (.s .a))) qe (by kernel_rfl) ?_
 refine At_go <| W_condp (r_.2.1 ≠ 0) (by kernel_rfl) (fun hc => ?_) (fun hc => ?_)
 · rw [if_pos hc] at hm
   refine W_seq <| W_reg <| WL_op <| Op_b [] 10 (I 6) [I 6] (Pt.at g_p2 0) k_1 rfl .all (by kernel_rfl) (by kernel_rfl) ?_
   intro w_1 k_2
   have k_3 := k_2.sel (.s (.kkkk (.kkkk (.kk .e))))
   refine WL_nil <| At_go <| W_seq <| W_q [] (.n 2 (.u64 0) .z) qe (by kernel_rfl) ?_
   refine At_go <| W_ret (At_tr ?_)
   obtain rfl := Option.some.inj hm
   refine At_rt [.u64 0] qe (by kernel_rfl) ?_
   have k_4 := (((((((((k_3.pk (.t (.t (.t (.t (.t (.t (.t (.t (.t .h)))))))))).pk (.t (.t (.t (.t (.t (.t (.t (.t .h))))))))).pk (.t (.t (.t (.t (.t (.t (.t (.t (.t .h)))))))))).pk (.t (.t (.t (.t (.t (.t (.t (.t (.t .h)))))))))).pk (.t (.t (.t (.t (.t (.t (.t (.t (.t .h)))))))))).pk (.t (.t (.t (.t (.t (.t (.t (.t (.t .h)))))))))).pk (.t (.t (.t (.t (.t (.t (.t (.t (.t .h)))))))))).pk (.t (.t (.t (.t (.t (.t (.t (.t (.t .h)))))))))).pk (.t (.t (.t (.t (.t (.t (.t (.t (.t .h)))))))))).pk (.t (.t (.t (.t (.t (.t (.t (.t (.t .h)))))))))
   exact ⟨A3, r_.2.2.2.2.2.1.length, c4, A4, r_.2.2.2.2.2.2.2.2.2.1.length, c5, A5, r_.2.2.2.2.2.2.2.2.2.2.1.length, c6, g0, r_.2.2.2.2.2.2.2.2.2.2.2.2.2.1.length, c7, k_4.len 1 rfl, k_4.len 3 rfl, k_4.len 4 rfl, k_4.shlen 6 rfl, rfl, k_4⟩
 rw [if_neg hc] at hm
 refine W_skip <| At_go <| W_seq <| W_reg <| WLs 1 [] (.n 18 (sl A0 r_.1.length c0) .z) qe (by kernel_rfl) ?_
 refine WL_op ?_
 obtain ⟨r_1, h_r_1, hm⟩ := ob hm
 refine Op_call [] 19 _ do_go24 (by kernel_rfl) (c_word_Load64 (F := N0) (O := N0) _ _ _ _ _ (Ro.n0 (k_1.rd 0 rfl)) (k_1.len 0 rfl) (k_1.lec 0 rfl) (Cx.refl _) _ h_r_1) ?_
 rintro e_ w_2 ⟨rfl, k_5⟩
 have k_6 := k_1.call k_5
 refine ⟨.tup [.u64 r_1.1, I r_1.2], rfl, ?_⟩
 have k_7 := k_6.sel (.s (.kkkk (.kkkk (.kk .e))))
 refine WLs 5 [] (.n 5 (.u64 r_1.1) .z) qe (by kernel_rfl) ?_
 refine WL_nil <| At_go <| W_seq <| W_q [] (.n 2 (.u64 r_1.1) .z) qe (by kernel_rfl) ?_
 refine At_go <| W_ret ?_
 obtain rfl := Option.some.inj hm
 refine At_rt [.u64 r_1.1] qe (by kernel_rfl) ?_
 have k_8 := (((((((((k_7.pk (.t (.t (.t (.t (.t (.t (.t (.t (.t .h)))))))))).pk (.t (.t (.t (.t (.t (.t (.t (.t .h))))))))).pk (.t (.t (.t (.t (.t (.t (.t (.t (.t .h)))))))))).pk (.t (.t (.t (.t (.t (.t (.t (.t (.t .h)))))))))).pk (.t (.t (.t (.t (.t (.t (.t (.t (.t .h)))))))))).pk (.t (.t (.t (.t (.t (.t (.t (.t (.t .h)))))))))).pk (.t (.t (.t (.t (.t (.t (.t (.t (.t .h)))))))))).pk (.t (.t (.t (.t (.t (.t (.t (.t (.t .h)))))))))).pk (.t (.t (.t (.t (.t (.t (.t (.t (.t .h)))))))))).pk (.t (.t (.t (.t (.t (.t (.t (.t (.t .h)))))))))
 exact ⟨A3, r_.2.2.2.2.2.1.length, c4, A4, r_.2.2.2.2.2.2.2.2.2.1.length, c5, A5, r_.2.2.2.2.2.2.2.2.2.2.1.length, c6, g0, r_.2.2.2.2.2.2.2.2.2.2.2.2.2.1.length, c7, k_8.len 1 rfl, k_8.len 3 rfl, k_8.len 4 rfl, k_8.shlen 6 rfl, rfl, k_8⟩

theorem c_xof_Stream_none_k_s1 {F O : Nat → Prop} {w : World} (x_key : List UInt8) (x_salt : List UInt8) (x_personal : List UInt8) (x_n_kind : Int) (x_n_digest : Int) (x_n_block : List UInt8) (x_n_key : List UInt8) (x_n_last : Bool) (x_n_written : UInt64) (x_n_e_h : Vec UInt64 8) (x_n_e_count_Lo : UInt64) (x_n_e_count_Hi : UInt64) (x_n_e_held : List UInt8) (x_n_e_block : Int) (x_root : List UInt8) (x_at : UInt64) (x_now : Vec UInt8 64) (x_have : Int) (g_x : Nat) (A_x_key : Option Addr) (n_x_key : Nat) (c_x_key : Nat) (A_x_salt : Option Addr) (n_x_salt : Nat) (c_x_salt : Nat) (A_x_personal : Option Addr) (n_x_personal : Nat) (c_x_personal : Nat) (g_x_n : Nat) (A_x_n_block : Option Addr) (n_x_n_block : Nat) (c_x_n_block : Nat) (A_x_n_key : Option Addr) (n_x_n_key : Nat) (c_x_n_key : Nat) (g_x_n_e : Nat) (A_x_n_e_held : Option Addr) (n_x_n_e_held : Nat) (c_x_n_e_held : Nat) (g_x_root : Nat) (n_x_root : Nat) (c_x_root : Nat) (h_x_key : Ro F w A_x_key (e8.all x_key)) (hn_x_key : x_key.length = n_x_key) (hc_x_key : n_x_key ≤ c_x_key) (h_x_salt : Ro F w A_x_salt (e8.all x_salt)) (hn_x_salt : x_salt.length = n_x_salt) (hc_x_salt : n_x_salt ≤ c_x_salt) (h_x_personal : Ro F w A_x_personal (e8.all x_personal)) (hn_x_personal : x_personal.length = n_x_personal) (hc_x_personal : n_x_personal ≤ c_x_personal) (h_x_root : Ro F w (some ⟨g_x_root, 0, none⟩) (e8.all x_root)) (hn_x_root : x_root.length = n_x_root) (hc_x_root : n_x_root ≤ c_x_root) (k : Cx F O w w [Bx 67 g_x [I 1, I 64, .u32 4294967295, .u64 274877906944, .b false, sl A_x_key n_x_key c_x_key, sl A_x_salt n_x_salt c_x_salt, sl A_x_personal n_x_personal c_x_personal, pt g_x_n 0, sl (some ⟨g_x_root, 0, none⟩) n_x_root c_x_root, .u64 x_at, .ar e8 x_now, I x_have, .v (.func (.func 63) ⟨SV.vals [pt g_x 0]⟩ ⟨SV.vals []⟩)], Bx 114 g_x_n [I x_n_kind, I x_n_digest, sl A_x_n_block n_x_n_block c_x_n_block, sl A_x_n_key n_x_n_key c_x_n_key, .b x_n_last, .u64 x_n_written, .v (.iface 141 (SV.val (pt g_x_n_e 0)))], Ow e8 A_x_n_block n_x_n_block c_x_n_block x_n_block, Ow e8 A_x_n_key n_x_n_key c_x_n_key x_n_key, Bx 147 g_x_n_e [.ar e64 x_n_e_h, .u64 x_n_e_count_Lo, .u64 x_n_e_count_Hi, sl A_x_n_e_held n_x_n_e_held c_x_n_e_held, I x_n_e_block, .v (.func (.func 83) ⟨SV.vals []⟩ ⟨SV.vals []⟩), .v (.func (.func 84) ⟨SV.vals []⟩ ⟨SV.vals []⟩)], Ow e8 A_x_n_e_held n_x_n_e_held c_x_n_e_held x_n_e_held]) (r : (Vec UInt64 8 × UInt64 × UInt64 × List UInt8 × Int × Int × Int × List UInt8 × List UInt8 × Bool × UInt64 × UInt64 × Vec UInt8 64 × Int)) (hm : m_xof_Stream_none_k_s1 x_key x_salt x_personal x_n_kind x_n_digest x_n_block x_n_key x_n_last x_n_written x_n_e_h x_n_e_count_Lo x_n_e_count_Hi x_n_e_held x_n_e_block x_root x_at x_now x_have = some r) :
    Calls Tryz.prog 37 (vals [pt g_x 0]) w (fun e w' => ∃ A n c A1 n1 c1 A2 n2 c2, r.2.2.2.1.length = n ∧ r.2.2.2.2.2.2.2.1.length = n1 ∧ r.2.2.2.2.2.2.2.2.1.length = n2 ∧ e = .returned (SV.val (.b false)) ∧ Cx F O w w' [Bx 147 g_x_n_e [.ar e64 r.1, .u64 r.2.1, .u64 r.2.2.1, sl A n c, I r.2.2.2.2.1, .v (.func (.func 83) ⟨SV.vals []⟩ ⟨SV.vals []⟩), .v (.func (.func 84) ⟨SV.vals []⟩ ⟨SV.vals []⟩)], Ow e8 A n c r.2.2.2.1, Bx 114 g_x_n [I r.2.2.2.2.2.1, I r.2.2.2.2.2.2.1, sl A1 n1 c1, sl A2 n2 c2, .b r.2.2.2.2.2.2.2.2.2.1, .u64 r.2.2.2.2.2.2.2.2.2.2.1, .v (.iface 141 (SV.val (pt g_x_n_e 0)))], Ow e8 A1 n1 c1 r.2.2.2.2.2.2.2.1, Ow e8 A2 n2 c2 r.2.2.2.2.2.2.2.2.1, Bx 67 g_x [I 1, I 64, .u32 4294967295, .u64 274877906944, .b false, sl A_x_key n_x_key c_x_key, sl A_x_salt n_x_salt c_x_salt, sl A_x_personal n_x_personal c_x_personal, pt g_x_n 0, sl (some ⟨g_x_root, 0, none⟩) n_x_root c_x_root, .u64 r.2.2.2.2.2.2.2.2.2.2.2.1, .ar e8 r.2.2.2.2.2.2.2.2.2.2.2.2.1, I r.2.2.2.2.2.2.2.2.2.2.2.2.2, .v (.func (.func 63) ⟨SV.vals [pt g_x 0]⟩ ⟨SV.vals []⟩)]]) := by
 unfold m_xof_Stream_none_k_s1 at hm
 subst hn_x_key
 subst hn_x_salt
 subst hn_x_personal
 obtain rfl := k.len 2 rfl
 obtain rfl := k.len 3 rfl
 obtain rfl := k.len 5 rfl
 subst hn_x_root
 refine calls [pt g_x 0] Tryz.func37 rfl (of_decide_eq_true (by kernel_rfl)) ?_
 refine W_seq <| W_q [] .a qe (by kernel_rfl) ?_
 refine At_go <| W_seq <| W_q [5] (.n 2 (.b false) .z) (qs g_x 0 <| qs g_x 0 <| qB k 0 rfl 76 (.v (.func (.func 63) ⟨SV.vals [pt g_x 0]⟩ ⟨SV.vals []⟩)) (by kernel_rfl) <| qe) (by kernel_rfl) ?_
 refine At_go <| W_ret ?_
 obtain rfl := Option.some.inj hm
 refine At_rt [.b false] qe (by kernel_rfl) ?_
 have k_ := (((((k.pk .h).pk (.t (.t (.t .h)))).pk (.t (.t (.t .h)))).pk (.t (.t (.t .h)))).pk (.t (.t (.t (.t (.t .h)))))).pk (.t (.t (.t (.t (.t .h)))))
 exact ⟨A_x_n_e_held, x_n_e_held.length, c_x_n_e_held, A_x_n_block, x_n_block.length, c_x_n_block, A_x_n_key, x_n_key.length, c_x_n_key, k_.len 1 rfl, k_.len 3 rfl, k_.len 4 rfl, rfl, k_⟩

theorem c_xof_Stream_give_k_s1 {F O : Nat → Prop} {w : World} (x_key : List UInt8) (x_salt : List UInt8) (x_personal : List UInt8) (x_n_kind : Int) (x_n_digest : Int) (x_n_block : List UInt8) (x_n_key : List UInt8) (x_n_last : Bool) (x_n_written : UInt64) (x_n_e_h : Vec UInt64 8) (x_n_e_count_Lo : UInt64) (x_n_e_count_Hi : UInt64) (x_n_e_held : List UInt8) (x_n_e_block : Int) (x_root : List UInt8) (x_at : UInt64) (x_now : Vec UInt8 64) (x_have : Int) (g_x : Nat) (A_x_key : Option Addr) (n_x_key : Nat) (c_x_key : Nat) (A_x_salt : Option Addr) (n_x_salt : Nat) (c_x_salt : Nat) (A_x_personal : Option Addr) (n_x_personal : Nat) (c_x_personal : Nat) (g_x_n : Nat) (A_x_n_block : Option Addr) (n_x_n_block : Nat) (c_x_n_block : Nat) (A_x_n_key : Option Addr) (n_x_n_key : Nat) (c_x_n_key : Nat) (g_x_n_e : Nat) (A_x_n_e_held : Option Addr) (n_x_n_e_held : Nat) (c_x_n_e_held : Nat) (g_x_root : Nat) (n_x_root : Nat) (c_x_root : Nat) (h_x_key : Ro F w A_x_key (e8.all x_key)) (hn_x_key : x_key.length = n_x_key) (hc_x_key : n_x_key ≤ c_x_key) (h_x_salt : Ro F w A_x_salt (e8.all x_salt)) (hn_x_salt : x_salt.length = n_x_salt) (hc_x_salt : n_x_salt ≤ c_x_salt) (h_x_personal : Ro F w A_x_personal (e8.all x_personal)) (hn_x_personal : x_personal.length = n_x_personal) (hc_x_personal : n_x_personal ≤ c_x_personal) (h_x_root : Ro F w (some ⟨g_x_root, 0, none⟩) (e8.all x_root)) (hn_x_root : x_root.length = n_x_root) (hc_x_root : n_x_root ≤ c_x_root) (k : Cx F O w w [Bx 67 g_x [I 1, I 64, .u32 4294967295, .u64 274877906944, .b false, sl A_x_key n_x_key c_x_key, sl A_x_salt n_x_salt c_x_salt, sl A_x_personal n_x_personal c_x_personal, pt g_x_n 0, sl (some ⟨g_x_root, 0, none⟩) n_x_root c_x_root, .u64 x_at, .ar e8 x_now, I x_have, .v (.func (.func 63) ⟨SV.vals [pt g_x 0]⟩ ⟨SV.vals []⟩)], Bx 114 g_x_n [I x_n_kind, I x_n_digest, sl A_x_n_block n_x_n_block c_x_n_block, sl A_x_n_key n_x_n_key c_x_n_key, .b x_n_last, .u64 x_n_written, .v (.iface 141 (SV.val (pt g_x_n_e 0)))], Ow e8 A_x_n_block n_x_n_block c_x_n_block x_n_block, Ow e8 A_x_n_key n_x_n_key c_x_n_key x_n_key, Bx 147 g_x_n_e [.ar e64 x_n_e_h, .u64 x_n_e_count_Lo, .u64 x_n_e_count_Hi, sl A_x_n_e_held n_x_n_e_held c_x_n_e_held, I x_n_e_block, .v (.func (.func 83) ⟨SV.vals []⟩ ⟨SV.vals []⟩), .v (.func (.func 84) ⟨SV.vals []⟩ ⟨SV.vals []⟩)], Ow e8 A_x_n_e_held n_x_n_e_held c_x_n_e_held x_n_e_held]) (r : (Vec UInt64 8 × UInt64 × UInt64 × List UInt8 × Int × Int × Int × List UInt8 × List UInt8 × Bool × UInt64 × UInt64 × Vec UInt8 64 × Int)) (hm : m_xof_Stream_give_k_s1 x_key x_salt x_personal x_n_kind x_n_digest x_n_block x_n_key x_n_last x_n_written x_n_e_h x_n_e_count_Lo x_n_e_count_Hi x_n_e_held x_n_e_block x_root x_at x_now x_have = some r) :
    Calls Tryz.prog 40 (vals [pt g_x 0]) w (fun e w' => ∃ A n c A1 n1 c1 A2 n2 c2, r.2.2.2.1.length = n ∧ r.2.2.2.2.2.2.2.1.length = n1 ∧ r.2.2.2.2.2.2.2.2.1.length = n2 ∧ e = .returned (SV.val (.tup [])) ∧ Cx F O w w' [Bx 147 g_x_n_e [.ar e64 r.1, .u64 r.2.1, .u64 r.2.2.1, sl A n c, I r.2.2.2.2.1, .v (.func (.func 83) ⟨SV.vals []⟩ ⟨SV.vals []⟩), .v (.func (.func 84) ⟨SV.vals []⟩ ⟨SV.vals []⟩)], Ow e8 A n c r.2.2.2.1, Bx 114 g_x_n [I r.2.2.2.2.2.1, I r.2.2.2.2.2.2.1, sl A1 n1 c1, sl A2 n2 c2, .b r.2.2.2.2.2.2.2.2.2.1, .u64 r.2.2.2.2.2.2.2.2.2.2.1, .v (.iface 141 (SV.val (pt g_x_n_e 0)))], Ow e8 A1 n1 c1 r.2.2.2.2.2.2.2.1, Ow e8 A2 n2 c2 r.2.2.2.2.2.2.2.2.1, Bx 67 g_x [I 1, I 64, .u32 4294967295, .u64 274877906944, .b false, sl A_x_key n_x_key c_x_key, sl A_x_salt n_x_salt c_x_salt, sl A_x_personal n_x_personal c_x_personal, pt g_x_n 0, sl (some ⟨g_x_root, 0, none⟩) n_x_root c_x_root, .u64 r.2.2.2.2.2.2.2.2.2.2.2.1, .ar e8 r.2.2.2.2.2.2.2.2.2.2.2.2.1, I r.2.2.2.2.2.2.2.2.2.2.2.2.2, .v (.func (.func 63) ⟨SV.vals [pt g_x 0]⟩ ⟨SV.vals []⟩)]]) := by
 unfold m_xof_Stream_give_k_s1 at hm
 subst hn_x_key
 subst hn_x_salt
 subst hn_x_personal
 obtain rfl := k.len 2 rfl
 obtain rfl := k.len 3 rfl
 obtain rfl := k.len 5 rfl
 subst hn_x_root
 refine calls [pt g_x 0] Tryz.func40 rfl (of_decide_eq_true (by kernel_rfl)) ?_
 refine W_seq <| W_q [] (.n 6 (.b false) .a) (qs g_x 0 <| qs g_x 0 <| qB k 0 rfl 9 (sl (some ⟨g_x_root, 0, none⟩) x_root.length c_x_root) (by kernel_rfl) <| qe) (by kernel_rfl) ?_
 refine At_go <| W_cond false (by kernel_rfl) (fun h => by cases h) (fun _ => ?_)
 refine W_skip ?_
 obtain rfl := Option.some.inj hm
 refine At_en [] qe (by kernel_rfl) ?_
 have k_ := (((((k.pk .h).pk (.t (.t (.t .h)))).pk (.t (.t (.t .h)))).pk (.t (.t (.t .h)))).pk (.t (.t (.t (.t (.t .h)))))).pk (.t (.t (.t (.t (.t .h)))))
 exact ⟨A_x_n_e_held, x_n_e_held.length, c_x_n_e_held, A_x_n_block, x_n_block.length, c_x_n_block, A_x_n_key, x_n_key.length, c_x_n_key, k_.len 1 rfl, k_.len 3 rfl, k_.len 4 rfl, rfl, k_⟩

theorem c_xof_Stream_Read_k_s1 {F O : Nat → Prop} {w : World} (x_key : List UInt8) (x_salt : List UInt8) (x_personal : List UInt8) (x_n_kind : Int) (x_n_digest : Int) (x_n_block : List UInt8) (x_n_key : List UInt8) (x_n_last : Bool) (x_n_written : UInt64) (x_n_e_h : Vec UInt64 8) (x_n_e_count_Lo : UInt64) (x_n_e_count_Hi : UInt64) (x_n_e_held : List UInt8) (x_n_e_block : Int) (x_root : List UInt8) (x_at : UInt64) (x_now : Vec UInt8 64) (x_have : Int) (g_x : Nat) (A_x_key : Option Addr) (n_x_key : Nat) (c_x_key : Nat) (A_x_salt : Option Addr) (n_x_salt : Nat) (c_x_salt : Nat) (A_x_personal : Option Addr) (n_x_personal : Nat) (c_x_personal : Nat) (g_x_n : Nat) (A_x_n_block : Option Addr) (n_x_n_block : Nat) (c_x_n_block : Nat) (A_x_n_key : Option Addr) (n_x_n_key : Nat) (c_x_n_key : Nat) (g_x_n_e : Nat) (A_x_n_e_held : Option Addr) (n_x_n_e_held : Nat) (c_x_n_e_held : Nat) (g_x_root : Nat) (n_x_root : Nat) (c_x_root : Nat) (h_x_key : Ro F w A_x_key (e8.all x_key)) (hn_x_key : x_key.length = n_x_key) (hc_x_key : n_x_key ≤ c_x_key) (h_x_salt : Ro F w A_x_salt (e8.all x_salt)) (hn_x_salt : x_salt.length = n_x_salt) (hc_x_salt : n_x_salt ≤ c_x_salt) (h_x_personal : Ro F w A_x_personal (e8.all x_personal)) (hn_x_personal : x_personal.length = n_x_personal) (hc_x_personal : n_x_personal ≤ c_x_personal) (h_x_root : Ro F w (some ⟨g_x_root, 0, none⟩) (e8.all x_root)) (hn_x_root : x_root.length = n_x_root) (hc_x_root : n_x_root ≤ c_x_root) (k : Cx F O w w [Bx 67 g_x [I 1, I 64, .u32 4294967295, .u64 274877906944, .b false, sl A_x_key n_x_key c_x_key, sl A_x_salt n_x_salt c_x_salt, sl A_x_personal n_x_personal c_x_personal, pt g_x_n 0, sl (some ⟨g_x_root, 0, none⟩) n_x_root c_x_root, .u64 x_at, .ar e8 x_now, I x_have, .v (.func (.func 63) ⟨SV.vals [pt g_x 0]⟩ ⟨SV.vals []⟩)], Bx 114 g_x_n [I x_n_kind, I x_n_digest, sl A_x_n_block n_x_n_block c_x_n_block, sl A_x_n_key n_x_n_key c_x_n_key, .b x_n_last, .u64 x_n_written, .v (.iface 141 (SV.val (pt g_x_n_e 0)))], Ow e8 A_x_n_block n_x_n_block c_x_n_block x_n_block, Ow e8 A_x_n_key n_x_n_key c_x_n_key x_n_key, Bx 147 g_x_n_e [.ar e64 x_n_e_h, .u64 x_n_e_count_Lo, .u64 x_n_e_count_Hi, sl A_x_n_e_held n_x_n_e_held c_x_n_e_held, I x_n_e_block, .v (.func (.func 83) ⟨SV.vals []⟩ ⟨SV.vals []⟩), .v (.func (.func 84) ⟨SV.vals []⟩ ⟨SV.vals []⟩)], Ow e8 A_x_n_e_held n_x_n_e_held c_x_n_e_held x_n_e_held]) (r : (List UInt8 × Int × Vec UInt64 8 × UInt64 × UInt64 × List UInt8 × Int × Int × Int × List UInt8 × List UInt8 × Bool × UInt64 × UInt64 × Vec UInt8 64 × Int)) (hm : m_xof_Stream_Read_k_s1 x_key x_salt x_personal x_n_kind x_n_digest x_n_block x_n_key x_n_last x_n_written x_n_e_h x_n_e_count_Lo x_n_e_count_Hi x_n_e_held x_n_e_block x_root x_at x_now x_have = some r) :
    Calls Tryz.prog 23 (vals [pt g_x 0, I 8]) w (fun e w' => ∃ A n c A1 n1 c1 A2 n2 c2 A3 n3 c3, r.1.length = n ∧ r.2.2.2.2.2.1.length = n1 ∧ r.2.2.2.2.2.2.2.2.2.1.length = n2 ∧ r.2.2.2.2.2.2.2.2.2.2.1.length = n3 ∧ e = .returned (SV.val (.tup [sl A n c, I r.2.1])) ∧ Cx F O w w' [Ow e8 A n c r.1, Bx 147 g_x_n_e [.ar e64 r.2.2.1, .u64 r.2.2.2.1, .u64 r.2.2.2.2.1, sl A1 n1 c1, I r.2.2.2.2.2.2.1, .v (.func (.func 83) ⟨SV.vals []⟩ ⟨SV.vals []⟩), .v (.func (.func 84) ⟨SV.vals []⟩ ⟨SV.vals []⟩)], Ow e8 A1 n1 c1 r.2.2.2.2.2.1, Bx 114 g_x_n [I r.2.2.2.2.2.2.2.1, I r.2.2.2.2.2.2.2.2.1, sl A2 n2 c2, sl A3 n3 c3, .b r.2.2.2.2.2.2.2.2.2.2.2.1, .u64 r.2.2.2.2.2.2.2.2.2.2.2.2.1, .v (.iface 141 (SV.val (pt g_x_n_e 0)))], Ow e8 A2 n2 c2 r.2.2.2.2.2.2.2.2.2.1, Ow e8 A3 n3 c3 r.2.2.2.2.2.2.2.2.2.2.1, Bx 67 g_x [I 1, I 64, .u32 4294967295, .u64 274877906944, .b false, sl A_x_key n_x_key c_x_key, sl A_x_salt n_x_salt c_x_salt, sl A_x_personal n_x_personal c_x_personal, pt g_x_n 0, sl (some ⟨g_x_root, 0, none⟩) n_x_root c_x_root, .u64 r.2.2.2.2.2.2.2.2.2.2.2.2.2.1, .ar e8 r.2.2.2.2.2.2.2.2.2.2.2.2.2.2.1, I r.2.2.2.2.2.2.2.2.2.2.2.2.2.2.2, .v (.func (.func 63) ⟨SV.vals [pt g_x 0]⟩ ⟨SV.vals []⟩)]]) := by
 unfold m_xof_Stream_Read_k_s1 at hm
 subst hn_x_key
 subst hn_x_salt
 subst hn_x_personal
 obtain rfl := k.len 2 rfl
 obtain rfl := k.len 3 rfl
 obtain rfl := k.len 5 rfl
 subst hn_x_root
 refine calls [pt g_x 0, I 8] Tryz.func23 rfl (of_decide_eq_true (by kernel_rfl)) ?_
 refine W_seq <| W_q [] .a qe (by kernel_rfl) ?_
 refine At_go <| W_seq <| W_seq <| W_reg <| WLs 1 [] (.n 11 (pt g_x 0) .a) qe (by kernel_rfl) ?_
 refine WL_op ?_
 obtain ⟨r_, h_r_, hm⟩ := ob hm
 obtain ⟨F1, O1, kin, hO, hre, hF, hb⟩ := k.go (.i (.i (.i (.i (.i (.i .e))))))
 refine Op_call [] 12 _ do_go37 (by kernel_rfl) (c_xof_Stream_none_k_s1 (F := F1) (O := O1) _ _ _ _ _ _ _ _ _ _ _ _ _ _ _ _ _ _ _ _ _ _ _ _ _ _ _ _ _ _ _ _ _ _ _ _ _ _ _ _ _ _ (Ro.of_old h_x_key k hF) rfl hc_x_key (Ro.of_old h_x_salt k hF) rfl hc_x_salt (Ro.of_old h_x_personal k hF) rfl hc_x_personal (Ro.of_old h_x_root k hF) rfl hc_x_root kin _ h_r_) ?_
 rintro e_ w_ ⟨A0, _, c0, A4, _, c4, A5, _, c5, rfl, rfl, rfl, rfl, k_⟩
 have k_1 := hb w_ _ _ k_ (.c (.c (.c (.c (.c (.c .n))))))
 refine ⟨.b false, rfl, ?_⟩
 refine WL_nil <| At_go <| W_cond false (by kernel_rfl) (fun h => by cases h) (fun _ => ?_)
 refine W_skip <| At_go <| W_seq <| W_seq <| W_q [15] (.n 18 (.b false) (.ss .a)) qe (by kernel_rfl) ?_
 refine At_go <| W_cond false (by kernel_rfl) (fun h => by cases h) (fun _ => ?_)
 refine W_skip <| At_go <| W_seq <| W_reg <| WLs 1 [] (.n 19 (pt g_x 0) (.s .a)) qe (by kernel_rfl) ?_
 refine WL_op ?_
 obtain ⟨r_1, h_r_1, hm⟩ := ob hm
 have k_2 := (((((k_1.pk (.t .h)).pk (.t .h)).pk (.t (.t (.t (.t .h))))).pk (.t (.t (.t (.t .h))))).pk (.t (.t (.t (.t .h))))).pk (.t (.t (.t (.t (.t .h)))))
 obtain ⟨F11, O11, kin1, hO1, hre1, hF1, hb1⟩ := k_2.go (.i (.i (.i (.i (.i (.i .e))))))
 refine Op_call [] 20 _ do_go40 (by kernel_rfl) (c_xof_Stream_give_k_s1 (F := F11) (O := O11) _ _ _ _ _ _ _ _ _ _ _ _ _ _ _ _ _ _ _ _ _ _ _ _ _ _ _ _ _ _ _ _ _ _ _ _ _ _ _ _ _ _ (Ro.of_old h_x_key k_2 hF1) rfl hc_x_key (Ro.of_old h_x_salt k_2 hF1) rfl hc_x_salt (Ro.of_old h_x_personal k_2 hF1) rfl hc_x_personal (Ro.of_old h_x_root k_2 hF1) rfl hc_x_root kin1 _ h_r_1) ?_
 rintro e_ w_1 ⟨A6, _, c6, A7, _, c7, A8, _, c8, rfl, rfl, rfl, rfl, k_3⟩
 have k_4 := hb1 w_1 _ _ k_3 (.c (.c (.c (.c (.c (.c .n))))))
 refine ⟨.tup [], rfl, ?_⟩
 refine WL_nil <| At_go <| W_seq <| W_d do_mixed (by kernel_rfl) (.n 6 (.u64 ((274877906944 : UInt64) - r_1.2.2.2.2.2.2.2.2.2.2.2.1)) (.ss .a)) (fun m => qs g_x 0 <| qs g_x 0 <| qs g_x 0 <| qB (k_4.drew m) 5 rfl 3 (.u64 274877906944) (by kernel_rfl) <| qs g_x 0 <| qs g_x 0 <| qB (k_4.drew m) 5 rfl 10 (.u64 r_1.2.2.2.2.2.2.2.2.2.2.2.1) (by kernel_rfl) <| qe) (by kernel_rfl) (fun m_ => ?_)
 have k_5 := k_4.drew m_
 refine At_go <| W_seq <| W_seq <| W_q [33] (.n 36 (.b (decide (((274877906944 : UInt64) - r_1.2.2.2.2.2.2.2.2.2.2.2.1) = 0))) .a) qe (by kernel_rfl) ?_
 refine At_go <| W_condp (((274877906944 : UInt64) - r_1.2.2.2.2.2.2.2.2.2.2.2.1) = 0) (by kernel_rfl) (fun hc => ?_) (fun hc => ?_)
 · rw [if_pos hc] at hm
   refine W_seq <| W_q [] (.n 4 (sl none 0 0) (.n 5 (I 70) .z)) qe (by kernel_rfl) ?_
   refine At_go <| W_ret (At_tr ?_)
   have k_6 := k_5.nil e8
   obtain rfl := Option.some.inj hm
   refine At_rt [sl none 0 0, I 70] qe (by kernel_rfl) ?_
   have k_7 := ((((((k_6.pk (.t (.t (.t (.t (.t .h)))))).pk (.t (.t (.t (.t (.t .h)))))).pk (.t (.t (.t (.t (.t .h)))))).pk (.t (.t (.t (.t (.t .h)))))).pk (.t (.t (.t (.t (.t .h)))))).pk (.t (.t (.t (.t (.t .h)))))).pk (.t (.t (.t (.t (.t (.t .h))))))
   exact ⟨none, 0, 0, A6, r_1.2.2.2.1.length, c6, A7, r_1.2.2.2.2.2.2.2.1.length, c7, A8, r_1.2.2.2.2.2.2.2.2.1.length, c8, k_7.len 0 rfl, k_7.len 2 rfl, k_7.len 4 rfl, k_7.len 5 rfl, rfl, k_7⟩
 rw [if_neg hc] at hm
 refine W_skip <| At_go <| W_cut (fun L wr => ∃ (n0 : Int), m_xof_Stream_Read_k_s1_j0 x_salt x_personal x_root r_1 n0 = some r ∧ L = [(0, pt g_x 0), (1, I n0)] ∧ Cx F O w wr [Bx 67 g_x [I 1, I 64, .u32 4294967295, .u64 274877906944, .b false, sl A_x_key x_key.length c_x_key, sl A_x_salt x_salt.length c_x_salt, sl A_x_personal x_personal.length c_x_personal, pt g_x_n 0, sl (some ⟨g_x_root, 0, none⟩) x_root.length c_x_root, .u64 r_1.2.2.2.2.2.2.2.2.2.2.2.1, .ar e8 r_1.2.2.2.2.2.2.2.2.2.2.2.2.1, I r_1.2.2.2.2.2.2.2.2.2.2.2.2.2, .v (.func (.func 63) ⟨SV.vals [pt g_x 0]⟩ ⟨SV.vals []⟩)], Bx 114 g_x_n [I r_1.2.2.2.2.2.1, I r_1.2.2.2.2.2.2.1, sl A7 r_1.2.2.2.2.2.2.2.1.length c7, sl A8 r_1.2.2.2.2.2.2.2.2.1.length c8, .b r_1.2.2.2.2.2.2.2.2.2.1, .u64 r_1.2.2.2.2.2.2.2.2.2.2.1, .v (.iface 141 (SV.val (pt g_x_n_e 0)))], Ow e8 A7 r_1.2.2.2.2.2.2.2.1.length c7 r_1.2.2.2.2.2.2.2.1, Ow e8 A8 r_1.2.2.2.2.2.2.2.2.1.length c8 r_1.2.2.2.2.2.2.2.2.1, Bx 147 g_x_n_e [.ar e64 r_1.1, .u64 r_1.2.1, .u64 r_1.2.2.1, sl A6 r_1.2.2.2.1.length c6, I r_1.2.2.2.2.1, .v (.func (.func 83) ⟨SV.vals []⟩ ⟨SV.vals []⟩), .v (.func (.func 84) ⟨SV.vals []⟩ ⟨SV.vals []⟩)], Ow e8 A6 r_1.2.2.2.1.length c6 r_1.2.2.2.1]) ?_ ?_
 ·
  refine W_seq <| W_q [] (.n 40 (.b (decide (((274877906944 : UInt64) - r_1.2.2.2.2.2.2.2.2.2.2.2.1) < (8 : UInt64)))) (.s .a)) qe (by kernel_rfl) ?_
  refine At_go <| W_condp (((274877906944 : UInt64) - r_1.2.2.2.2.2.2.2.2.2.2.2.1) < (8 : UInt64)) (by kernel_rfl) (fun hc1 => ?_) (fun hc1 => ?_)
  · rw [if_pos hc1] at hm
    refine W_q [] (.n 1 (I (w64 ((274877906944 : UInt64) - r_1.2.2.2.2.2.2.2.2.2.2.2.1).toNat)) (.ss (.k .z))) qe (by kernel_rfl) ?_
    have k_8 := (((((k_5.pk (.t .h)).pk (.t .h)).pk (.t (.t (.t (.t .h))))).pk (.t (.t (.t (.t .h))))).pk (.t (.t (.t (.t .h))))).pk (.t (.t (.t (.t (.t .h)))))
    exact At_c ⟨w64 ((274877906944 : UInt64) - r_1.2.2.2.2.2.2.2.2.2.2.2.1).toNat, hm, rfl, k_8⟩ (by kernel_rfl)
  rw [if_neg hc1] at hm
  refine W_skip ?_
  have k_9 := (((((k_5.pk (.t .h)).pk (.t .h)).pk (.t (.t (.t (.t .h))))).pk (.t (.t (.t (.t .h))))).pk (.t (.t (.t (.t .h))))).pk (.t (.t (.t (.t (.t .h)))))
  exact At_c ⟨(8 : Int), hm, rfl, k_9⟩ (by kernel_rfl)
 rintro L_ w_2 ⟨n0, hm, rfl, k_10⟩
 simp only [m_xof_Stream_Read_k_s1_j0] at hm
 refine W_seq <| W_q [] (.n 7 (sl none 0 0) .a) qe (by kernel_rfl) ?_
 refine At_go <| W_seq <| W_block ?_
 have k_12 := k_10.nil e8
 refine W_lp (m_xof_Stream_Read_k_s1_l0 x_salt x_personal x_root r_1 n0) (fun s L wr => ∃ (x_0 : UInt64) (x_16 : Vec UInt8 64) (x_17 : Int) (out : List UInt8) (A9 : Option Addr) (n4 : Nat) (c9 : Nat), (x_0, x_16, x_17, out) = s ∧ L = [(0, pt g_x 0), (1, I n0), (7, sl A9 n4 c9)] ∧ out.length = n4 ∧ Cx F O w wr [Bx 67 g_x [I 1, I 64, .u32 4294967295, .u64 274877906944, .b false, sl A_x_key x_key.length c_x_key, sl A_x_salt x_salt.length c_x_salt, sl A_x_personal x_personal.length c_x_personal, pt g_x_n 0, sl (some ⟨g_x_root, 0, none⟩) x_root.length c_x_root, .u64 x_0, .ar e8 x_16, I x_17, .v (.func (.func 63) ⟨SV.vals [pt g_x 0]⟩ ⟨SV.vals []⟩)], Bx 114 g_x_n [I r_1.2.2.2.2.2.1, I r_1.2.2.2.2.2.2.1, sl A7 r_1.2.2.2.2.2.2.2.1.length c7, sl A8 r_1.2.2.2.2.2.2.2.2.1.length c8, .b r_1.2.2.2.2.2.2.2.2.2.1, .u64 r_1.2.2.2.2.2.2.2.2.2.2.1, .v (.iface 141 (SV.val (pt g_x_n_e 0)))], Ow e8 A7 r_1.2.2.2.2.2.2.2.1.length c7 r_1.2.2.2.2.2.2.2.1, Ow e8 A8 r_1.2.2.2.2.2.2.2.2.1.length c8 r_1.2.2.2.2.2.2.2.2.1, Bx 147 g_x_n_e [.ar e64 r_1.1, .u64 r_1.2.1, .u64 r_1.2.2.1, sl A6 r_1.2.2.2.1.length c6, I r_1.2.2.2.2.1, .v (.func (.func 83) ⟨SV.vals []⟩ ⟨SV.vals []⟩), .v (.func (.func 84) ⟨SV.vals []⟩ ⟨SV.vals []⟩)], Ow e8 A6 r_1.2.2.2.1.length c6 r_1.2.2.2.1, Ow e8 A9 n4 c9 out]) (r_1.2.2.2.2.2.2.2.2.2.2.2.1, r_1.2.2.2.2.2.2.2.2.2.2.2.2.1, r_1.2.2.2.2.2.2.2.2.2.2.2.2.2, ([] : List UInt8)) r hm ⟨r_1.2.2.2.2.2.2.2.2.2.2.2.1, r_1.2.2.2.2.2.2.2.2.2.2.2.2.1, r_1.2.2.2.2.2.2.2.2.2.2.2.2.2, ([] : List UInt8), none, 0, 0, rfl, rfl, k_12.len 6 rfl, k_12⟩ (by kernel_rfl) ?_
 intro s0_ L_ w_3 y0 hrel hstep hr0
 obtain ⟨x_0, x_16, x_17, out, A9, _, c9, rfl, rfl, rfl, k_11⟩ := hrel
 have hm := hstep; simp only [m_xof_Stream_Read_k_s1_l0] at hm
 clear hstep
 refine W_seq <| W_seq <| W_q [] (.n 46 (.b (decide (((out.length : Nat) : Int) < n0))) .a) qe (by kernel_rfl) ?_
 refine At_go <| W_condp (((out.length : Nat) : Int) < n0) (by kernel_rfl) (fun hc2 => ?_) (fun hc2 => ?_)
 · rw [if_pos hc2] at hm
   refine W_skip <| At_go <| W_block <| W_seq <| W_d do_mixed (by kernel_rfl) (.n 8 (.u64 (x_0 / 64)) (.s .a)) (fun m => qs g_x 0 <| qs g_x 0 <| qB (k_11.drew m) 0 rfl 10 (.u64 x_0) (by kernel_rfl) <| qs g_x 0 <| qs g_x 0 <| qs g_x 0 <| qB (k_11.drew m) 0 rfl 1 (I 64) (by kernel_rfl) <| qp ((64 : UInt64) ≠ 0) (by show (64 : UInt64) ≠ 0; decide) <| qe) (by kernel_rfl) (fun m_1 => ?_)
   have k_13 := k_11.drew m_1
   refine At_go <| W_cut (fun L wr => ∃ (x_18 : Vec UInt8 64) (x_19 : Int), m_xof_Stream_Read_k_s1_j1 n0 x_0 out x_18 x_19 = some y0 ∧ L = [(0, pt g_x 0), (1, I n0), (7, sl A9 out.length c9)] ∧ Cx F O w wr [Bx 67 g_x [I 1, I 64, .u32 4294967295, .u64 274877906944, .b false, sl A_x_key x_key.length c_x_key, sl A_x_salt x_salt.length c_x_salt, sl A_x_personal x_personal.length c_x_personal, pt g_x_n 0, sl (some ⟨g_x_root, 0, none⟩) x_root.length c_x_root, .u64 x_0, .ar e8 x_18, I x_19, .v (.func (.func 63) ⟨SV.vals [pt g_x 0]⟩ ⟨SV.vals []⟩)], Bx 114 g_x_n [I r_1.2.2.2.2.2.1, I r_1.2.2.2.2.2.2.1, sl A7 r_1.2.2.2.2.2.2.2.1.length c7, sl A8 r_1.2.2.2.2.2.2.2.2.1.length c8, .b r_1.2.2.2.2.2.2.2.2.2.1, .u64 r_1.2.2.2.2.2.2.2.2.2.2.1, .v (.iface 141 (SV.val (pt g_x_n_e 0)))], Ow e8 A7 r_1.2.2.2.2.2.2.2.1.length c7 r_1.2.2.2.2.2.2.2.1, Ow e8 A8 r_1.2.2.2.2.2.2.2.2.1.length c8 r_1.2.2.2.2.2.2.2.2.1, Bx 147 g_x_n_e [.ar e64 r_1.1, .u64 r_1.2.1, .u64 r_1.2.2.1, sl A6 r_1.2.2.2.1.length c6, I r_1.2.2.2.2.1, .v (.func (.func 83) ⟨SV.vals []⟩ ⟨SV.vals []⟩), .v (.func (.func 84) ⟨SV.vals []⟩ ⟨SV.vals []⟩)], Ow e8 A6 r_1.2.2.2.1.length c6 r_1.2.2.2.1, Ow e8 A9 out.length c9 out]) ?_ ?_
   ·
    refine W_seq <| W_q [] (.n 64 (.b (decide (x_17 ≠ (w64 (x_0 / 64).toNat)))) .a) (qs g_x 0 <| qs g_x 0 <| qB k_13 0 rfl 75 (I x_17) (by kernel_rfl) <| qe) (by kernel_rfl) ?_
    refine At_go <| W_condp (x_17 ≠ (w64 (x_0 / 64).toNat)) (by kernel_rfl) (fun hc3 => ?_) (fun hc3 => ?_)
    · rw [if_pos hc3] at hm
      refine W_seq ?_
      have k_14 := k_13.drew 1
      refine W_m do_mixed (.q 20 0 (.q 0 2 (.q 1 2 (.q 2 1 (.q 3 1 (.q 4 2 (.q 5 2 (.q 6 1 (.q 7 0 (.q 8 2 (.q 9 2 (.q 10 1 (.q 11 0 (.q 12 2 (.q 13 2 (.q 14 1 (.q 15 0 (.q 16 2 (.q 17 2 (.q 18 1 (.q 19 0 (.op 21 (.op 22 .nil))))))))))))))))))))))) [21, 22] k_14 (.c (.kkkk (.kk (.k .e))) (.c (.s (.kkkk (.kk .e))) .l)) (by kernel_rfl) (fun _ => ?_)
      refine MXq 1 0 [] (.n 85 (.u64 (x_0 / 64)) (.s .a)) (fun x hx => qe) (by kernel_rfl) (fun _ => ?_)
      refine MXq 2 2 [] (.n 66 (pt g_x 0) .a) (fun x hx => qs g_x 0 <| qe) (by kernel_rfl) (fun _ => ?_)
      refine MXq 2 1 [] (.n 68 (sl (some ⟨g_x, 11, none⟩) 64 64) (.s .a)) (fun x hx => qs g_x 0 <| qo (.v (.slice (some ⟨g_x, 11, none⟩) 64 64)) <| qp (((some ⟨g_x, 11, none⟩) : Option Addr).isSome = true ∧ Value.slice (slA (some ⟨g_x, 11, none⟩) 0 64 1) (64 - 0) (64 - 0) = .slice (some ⟨g_x, 11, none⟩) 64 64) ⟨rfl, slx0 _ _ _ _ _ rfl⟩ <| qe) (by kernel_rfl) (fun _ => ?_)
      refine MXq 2 2 [] (.n 70 (pt g_x 0) .a) (fun x hx => qs g_x 0 <| qe) (by kernel_rfl) (fun _ => ?_)
      refine MXq 1 1 [] (.n 71 (pt g_x 0) (.s .a)) (fun x hx => qs g_x 0 <| qe) (by kernel_rfl) (fun _ => ?_)
      refine MXq 1 0 [] (.n 72 (.agg [I 1, I 64, .u32 4294967295, .u64 274877906944, .b false]) (.s .a)) (fun x hx => qT hx 0 rfl 0 5 [I 1, I 64, .u32 4294967295, .u64 274877906944, .b false] (by kernel_rfl) (by decide) <| qe) (by kernel_rfl) (fun _ => ?_)
      refine MXq 2 2 [] (.n 74 (pt g_x 0) .a) (fun x hx => qs g_x 0 <| qe) (by kernel_rfl) (fun _ => ?_)
      refine MXq 1 1 [] (.n 75 (pt g_x 6) (.s .a)) (fun x hx => qs g_x 0 <| qe) (by kernel_rfl) (fun _ => ?_)
      refine MXq 1 0 [] (.n 76 (sl A_x_salt x_salt.length c_x_salt) (.s .a)) (fun x hx => qB hx 0 rfl 6 (sl A_x_salt x_salt.length c_x_salt) (by kernel_rfl) <| qe) (by kernel_rfl) (fun _ => ?_)
      refine MXq 2 2 [] (.n 78 (pt g_x 0) .a) (fun x hx => qs g_x 0 <| qe) (by kernel_rfl) (fun _ => ?_)
      refine MXq 1 1 [] (.n 79 (pt g_x 7) (.s .a)) (fun x hx => qs g_x 0 <| qe) (by kernel_rfl) (fun _ => ?_)
      refine MXq 1 0 [] (.n 80 (sl A_x_personal x_personal.length c_x_personal) (.s .a)) (fun x hx => qB hx 0 rfl 7 (sl A_x_personal x_personal.length c_x_personal) (by kernel_rfl) <| qe) (by kernel_rfl) (fun _ => ?_)
      refine MXq 2 2 [] (.n 82 (pt g_x 0) .a) (fun x hx => qs g_x 0 <| qe) (by kernel_rfl) (fun _ => ?_)
      refine MXq 1 1 [] (.n 83 (pt g_x 9) (.s .a)) (fun x hx => qs g_x 0 <| qe) (by kernel_rfl) (fun _ => ?_)
      refine MXq 1 0 [] (.n 84 (sl (some ⟨g_x_root, 0, none⟩) x_root.length c_x_root) (.s .a)) (fun x hx => qB hx 0 rfl 9 (sl (some ⟨g_x_root, 0, none⟩) x_root.length c_x_root) (by kernel_rfl) <| qe) (by kernel_rfl) (fun _ => ?_)
      refine MX_op (by kernel_rfl) rfl ?_
      obtain ⟨r_2, h_r_2, hm⟩ := ob hm
      refine Op_call [] 86 _ do_go41 (by kernel_rfl) (c_xof_shape_piece_k (F := N0) (O := N0) _ _ _ _ _ _ _ _ _ _ _ _ _ (Ro.n0 (h_x_salt.cx k_14)) rfl hc_x_salt (Ro.n0 (h_x_personal.cx k_14)) rfl hc_x_personal (Ro.n0 (h_x_root.cx k_14)) rfl hc_x_root (Cx.refl _) _ h_r_2) ?_
      rintro e_ w_4 ⟨A10, _, c10, rfl, rfl, k_15⟩
      have k_16 := k_14.call k_15
      refine ⟨sl A10 r_2.length c10, rfl, ?_⟩
      refine ⟨(k_16.sel (.kkkk (.kk (.k .z)))), fun _ => ?_⟩
      refine MX_op (by kernel_rfl) rfl <| Op_vcp (E := e8) (dn := 64) (dc := 64) (v := sl A10 r_2.length c10) (src := r_2) (lo := 0) (m' := 64) do_tf28 [] 87 0 [I 1, I 64, .u32 4294967295, .u64 274877906944, .b false, sl A_x_key x_key.length c_x_key, sl A_x_salt x_salt.length c_x_salt, sl A_x_personal x_personal.length c_x_personal, pt g_x_n 0, sl (some ⟨g_x_root, 0, none⟩) x_root.length c_x_root, .u64 x_0] [I x_17, .v (.func (.func 63) ⟨SV.vals [pt g_x 0]⟩ ⟨SV.vals []⟩)] x_16 (by kernel_rfl) (slA_zero _ _ _).symm k_16 rfl (Src.sl (k_16.rd 7 rfl) (k_16.len 7 rfl) (by rfl)) (k_16.len 7 rfl) (by have := x_16.h; omega) (by omega) (by omega) ?_
      intro w_5 k_17
      refine ⟨(k_17.sel (.s (.kkkk (.kk .z)))), fun _ => ?_⟩
      refine MX_nil <| At_go <| W_reg <| WLs 5 [] (.n 90 (I (w64 (x_0 / 64).toNat)) (.n 92 (pt g_x 75) (.ssss (.ssss (.s .a))))) (qs g_x 0 <| qs g_x 0 <| qe) (by kernel_rfl) ?_
      refine WL_op <| Op_b [] 0 (I (w64 (x_0 / 64).toNat)) [I (w64 (x_0 / 64).toNat)] (Pt.at g_x 75) k_17 rfl (.kkkk (.kkkk (.kkkk .h))) (by kernel_rfl) (by kernel_rfl) ?_
      intro w_6 k_18
      have k_19 := k_18.sel (.kkkk (.kk (.k .z)))
      refine WL_nil ?_
      exact At_c ⟨(vcp x_16 0 64 r_2), w64 (x_0 / 64).toNat, hm, rfl, k_19⟩ (by kernel_rfl)
    rw [if_neg hc3] at hm
    refine W_skip ?_
    exact At_c ⟨x_16, x_17, hm, rfl, k_13⟩ (by kernel_rfl)
   rintro L_ w_7 ⟨x_18, x_19, hm, rfl, k_20⟩
   simp only [m_xof_Stream_Read_k_s1_j1] at hm
   refine W_seq <| W_d do_mixed (by kernel_rfl) (.n 9 (I (w64 (x_0 % 64).toNat)) .a) (fun m => qs g_x 0 <| qs g_x 0 <| qB (k_20.drew m) 0 rfl 10 (.u64 x_0) (by kernel_rfl) <| qs g_x 0 <| qs g_x 0 <| qs g_x 0 <| qB (k_20.drew m) 0 rfl 1 (I 64) (by kernel_rfl) <| qp ((64 : UInt64) ≠ 0) (by show (64 : UInt64) ≠ 0; decide) <| qe) (by kernel_rfl) (fun m_2 => ?_)
   have k_21 := k_20.drew m_2
   refine At_go <| W_seq <| W_q [] (.n 10 (I (if w64 (64 - (w64 (x_0 % 64).toNat)) < w64 (n0 - ((out.length : Nat) : Int)) then w64 (64 - (w64 (x_0 % 64).toNat)) else w64 (n0 - ((out.length : Nat) : Int)))) .a) (qs g_x 0 <| qs g_x 0 <| qs g_x 0 <| qB k_21 0 rfl 1 (I 64) (by kernel_rfl) <| qe) (by kernel_rfl) ?_
   refine At_go <| W_seq <| W_reg ?_
   obtain ⟨b, h_b, hm⟩ := ob hm
   have hs := slc_some h_b
   have hl := slc_len h_b
   have hn : x_18.l.length = 64 := x_18.h
   have hc4 : 64 ≤ 64 := (Nat.le_refl _)
   obtain ⟨A11, c11, e_, hc5, hA, hc6⟩ := slx (some ⟨g_x, 11, none⟩) (Int.toNat (w64 (x_0 % 64).toNat)) 64 1 (Int.toNat (w64 ((w64 (x_0 % 64).toNat) + (if w64 (64 - (w64 (x_0 % 64).toNat)) < w64 (n0 - ((out.length : Nat) : Int)) then w64 (64 - (w64 (x_0 % 64).toNat)) else w64 (n0 - ((out.length : Nat) : Int))))) - Int.toNat (w64 (x_0 % 64).toNat)) b.length (by omega) (by omega)
   refine WLs 9 [] (.n 117 (sl A9 out.length c9) (.n 125 (sl A11 b.length c11) (.k (.s .a)))) (qs g_x 0 <| qs g_x 0 <| qp (0 ≤ w64 ((w64 (x_0 % 64).toNat) + (if w64 (64 - (w64 (x_0 % 64).toNat)) < w64 (n0 - ((out.length : Nat) : Int)) then w64 (64 - (w64 (x_0 % 64).toNat)) else w64 (n0 - ((out.length : Nat) : Int)))) ∧ w64 ((w64 (x_0 % 64).toNat) + (if w64 (64 - (w64 (x_0 % 64).toNat)) < w64 (n0 - ((out.length : Nat) : Int)) then w64 (64 - (w64 (x_0 % 64).toNat)) else w64 (n0 - ((out.length : Nat) : Int)))) ≤ ((64 : Nat) : Int)) (by omega) <| qp (0 ≤ w64 (x_0 % 64).toNat ∧ w64 (x_0 % 64).toNat ≤ ((Int.toNat (w64 ((w64 (x_0 % 64).toNat) + (if w64 (64 - (w64 (x_0 % 64).toNat)) < w64 (n0 - ((out.length : Nat) : Int)) then w64 (64 - (w64 (x_0 % 64).toNat)) else w64 (n0 - ((out.length : Nat) : Int))))) : Nat) : Int)) (by omega) <| qo (.v (.slice A11 b.length c11)) <| qp (((some ⟨g_x, 11, none⟩) : Option Addr).isSome = true ∧ Value.slice (slA (some ⟨g_x, 11, none⟩) (Int.toNat (w64 (x_0 % 64).toNat)) 64 1) (Int.toNat (w64 ((w64 (x_0 % 64).toNat) + (if w64 (64 - (w64 (x_0 % 64).toNat)) < w64 (n0 - ((out.length : Nat) : Int)) then w64 (64 - (w64 (x_0 % 64).toNat)) else w64 (n0 - ((out.length : Nat) : Int))))) - Int.toNat (w64 (x_0 % 64).toNat)) (64 - Int.toNat (w64 (x_0 % 64).toNat)) = .slice A11 b.length c11) ⟨rfl, e_⟩ <| qe) (by kernel_rfl) ?_
   refine WL_op ?_
   obtain ⟨out1, h_out1, hm⟩ := ob hm
   obtain ⟨hz, hl1⟩ := app_some h_out1
   refine Op_append (E := e8) (v := sl A11 b.length c11) (ys := b) do_tf28 [] 126 6 (by kernel_rfl) k_21 rfl (Src.sl (Rd.cut (Rd.vec (k_21.brd 0 rfl) (c := Enc.all e8 x_18.l) (off := 11) (by kernel_rfl)) h_b rfl (by rfl) hA (by omega)) rfl (by rfl)) rfl (by have := k_21.len 6 rfl; have := hm; omega) ?_
   intro A12 c12 w_8 k_22
   rw [← hl1] at k_22
   refine WLs 1 [] (.n 7 (sl A12 (out.length + b.length) c12) (.sss (.kkk .z))) qe (by kernel_rfl) ?_
   refine WL_nil <| At_go <| W_reg <| WLs 9 [] (.n 133 (.u64 (x_0 + (UInt64.ofInt (if w64 (64 - (w64 (x_0 % 64).toNat)) < w64 (n0 - ((out.length : Nat) : Int)) then w64 (64 - (w64 (x_0 % 64).toNat)) else w64 (n0 - ((out.length : Nat) : Int)))))) (.n 135 (pt g_x 10) (.k (.s .a)))) (qs g_x 0 <| qs g_x 0 <| qB k_22 0 rfl 10 (.u64 x_0) (by kernel_rfl) <| qs g_x 0 <| qs g_x 0 <| qe) (by kernel_rfl) ?_
   refine WL_op <| Op_b [] 0 (.u64 (x_0 + (UInt64.ofInt (if w64 (64 - (w64 (x_0 % 64).toNat)) < w64 (n0 - ((out.length : Nat) : Int)) then w64 (64 - (w64 (x_0 % 64).toNat)) else w64 (n0 - ((out.length : Nat) : Int)))))) [.u64 (x_0 + (UInt64.ofInt (if w64 (64 - (w64 (x_0 % 64).toNat)) < w64 (n0 - ((out.length : Nat) : Int)) then w64 (64 - (w64 (x_0 % 64).toNat)) else w64 (n0 - ((out.length : Nat) : Int)))))] (Pt.at g_x 10) k_22 rfl (.kkkk (.kkkk (.kk .h))) (by kernel_rfl) (by kernel_rfl) ?_
   intro w_9 k_23
   refine WL_nil <| At_in ?_
   exact At_rd (x_0 + (UInt64.ofInt (if w64 (64 - (w64 (x_0 % 64).toNat)) < w64 (n0 - ((out.length : Nat) : Int)) then w64 (64 - (w64 (x_0 % 64).toNat)) else w64 (n0 - ((out.length : Nat) : Int)))), x_18, x_19, out1) (Option.some.inj hm).symm ⟨x_0 + (UInt64.ofInt (if w64 (64 - (w64 (x_0 % 64).toNat)) < w64 (n0 - ((out.length : Nat) : Int)) then w64 (64 - (w64 (x_0 % 64).toNat)) else w64 (n0 - ((out.length : Nat) : Int)))), x_18, x_19, out1, A12, out.length + b.length, c12, rfl, rfl, k_23.len 6 rfl, k_23⟩ (by kernel_rfl)
 rw [if_neg hc2] at hm
 refine W_exit (At_te (At_te (At_ie ?_)))
 have hm := exit_of hm hr0
 refine At_go <| W_seq <| W_q [] (.n 4 (sl A9 out.length c9) (.n 5 (I 0) .z)) qe (by kernel_rfl) ?_
 refine At_go <| W_ret ?_
 obtain rfl := Option.some.inj hm
 refine At_rt [sl A9 out.length c9, I 0] qe (by kernel_rfl) ?_
 have k_24 := ((((((k_11.pk .h).pk (.t (.t (.t .h)))).pk (.t (.t (.t .h)))).pk (.t (.t (.t .h)))).pk (.t (.t (.t (.t (.t .h)))))).pk (.t (.t (.t (.t (.t .h)))))).pk (.t (.t (.t (.t (.t (.t .h))))))
 exact ⟨A9, out.length, c9, A6, r_1.2.2.2.1.length, c6, A7, r_1.2.2.2.2.2.2.2.1.length, c7, A8, r_1.2.2.2.2.2.2.2.2.1.length, c8, k_24.len 0 rfl, k_24.len 2 rfl, k_24.len 4 rfl, k_24.len 5 rfl, rfl, k_24⟩

theorem c_dice_Dice_drawn_1_k_s1 {F O : Nat → Prop} {w : World} (p_seed : List UInt8) (p_s_key : List UInt8) (p_s_salt : List UInt8) (p_s_personal : List UInt8) (p_s_n_kind : Int) (p_s_n_digest : Int) (p_s_n_block : List UInt8) (p_s_n_key : List UInt8) (p_s_n_last : Bool) (p_s_n_written : UInt64) (p_s_n_e_h : Vec UInt64 8) (p_s_n_e_count_Lo : UInt64) (p_s_n_e_count_Hi : UInt64) (p_s_n_e_held : List UInt8) (p_s_n_e_block : Int) (p_s_root : List UInt8) (p_s_at : UInt64) (p_s_now : Vec UInt8 64) (p_s_have : Int) (p : Int) (g_p : Nat) (g_p1 : Nat) (A_p_seed : Option Addr) (n_p_seed : Nat) (c_p_seed : Nat) (g_p_s : Nat) (A_p_s_key : Option Addr) (n_p_s_key : Nat) (c_p_s_key : Nat) (A_p_s_salt : Option Addr) (n_p_s_salt : Nat) (c_p_s_salt : Nat) (A_p_s_personal : Option Addr) (n_p_s_personal : Nat) (c_p_s_personal : Nat) (g_p_s_n : Nat) (A_p_s_n_block : Option Addr) (n_p_s_n_block : Nat) (c_p_s_n_block : Nat) (A_p_s_n_key : Option Addr) (n_p_s_n_key : Nat) (c_p_s_n_key : Nat) (g_p_s_n_e : Nat) (A_p_s_n_e_held : Option Addr) (n_p_s_n_e_held : Nat) (c_p_s_n_e_held : Nat) (g_p_s_root : Nat) (n_p_s_root : Nat) (c_p_s_root : Nat) (g_p2 : Nat) (h_p_seed : Ro F w A_p_seed (e8.all p_seed)) (hn_p_seed : p_seed.length = n_p_seed) (hc_p_seed : n_p_seed ≤ c_p_seed) (h_p_s_key : Ro F w A_p_s_key (e8.all p_s_key)) (hn_p_s_key : p_s_key.length = n_p_s_key) (hc_p_s_key : n_p_s_key ≤ c_p_s_key) (h_p_s_salt : Ro F w A_p_s_salt (e8.all p_s_salt)) (hn_p_s_salt : p_s_salt.length = n_p_s_salt) (hc_p_s_salt : n_p_s_salt ≤ c_p_s_salt) (h_p_s_personal : Ro F w A_p_s_personal (e8.all p_s_personal)) (hn_p_s_personal : p_s_personal.length = n_p_s_personal) (hc_p_s_personal : n_p_s_personal ≤ c_p_s_personal) (h_p_s_root : Ro F w (some ⟨g_p_s_root, 0, none⟩) (e8.all p_s_root)) (hn_p_s_root : p_s_root.length = n_p_s_root) (hc_p_s_root : n_p_s_root ≤ c_p_s_root) (k : Cx F O w w [Bx 24 g_p [pt g_p1 0], Bx 42 g_p1 [sl A_p_seed n_p_seed c_p_seed, pt g_p_s 0], Bx 67 g_p_s [I 1, I 64, .u32 4294967295, .u64 274877906944, .b false, sl A_p_s_key n_p_s_key c_p_s_key, sl A_p_s_salt n_p_s_salt c_p_s_salt, sl A_p_s_personal n_p_s_personal c_p_s_personal, pt g_p_s_n 0, sl (some ⟨g_p_s_root, 0, none⟩) n_p_s_root c_p_s_root, .u64 p_s_at, .ar e8 p_s_now, I p_s_have, .v (.func (.func 63) ⟨SV.vals [pt g_p_s 0]⟩ ⟨SV.vals []⟩)], Bx 114 g_p_s_n [I p_s_n_kind, I p_s_n_digest, sl A_p_s_n_block n_p_s_n_block c_p_s_n_block, sl A_p_s_n_key n_p_s_n_key c_p_s_n_key, .b p_s_n_last, .u64 p_s_n_written, .v (.iface 141 (SV.val (pt g_p_s_n_e 0)))], Ow e8 A_p_s_n_block n_p_s_n_block c_p_s_n_block p_s_n_block, Ow e8 A_p_s_n_key n_p_s_n_key c_p_s_n_key p_s_n_key, Bx 147 g_p_s_n_e [.ar e64 p_s_n_e_h, .u64 p_s_n_e_count_Lo, .u64 p_s_n_e_count_Hi, sl A_p_s_n_e_held n_p_s_n_e_held c_p_s_n_e_held, I p_s_n_e_block, .v (.func (.func 83) ⟨SV.vals []⟩ ⟨SV.vals []⟩), .v (.func (.func 84) ⟨SV.vals []⟩ ⟨SV.vals []⟩)], Ow e8 A_p_s_n_e_held n_p_s_n_e_held c_p_s_n_e_held p_s_n_e_held, Bx 25 g_p2 [I p]]) (r : (UInt64 × Vec UInt64 8 × UInt64 × UInt64 × List UInt8 × Int × Int × Int × List UInt8 × List UInt8 × Bool × UInt64 × UInt64 × Vec UInt8 64 × Int × Int)) (hm : m_dice_Dice_drawn_1_k_s1 p_seed p_s_key p_s_salt p_s_personal p_s_n_kind p_s_n_digest p_s_n_block p_s_n_key p_s_n_last p_s_n_written p_s_n_e_h p_s_n_e_count_Lo p_s_n_e_count_Hi p_s_n_e_held p_s_n_e_block p_s_root p_s_at p_s_now p_s_have p = some r) :
    Calls Tryz.prog 22 (vals [pt g_p 0, pt g_p2 0]) w (fun e w' => ∃ A n c A1 n1 c1 A2 n2 c2, r.2.2.2.2.1.length = n ∧ r.2.2.2.2.2.2.2.2.1.length = n1 ∧ r.2.2.2.2.2.2.2.2.2.1.length = n2 ∧ e = .returned (SV.val (.u64 r.1)) ∧ Cx F O w w' [Bx 147 g_p_s_n_e [.ar e64 r.2.1, .u64 r.2.2.1, .u64 r.2.2.2.1, sl A n c, I r.2.2.2.2.2.1, .v (.func (.func 83) ⟨SV.vals []⟩ ⟨SV.vals []⟩), .v (.func (.func 84) ⟨SV.vals []⟩ ⟨SV.vals []⟩)], Ow e8 A n c r.2.2.2.2.1, Bx 114 g_p_s_n [I r.2.2.2.2.2.2.1, I r.2.2.2.2.2.2.2.1, sl A1 n1 c1, sl A2 n2 c2, .b r.2.2.2.2.2.2.2.2.2.2.1, .u64 r.2.2.2.2.2.2.2.2.2.2.2.1, .v (.iface 141 (SV.val (pt g_p_s_n_e 0)))], Ow e8 A1 n1 c1 r.2.2.2.2.2.2.2.2.1, Ow e8 A2 n2 c2 r.2.2.2.2.2.2.2.2.2.1, Bx 67 g_p_s [I 1, I 64, .u32 4294967295, .u64 274877906944, .b false, sl A_p_s_key n_p_s_key c_p_s_key, sl A_p_s_salt n_p_s_salt c_p_s_salt, sl A_p_s_personal n_p_s_personal c_p_s_personal, pt g_p_s_n 0, sl (some ⟨g_p_s_root, 0, none⟩) n_p_s_root c_p_s_root, .u64 r.2.2.2.2.2.2.2.2.2.2.2.2.1, .ar e8 r.2.2.2.2.2.2.2.2.2.2.2.2.2.1, I r.2.2.2.2.2.2.2.2.2.2.2.2.2.2.1, .v (.func (.func 63) ⟨SV.vals [pt g_p_s 0]⟩ ⟨SV.vals []⟩)], Bx 42 g_p1 [sl A_p_seed n_p_seed c_p_seed, pt g_p_s 0], Bx 24 g_p [pt g_p1 0], Bx 25 g_p2 [I r.2.2.2.2.2.2.2.2.2.2.2.2.2.2.2]]) := by
 unfold m_dice_Dice_drawn_1_k_s1 at hm
 subst hn_p_seed
 subst hn_p_s_key
 subst hn_p_s_salt
 subst hn_p_s_personal
 obtain rfl := k.len 4 rfl
 obtain rfl := k.len 5 rfl
 obtain rfl := k.len 7 rfl
 subst hn_p_s_root
 refine calls [pt g_p 0, pt g_p2 0] Tryz.func22 rfl (of_decide_eq_true (by kernel_rfl)) ?_
 refine W_seq <| W_q [] .a qe (by kernel_rfl) ?_
 refine At_go <| W_seq <| W_reg <| WLs 4 [] (.n 11 (pt g_p_s 0) (.s .a)) (qB k 0 rfl 0 (pt g_p1 0) (by kernel_rfl) <| qs g_p1 0 <| qs g_p1 0 <| qB k 1 rfl 1 (pt g_p_s 0) (by kernel_rfl) <| qe) (by kernel_rfl) ?_
 refine WL_op ?_
 obtain ⟨r_, h_r_, hm⟩ := ob hm
 obtain ⟨F1, O1, kin, hO, hre, hF, hb⟩ := k.go (.r (.r (.i (.i (.i (.i (.i (.i (.r .e)))))))))
 refine Op_call [] 12 _ do_go23 (by kernel_rfl) (c_xof_Stream_Read_k_s1 (F := F1) (O := O1) _ _ _ _ _ _ _ _ _ _ _ _ _ _ _ _ _ _ _ _ _ _ _ _ _ _ _ _ _ _ _ _ _ _ _ _ _ _ _ _ _ _ (Ro.of_old h_p_s_key k hF) rfl hc_p_s_key (Ro.of_old h_p_s_salt k hF) rfl hc_p_s_salt (Ro.of_old h_p_s_personal k hF) rfl hc_p_s_personal (Ro.of_old h_p_s_root k hF) rfl hc_p_s_root kin _ h_r_) ?_
 rintro e_ w_ ⟨A0, _, c0, A3, _, c3, A4, _, c4, A5, _, c5, rfl, rfl, rfl, rfl, rfl, k_⟩
 have k_1 := hb w_ _ _ k_ (.c (.c (.c (.c (.c (.c (.c .n)))))))
 refine ⟨.tup [sl A0 r_.1.length c0, I r_.2.1], rfl, ?_⟩
 refine WLs 5 [] (.n 3 (sl A0 r_.1.length c0) (.n 4 (I r_.2.1) (.ss .a))) qe (by kernel_rfl) ?_
 refine WL_nil <| At_go <| W_seq <| W_seq <| W_q [] (.n 16 (.b (decide (r_.2.1 ≠ 0))) (.k (.s .a))) qe (by kernel_rfl) ?_
 refine At_go <| W_condp (r_.2.1 ≠ 0) (by kernel_rfl) (fun hc => ?_) (fun hc => ?_)
 · rw [if_pos hc] at hm
   refine W_seq <| W_reg <| WL_op <| Op_b [] 9 (I 6) [I 6] (Pt.at g_p2 0) k_1 rfl .all (by kernel_rfl) (by kernel_rfl) ?_
   intro w_1 k_2
   have k_3 := k_2.sel (.s (.kkkk (.kkkk (.k .e))))
   refine WL_nil <| At_go <| W_seq <| W_q [] (.n 2 (.u64 0) .z) qe (by kernel_rfl) ?_
   refine At_go <| W_ret (At_tr ?_)
   obtain rfl := Option.some.inj hm
   refine At_rt [.u64 0] qe (by kernel_rfl) ?_
   have k_4 := ((((((((k_3.pk (.t (.t (.t (.t (.t (.t (.t (.t .h))))))))).pk (.t (.t (.t (.t (.t (.t (.t .h)))))))).pk (.t (.t (.t (.t (.t (.t (.t (.t .h))))))))).pk (.t (.t (.t (.t (.t (.t (.t (.t .h))))))))).pk (.t (.t (.t (.t (.t (.t (.t (.t .h))))))))).pk (.t (.t (.t (.t (.t (.t (.t (.t .h))))))))).pk (.t (.t (.t (.t (.t (.t (.t (.t .h))))))))).pk (.t (.t (.t (.t (.t (.t (.t (.t .h))))))))).pk (.t (.t (.t (.t (.t (.t (.t (.t .h))))))))
   exact ⟨A3, r_.2.2.2.2.2.1.length, c3, A4, r_.2.2.2.2.2.2.2.2.2.1.length, c4, A5, r_.2.2.2.2.2.2.2.2.2.2.1.length, c5, k_4.len 1 rfl, k_4.len 3 rfl, k_4.len 4 rfl, rfl, k_4⟩
 rw [if_neg hc] at hm
 refine W_skip <| At_go <| W_seq <| W_reg <| WLs 1 [] (.n 18 (sl A0 r_.1.length c0) .z) qe (by kernel_rfl) ?_
 refine WL_op ?_
 obtain ⟨r_1, h_r_1, hm⟩ := ob hm
 refine Op_call [] 19 _ do_go24 (by kernel_rfl) (c_word_Load64 (F := N0) (O := N0) _ _ _ _ _ (Ro.n0 (k_1.rd 0 rfl)) (k_1.len 0 rfl) (k_1.lec 0 rfl) (Cx.refl _) _ h_r_1) ?_
 rintro e_ w_2 ⟨rfl, k_5⟩
 have k_6 := k_1.call k_5
 refine ⟨.tup [.u64 r_1.1, I r_1.2], rfl, ?_⟩
 have k_7 := k_6.sel (.s (.kkkk (.kkkk (.k .e))))
 refine WLs 5 [] (.n 5 (.u64 r_1.1) .z) qe (by kernel_rfl) ?_
 refine WL_nil <| At_go <| W_seq <| W_q [] (.n 2 (.u64 r_1.1) .z) qe (by kernel_rfl) ?_
 refine At_go <| W_ret ?_
 obtain rfl := Option.some.inj hm
 refine At_rt [.u64 r_1.1] qe (by kernel_rfl) ?_
 have k_8 := ((((((((k_7.pk (.t (.t (.t (.t (.t (.t (.t (.t .h))))))))).pk (.t (.t (.t (.t (.t (.t (.t .h)))))))).pk (.t (.t (.t (.t (.t (.t (.t (.t .h))))))))).pk (.t (.t (.t (.t (.t (.t (.t (.t .h))))))))).pk (.t (.t (.t (.t (.t (.t (.t (.t .h))))))))).pk (.t (.t (.t (.t (.t (.t (.t (.t .h))))))))).pk (.t (.t (.t (.t (.t (.t (.t (.t .h))))))))).pk (.t (.t (.t (.t (.t (.t (.t (.t .h))))))))).pk (.t (.t (.t (.t (.t (.t (.t (.t .h))))))))
 exact ⟨A3, r_.2.2.2.2.2.1.length, c3, A4, r_.2.2.2.2.2.2.2.2.2.1.length, c4, A5, r_.2.2.2.2.2.2.2.2.2.2.1.length, c5, k_8.len 1 rfl, k_8.len 3 rfl, k_8.len 4 rfl, rfl, k_8⟩

theorem c_dice_below_k {F O : Nat → Prop} {w : World} (draw_seed : List UInt8) (draw_s_key : List UInt8) (draw_s_salt : List UInt8) (draw_s_personal : List UInt8) (draw_s_n_kind : Int) (draw_s_n_digest : Int) (draw_s_n_block : List UInt8) (draw_s_n_key : List UInt8) (draw_s_n_last : Bool) (draw_s_n_written : UInt64) (draw_s_n_e_h : Vec UInt64 8) (draw_s_n_e_count_Lo : UInt64) (draw_s_n_e_count_Hi : UInt64) (draw_s_n_e_held : List UInt8) (draw_s_n_e_block : Int) (draw_s_at : UInt64) (draw_s_now : Vec UInt8 64) (draw_s_have : Int) (draw : Int) (n : UInt64) (g_draw : Nat) (g_draw1 : Nat) (A_draw_seed : Option Addr) (n_draw_seed : Nat) (c_draw_seed : Nat) (g_draw_s : Nat) (A_draw_s_key : Option Addr) (n_draw_s_key : Nat) (c_draw_s_key : Nat) (A_draw_s_salt : Option Addr) (n_draw_s_salt : Nat) (c_draw_s_salt : Nat) (A_draw_s_personal : Option Addr) (n_draw_s_personal : Nat) (c_draw_s_personal : Nat) (g_draw_s_n : Nat) (A_draw_s_n_block : Option Addr) (n_draw_s_n_block : Nat) (c_draw_s_n_block : Nat) (A_draw_s_n_key : Option Addr) (n_draw_s_n_key : Nat) (c_draw_s_n_key : Nat) (g_draw_s_n_e : Nat) (A_draw_s_n_e_held : Option Addr) (n_draw_s_n_e_held : Nat) (c_draw_s_n_e_held : Nat) (g_draw2 : Nat) (h_draw_seed : Ro F w A_draw_seed (e8.all draw_seed)) (hn_draw_seed : draw_seed.length = n_draw_seed) (hc_draw_seed : n_draw_seed ≤ c_draw_seed) (h_draw_s_key : Ro F w A_draw_s_key (e8.all draw_s_key)) (hn_draw_s_key : draw_s_key.length = n_draw_s_key) (hc_draw_s_key : n_draw_s_key ≤ c_draw_s_key) (h_draw_s_salt : Ro F w A_draw_s_salt (e8.all draw_s_salt)) (hn_draw_s_salt : draw_s_salt.length = n_draw_s_salt) (hc_draw_s_salt : n_draw_s_salt ≤ c_draw_s_salt) (h_draw_s_personal : Ro F w A_draw_s_personal (e8.all draw_s_personal)) (hn_draw_s_personal : draw_s_personal.length = n_draw_s_personal) (hc_draw_s_personal : n_draw_s_personal ≤ c_draw_s_personal) (k : Cx F O w w [Bx 24 g_draw [pt g_draw1 0], Bx 42 g_draw1 [sl A_draw_seed n_draw_seed c_draw_seed, pt g_draw_s 0], Bx 67 g_draw_s [I 1, I 64, .u32 4294967295, .u64 274877906944, .b false, sl A_draw_s_key n_draw_s_key c_draw_s_key, sl A_draw_s_salt n_draw_s_salt c_draw_s_salt, sl A_draw_s_personal n_draw_s_personal c_draw_s_personal, pt g_draw_s_n 0, sl none 0 0, .u64 draw_s_at, .ar e8 draw_s_now, I draw_s_have, .v (.func (.func 36) ⟨SV.vals [pt g_draw_s 0]⟩ ⟨SV.vals []⟩)], Bx 114 g_draw_s_n [I draw_s_n_kind, I draw_s_n_digest, sl A_draw_s_n_block n_draw_s_n_block c_draw_s_n_block, sl A_draw_s_n_key n_draw_s_n_key c_draw_s_n_key, .b draw_s_n_last, .u64 draw_s_n_written, .v (.iface 141 (SV.val (pt g_draw_s_n_e 0)))], Ow e8 A_draw_s_n_block n_draw_s_n_block c_draw_s_n_block draw_s_n_block, Ow e8 A_draw_s_n_key n_draw_s_n_key c_draw_s_n_key draw_s_n_key, Bx 147 g_draw_s_n_e [.ar e64 draw_s_n_e_h, .u64 draw_s_n_e_count_Lo, .u64 draw_s_n_e_count_Hi, sl A_draw_s_n_e_held n_draw_s_n_e_held c_draw_s_n_e_held, I draw_s_n_e_block, .v (.func (.func 83) ⟨SV.vals []⟩ ⟨SV.vals []⟩), .v (.func (.func 84) ⟨SV.vals []⟩ ⟨SV.vals []⟩)], Ow e8 A_draw_s_n_e_held n_draw_s_n_e_held c_draw_s_n_e_held draw_s_n_e_held, Bx 25 g_draw2 [I draw]]) (r : (UInt64 × Vec UInt64 8 × UInt64 × UInt64 × List UInt8 × Int × Int × Int × List UInt8 × List UInt8 × Bool × UInt64 × List UInt8 × UInt64 × Vec UInt8 64 × Int × Int)) (hm : m_dice_below_k draw_seed draw_s_key draw_s_salt draw_s_personal draw_s_n_kind draw_s_n_digest draw_s_n_block draw_s_n_key draw_s_n_last draw_s_n_written draw_s_n_e_h draw_s_n_e_count_Lo draw_s_n_e_count_Hi draw_s_n_e_held draw_s_n_e_block draw_s_at draw_s_now draw_s_have draw n = some r) :
    Calls Tryz.prog 13 (vals [.v (.func (.func 22) ⟨SV.vals []⟩ ⟨SV.vals [pt g_draw 0, pt g_draw2 0]⟩), .u64 n]) w (fun e w' => ∃ A n1 c A1 n2 c1 A2 n3 c2 g n4 c3, r.2.2.2.2.1.length = n1 ∧ r.2.2.2.2.2.2.2.2.1.length = n2 ∧ r.2.2.2.2.2.2.2.2.2.1.length = n3 ∧ r.2.2.2.2.2.2.2.2.2.2.2.2.1.length = n4 ∧ e = .returned (SV.val (.u64 r.1)) ∧ Cx F O w w' [Bx 147 g_draw_s_n_e [.ar e64 r.2.1, .u64 r.2.2.1, .u64 r.2.2.2.1, sl A n1 c, I r.2.2.2.2.2.1, .v (.func (.func 83) ⟨SV.vals []⟩ ⟨SV.vals []⟩), .v (.func (.func 84) ⟨SV.vals []⟩ ⟨SV.vals []⟩)], Ow e8 A n1 c r.2.2.2.2.1, Bx 114 g_draw_s_n [I r.2.2.2.2.2.2.1, I r.2.2.2.2.2.2.2.1, sl A1 n2 c1, sl A2 n3 c2, .b r.2.2.2.2.2.2.2.2.2.2.1, .u64 r.2.2.2.2.2.2.2.2.2.2.2.1, .v (.iface 141 (SV.val (pt g_draw_s_n_e 0)))], Ow e8 A1 n2 c1 r.2.2.2.2.2.2.2.2.1, Ow e8 A2 n3 c2 r.2.2.2.2.2.2.2.2.2.1, Bx 67 g_draw_s [I 1, I 64, .u32 4294967295, .u64 274877906944, .b false, sl A_draw_s_key n_draw_s_key c_draw_s_key, sl A_draw_s_salt n_draw_s_salt c_draw_s_salt, sl A_draw_s_personal n_draw_s_personal c_draw_s_personal, pt g_draw_s_n 0, sl (some ⟨g, 0, none⟩) n4 c3, .u64 r.2.2.2.2.2.2.2.2.2.2.2.2.2.1, .ar e8 r.2.2.2.2.2.2.2.2.2.2.2.2.2.2.1, I r.2.2.2.2.2.2.2.2.2.2.2.2.2.2.2.1, .v (.func (.func 63) ⟨SV.vals [pt g_draw_s 0]⟩ ⟨SV.vals []⟩)], Sh (SH e8) [((some ⟨g, 0, none⟩), n4, c3)] [r.2.2.2.2.2.2.2.2.2.2.2.2.1], Bx 42 g_draw1 [sl A_draw_seed n_draw_seed c_draw_seed, pt g_draw_s 0], Bx 24 g_draw [pt g_draw1 0], Bx 25 g_draw2 [I r.2.2.2.2.2.2.2.2.2.2.2.2.2.2.2.2]]) := by
 unfold m_dice_below_k at hm
 subst hn_draw_seed
 subst hn_draw_s_key
 subst hn_draw_s_salt
 subst hn_draw_s_personal
 obtain rfl := k.len 4 rfl
 obtain rfl := k.len 5 rfl
 obtain rfl := k.len 7 rfl
 refine calls [.v (.func (.func 22) ⟨SV.vals []⟩ ⟨SV.vals [pt g_draw 0, pt g_draw2 0]⟩), .u64 n] Tryz.func13 rfl (of_decide_eq_true (by kernel_rfl)) ?_
 refine W_seq <| W_q [] .a qe (by kernel_rfl) ?_
 refine At_go <| W_seq <| W_reg ?_
 obtain ⟨u, h_u, hm⟩ := ob hm
 refine WLs 3 [] (.n 11 (.u64 ((1 : UInt64) % n)) (.n 12 (.u64 n) .a)) (qp (n ≠ 0) (need_some h_u) <| qe) (by kernel_rfl) ?_
 refine WL_op ?_
 obtain ⟨r_, h_r_, hm⟩ := ob hm
 refine Op_call [] 13 _ do_go25 (by kernel_rfl) (c_bits_Div64 (F := N0) (O := N0) _ _ _ (Cx.refl _) _ h_r_) ?_
 rintro e_ w_ ⟨rfl, k_⟩
 have k_1 := k.call k_
 refine ⟨.tup [.u64 r_.1, .u64 r_.2], rfl, ?_⟩
 refine WLs 5 [] (.n 6 (.u64 r_.2) (.sss .a)) qe (by kernel_rfl) ?_
 refine WL_nil <| At_go <| W_seq <| W_reg <| WLs 1 [] (.n 16 (.v (.func (.func 22) ⟨SV.vals []⟩ ⟨SV.vals [pt g_draw 0, pt g_draw2 0]⟩)) .a) qe (by kernel_rfl) ?_
 refine WL_op ?_
 obtain ⟨r_1, h_r_1, hm⟩ := ob hm
 obtain ⟨F1, O1, kin, hO, hre, hF, hb⟩ := k_1.go (.i (.i (.i (.i (.i (.i (.i (.i (.i .e)))))))))
 refine Op_callv [] 17 [] [] [pt g_draw 0, pt g_draw2 0] do_go22 (by kernel_rfl) (c_dice_Dice_drawn_1_k (F := F1) (O := O1) _ _ _ _ _ _ _ _ _ _ _ _ _ _ _ _ _ _ _ _ _ _ _ _ _ _ _ _ _ _ _ _ _ _ _ _ _ _ _ _ _ _ _ _ _ _ (Ro.of_old h_draw_seed k_1 hF) rfl hc_draw_seed (Ro.of_old h_draw_s_key k_1 hF) rfl hc_draw_s_key (Ro.of_old h_draw_s_salt k_1 hF) rfl hc_draw_s_salt (Ro.of_old h_draw_s_personal k_1 hF) rfl hc_draw_s_personal kin _ h_r_1) ?_
 rintro e_ w_1 ⟨A0, _, c0, A3, _, c4, A4, _, c5, g0, _, c6, rfl, rfl, rfl, rfl, rfl, k_2⟩
 have k_3 := hb w_1 _ _ k_2 (.c (.c (.c (.c (.c (.c (.c (.c (.c (.c .n))))))))))
 refine ⟨.u64 r_1.1, rfl, ?_⟩
 refine WLs 1 [] (.n 7 (.u64 r_1.1) (.ss .a)) qe (by kernel_rfl) ?_
 refine WL_nil <| At_go <| W_seq <| W_seq <| W_q [] (.n 8 (I 1) .a) qe (by kernel_rfl) ?_
 refine At_go <| W_block ?_
 have k_5 := (((((((((k_3.pk (.t (.t (.t (.t (.t (.t (.t (.t (.t .h)))))))))).pk (.t (.t (.t (.t (.t (.t (.t .h)))))))).pk (.t (.t (.t .h)))).pk (.t (.t (.t .h)))).pk (.t (.t (.t (.t (.t (.t .h))))))).pk (.t (.t (.t (.t (.t (.t .h))))))).pk (.t (.t (.t (.t (.t (.t .h))))))).pk (.t (.t (.t (.t (.t (.t (.t .h)))))))).pk (.t (.t (.t (.t (.t (.t (.t (.t .h))))))))).pk (.t (.t (.t (.t (.t (.t (.t (.t (.t .h)))))))))
 refine W_lp (m_dice_below_k_l0 draw_seed draw_s_key draw_s_salt draw_s_personal n r_ r_1) (fun s L wr => ∃ (draw1 : Int) (draw2 : Int) (draw3 : List UInt8) (draw4 : List UInt8) (draw5 : Bool) (draw6 : UInt64) (draw7 : Vec UInt64 8) (draw8 : UInt64) (draw9 : UInt64) (draw10 : List UInt8) (draw11 : Int) (draw12 : UInt64) (draw13 : Vec UInt8 64) (draw14 : Int) (draw15 : Int) (w_2 : UInt64) (tries : Int) (A5 : Option Addr) (n5 : Nat) (c7 : Nat) (A6 : Option Addr) (n6 : Nat) (c8 : Nat) (A7 : Option Addr) (n7 : Nat) (c9 : Nat), (draw1, draw2, draw3, draw4, draw5, draw6, draw7, draw8, draw9, draw10, draw11, draw12, draw13, draw14, draw15, w_2, tries) = s ∧ L = [(0, .v (.func (.func 22) ⟨SV.vals []⟩ ⟨SV.vals [pt g_draw 0, pt g_draw2 0]⟩)), (1, .u64 n), (6, .u64 r_.2), (7, .u64 w_2), (8, I tries)] ∧ draw3.length = n5 ∧ draw4.length = n6 ∧ draw10.length = n7 ∧ Cx F O w wr [Bx 24 g_draw [pt g_draw1 0], Bx 42 g_draw1 [sl A_draw_seed draw_seed.length c_draw_seed, pt g_draw_s 0], Bx 67 g_draw_s [I 1, I 64, .u32 4294967295, .u64 274877906944, .b false, sl A_draw_s_key draw_s_key.length c_draw_s_key, sl A_draw_s_salt draw_s_salt.length c_draw_s_salt, sl A_draw_s_personal draw_s_personal.length c_draw_s_personal, pt g_draw_s_n 0, sl (some ⟨g0, 0, none⟩) r_1.2.2.2.2.2.2.2.2.2.2.2.2.1.length c6, .u64 draw12, .ar e8 draw13, I draw14, .v (.func (.func 63) ⟨SV.vals [pt g_draw_s 0]⟩ ⟨SV.vals []⟩)], Bx 114 g_draw_s_n [I draw1, I draw2, sl A5 n5 c7, sl A6 n6 c8, .b draw5, .u64 draw6, .v (.iface 141 (SV.val (pt g_draw_s_n_e 0)))], Ow e8 A5 n5 c7 draw3, Ow e8 A6 n6 c8 draw4, Bx 147 g_draw_s_n_e [.ar e64 draw7, .u64 draw8, .u64 draw9, sl A7 n7 c9, I draw11, .v (.func (.func 83) ⟨SV.vals []⟩ ⟨SV.vals []⟩), .v (.func (.func 84) ⟨SV.vals []⟩ ⟨SV.vals []⟩)], Ow e8 A7 n7 c9 draw10, Sh (SH e8) [((some ⟨g0, 0, none⟩), r_1.2.2.2.2.2.2.2.2.2.2.2.2.1.length, c6)] [r_1.2.2.2.2.2.2.2.2.2.2.2.2.1], Bx 25 g_draw2 [I draw15]]) (r_1.2.2.2.2.2.2.1, r_1.2.2.2.2.2.2.2.1, r_1.2.2.2.2.2.2.2.2.1, r_1.2.2.2.2.2.2.2.2.2.1, r_1.2.2.2.2.2.2.2.2.2.2.1, r_1.2.2.2.2.2.2.2.2.2.2.2.1, r_1.2.1, r_1.2.2.1, r_1.2.2.2.1, r_1.2.2.2.2.1, r_1.2.2.2.2.2.1, r_1.2.2.2.2.2.2.2.2.2.2.2.2.2.1, r_1.2.2.2.2.2.2.2.2.2.2.2.2.2.2.1, r_1.2.2.2.2.2.2.2.2.2.2.2.2.2.2.2.1, r_1.2.2.2.2.2.2.2.2.2.2.2.2.2.2.2.2, r_1.1, (1 : Int)) r hm ⟨r_1.2.2.2.2.2.2.1, r_1.2.2.2.2.2.2.2.1, r_1.2.2.2.2.2.2.2.2.1, r_1.2.2.2.2.2.2.2.2.2.1, r_1.2.2.2.2.2.2.2.2.2.2.1, r_1.2.2.2.2.2.2.2.2.2.2.2.1, r_1.2.1, r_1.2.2.1, r_1.2.2.2.1, r_1.2.2.2.2.1, r_1.2.2.2.2.2.1, r_1.2.2.2.2.2.2.2.2.2.2.2.2.2.1, r_1.2.2.2.2.2.2.2.2.2.2.2.2.2.2.1, r_1.2.2.2.2.2.2.2.2.2.2.2.2.2.2.2.1, r_1.2.2.2.2.2.2.2.2.2.2.2.2.2.2.2.2, r_1.1, (1 : Int), A3, r_1.2.2.2.2.2.2.2.2.1.length, c4, A4, r_1.2.2.2.2.2.2.2.2.2.1.length, c5, A0, r_1.2.2.2.2.1.length, c0, rfl, rfl, k_5.len 4 rfl, k_5.len 5 rfl, k_5.len 7 rfl, k_5⟩ (by kernel_rfl) ?_
 intro s0_ L_ w_3 y0 hrel hstep hr0
 obtain ⟨draw1, draw2, draw3, draw4, draw5, draw6, draw7, draw8, draw9, draw10, draw11, draw12, draw13, draw14, draw15, w_2, tries, A5, _, c7, A6, _, c8, A7, _, c9, rfl, rfl, rfl, rfl, rfl, k_4⟩ := hrel
 have hm := hstep; simp only [m_dice_below_k_l0] at hm
 clear hstep
 refine W_seq <| W_seq <| W_q [] (.n 30 (.b (((decide (r_.2 ≠ 0)) && (decide (((0 - r_.2) - 1) < w_2))) && (decide (tries < 64)))) .a) qe (by kernel_rfl) ?_
 refine At_go <| W_cond (((decide (r_.2 ≠ 0)) && (decide (((0 - r_.2) - 1) < w_2))) && (decide (tries < 64))) (by kernel_rfl) (fun hc => ?_) (fun hc => ?_)
 · rw [if_pos hc] at hm
   refine W_skip <| At_go <| W_seq <| W_block <| W_reg <| WLs 1 [] (.n 33 (.v (.func (.func 22) ⟨SV.vals []⟩ ⟨SV.vals [pt g_draw 0, pt g_draw2 0]⟩)) (.s .a)) qe (by kernel_rfl) ?_
   refine WL_op ?_
   obtain ⟨r_2, h_r_2, hm⟩ := ob hm
   obtain ⟨F11, O11, kin1, hO1, hre1, hF1, hb1⟩ := k_4.go (.i (.i (.i (.i (.i (.i (.i (.i (.r (.i .e))))))))))
   refine Op_callv [] 34 [] [] [pt g_draw 0, pt g_draw2 0] do_go22 (by kernel_rfl) (c_dice_Dice_drawn_1_k_s1 (F := F11) (O := O11) _ _ _ _ _ _ _ _ _ _ _ _ _ _ _ _ _ _ _ _ _ _ _ _ _ _ _ _ _ _ _ _ _ _ _ _ _ _ _ _ _ _ _ _ _ _ _ _ _ _ (Ro.of_old h_draw_seed k_4 hF1) rfl hc_draw_seed (Ro.of_old h_draw_s_key k_4 hF1) rfl hc_draw_s_key (Ro.of_old h_draw_s_salt k_4 hF1) rfl hc_draw_s_salt (Ro.of_old h_draw_s_personal k_4 hF1) rfl hc_draw_s_personal (Ro.of_sh kin1.off hre1 0 rfl) (k_4.shlen 8 rfl) (k_4.shlec 8 rfl) kin1 _ h_r_2) ?_
   rintro e_ w_4 ⟨A8, _, c10, A9, _, c11, A10, _, c12, rfl, rfl, rfl, rfl, k_6⟩
   have k_7 := hb1 w_4 _ _ k_6 (.c (.c (.c (.c (.c (.c (.c (.c (.c .n)))))))))
   refine ⟨.u64 r_2.1, rfl, ?_⟩
   refine WLs 1 [] (.n 7 (.u64 r_2.1) (.ss (.kkk (.s .a)))) qe (by kernel_rfl) ?_
   refine WL_nil <| At_in <| At_go <| W_q [] (.n 8 (I (w64 (tries + 1))) (.kkkk .z)) qe (by kernel_rfl) ?_
   have k_8 := (((((((((k_7.pk (.t (.t (.t (.t (.t (.t (.t (.t .h))))))))).pk (.t (.t (.t (.t (.t (.t (.t (.t (.t .h)))))))))).pk (.t (.t (.t .h)))).pk (.t (.t (.t .h)))).pk (.t (.t (.t (.t (.t (.t .h))))))).pk (.t (.t (.t (.t (.t (.t .h))))))).pk (.t (.t (.t (.t (.t (.t .h))))))).pk (.t (.t (.t (.t (.t (.t (.t .h)))))))).pk (.t (.t (.t (.t (.t (.t (.t (.t .h))))))))).pk (.t (.t (.t (.t (.t (.t (.t (.t (.t .h)))))))))
   exact At_rd (r_2.2.2.2.2.2.2.1, r_2.2.2.2.2.2.2.2.1, r_2.2.2.2.2.2.2.2.2.1, r_2.2.2.2.2.2.2.2.2.2.1, r_2.2.2.2.2.2.2.2.2.2.2.1, r_2.2.2.2.2.2.2.2.2.2.2.2.1, r_2.2.1, r_2.2.2.1, r_2.2.2.2.1, r_2.2.2.2.2.1, r_2.2.2.2.2.2.1, r_2.2.2.2.2.2.2.2.2.2.2.2.2.1, r_2.2.2.2.2.2.2.2.2.2.2.2.2.2.1, r_2.2.2.2.2.2.2.2.2.2.2.2.2.2.2.1, r_2.2.2.2.2.2.2.2.2.2.2.2.2.2.2.2, r_2.1, w64 (tries + 1)) (Option.some.inj hm).symm ⟨r_2.2.2.2.2.2.2.1, r_2.2.2.2.2.2.2.2.1, r_2.2.2.2.2.2.2.2.2.1, r_2.2.2.2.2.2.2.2.2.2.1, r_2.2.2.2.2.2.2.2.2.2.2.1, r_2.2.2.2.2.2.2.2.2.2.2.2.1, r_2.2.1, r_2.2.2.1, r_2.2.2.2.1, r_2.2.2.2.2.1, r_2.2.2.2.2.2.1, r_2.2.2.2.2.2.2.2.2.2.2.2.2.1, r_2.2.2.2.2.2.2.2.2.2.2.2.2.2.1, r_2.2.2.2.2.2.2.2.2.2.2.2.2.2.2.1, r_2.2.2.2.2.2.2.2.2.2.2.2.2.2.2.2, r_2.1, w64 (tries + 1), A9, r_2.2.2.2.2.2.2.2.2.1.length, c11, A10, r_2.2.2.2.2.2.2.2.2.2.1.length, c12, A8, r_2.2.2.2.2.1.length, c10, rfl, rfl, k_8.len 4 rfl, k_8.len 5 rfl, k_8.len 7 rfl, k_8⟩ (by kernel_rfl)
 rw [if_neg (by rw [hc]; decide)] at hm
 refine W_exit (At_te (At_te (At_ie ?_)))
 have hm := exit_of hm hr0
 refine At_go <| W_seq ?_
 obtain ⟨u1, h_u1, hm⟩ := ob hm
 refine W_q [] (.n 4 (.u64 (w_2 % n)) .z) (qp (n ≠ 0) (need_some h_u1) <| qe) (by kernel_rfl) ?_
 refine At_go <| W_ret ?_
 obtain rfl := Option.some.inj hm
 refine At_rt [.u64 (w_2 % n)] qe (by kernel_rfl) ?_
 have k_9 := (((((((((k_4.pk (.t (.t (.t (.t (.t (.t (.t (.t (.t .h)))))))))).pk (.t .h)).pk (.t (.t .h))).pk (.t (.t (.t (.t (.t (.t (.t (.t (.t .h)))))))))).pk (.t (.t (.t (.t .h))))).pk (.t (.t (.t (.t (.t (.t (.t .h)))))))).pk (.t (.t (.t (.t (.t (.t (.t .h)))))))).pk (.t (.t (.t (.t (.t (.t (.t .h)))))))).pk (.t (.t (.t (.t (.t (.t (.t (.t (.t .h)))))))))).pk (.t (.t (.t (.t (.t (.t (.t (.t (.t .h)))))))))
 exact ⟨A7, draw10.length, c9, A5, draw3.length, c7, A6, draw4.length, c8, g0, r_1.2.2.2.2.2.2.2.2.2.2.2.2.1.length, c6, k_9.len 1 rfl, k_9.len 3 rfl, k_9.len 4 rfl, k_9.shlen 6 rfl, rfl, k_9⟩

theorem c_dice_below_k_s1 {F O : Nat → Prop} {w : World} (draw_seed : List UInt8) (draw_s_key : List UInt8) (draw_s_salt : List UInt8) (draw_s_personal : List UInt8) (draw_s_n_kind : Int) (draw_s_n_digest : Int) (draw_s_n_block : List UInt8) (draw_s_n_key : List UInt8) (draw_s_n_last : Bool) (draw_s_n_written : UInt64) (draw_s_n_e_h : Vec UInt64 8) (draw_s_n_e_count_Lo : UInt64) (draw_s_n_e_count_Hi : UInt64) (draw_s_n_e_held : List UInt8) (draw_s_n_e_block : Int) (draw_s_root : List UInt8) (draw_s_at : UInt64) (draw_s_now : Vec UInt8 64) (draw_s_have : Int) (draw : Int) (n : UInt64) (g_draw : Nat) (g_draw1 : Nat) (A_draw_seed : Option Addr) (n_draw_seed : Nat) (c_draw_seed : Nat) (g_draw_s : Nat) (A_draw_s_key : Option Addr) (n_draw_s_key : Nat) (c_draw_s_key : Nat) (A_draw_s_salt : Option Addr) (n_draw_s_salt : Nat) (c_draw_s_salt : Nat) (A_draw_s_personal : Option Addr) (n_draw_s_personal : Nat) (c_draw_s_personal : Nat) (g_draw_s_n : Nat) (A_draw_s_n_block : Option Addr) (n_draw_s_n_block : Nat) (c_draw_s_n_block : Nat) (A_draw_s_n_key : Option Addr) (n_draw_s_n_key : Nat) (c_draw_s_n_key : Nat) (g_draw_s_n_e : Nat) (A_draw_s_n_e_held : Option Addr) (n_draw_s_n_e_held : Nat) (c_draw_s_n_e_held : Nat) (g_draw_s_root : Nat) (n_draw_s_root : Nat) (c_draw_s_root : Nat) (g_draw2 : Nat) (h_draw_seed : Ro F w A_draw_seed (e8.all draw_seed)) (hn_draw_seed : draw_seed.length = n_draw_seed) (hc_draw_seed : n_draw_seed ≤ c_draw_seed) (h_draw_s_key : Ro F w A_draw_s_key (e8.all draw_s_key)) (hn_draw_s_key : draw_s_key.length = n_draw_s_key) (hc_draw_s_key : n_draw_s_key ≤ c_draw_s_key) (h_draw_s_salt : Ro F w A_draw_s_salt (e8.all draw_s_salt)) (hn_draw_s_salt : draw_s_salt.length = n_draw_s_salt) (hc_draw_s_salt : n_draw_s_salt ≤ c_draw_s_salt) (h_draw_s_personal : Ro F w A_draw_s_personal (e8.all draw_s_personal)) (hn_draw_s_personal : draw_s_personal.length = n_draw_s_personal) (hc_draw_s_personal : n_draw_s_personal ≤ c_draw_s_personal) (h_draw_s_root : Ro F w (some ⟨g_draw_s_root, 0, none⟩) (e8.all draw_s_root)) (hn_draw_s_root : draw_s_root.length = n_draw_s_root) (hc_draw_s_root : n_draw_s_root ≤ c_draw_s_root) (k : Cx F O w w [Bx 24 g_draw [pt g_draw1 0], Bx 42 g_draw1 [sl A_draw_seed n_draw_seed c_draw_seed, pt g_draw_s 0], Bx 67 g_draw_s [I 1, I 64, .u32 4294967295, .u64 274877906944, .b false, sl A_draw_s_key n_draw_s_key c_draw_s_key, sl A_draw_s_salt n_draw_s_salt c_draw_s_salt, sl A_draw_s_personal n_draw_s_personal c_draw_s_personal, pt g_draw_s_n 0, sl (some ⟨g_draw_s_root, 0, none⟩) n_draw_s_root c_draw_s_root, .u64 draw_s_at, .ar e8 draw_s_now, I draw_s_have, .v (.func (.func 63) ⟨SV.vals [pt g_draw_s 0]⟩ ⟨SV.vals []⟩)], Bx 114 g_draw_s_n [I draw_s_n_kind, I draw_s_n_digest, sl A_draw_s_n_block n_draw_s_n_block c_draw_s_n_block, sl A_draw_s_n_key n_draw_s_n_key c_draw_s_n_key, .b draw_s_n_last, .u64 draw_s_n_written, .v (.iface 141 (SV.val (pt g_draw_s_n_e 0)))], Ow e8 A_draw_s_n_block n_draw_s_n_block c_draw_s_n_block draw_s_n_block, Ow e8 A_draw_s_n_key n_draw_s_n_key c_draw_s_n_key draw_s_n_key, Bx 147 g_draw_s_n_e [.ar e64 draw_s_n_e_h, .u64 draw_s_n_e_count_Lo, .u64 draw_s_n_e_count_Hi, sl A_draw_s_n_e_held n_draw_s_n_e_held c_draw_s_n_e_held, I draw_s_n_e_block, .v (.func (.func 83) ⟨SV.vals []⟩ ⟨SV.vals []⟩), .v (.func (.func 84) ⟨SV.vals []⟩ ⟨SV.vals []⟩)], Ow e8 A_draw_s_n_e_held n_draw_s_n_e_held c_draw_s_n_e_held draw_s_n_e_held, Bx 25 g_draw2 [I draw]]) (r : (UInt64 × Vec UInt64 8 × UInt64 × UInt64 × List UInt8 × Int × Int × Int × List UInt8 × List UInt8 × Bool × UInt64 × UInt64 × Vec UInt8 64 × Int × Int)) (hm : m_dice_below_k_s1 draw_seed draw_s_key draw_s_salt draw_s_personal draw_s_n_kind draw_s_n_digest draw_s_n_block draw_s_n_key draw_s_n_last draw_s_n_written draw_s_n_e_h draw_s_n_e_count_Lo draw_s_n_e_count_Hi draw_s_n_e_held draw_s_n_e_block draw_s_root draw_s_at draw_s_now draw_s_have draw n = some r) :
    Calls Tryz.prog 13 (vals [.v (.func (.func 22) ⟨SV.vals []⟩ ⟨SV.vals [pt g_draw 0, pt g_draw2 0]⟩), .u64 n]) w (fun e w' => ∃ A n1 c A1 n2 c1 A2 n3 c2, r.2.2.2.2.1.length = n1 ∧ r.2.2.2.2.2.2.2.2.1.length = n2 ∧ r.2.2.2.2.2.2.2.2.2.1.length = n3 ∧ e = .returned (SV.val (.u64 r.1)) ∧ Cx F O w w' [Bx 147 g_draw_s_n_e [.ar e64 r.2.1, .u64 r.2.2.1, .u64 r.2.2.2.1, sl A n1 c, I r.2.2.2.2.2.1, .v (.func (.func 83) ⟨SV.vals []⟩ ⟨SV.vals []⟩), .v (.func (.func 84) ⟨SV.vals []⟩ ⟨SV.vals []⟩)], Ow e8 A n1 c r.2.2.2.2.1, Bx 114 g_draw_s_n [I r.2.2.2.2.2.2.1, I r.2.2.2.2.2.2.2.1, sl A1 n2 c1, sl A2 n3 c2, .b r.2.2.2.2.2.2.2.2.2.2.1, .u64 r.2.2.2.2.2.2.2.2.2.2.2.1, .v (.iface 141 (SV.val (pt g_draw_s_n_e 0)))], Ow e8 A1 n2 c1 r.2.2.2.2.2.2.2.2.1, Ow e8 A2 n3 c2 r.2.2.2.2.2.2.2.2.2.1, Bx 67 g_draw_s [I 1, I 64, .u32 4294967295, .u64 274877906944, .b false, sl A_draw_s_key n_draw_s_key c_draw_s_key, sl A_draw_s_salt n_draw_s_salt c_draw_s_salt, sl A_draw_s_personal n_draw_s_personal c_draw_s_personal, pt g_draw_s_n 0, sl (some ⟨g_draw_s_root, 0, none⟩) n_draw_s_root c_draw_s_root, .u64 r.2.2.2.2.2.2.2.2.2.2.2.2.1, .ar e8 r.2.2.2.2.2.2.2.2.2.2.2.2.2.1, I r.2.2.2.2.2.2.2.2.2.2.2.2.2.2.1, .v (.func (.func 63) ⟨SV.vals [pt g_draw_s 0]⟩ ⟨SV.vals []⟩)], Bx 42 g_draw1 [sl A_draw_seed n_draw_seed c_draw_seed, pt g_draw_s 0], Bx 24 g_draw [pt g_draw1 0], Bx 25 g_draw2 [I r.2.2.2.2.2.2.2.2.2.2.2.2.2.2.2]]) := by
 unfold m_dice_below_k_s1 at hm
 subst hn_draw_seed
 subst hn_draw_s_key
 subst hn_draw_s_salt
 subst hn_draw_s_personal
 obtain rfl := k.len 4 rfl
 obtain rfl := k.len 5 rfl
 obtain rfl := k.len 7 rfl
 subst hn_draw_s_root
 refine calls [.v (.func (.func 22) ⟨SV.vals []⟩ ⟨SV.vals [pt g_draw 0, pt g_draw2 0]⟩), .u64 n] Tryz.func13 rfl (of_decide_eq_true (by kernel_rfl)) ?_
 refine W_seq <| W_q [] .a qe (by kernel_rfl) ?_
 refine At_go <| W_seq <| W_reg ?_
 obtain ⟨u, h_u, hm⟩ := ob hm
 refine WLs 3 [] (.n 11 (.u64 ((1 : UInt64) % n)) (.n 12 (.u64 n) .a)) (qp (n ≠ 0) (need_some h_u) <| qe) (by kernel_rfl) ?_
 refine WL_op ?_
 obtain ⟨r_, h_r_, hm⟩ := ob hm
 refine Op_call [] 13 _ do_go25 (by kernel_rfl) (c_bits_Div64 (F := N0) (O := N0) _ _ _ (Cx.refl _) _ h_r_) ?_
 rintro e_ w_ ⟨rfl, k_⟩
 have k_1 := k.call k_
 refine ⟨.tup [.u64 r_.1, .u64 r_.2], rfl, ?_⟩
 refine WLs 5 [] (.n 6 (.u64 r_.2) (.sss .a)) qe (by kernel_rfl) ?_
 refine WL_nil <| At_go <| W_seq <| W_reg <| WLs 1 [] (.n 16 (.v (.func (.func 22) ⟨SV.vals []⟩ ⟨SV.vals [pt g_draw 0, pt g_draw2 0]⟩)) .a) qe (by kernel_rfl) ?_
 refine WL_op ?_
 obtain ⟨r_1, h_r_1, hm⟩ := ob hm
 obtain ⟨F1, O1, kin, hO, hre, hF, hb⟩ := k_1.go (.i (.i (.i (.i (.i (.i (.i (.i (.i .e)))))))))
 refine Op_callv [] 17 [] [] [pt g_draw 0, pt g_draw2 0] do_go22 (by kernel_rfl) (c_dice_Dice_drawn_1_k_s1 (F := F1) (O := O1) _ _ _ _ _ _ _ _ _ _ _ _ _ _ _ _ _ _ _ _ _ _ _ _ _ _ _ _ _ _ _ _ _ _ _ _ _ _ _ _ _ _ _ _ _ _ _ _ _ _ (Ro.of_old h_draw_seed k_1 hF) rfl hc_draw_seed (Ro.of_old h_draw_s_key k_1 hF) rfl hc_draw_s_key (Ro.of_old h_draw_s_salt k_1 hF) rfl hc_draw_s_salt (Ro.of_old h_draw_s_personal k_1 hF) rfl hc_draw_s_personal (Ro.of_old h_draw_s_root k_1 hF) rfl hc_draw_s_root kin _ h_r_1) ?_
 rintro e_ w_1 ⟨A0, _, c0, A3, _, c3, A4, _, c4, rfl, rfl, rfl, rfl, k_2⟩
 have k_3 := hb w_1 _ _ k_2 (.c (.c (.c (.c (.c (.c (.c (.c (.c .n)))))))))
 refine ⟨.u64 r_1.1, rfl, ?_⟩
 refine WLs 1 [] (.n 7 (.u64 r_1.1) (.ss .a)) qe (by kernel_rfl) ?_
 refine WL_nil <| At_go <| W_seq <| W_seq <| W_q [] (.n 8 (I 1) .a) qe (by kernel_rfl) ?_
 refine At_go <| W_block ?_
 have k_5 := ((((((((k_3.pk (.t (.t (.t (.t (.t (.t (.t (.t .h))))))))).pk (.t (.t .h))).pk (.t (.t .h))).pk (.t (.t (.t (.t (.t .h)))))).pk (.t (.t (.t (.t (.t .h)))))).pk (.t (.t (.t (.t (.t .h)))))).pk (.t (.t (.t (.t (.t (.t .h))))))).pk (.t (.t (.t (.t (.t (.t (.t .h)))))))).pk (.t (.t (.t (.t (.t (.t (.t (.t .h))))))))
 refine W_lp (m_dice_below_k_s1_l0 draw_seed draw_s_key draw_s_salt draw_s_personal draw_s_root n r_) (fun s L wr => ∃ (draw1 : Int) (draw2 : Int) (draw3 : List UInt8) (draw4 : List UInt8) (draw5 : Bool) (draw6 : UInt64) (draw7 : Vec UInt64 8) (draw8 : UInt64) (draw9 : UInt64) (draw10 : List UInt8) (draw11 : Int) (draw12 : UInt64) (draw13 : Vec UInt8 64) (draw14 : Int) (draw15 : Int) (w_2 : UInt64) (tries : Int) (A5 : Option Addr) (n4 : Nat) (c5 : Nat) (A6 : Option Addr) (n5 : Nat) (c6 : Nat) (A7 : Option Addr) (n6 : Nat) (c7 : Nat), (draw1, draw2, draw3, draw4, draw5, draw6, draw7, draw8, draw9, draw10, draw11, draw12, draw13, draw14, draw15, w_2, tries) = s ∧ L = [(0, .v (.func (.func 22) ⟨SV.vals []⟩ ⟨SV.vals [pt g_draw 0, pt g_draw2 0]⟩)), (1, .u64 n), (6, .u64 r_.2), (7, .u64 w_2), (8, I tries)] ∧ draw3.length = n4 ∧ draw4.length = n5 ∧ draw10.length = n6 ∧ Cx F O w wr [Bx 24 g_draw [pt g_draw1 0], Bx 42 g_draw1 [sl A_draw_seed draw_seed.length c_draw_seed, pt g_draw_s 0], Bx 67 g_draw_s [I 1, I 64, .u32 4294967295, .u64 274877906944, .b false, sl A_draw_s_key draw_s_key.length c_draw_s_key, sl A_draw_s_salt draw_s_salt.length c_draw_s_salt, sl A_draw_s_personal draw_s_personal.length c_draw_s_personal, pt g_draw_s_n 0, sl (some ⟨g_draw_s_root, 0, none⟩) draw_s_root.length c_draw_s_root, .u64 draw12, .ar e8 draw13, I draw14, .v (.func (.func 63) ⟨SV.vals [pt g_draw_s 0]⟩ ⟨SV.vals []⟩)], Bx 114 g_draw_s_n [I draw1, I draw2, sl A5 n4 c5, sl A6 n5 c6, .b draw5, .u64 draw6, .v (.iface 141 (SV.val (pt g_draw_s_n_e 0)))], Ow e8 A5 n4 c5 draw3, Ow e8 A6 n5 c6 draw4, Bx 147 g_draw_s_n_e [.ar e64 draw7, .u64 draw8, .u64 draw9, sl A7 n6 c7, I draw11, .v (.func (.func 83) ⟨SV.vals []⟩ ⟨SV.vals []⟩), .v (.func (.func 84) ⟨SV.vals []⟩ ⟨SV.vals []⟩)], Ow e8 A7 n6 c7 draw10, Bx 25 g_draw2 [I draw15]]) (r_1.2.2.2.2.2.2.1, r_1.2.2.2.2.2.2.2.1, r_1.2.2.2.2.2.2.2.2.1, r_1.2.2.2.2.2.2.2.2.2.1, r_1.2.2.2.2.2.2.2.2.2.2.1, r_1.2.2.2.2.2.2.2.2.2.2.2.1, r_1.2.1, r_1.2.2.1, r_1.2.2.2.1, r_1.2.2.2.2.1, r_1.2.2.2.2.2.1, r_1.2.2.2.2.2.2.2.2.2.2.2.2.1, r_1.2.2.2.2.2.2.2.2.2.2.2.2.2.1, r_1.2.2.2.2.2.2.2.2.2.2.2.2.2.2.1, r_1.2.2.2.2.2.2.2.2.2.2.2.2.2.2.2, r_1.1, (1 : Int)) r hm ⟨r_1.2.2.2.2.2.2.1, r_1.2.2.2.2.2.2.2.1, r_1.2.2.2.2.2.2.2.2.1, r_1.2.2.2.2.2.2.2.2.2.1, r_1.2.2.2.2.2.2.2.2.2.2.1, r_1.2.2.2.2.2.2.2.2.2.2.2.1, r_1.2.1, r_1.2.2.1, r_1.2.2.2.1, r_1.2.2.2.2.1, r_1.2.2.2.2.2.1, r_1.2.2.2.2.2.2.2.2.2.2.2.2.1, r_1.2.2.2.2.2.2.2.2.2.2.2.2.2.1, r_1.2.2.2.2.2.2.2.2.2.2.2.2.2.2.1, r_1.2.2.2.2.2.2.2.2.2.2.2.2.2.2.2, r_1.1, (1 : Int), A3, r_1.2.2.2.2.2.2.2.2.1.length, c3, A4, r_1.2.2.2.2.2.2.2.2.2.1.length, c4, A0, r_1.2.2.2.2.1.length, c0, rfl, rfl, k_5.len 4 rfl, k_5.len 5 rfl, k_5.len 7 rfl, k_5⟩ (by kernel_rfl) ?_
 intro s0_ L_ w_3 y0 hrel hstep hr0
 obtain ⟨draw1, draw2, draw3, draw4, draw5, draw6, draw7, draw8, draw9, draw10, draw11, draw12, draw13, draw14, draw15, w_2, tries, A5, _, c5, A6, _, c6, A7, _, c7, rfl, rfl, rfl, rfl, rfl, k_4⟩ := hrel
 have hm := hstep; simp only [m_dice_below_k_s1_l0] at hm
 clear hstep
 refine W_seq <| W_seq <| W_q [] (.n 30 (.b (((decide (r_.2 ≠ 0)) && (decide (((0 - r_.2) - 1) < w_2))) && (decide (tries < 64)))) .a) qe (by kernel_rfl) ?_
 refine At_go <| W_cond (((decide (r_.2 ≠ 0)) && (decide (((0 - r_.2) - 1) < w_2))) && (decide (tries < 64))) (by kernel_rfl) (fun hc => ?_) (fun hc => ?_)
 · rw [if_pos hc] at hm
   refine W_skip <| At_go <| W_seq <| W_block <| W_reg <| WLs 1 [] (.n 33 (.v (.func (.func 22) ⟨SV.vals []⟩ ⟨SV.vals [pt g_draw 0, pt g_draw2 0]⟩)) (.s .a)) qe (by kernel_rfl) ?_
   refine WL_op ?_
   obtain ⟨r_2, h_r_2, hm⟩ := ob hm
   obtain ⟨F11, O11, kin1, hO1, hre1, hF1, hb1⟩ := k_4.go (.i (.i (.i (.i (.i (.i (.i (.i (.i .e)))))))))
   refine Op_callv [] 34 [] [] [pt g_draw 0, pt g_draw2 0] do_go22 (by kernel_rfl) (c_dice_Dice_drawn_1_k_s1 (F := F11) (O := O11) _ _ _ _ _ _ _ _ _ _ _ _ _ _ _ _ _ _ _ _ _ _ _ _ _ _ _ _ _ _ _ _ _ _ _ _ _ _ _ _ _ _ _ _ _ _ _ _ _ _ (Ro.of_old h_draw_seed k_4 hF1) rfl hc_draw_seed (Ro.of_old h_draw_s_key k_4 hF1) rfl hc_draw_s_key (Ro.of_old h_draw_s_salt k_4 hF1) rfl hc_draw_s_salt (Ro.of_old h_draw_s_personal k_4 hF1) rfl hc_draw_s_personal (Ro.of_old h_draw_s_root k_4 hF1) rfl hc_draw_s_root kin1 _ h_r_2) ?_
   rintro e_ w_4 ⟨A8, _, c8, A9, _, c9, A10, _, c10, rfl, rfl, rfl, rfl, k_6⟩
   have k_7 := hb1 w_4 _ _ k_6 (.c (.c (.c (.c (.c (.c (.c (.c (.c .n)))))))))
   refine ⟨.u64 r_2.1, rfl, ?_⟩
   refine WLs 1 [] (.n 7 (.u64 r_2.1) (.ss (.kkk (.s .a)))) qe (by kernel_rfl) ?_
   refine WL_nil <| At_in <| At_go <| W_q [] (.n 8 (I (w64 (tries + 1))) (.kkkk .z)) qe (by kernel_rfl) ?_
   have k_8 := ((((((((k_7.pk (.t (.t (.t (.t (.t (.t (.t (.t .h))))))))).pk (.t (.t .h))).pk (.t (.t .h))).pk (.t (.t (.t (.t (.t .h)))))).pk (.t (.t (.t (.t (.t .h)))))).pk (.t (.t (.t (.t (.t .h)))))).pk (.t (.t (.t (.t (.t (.t .h))))))).pk (.t (.t (.t (.t (.t (.t (.t .h)))))))).pk (.t (.t (.t (.t (.t (.t (.t (.t .h))))))))
   exact At_rd (r_2.2.2.2.2.2.2.1, r_2.2.2.2.2.2.2.2.1, r_2.2.2.2.2.2.2.2.2.1, r_2.2.2.2.2.2.2.2.2.2.1, r_2.2.2.2.2.2.2.2.2.2.2.1, r_2.2.2.2.2.2.2.2.2.2.2.2.1, r_2.2.1, r_2.2.2.1, r_2.2.2.2.1, r_2.2.2.2.2.1, r_2.2.2.2.2.2.1, r_2.2.2.2.2.2.2.2.2.2.2.2.2.1, r_2.2.2.2.2.2.2.2.2.2.2.2.2.2.1, r_2.2.2.2.2.2.2.2.2.2.2.2.2.2.2.1, r_2.2.2.2.2.2.2.2.2.2.2.2.2.2.2.2, r_2.1, w64 (tries + 1)) (Option.some.inj hm).symm ⟨r_2.2.2.2.2.2.2.1, r_2.2.2.2.2.2.2.2.1, r_2.2.2.2.2.2.2.2.2.1, r_2.2.2.2.2.2.2.2.2.2.1, r_2.2.2.2.2.2.2.2.2.2.2.1, r_2.2.2.2.2.2.2.2.2.2.2.2.1, r_2.2.1, r_2.2.2.1, r_2.2.2.2.1, r_2.2.2.2.2.1, r_2.2.2.2.2.2.1, r_2.2.2.2.2.2.2.2.2.2.2.2.2.1, r_2.2.2.2.2.2.2.2.2.2.2.2.2.2.1, r_2.2.2.2.2.2.2.2.2.2.2.2.2.2.2.1, r_2.2.2.2.2.2.2.2.2.2.2.2.2.2.2.2, r_2.1, w64 (tries + 1), A9, r_2.2.2.2.2.2.2.2.2.1.length, c9, A10, r_2.2.2.2.2.2.2.2.2.2.1.length, c10, A8, r_2.2.2.2.2.1.length, c8, rfl, rfl, k_8.len 4 rfl, k_8.len 5 rfl, k_8.len 7 rfl, k_8⟩ (by kernel_rfl)
 rw [if_neg (by rw [hc]; decide)] at hm
 refine W_exit (At_te (At_te (At_ie ?_)))
 have hm := exit_of hm hr0
 refine At_go <| W_seq ?_
 obtain ⟨u1, h_u1, hm⟩ := ob hm
 refine W_q [] (.n 4 (.u64 (w_2 % n)) .z) (qp (n ≠ 0) (need_some h_u1) <| qe) (by kernel_rfl) ?_
 refine At_go <| W_ret ?_
 obtain rfl := Option.some.inj hm
 refine At_rt [.u64 (w_2 % n)] qe (by kernel_rfl) ?_
 have k_9 := ((((((((k_4.pk (.t (.t (.t (.t (.t (.t (.t (.t .h))))))))).pk (.t .h)).pk (.t (.t .h))).pk (.t (.t (.t .h)))).pk (.t (.t (.t (.t (.t (.t .h))))))).pk (.t (.t (.t (.t (.t (.t .h))))))).pk (.t (.t (.t (.t (.t (.t .h))))))).pk (.t (.t (.t (.t (.t (.t (.t (.t .h))))))))).pk (.t (.t (.t (.t (.t (.t (.t (.t .h))))))))
 exact ⟨A7, draw10.length, c7, A5, draw3.length, c5, A6, draw4.length, c6, k_9.len 1 rfl, k_9.len 3 rfl, k_9.len 4 rfl, rfl, k_9⟩

theorem c_dice_Dice_Order_1_k {F O : Nat → Prop} {w : World} (draw_seed : List UInt8) (draw_s_key : List UInt8) (draw_s_salt : List UInt8) (draw_s_personal : List UInt8) (draw_s_n_kind : Int) (draw_s_n_digest : Int) (draw_s_n_block : List UInt8) (draw_s_n_key : List UInt8) (draw_s_n_last : Bool) (draw_s_n_written : UInt64) (draw_s_n_e_h : Vec UInt64 8) (draw_s_n_e_count_Lo : UInt64) (draw_s_n_e_count_Hi : UInt64) (draw_s_n_e_held : List UInt8) (draw_s_n_e_block : Int) (draw_s_at : UInt64) (draw_s_now : Vec UInt8 64) (draw_s_have : Int) (draw : Int) (p : Int) (p1 : List Int) (g_draw : Nat) (g_draw1 : Nat) (A_draw_seed : Option Addr) (n_draw_seed : Nat) (c_draw_seed : Nat) (g_draw_s : Nat) (A_draw_s_key : Option Addr) (n_draw_s_key : Nat) (c_draw_s_key : Nat) (A_draw_s_salt : Option Addr) (n_draw_s_salt : Nat) (c_draw_s_salt : Nat) (A_draw_s_personal : Option Addr) (n_draw_s_personal : Nat) (c_draw_s_personal : Nat) (g_draw_s_n : Nat) (A_draw_s_n_block : Option Addr) (n_draw_s_n_block : Nat) (c_draw_s_n_block : Nat) (A_draw_s_n_key : Option Addr) (n_draw_s_n_key : Nat) (c_draw_s_n_key : Nat) (g_draw_s_n_e : Nat) (A_draw_s_n_e_held : Option Addr) (n_draw_s_n_e_held : Nat) (c_draw_s_n_e_held : Nat) (g_draw2 : Nat) (g_p : Nat) (g_p1 : Nat) (A_p1 : Option Addr) (n_p1 : Nat) (c_p1 : Nat) (h_draw_seed : Ro F w A_draw_seed (e8.all draw_seed)) (hn_draw_seed : draw_seed.length = n_draw_seed) (hc_draw_seed : n_draw_seed ≤ c_draw_seed) (h_draw_s_key : Ro F w A_draw_s_key (e8.all draw_s_key)) (hn_draw_s_key : draw_s_key.length = n_draw_s_key) (hc_draw_s_key : n_draw_s_key ≤ c_draw_s_key) (h_draw_s_salt : Ro F w A_draw_s_salt (e8.all draw_s_salt)) (hn_draw_s_salt : draw_s_salt.length = n_draw_s_salt) (hc_draw_s_salt : n_draw_s_salt ≤ c_draw_s_salt) (h_draw_s_personal : Ro F w A_draw_s_personal (e8.all draw_s_personal)) (hn_draw_s_personal : draw_s_personal.length = n_draw_s_personal) (hc_draw_s_personal : n_draw_s_personal ≤ c_draw_s_personal) (k : Cx F O w w [Bx 24 g_draw [pt g_draw1 0], Bx 42 g_draw1 [sl A_draw_seed n_draw_seed c_draw_seed, pt g_draw_s 0], Bx 67 g_draw_s [I 1, I 64, .u32 4294967295, .u64 274877906944, .b false, sl A_draw_s_key n_draw_s_key c_draw_s_key, sl A_draw_s_salt n_draw_s_salt c_draw_s_salt, sl A_draw_s_personal n_draw_s_personal c_draw_s_personal, pt g_draw_s_n 0, sl none 0 0, .u64 draw_s_at, .ar e8 draw_s_now, I draw_s_have, .v (.func (.func 36) ⟨SV.vals [pt g_draw_s 0]⟩ ⟨SV.vals []⟩)], Bx 114 g_draw_s_n [I draw_s_n_kind, I draw_s_n_digest, sl A_draw_s_n_block n_draw_s_n_block c_draw_s_n_block, sl A_draw_s_n_key n_draw_s_n_key c_draw_s_n_key, .b draw_s_n_last, .u64 draw_s_n_written, .v (.iface 141 (SV.val (pt g_draw_s_n_e 0)))], Ow e8 A_draw_s_n_block n_draw_s_n_block c_draw_s_n_block draw_s_n_block, Ow e8 A_draw_s_n_key n_draw_s_n_key c_draw_s_n_key draw_s_n_key, Bx 147 g_draw_s_n_e [.ar e64 draw_s_n_e_h, .u64 draw_s_n_e_count_Lo, .u64 draw_s_n_e_count_Hi, sl A_draw_s_n_e_held n_draw_s_n_e_held c_draw_s_n_e_held, I draw_s_n_e_block, .v (.func (.func 83) ⟨SV.vals []⟩ ⟨SV.vals []⟩), .v (.func (.func 84) ⟨SV.vals []⟩ ⟨SV.vals []⟩)], Ow e8 A_draw_s_n_e_held n_draw_s_n_e_held c_draw_s_n_e_held draw_s_n_e_held, Bx 25 g_draw2 [I draw], Bx 3 g_p [I p], Bx 29 g_p1 [sl A_p1 n_p1 c_p1], Ow eI A_p1 n_p1 c_p1 p1]) (r : (Vec UInt64 8 × UInt64 × UInt64 × List UInt8 × Int × Int × Int × List UInt8 × List UInt8 × Bool × UInt64 × List UInt8 × UInt64 × Vec UInt8 64 × Int × Int × Int × List Int) ⊕ (Vec UInt64 8 × UInt64 × UInt64 × List UInt8 × Int × Int × Int × List UInt8 × List UInt8 × Bool × UInt64 × UInt64 × Vec UInt8 64 × Int × Int × Int × List Int)) (hm : m_dice_Dice_Order_1_k draw_seed draw_s_key draw_s_salt draw_s_personal draw_s_n_kind draw_s_n_digest draw_s_n_block draw_s_n_key draw_s_n_last draw_s_n_written draw_s_n_e_h draw_s_n_e_count_Lo draw_s_n_e_count_Hi draw_s_n_e_held draw_s_n_e_block draw_s_at draw_s_now draw_s_have draw p p1 = some r) :
    Calls Tryz.prog 12 (vals [.v (.func (.func 22) ⟨SV.vals []⟩ ⟨SV.vals [pt g_draw 0, pt g_draw2 0]⟩), pt g_p 0, pt g_p1 0]) w (fun e w' => match r with | .inl r0 => ∃ A n c A1 n1 c1 A2 n2 c2 g n3 c3 A3 n4 c4, r0.2.2.2.1.length = n ∧ r0.2.2.2.2.2.2.2.1.length = n1 ∧ r0.2.2.2.2.2.2.2.2.1.length = n2 ∧ r0.2.2.2.2.2.2.2.2.2.2.2.1.length = n3 ∧ r0.2.2.2.2.2.2.2.2.2.2.2.2.2.2.2.2.2.length = n4 ∧ e = .returned (SV.val (.tup [])) ∧ Cx F O w w' [Bx 147 g_draw_s_n_e [.ar e64 r0.1, .u64 r0.2.1, .u64 r0.2.2.1, sl A n c, I r0.2.2.2.2.1, .v (.func (.func 83) ⟨SV.vals []⟩ ⟨SV.vals []⟩), .v (.func (.func 84) ⟨SV.vals []⟩ ⟨SV.vals []⟩)], Ow e8 A n c r0.2.2.2.1, Bx 114 g_draw_s_n [I r0.2.2.2.2.2.1, I r0.2.2.2.2.2.2.1, sl A1 n1 c1, sl A2 n2 c2, .b r0.2.2.2.2.2.2.2.2.2.1, .u64 r0.2.2.2.2.2.2.2.2.2.2.1, .v (.iface 141 (SV.val (pt g_draw_s_n_e 0)))], Ow e8 A1 n1 c1 r0.2.2.2.2.2.2.2.1, Ow e8 A2 n2 c2 r0.2.2.2.2.2.2.2.2.1, Bx 67 g_draw_s [I 1, I 64, .u32 4294967295, .u64 274877906944, .b false, sl A_draw_s_key n_draw_s_key c_draw_s_key, sl A_draw_s_salt n_draw_s_salt c_draw_s_salt, sl A_draw_s_personal n_draw_s_personal c_draw_s_personal, pt g_draw_s_n 0, sl (some ⟨g, 0, none⟩) n3 c3, .u64 r0.2.2.2.2.2.2.2.2.2.2.2.2.1, .ar e8 r0.2.2.2.2.2.2.2.2.2.2.2.2.2.1, I r0.2.2.2.2.2.2.2.2.2.2.2.2.2.2.1, .v (.func (.func 63) ⟨SV.vals [pt g_draw_s 0]⟩ ⟨SV.vals []⟩)], Sh (SH e8) [((some ⟨g, 0, none⟩), n3, c3)] [r0.2.2.2.2.2.2.2.2.2.2.2.1], Bx 42 g_draw1 [sl A_draw_seed n_draw_seed c_draw_seed, pt g_draw_s 0], Bx 24 g_draw [pt g_draw1 0], Bx 25 g_draw2 [I r0.2.2.2.2.2.2.2.2.2.2.2.2.2.2.2.1], Bx 3 g_p [I r0.2.2.2.2.2.2.2.2.2.2.2.2.2.2.2.2.1], Bx 29 g_p1 [sl A3 n4 c4], Ow eI A3 n4 c4 r0.2.2.2.2.2.2.2.2.2.2.2.2.2.2.2.2.2] | .inr r1 => ∃ A4 n5 c5 A5 n6 c6 A6 n7 c7 A7 n8 c8, r1.2.2.2.1.length = n5 ∧ r1.2.2.2.2.2.2.2.1.length = n6 ∧ r1.2.2.2.2.2.2.2.2.1.length = n7 ∧ r1.2.2.2.2.2.2.2.2.2.2.2.2.2.2.2.2.length = n8 ∧ e = .returned (SV.val (.tup [])) ∧ Cx F O w w' [Bx 147 g_draw_s_n_e [.ar e64 r1.1, .u64 r1.2.1, .u64 r1.2.2.1, sl A4 n5 c5, I r1.2.2.2.2.1, .v (.func (.func 83) ⟨SV.vals []⟩ ⟨SV.vals []⟩), .v (.func (.func 84) ⟨SV.vals []⟩ ⟨SV.vals []⟩)], Ow e8 A4 n5 c5 r1.2.2.2.1, Bx 114 g_draw_s_n [I r1.2.2.2.2.2.1, I r1.2.2.2.2.2.2.1, sl A5 n6 c6, sl A6 n7 c7, .b r1.2.2.2.2.2.2.2.2.2.1, .u64 r1.2.2.2.2.2.2.2.2.2.2.1, .v (.iface 141 (SV.val (pt g_draw_s_n_e 0)))], Ow e8 A5 n6 c6 r1.2.2.2.2.2.2.2.1, Ow e8 A6 n7 c7 r1.2.2.2.2.2.2.2.2.1, Bx 67 g_draw_s [I 1, I 64, .u32 4294967295, .u64 274877906944, .b false, sl A_draw_s_key n_draw_s_key c_draw_s_key, sl A_draw_s_salt n_draw_s_salt c_draw_s_salt, sl A_draw_s_personal n_draw_s_personal c_draw_s_personal, pt g_draw_s_n 0, sl none 0 0, .u64 r1.2.2.2.2.2.2.2.2.2.2.2.1, .ar e8 r1.2.2.2.2.2.2.2.2.2.2.2.2.1, I r1.2.2.2.2.2.2.2.2.2.2.2.2.2.1, .v (.func (.func 36) ⟨SV.vals [pt g_draw_s 0]⟩ ⟨SV.vals []⟩)], Bx 42 g_draw1 [sl A_draw_seed n_draw_seed c_draw_seed, pt g_draw_s 0], Bx 24 g_draw [pt g_draw1 0], Bx 25 g_draw2 [I r1.2.2.2.2.2.2.2.2.2.2.2.2.2.2.1], Bx 3 g_p [I r1.2.2.2.2.2.2.2.2.2.2.2.2.2.2.2.1], Bx 29 g_p1 [sl A7 n8 c8], Ow eI A7 n8 c8 r1.2.2.2.2.2.2.2.2.2.2.2.2.2.2.2.2]) := by
 unfold m_dice_Dice_Order_1_k at hm
 subst hn_draw_seed
 subst hn_draw_s_key
 subst hn_draw_s_salt
 subst hn_draw_s_personal
 obtain rfl := k.len 4 rfl
 obtain rfl := k.len 5 rfl
 obtain rfl := k.len 7 rfl
 obtain rfl := k.len 11 rfl
 refine calls [.v (.func (.func 22) ⟨SV.vals []⟩ ⟨SV.vals [pt g_draw 0, pt g_draw2 0]⟩), pt g_p 0, pt g_p1 0] Tryz.func12 rfl (of_decide_eq_true (by kernel_rfl)) ?_
 refine W_seq <| W_q [] (.n 4 (I (w64 (p - 1))) (.k (.s .a))) (qB k 9 rfl 0 (I p) (by kernel_rfl) <| qe) (by kernel_rfl) ?_
 refine At_go <| W_block <| W_un ?_
 refine W_seq <| W_seq <| W_q [] (.n 9 (.b (decide (1 ≤ (w64 (p - 1))))) .a) qe (by kernel_rfl) ?_
 refine At_go <| W_condp (1 ≤ (w64 (p - 1))) (by kernel_rfl) (fun hc => ?_) (fun hc => ?_)
 · rw [if_pos hc] at hm
   refine W_skip <| At_go <| W_seq <| W_block <| W_seq <| W_reg <| WLs 4 [] (.n 12 (.v (.func (.func 22) ⟨SV.vals []⟩ ⟨SV.vals [pt g_draw 0, pt g_draw2 0]⟩)) (.n 15 (.u64 (UInt64.ofInt (w64 ((w64 (p - 1)) + 1)))) (.s .a))) qe (by kernel_rfl) ?_
   refine WL_op ?_
   obtain ⟨r_, h_r_, hm⟩ := ob hm
   obtain ⟨F1, O1, kin, hO, hre, hF, hb⟩ := k.go (.i (.i (.i (.i (.i (.i (.i (.i (.i (.r (.r (.r .e))))))))))))
   refine Op_call [] 16 _ do_go13 (by kernel_rfl) (c_dice_below_k (F := F1) (O := O1) _ _ _ _ _ _ _ _ _ _ _ _ _ _ _ _ _ _ _ _ _ _ _ _ _ _ _ _ _ _ _ _ _ _ _ _ _ _ _ _ _ _ _ _ _ _ _ (Ro.of_old h_draw_seed k hF) rfl hc_draw_seed (Ro.of_old h_draw_s_key k hF) rfl hc_draw_s_key (Ro.of_old h_draw_s_salt k hF) rfl hc_draw_s_salt (Ro.of_old h_draw_s_personal k hF) rfl hc_draw_s_personal kin _ h_r_) ?_
   rintro e_ w_ ⟨A0, _, c0, A8, _, c9, A9, _, c10, g0, _, c11, rfl, rfl, rfl, rfl, rfl, k_⟩
   have k_1 := hb w_ _ _ k_ (.c (.c (.c (.c (.c (.c (.c (.c (.c (.c .n))))))))))
   refine ⟨.u64 r_.1, rfl, ?_⟩
   refine WLs 1 [] (.n 5 (.u64 r_.1) (.sss .a)) qe (by kernel_rfl) ?_
   refine WL_nil <| At_go ?_
   have k_2 := k_1.drew 1
   refine W_m do_mixed (.q 0 0 (.q 1 0 (.q 4 0 (.q 5 0 (.q 6 0 (.q 7 0 (.q 2 1 (.q 3 1 (.q 8 1 (.q 9 1 (.q 10 0 (.q 11 0 (.q 12 0 (.op 13 (.q 14 1 (.op 15 .nil)))))))))))))))) [13, 15] k_2 (.c (.kkkk (.kkkk (.kkkk .z))) (.c (.kkkk (.kkkk (.kkkk .e))) .l)) (by kernel_rfl) (fun _ => ?_)
   obtain ⟨x_0, h_x_0, hm⟩ := ob hm
   refine MXq 6 0 [] (.n 17 (sl A_p1 p1.length c_p1) (.n 18 (I (w64 (p - 1))) (.n 24 (I x_0) .a))) (fun x hx => qB hx 11 rfl 0 (sl A_p1 p1.length c_p1) (by kernel_rfl) <| qB hx 11 rfl 0 (sl A_p1 p1.length c_p1) (by kernel_rfl) <| qW (hx.rd 12 rfl) h_x_0 (k_2.len 12 rfl) (I x_0) rfl <| qe) (by kernel_rfl) (fun _ => ?_)
   refine MXq 4 1 [] (.n 19 (sl A_p1 p1.length c_p1) (.n 20 (.u64 r_.1) (.n 25 (sl A_p1 p1.length c_p1) (.n 26 (I (w64 (p - 1))) (.kkk (.s .a)))))) (fun x hx => qB hx 11 rfl 0 (sl A_p1 p1.length c_p1) (by kernel_rfl) <| qB hx 11 rfl 0 (sl A_p1 p1.length c_p1) (by kernel_rfl) <| qe) (by kernel_rfl) (fun _ => ?_)
   obtain ⟨x_35, h_x_35, hm⟩ := ob hm
   obtain ⟨x_36, h_x_36, hm⟩ := ob hm
   refine MXq 3 0 [] (.n 28 (I x_35) (.n 29 (.v (.pointer (ixA A_p1 (w64 (p - 1)) 1))) (.kk (.ssss .a)))) (fun x hx => qW (hx.rd 12 rfl) h_x_35 (k_2.len 12 rfl) (I x_35) rfl <| qJ (hx.rd 12 rfl) h_x_36 (k_2.len 12 rfl) <| qe) (by kernel_rfl) (fun _ => ?_)
   refine MX_op (by kernel_rfl) rfl <| Op_ost (E := eI) (kk := 0) (sv := I x_0) (svs := [I x_0]) [] 12 x_0 (by kernel_rfl) (Pt.ix1 A_p1 (w64 (p - 1)) 1) k_2 rfl (geti_some h_x_36).2 (E_ix (E := eI) (k_2.rd 12 rfl) (by decide) (geti_lt h_x_36).1 (geti_some h_x_36).2) rfl (Nat.le_of_ble_eq_true (by kernel_rfl)) ?_
   intro w_1 k_3
   refine ⟨(k_3.sel (.kkkk (.kkkk (.kkkk .z)))), fun _ => ?_⟩
   obtain ⟨x_37, h_x_37, hm⟩ := ob hm
   have hp := Rd.ix (E := eI) (k_3.rd 12 rfl) h_x_37 (k_3.len 12 rfl) (by decide)
   refine MXq 1 1 [] (.n 30 (.v (.pointer (ixA A_p1 (r_.1.toNat : Int) 1))) (.k (.ssss .a))) (fun x hx => qJp hp <| qe) (by kernel_rfl) (fun _ => ?_)
   refine MX_op (by kernel_rfl) rfl <| Op_ost (E := eI) (kk := 0) (sv := I x_35) (svs := [I x_35]) [] 12 x_35 (by kernel_rfl) (Pt.ix1 A_p1 (r_.1.toNat : Int) 1) k_3 rfl (geti_some h_x_37).2 (E_ix (E := eI) (k_3.rd 12 rfl) (by decide) (geti_lt h_x_37).1 (geti_some h_x_37).2) rfl (Nat.le_of_ble_eq_true (by kernel_rfl)) ?_
   intro w_2 k_4
   refine ⟨(k_4.sel (.kkkk (.kkkk (.kkkk .z)))), fun _ => ?_⟩
   refine MX_nil <| At_in <| At_go <| W_q [] (.n 4 (I (w64 ((w64 (p - 1)) - 1))) (.sss .a)) qe (by kernel_rfl) ?_
   have k_6 := ((((((((((((k_4.pk (.t (.t (.t (.t (.t (.t (.t (.t (.t (.t .h))))))))))).pk (.t (.t (.t (.t (.t (.t (.t (.t (.t (.t (.t (.t .h))))))))))))).pk (.t (.t (.t (.t (.t (.t (.t (.t (.t (.t (.t (.t .h))))))))))))).pk (.t (.t (.t (.t (.t (.t (.t (.t (.t (.t (.t (.t .h))))))))))))).pk (.t (.t (.t (.t (.t (.t (.t (.t (.t (.t .h))))))))))).pk (.t (.t (.t (.t (.t (.t .h))))))).pk (.t (.t (.t (.t (.t (.t .h))))))).pk (.t (.t (.t (.t (.t (.t (.t (.t (.t .h)))))))))).pk (.t (.t (.t (.t (.t (.t (.t (.t (.t .h)))))))))).pk (.t (.t (.t (.t (.t (.t (.t (.t (.t .h)))))))))).pk (.t (.t (.t (.t (.t (.t (.t (.t (.t (.t .h))))))))))).pk (.t (.t (.t (.t (.t (.t (.t (.t (.t (.t (.t .h)))))))))))).pk (.t (.t (.t (.t (.t (.t (.t (.t (.t (.t (.t (.t .h))))))))))))
   refine At_lp (m_dice_Dice_Order_1_k_l0 draw_seed draw_s_key draw_s_salt draw_s_personal p r_) (fun s L wr => ∃ (draw1 : Int) (draw2 : Int) (draw3 : List UInt8) (draw4 : List UInt8) (draw5 : Bool) (draw6 : UInt64) (draw7 : Vec UInt64 8) (draw8 : UInt64) (draw9 : UInt64) (draw10 : List UInt8) (draw11 : Int) (draw12 : UInt64) (draw13 : Vec UInt8 64) (draw14 : Int) (draw15 : Int) (x_38 : List Int) (i : Int) (A10 : Option Addr) (n0 : Nat) (c12 : Nat) (A11 : Option Addr) (n9 : Nat) (c13 : Nat) (A12 : Option Addr) (n10 : Nat) (c14 : Nat), (draw1, draw2, draw3, draw4, draw5, draw6, draw7, draw8, draw9, draw10, draw11, draw12, draw13, draw14, draw15, x_38, i) = s ∧ L = [(0, .v (.func (.func 22) ⟨SV.vals []⟩ ⟨SV.vals [pt g_draw 0, pt g_draw2 0]⟩)), (2, pt g_p1 0), (4, I i)] ∧ draw3.length = n0 ∧ draw4.length = n9 ∧ draw10.length = n10 ∧ Cx F O w wr [Bx 24 g_draw [pt g_draw1 0], Bx 42 g_draw1 [sl A_draw_seed draw_seed.length c_draw_seed, pt g_draw_s 0], Bx 67 g_draw_s [I 1, I 64, .u32 4294967295, .u64 274877906944, .b false, sl A_draw_s_key draw_s_key.length c_draw_s_key, sl A_draw_s_salt draw_s_salt.length c_draw_s_salt, sl A_draw_s_personal draw_s_personal.length c_draw_s_personal, pt g_draw_s_n 0, sl (some ⟨g0, 0, none⟩) r_.2.2.2.2.2.2.2.2.2.2.2.2.1.length c11, .u64 draw12, .ar e8 draw13, I draw14, .v (.func (.func 63) ⟨SV.vals [pt g_draw_s 0]⟩ ⟨SV.vals []⟩)], Bx 114 g_draw_s_n [I draw1, I draw2, sl A10 n0 c12, sl A11 n9 c13, .b draw5, .u64 draw6, .v (.iface 141 (SV.val (pt g_draw_s_n_e 0)))], Ow e8 A10 n0 c12 draw3, Ow e8 A11 n9 c13 draw4, Bx 147 g_draw_s_n_e [.ar e64 draw7, .u64 draw8, .u64 draw9, sl A12 n10 c14, I draw11, .v (.func (.func 83) ⟨SV.vals []⟩ ⟨SV.vals []⟩), .v (.func (.func 84) ⟨SV.vals []⟩ ⟨SV.vals []⟩)], Ow e8 A12 n10 c14 draw10, Sh (SH e8) [((some ⟨g0, 0, none⟩), r_.2.2.2.2.2.2.2.2.2.2.2.2.1.length, c11)] [r_.2.2.2.2.2.2.2.2.2.2.2.2.1], Bx 25 g_draw2 [I draw15], Bx 29 g_p1 [sl A_p1 p1.length c_p1], Ow eI A_p1 p1.length c_p1 x_38, Bx 3 g_p [I p]]) (r_.2.2.2.2.2.2.1, r_.2.2.2.2.2.2.2.1, r_.2.2.2.2.2.2.2.2.1, r_.2.2.2.2.2.2.2.2.2.1, r_.2.2.2.2.2.2.2.2.2.2.1, r_.2.2.2.2.2.2.2.2.2.2.2.1, r_.2.1, r_.2.2.1, r_.2.2.2.1, r_.2.2.2.2.1, r_.2.2.2.2.2.1, r_.2.2.2.2.2.2.2.2.2.2.2.2.2.1, r_.2.2.2.2.2.2.2.2.2.2.2.2.2.2.1, r_.2.2.2.2.2.2.2.2.2.2.2.2.2.2.2.1, r_.2.2.2.2.2.2.2.2.2.2.2.2.2.2.2.2, (p1.set (Int.toNat (w64 (p - 1))) x_0).set (Int.toNat (r_.1.toNat : Int)) x_35, w64 ((w64 (p - 1)) - 1)) r hm ⟨r_.2.2.2.2.2.2.1, r_.2.2.2.2.2.2.2.1, r_.2.2.2.2.2.2.2.2.1, r_.2.2.2.2.2.2.2.2.2.1, r_.2.2.2.2.2.2.2.2.2.2.1, r_.2.2.2.2.2.2.2.2.2.2.2.1, r_.2.1, r_.2.2.1, r_.2.2.2.1, r_.2.2.2.2.1, r_.2.2.2.2.2.1, r_.2.2.2.2.2.2.2.2.2.2.2.2.2.1, r_.2.2.2.2.2.2.2.2.2.2.2.2.2.2.1, r_.2.2.2.2.2.2.2.2.2.2.2.2.2.2.2.1, r_.2.2.2.2.2.2.2.2.2.2.2.2.2.2.2.2, (p1.set (Int.toNat (w64 (p - 1))) x_0).set (Int.toNat (r_.1.toNat : Int)) x_35, w64 ((w64 (p - 1)) - 1), A8, r_.2.2.2.2.2.2.2.2.1.length, c9, A9, r_.2.2.2.2.2.2.2.2.2.1.length, c10, A0, r_.2.2.2.2.1.length, c0, rfl, rfl, k_6.len 4 rfl, k_6.len 5 rfl, k_6.len 7 rfl, k_6⟩ (by kernel_rfl) ?_
   intro s0_ L_ w_3 y0 hrel hstep hr0
   obtain ⟨draw1, draw2, draw3, draw4, draw5, draw6, draw7, draw8, draw9, draw10, draw11, draw12, draw13, draw14, draw15, x_38, i, A10, _, c12, A11, _, c13, A12, _, c14, rfl, rfl, rfl, rfl, rfl, k_5⟩ := hrel
   have hm := hstep; simp only [m_dice_Dice_Order_1_k_l0] at hm
   clear hstep
   refine W_seq <| W_seq <| W_q [] (.n 9 (.b (decide (1 ≤ i))) .a) qe (by kernel_rfl) ?_
   refine At_go <| W_condp (1 ≤ i) (by kernel_rfl) (fun hc1 => ?_) (fun hc1 => ?_)
   · rw [if_pos hc1] at hm
     refine W_skip <| At_go <| W_seq <| W_block <| W_seq <| W_reg <| WLs 4 [] (.n 12 (.v (.func (.func 22) ⟨SV.vals []⟩ ⟨SV.vals [pt g_draw 0, pt g_draw2 0]⟩)) (.n 15 (.u64 (UInt64.ofInt (w64 (i + 1)))) (.s .a))) qe (by kernel_rfl) ?_
     refine WL_op ?_
     obtain ⟨r_1, h_r_1, hm⟩ := ob hm
     obtain ⟨F11, O11, kin1, hO1, hre1, hF1, hb1⟩ := k_5.go (.i (.i (.i (.i (.i (.i (.i (.i (.r (.i (.r (.r (.r .e)))))))))))))
     refine Op_call [] 16 _ do_go13 (by kernel_rfl) (c_dice_below_k_s1 (F := F11) (O := O11) _ _ _ _ _ _ _ _ _ _ _ _ _ _ _ _ _ _ _ _ _ _ _ _ _ _ _ _ _ _ _ _ _ _ _ _ _ _ _ _ _ _ _ _ _ _ _ _ _ _ _ (Ro.of_old h_draw_seed k_5 hF1) rfl hc_draw_seed (Ro.of_old h_draw_s_key k_5 hF1) rfl hc_draw_s_key (Ro.of_old h_draw_s_salt k_5 hF1) rfl hc_draw_s_salt (Ro.of_old h_draw_s_personal k_5 hF1) rfl hc_draw_s_personal (Ro.of_sh kin1.off hre1 0 rfl) (k_5.shlen 8 rfl) (k_5.shlec 8 rfl) kin1 _ h_r_1) ?_
     rintro e_ w_4 ⟨A13, _, c15, A14, _, c16, A15, _, c17, rfl, rfl, rfl, rfl, k_7⟩
     have k_8 := hb1 w_4 _ _ k_7 (.c (.c (.c (.c (.c (.c (.c (.c (.c .n)))))))))
     refine ⟨.u64 r_1.1, rfl, ?_⟩
     refine WLs 1 [] (.n 5 (.u64 r_1.1) (.sss .a)) qe (by kernel_rfl) ?_
     refine WL_nil <| At_go ?_
     have k_9 := k_8.drew 1
     refine W_m do_mixed (.q 0 0 (.q 1 0 (.q 4 0 (.q 5 0 (.q 6 0 (.q 7 0 (.q 2 1 (.q 3 1 (.q 8 1 (.q 9 1 (.q 10 0 (.q 11 0 (.q 12 0 (.op 13 (.q 14 1 (.op 15 .nil)))))))))))))))) [13, 15] k_9 (.c (.kkkk (.kkkk (.kk (.k (.s (.k .e)))))) (.c (.kkkk (.kkkk (.kkkk .e))) .l)) (by kernel_rfl) (fun _ => ?_)
     obtain ⟨x_39, h_x_39, hm⟩ := ob hm
     refine MXq 6 0 [] (.n 17 (sl A_p1 p1.length c_p1) (.n 18 (I i) (.n 24 (I x_39) .a))) (fun x hx => qB hx 10 rfl 0 (sl A_p1 p1.length c_p1) (by kernel_rfl) <| qB hx 10 rfl 0 (sl A_p1 p1.length c_p1) (by kernel_rfl) <| qW (hx.rd 11 rfl) h_x_39 (k_9.len 11 rfl) (I x_39) rfl <| qe) (by kernel_rfl) (fun _ => ?_)
     refine MXq 4 1 [] (.n 19 (sl A_p1 p1.length c_p1) (.n 20 (.u64 r_1.1) (.n 25 (sl A_p1 p1.length c_p1) (.n 26 (I i) (.kkk (.s .a)))))) (fun x hx => qB hx 10 rfl 0 (sl A_p1 p1.length c_p1) (by kernel_rfl) <| qB hx 10 rfl 0 (sl A_p1 p1.length c_p1) (by kernel_rfl) <| qe) (by kernel_rfl) (fun _ => ?_)
     obtain ⟨x_40, h_x_40, hm⟩ := ob hm
     obtain ⟨x_41, h_x_41, hm⟩ := ob hm
     refine MXq 3 0 [] (.n 28 (I x_40) (.n 29 (.v (.pointer (ixA A_p1 i 1))) (.kk (.ssss .a)))) (fun x hx => qW (hx.rd 11 rfl) h_x_40 (k_9.len 11 rfl) (I x_40) rfl <| qJ (hx.rd 11 rfl) h_x_41 (k_9.len 11 rfl) <| qe) (by kernel_rfl) (fun _ => ?_)
     refine MX_op (by kernel_rfl) rfl <| Op_ost (E := eI) (kk := 0) (sv := I x_39) (svs := [I x_39]) [] 11 x_39 (by kernel_rfl) (Pt.ix1 A_p1 i 1) k_9 rfl (geti_some h_x_41).2 (E_ix (E := eI) (k_9.rd 11 rfl) (by decide) (geti_lt h_x_41).1 (geti_some h_x_41).2) rfl (Nat.le_of_ble_eq_true (by kernel_rfl)) ?_
     intro w_5 k_10
     refine ⟨(k_10.sel (.kkkk (.kkkk (.kk (.k (.s (.k .e))))))), fun _ => ?_⟩
     obtain ⟨x_42, h_x_42, hm⟩ := ob hm
     have hp1 := Rd.ix (E := eI) (k_10.rd 11 rfl) h_x_42 (k_10.len 11 rfl) (by decide)
     refine MXq 1 1 [] (.n 30 (.v (.pointer (ixA A_p1 (r_1.1.toNat : Int) 1))) (.k (.ssss .a))) (fun x hx => qJp hp1 <| qe) (by kernel_rfl) (fun _ => ?_)
     refine MX_op (by kernel_rfl) rfl <| Op_ost (E := eI) (kk := 0) (sv := I x_40) (svs := [I x_40]) [] 11 x_40 (by kernel_rfl) (Pt.ix1 A_p1 (r_1.1.toNat : Int) 1) k_10 rfl (geti_some h_x_42).2 (E_ix (E := eI) (k_10.rd 11 rfl) (by decide) (geti_lt h_x_42).1 (geti_some h_x_42).2) rfl (Nat.le_of_ble_eq_true (by kernel_rfl)) ?_
     intro w_6 k_11
     refine ⟨(k_11.sel (.kkkk (.kkkk (.kk (.k (.s (.k .e))))))), fun _ => ?_⟩
     refine MX_nil <| At_in <| At_go <| W_q [] (.n 4 (I (w64 (i - 1))) (.ss (.kk .z))) qe (by kernel_rfl) ?_
     have k_12 := ((((((((((((k_11.pk (.t (.t (.t (.t (.t (.t (.t (.t (.t (.t (.t (.t .h))))))))))))).pk (.t (.t (.t (.t (.t (.t (.t (.t (.t (.t (.t (.t .h))))))))))))).pk (.t (.t (.t (.t (.t (.t (.t (.t (.t (.t (.t (.t .h))))))))))))).pk (.t (.t (.t (.t (.t (.t (.t (.t (.t (.t (.t .h)))))))))))).pk (.t (.t (.t (.t (.t (.t (.t (.t (.t (.t (.t (.t .h))))))))))))).pk (.t (.t (.t (.t (.t (.t .h))))))).pk (.t (.t (.t (.t (.t (.t .h))))))).pk (.t (.t (.t (.t (.t (.t (.t (.t (.t .h)))))))))).pk (.t (.t (.t (.t (.t (.t (.t (.t (.t .h)))))))))).pk (.t (.t (.t (.t (.t (.t (.t (.t (.t .h)))))))))).pk (.t (.t (.t (.t (.t (.t (.t (.t (.t (.t .h))))))))))).pk (.t (.t (.t (.t (.t (.t (.t (.t (.t (.t (.t .h)))))))))))).pk (.t (.t (.t (.t (.t (.t (.t (.t (.t (.t (.t (.t .h))))))))))))
     exact At_rd (r_1.2.2.2.2.2.2.1, r_1.2.2.2.2.2.2.2.1, r_1.2.2.2.2.2.2.2.2.1, r_1.2.2.2.2.2.2.2.2.2.1, r_1.2.2.2.2.2.2.2.2.2.2.1, r_1.2.2.2.2.2.2.2.2.2.2.2.1, r_1.2.1, r_1.2.2.1, r_1.2.2.2.1, r_1.2.2.2.2.1, r_1.2.2.2.2.2.1, r_1.2.2.2.2.2.2.2.2.2.2.2.2.1, r_1.2.2.2.2.2.2.2.2.2.2.2.2.2.1, r_1.2.2.2.2.2.2.2.2.2.2.2.2.2.2.1, r_1.2.2.2.2.2.2.2.2.2.2.2.2.2.2.2, (x_38.set (Int.toNat i) x_39).set (Int.toNat (r_1.1.toNat : Int)) x_40, w64 (i - 1)) (Option.some.inj hm).symm ⟨r_1.2.2.2.2.2.2.1, r_1.2.2.2.2.2.2.2.1, r_1.2.2.2.2.2.2.2.2.1, r_1.2.2.2.2.2.2.2.2.2.1, r_1.2.2.2.2.2.2.2.2.2.2.1, r_1.2.2.2.2.2.2.2.2.2.2.2.1, r_1.2.1, r_1.2.2.1, r_1.2.2.2.1, r_1.2.2.2.2.1, r_1.2.2.2.2.2.1, r_1.2.2.2.2.2.2.2.2.2.2.2.2.1, r_1.2.2.2.2.2.2.2.2.2.2.2.2.2.1, r_1.2.2.2.2.2.2.2.2.2.2.2.2.2.2.1, r_1.2.2.2.2.2.2.2.2.2.2.2.2.2.2.2, (x_38.set (Int.toNat i) x_39).set (Int.toNat (r_1.1.toNat : Int)) x_40, w64 (i - 1), A14, r_1.2.2.2.2.2.2.2.2.1.length, c16, A15, r_1.2.2.2.2.2.2.2.2.2.1.length, c17, A13, r_1.2.2.2.2.1.length, c15, rfl, rfl, k_12.len 4 rfl, k_12.len 5 rfl, k_12.len 7 rfl, k_12⟩ (by kernel_rfl)
   rw [if_neg hc1] at hm
   refine W_exit (At_te (At_te (At_ie ?_)))
   have hm := exit_of hm hr0
   obtain rfl := Option.some.inj hm
   refine At_en [] qe (by kernel_rfl) ?_
   have k_13 := ((((((((((((k_5.pk (.t (.t (.t (.t (.t (.t (.t (.t (.t (.t (.t .h)))))))))))).pk (.t (.t (.t (.t (.t (.t (.t (.t (.t (.t (.t .h)))))))))))).pk (.t (.t (.t (.t (.t (.t (.t (.t (.t (.t (.t (.t .h))))))))))))).pk (.t (.t (.t (.t (.t (.t (.t (.t (.t (.t (.t (.t .h))))))))))))).pk (.t (.t (.t (.t .h))))).pk (.t (.t (.t (.t (.t .h)))))).pk (.t (.t (.t (.t (.t (.t (.t (.t (.t (.t (.t (.t .h))))))))))))).pk (.t (.t (.t (.t (.t (.t (.t .h)))))))).pk (.t (.t (.t (.t (.t (.t (.t (.t (.t (.t .h))))))))))).pk (.t (.t (.t (.t (.t (.t (.t (.t (.t (.t .h))))))))))).pk (.t (.t (.t (.t (.t (.t (.t (.t (.t (.t .h))))))))))).pk (.t (.t (.t (.t (.t (.t (.t (.t (.t (.t (.t (.t .h))))))))))))).pk (.t (.t (.t (.t (.t (.t (.t (.t (.t (.t (.t (.t .h))))))))))))
   exact ⟨A12, draw10.length, c14, A10, draw3.length, c12, A11, draw4.length, c13, g0, r_.2.2.2.2.2.2.2.2.2.2.2.2.1.length, c11, A_p1, p1.length, c_p1, k_13.len 1 rfl, k_13.len 3 rfl, k_13.len 4 rfl, k_13.shlen 6 rfl, k_13.len 12 rfl, rfl, k_13⟩
 rw [if_neg hc] at hm
 refine W_exit (At_te (At_te (At_ie ?_)))
 obtain rfl := Option.some.inj hm
 refine At_en [] qe (by kernel_rfl) ?_
 have k_14 := (((((((((((k.pk (.t (.t (.t (.t (.t (.t (.t (.t (.t (.t (.t .h)))))))))))).pk (.t (.t (.t (.t (.t (.t (.t (.t (.t (.t (.t .h)))))))))))).pk (.t (.t (.t (.t (.t (.t (.t (.t (.t (.t (.t .h)))))))))))).pk (.t (.t (.t (.t (.t (.t (.t (.t (.t (.t (.t .h)))))))))))).pk (.t (.t (.t (.t .h))))).pk (.t (.t (.t (.t (.t .h)))))).pk (.t (.t (.t (.t (.t (.t .h))))))).pk (.t (.t (.t (.t (.t (.t (.t (.t (.t .h)))))))))).pk (.t (.t (.t (.t (.t (.t (.t (.t (.t .h)))))))))).pk (.t (.t (.t (.t (.t (.t (.t (.t (.t .h)))))))))).pk (.t (.t (.t (.t (.t (.t (.t (.t (.t (.t (.t .h)))))))))))).pk (.t (.t (.t (.t (.t (.t (.t (.t (.t (.t (.t .h)))))))))))
 exact ⟨A_draw_s_n_e_held, draw_s_n_e_held.length, c_draw_s_n_e_held, A_draw_s_n_block, draw_s_n_block.length, c_draw_s_n_block, A_draw_s_n_key, draw_s_n_key.length, c_draw_s_n_key, A_p1, p1.length, c_p1, k_14.len 1 rfl, k_14.len 3 rfl, k_14.len 4 rfl, k_14.len 11 rfl, rfl, k_14⟩

theorem c_dice_Dice_drawn_o {F O : Nat → Prop} {w : World} (d_seed : List UInt8) (d_s_key : List UInt8) (d_s_salt : List UInt8) (d_s_personal : List UInt8) (d_s_n_kind : Int) (d_s_n_digest : Int) (d_s_n_block : List UInt8) (d_s_n_key : List UInt8) (d_s_n_last : Bool) (d_s_n_written : UInt64) (d_s_n_e_h : Vec UInt64 8) (d_s_n_e_count_Lo : UInt64) (d_s_n_e_count_Hi : UInt64) (d_s_n_e_held : List UInt8) (d_s_n_e_block : Int) (d_s_at : UInt64) (d_s_now : Vec UInt8 64) (d_s_have : Int) (work : Int) (work1 : List Int) (g_d : Nat) (A_d_seed : Option Addr) (n_d_seed : Nat) (c_d_seed : Nat) (g_d_s : Nat) (A_d_s_key : Option Addr) (n_d_s_key : Nat) (c_d_s_key : Nat) (A_d_s_salt : Option Addr) (n_d_s_salt : Nat) (c_d_s_salt : Nat) (A_d_s_personal : Option Addr) (n_d_s_personal : Nat) (c_d_s_personal : Nat) (g_d_s_n : Nat) (A_d_s_n_block : Option Addr) (n_d_s_n_block : Nat) (c_d_s_n_block : Nat) (A_d_s_n_key : Option Addr) (n_d_s_n_key : Nat) (c_d_s_n_key : Nat) (g_d_s_n_e : Nat) (A_d_s_n_e_held : Option Addr) (n_d_s_n_e_held : Nat) (c_d_s_n_e_held : Nat) (g_work : Nat) (g_work1 : Nat) (A_work1 : Option Addr) (n_work1 : Nat) (c_work1 : Nat) (h_d_seed : Ro F w A_d_seed (e8.all d_seed)) (hn_d_seed : d_seed.length = n_d_seed) (hc_d_seed : n_d_seed ≤ c_d_seed) (h_d_s_key : Ro F w A_d_s_key (e8.all d_s_key)) (hn_d_s_key : d_s_key.length = n_d_s_key) (hc_d_s_key : n_d_s_key ≤ c_d_s_key) (h_d_s_salt : Ro F w A_d_s_salt (e8.all d_s_salt)) (hn_d_s_salt : d_s_salt.length = n_d_s_salt) (hc_d_s_salt : n_d_s_salt ≤ c_d_s_salt) (h_d_s_personal : Ro F w A_d_s_personal (e8.all d_s_personal)) (hn_d_s_personal : d_s_personal.length = n_d_s_personal) (hc_d_s_personal : n_d_s_personal ≤ c_d_s_personal) (k : Cx F O w w [Bx 42 g_d [sl A_d_seed n_d_seed c_d_seed, pt g_d_s 0], Bx 67 g_d_s [I 1, I 64, .u32 4294967295, .u64 274877906944, .b false, sl A_d_s_key n_d_s_key c_d_s_key, sl A_d_s_salt n_d_s_salt c_d_s_salt, sl A_d_s_personal n_d_s_personal c_d_s_personal, pt g_d_s_n 0, sl none 0 0, .u64 d_s_at, .ar e8 d_s_now, I d_s_have, .v (.func (.func 36) ⟨SV.vals [pt g_d_s 0]⟩ ⟨SV.vals []⟩)], Bx 114 g_d_s_n [I d_s_n_kind, I d_s_n_digest, sl A_d_s_n_block n_d_s_n_block c_d_s_n_block, sl A_d_s_n_key n_d_s_n_key c_d_s_n_key, .b d_s_n_last, .u64 d_s_n_written, .v (.iface 141 (SV.val (pt g_d_s_n_e 0)))], Ow e8 A_d_s_n_block n_d_s_n_block c_d_s_n_block d_s_n_block, Ow e8 A_d_s_n_key n_d_s_n_key c_d_s_n_key d_s_n_key, Bx 147 g_d_s_n_e [.ar e64 d_s_n_e_h, .u64 d_s_n_e_count_Lo, .u64 d_s_n_e_count_Hi, sl A_d_s_n_e_held n_d_s_n_e_held c_d_s_n_e_held, I d_s_n_e_block, .v (.func (.func 83) ⟨SV.vals []⟩ ⟨SV.vals []⟩), .v (.func (.func 84) ⟨SV.vals []⟩ ⟨SV.vals []⟩)], Ow e8 A_d_s_n_e_held n_d_s_n_e_held c_d_s_n_e_held d_s_n_e_held, Bx 3 g_work [I work], Bx 29 g_work1 [sl A_work1 n_work1 c_work1], Ow eI A_work1 n_work1 c_work1 work1]) (r : (Int × Vec UInt64 8 × UInt64 × UInt64 × List UInt8 × Int × Int × Int × List UInt8 × List UInt8 × Bool × UInt64 × List UInt8 × UInt64 × Vec UInt8 64 × Int × Int × List Int) ⊕ (Int × Vec UInt64 8 × UInt64 × UInt64 × List UInt8 × Int × Int × Int × List UInt8 × List UInt8 × Bool × UInt64 × UInt64 × Vec UInt8 64 × Int × Int × List Int)) (hm : m_dice_Dice_drawn_o d_seed d_s_key d_s_salt d_s_personal d_s_n_kind d_s_n_digest d_s_n_block d_s_n_key d_s_n_last d_s_n_written d_s_n_e_h d_s_n_e_count_Lo d_s_n_e_count_Hi d_s_n_e_held d_s_n_e_block d_s_at d_s_now d_s_have work work1 = some r) :
    Calls Tryz.prog 11 (vals [pt g_d 0, .v (.func (.func 12) ⟨SV.vals []⟩ ⟨SV.vals [pt g_work 0, pt g_work1 0]⟩)]) w (fun e w' => match r with | .inl r0 => ∃ A n c A1 n1 c1 A2 n2 c2 g n3 c3 A3 n4 c4, r0.2.2.2.2.1.length = n ∧ r0.2.2.2.2.2.2.2.2.1.length = n1 ∧ r0.2.2.2.2.2.2.2.2.2.1.length = n2 ∧ r0.2.2.2.2.2.2.2.2.2.2.2.2.1.length = n3 ∧ r0.2.2.2.2.2.2.2.2.2.2.2.2.2.2.2.2.2.length = n4 ∧ e = .returned (SV.val (I r0.1)) ∧ Cx F O w w' [Bx 147 g_d_s_n_e [.ar e64 r0.2.1, .u64 r0.2.2.1, .u64 r0.2.2.2.1, sl A n c, I r0.2.2.2.2.2.1, .v (.func (.func 83) ⟨SV.vals []⟩ ⟨SV.vals []⟩), .v (.func (.func 84) ⟨SV.vals []⟩ ⟨SV.vals []⟩)], Ow e8 A n c r0.2.2.2.2.1, Bx 114 g_d_s_n [I r0.2.2.2.2.2.2.1, I r0.2.2.2.2.2.2.2.1, sl A1 n1 c1, sl A2 n2 c2, .b r0.2.2.2.2.2.2.2.2.2.2.1, .u64 r0.2.2.2.2.2.2.2.2.2.2.2.1, .v (.iface 141 (SV.val (pt g_d_s_n_e 0)))], Ow e8 A1 n1 c1 r0.2.2.2.2.2.2.2.2.1, Ow e8 A2 n2 c2 r0.2.2.2.2.2.2.2.2.2.1, Bx 67 g_d_s [I 1, I 64, .u32 4294967295, .u64 274877906944, .b false, sl A_d_s_key n_d_s_key c_d_s_key, sl A_d_s_salt n_d_s_salt c_d_s_salt, sl A_d_s_personal n_d_s_personal c_d_s_personal, pt g_d_s_n 0, sl (some ⟨g, 0, none⟩) n3 c3, .u64 r0.2.2.2.2.2.2.2.2.2.2.2.2.2.1, .ar e8 r0.2.2.2.2.2.2.2.2.2.2.2.2.2.2.1, I r0.2.2.2.2.2.2.2.2.2.2.2.2.2.2.2.1, .v (.func (.func 63) ⟨SV.vals [pt g_d_s 0]⟩ ⟨SV.vals []⟩)], Sh (SH e8) [((some ⟨g, 0, none⟩), n3, c3)] [r0.2.2.2.2.2.2.2.2.2.2.2.2.1], Bx 42 g_d [sl A_d_seed n_d_seed c_d_seed, pt g_d_s 0], Bx 3 g_work [I r0.2.2.2.2.2.2.2.2.2.2.2.2.2.2.2.2.1], Bx 29 g_work1 [sl A3 n4 c4], Ow eI A3 n4 c4 r0.2.2.2.2.2.2.2.2.2.2.2.2.2.2.2.2.2] | .inr r1 => ∃ A4 n5 c5 A5 n6 c6 A6 n7 c7 A7 n8 c8, r1.2.2.2.2.1.length = n5 ∧ r1.2.2.2.2.2.2.2.2.1.length = n6 ∧ r1.2.2.2.2.2.2.2.2.2.1.length = n7 ∧ r1.2.2.2.2.2.2.2.2.2.2.2.2.2.2.2.2.length = n8 ∧ e = .returned (SV.val (I r1.1)) ∧ Cx F O w w' [Bx 147 g_d_s_n_e [.ar e64 r1.2.1, .u64 r1.2.2.1, .u64 r1.2.2.2.1, sl A4 n5 c5, I r1.2.2.2.2.2.1, .v (.func (.func 83) ⟨SV.vals []⟩ ⟨SV.vals []⟩), .v (.func (.func 84) ⟨SV.vals []⟩ ⟨SV.vals []⟩)], Ow e8 A4 n5 c5 r1.2.2.2.2.1, Bx 114 g_d_s_n [I r1.2.2.2.2.2.2.1, I r1.2.2.2.2.2.2.2.1, sl A5 n6 c6, sl A6 n7 c7, .b r1.2.2.2.2.2.2.2.2.2.2.1, .u64 r1.2.2.2.2.2.2.2.2.2.2.2.1, .v (.iface 141 (SV.val (pt g_d_s_n_e 0)))], Ow e8 A5 n6 c6 r1.2.2.2.2.2.2.2.2.1, Ow e8 A6 n7 c7 r1.2.2.2.2.2.2.2.2.2.1, Bx 67 g_d_s [I 1, I 64, .u32 4294967295, .u64 274877906944, .b false, sl A_d_s_key n_d_s_key c_d_s_key, sl A_d_s_salt n_d_s_salt c_d_s_salt, sl A_d_s_personal n_d_s_personal c_d_s_personal, pt g_d_s_n 0, sl none 0 0, .u64 r1.2.2.2.2.2.2.2.2.2.2.2.2.1, .ar e8 r1.2.2.2.2.2.2.2.2.2.2.2.2.2.1, I r1.2.2.2.2.2.2.2.2.2.2.2.2.2.2.1, .v (.func (.func 36) ⟨SV.vals [pt g_d_s 0]⟩ ⟨SV.vals []⟩)], Bx 42 g_d [sl A_d_seed n_d_seed c_d_seed, pt g_d_s 0], Bx 3 g_work [I r1.2.2.2.2.2.2.2.2.2.2.2.2.2.2.2.1], Bx 29 g_work1 [sl A7 n8 c8], Ow eI A7 n8 c8 r1.2.2.2.2.2.2.2.2.2.2.2.2.2.2.2.2]) := by
 unfold m_dice_Dice_drawn_o at hm
 subst hn_d_seed
 subst hn_d_s_key
 subst hn_d_s_salt
 subst hn_d_s_personal
 obtain rfl := k.len 3 rfl
 obtain rfl := k.len 4 rfl
 obtain rfl := k.len 6 rfl
 obtain rfl := k.len 9 rfl
 refine calls [pt g_d 0, .v (.func (.func 12) ⟨SV.vals []⟩ ⟨SV.vals [pt g_work 0, pt g_work1 0]⟩)] Tryz.func11 rfl (of_decide_eq_true (by kernel_rfl)) ?_
 refine W_seq <| W_reg <| WL_op <| Op_box [] 2 (pt g_d 0) [pt g_d 0] (by kernel_rfl) k ?_
 intro g0 w_ k_
 refine WLs 1 [] (.k (.s .a)) qe (by kernel_rfl) ?_
 refine WL_nil <| At_go <| W_seq <| W_seq <| W_reg <| WLs 1 [] (.n 7 (pt g_d 0) .a) (qB k_ 10 rfl 0 (pt g_d 0) (by kernel_rfl) <| qe) (by kernel_rfl) ?_
 refine WL_op ?_
 obtain ⟨r_, h_r_, hm⟩ := ob hm
 obtain ⟨F1, O1, kin, hO, hre, hF, hb⟩ := k_.go (.i (.i (.i (.i (.i (.i (.i (.r (.r (.r (.r .e)))))))))))
 refine Op_call [] 8 _ do_go10 (by kernel_rfl) (c_dice_Dice_none_k (F := F1) (O := O1) _ _ _ _ _ _ _ _ _ _ _ _ _ _ _ _ _ _ _ _ _ _ _ _ _ _ _ _ _ _ _ _ _ _ _ _ _ _ _ _ _ _ _ (Ro.of_old h_d_seed k_ hF) rfl hc_d_seed (Ro.of_old h_d_s_key k_ hF) rfl hc_d_s_key (Ro.of_old h_d_s_salt k_ hF) rfl hc_d_s_salt (Ro.of_old h_d_s_personal k_ hF) rfl hc_d_s_personal kin _ h_r_) ?_
 rintro e_ w_1 ⟨A0, _, c0, A8, _, c9, A9, _, c10, rfl, rfl, rfl, rfl, k_1⟩
 have k_2 := hb w_1 _ _ k_1 (.c (.c (.c (.c (.c (.c (.c .n)))))))
 refine ⟨.b false, rfl, ?_⟩
 refine WL_nil <| At_go <| W_cond false (by kernel_rfl) (fun h => by cases h) (fun _ => ?_)
 refine W_skip <| At_go <| W_seq <| W_reg <| WLs 4 [] (.n 12 (pt g_d_s 0) (.ss .a)) (qB k_2 10 rfl 0 (pt g_d 0) (by kernel_rfl) <| qs g_d 0 <| qs g_d 0 <| qB k_2 6 rfl 1 (pt g_d_s 0) (by kernel_rfl) <| qe) (by kernel_rfl) ?_
 refine WL_op ?_
 obtain ⟨r_1, h_r_1, hm⟩ := ob hm
 have k_3 := ((((((((((k_2.pk (.t (.t (.t (.t (.t (.t (.t (.t (.t (.t .h))))))))))).pk (.t (.t (.t (.t (.t (.t (.t (.t (.t (.t .h))))))))))).pk (.t (.t (.t (.t (.t (.t (.t (.t (.t (.t .h))))))))))).pk (.t (.t (.t (.t (.t (.t (.t (.t (.t (.t .h))))))))))).pk (.t (.t (.t (.t (.t (.t (.t (.t (.t (.t .h))))))))))).pk (.t (.t (.t (.t (.t (.t .h))))))).pk (.t (.t (.t (.t (.t (.t .h))))))).pk (.t (.t (.t (.t (.t (.t (.t (.t (.t .h)))))))))).pk (.t (.t (.t (.t (.t (.t (.t (.t (.t .h)))))))))).pk (.t (.t (.t (.t (.t (.t (.t (.t (.t .h)))))))))).pk (.t (.t (.t (.t (.t (.t (.t (.t (.t (.t .h))))))))))
 obtain ⟨F11, O11, kin1, hO1, hre1, hF1, hb1⟩ := k_3.go (.i (.i (.i (.i (.i (.i (.r (.r (.r (.r (.r .e)))))))))))
 refine Op_call [] 13 _ do_go21 (by kernel_rfl) (c_xof_Stream_Copy_k (F := F11) (O := O11) _ _ _ _ _ _ _ _ _ _ _ _ _ _ _ _ _ _ _ _ _ _ _ _ _ _ _ _ _ _ _ _ _ _ _ _ _ _ (Ro.of_old h_d_s_key k_3 hF1) rfl hc_d_s_key (Ro.of_old h_d_s_salt k_3 hF1) rfl hc_d_s_salt (Ro.of_old h_d_s_personal k_3 hF1) rfl hc_d_s_personal kin1 _ h_r_1) ?_
 rintro e_ w_2 ⟨g1, g2, A10, _, c11, A11, _, c12, g3, A12, _, c13, A13, _, c14, rfl, rfl, rfl, rfl, rfl, k_4⟩
 have k_5 := hb1 w_2 _ _ k_4 (.c (.c (.c (.c (.c (.c (.c (.c (.c (.c .n))))))))))
 refine ⟨pt g1 0, rfl, ?_⟩
 refine WLs 1 [] (.n 5 (pt g1 0) (.ss .a)) qe (by kernel_rfl) ?_
 refine WL_nil <| At_go <| W_seq <| W_reg <| WL_op <| Op_alloc [] 6 [I 0] (by kernel_rfl) k_5 ?_
 intro g4 w_3 k_6
 refine WL_op ?_
 have k_7 := k_6.sel (.kkkk (.kkkk (.kkkk (.kkkk .e))))
 refine Op_b [] 15 (I 0) [I 0] (Pt.at g4 0) k_7 rfl .all (by kernel_rfl) (by kernel_rfl) ?_
 intro w_4 k_8
 refine WL_nil <| At_go <| W_seq <| W_reg <| WLs 2 [] (.n 14 (.v (.func (.func 12) ⟨SV.vals []⟩ ⟨SV.vals [pt g_work 0, pt g_work1 0]⟩)) (.n 15 (.v (.func (.func 22) ⟨SV.vals []⟩ ⟨SV.vals [pt g0 0, pt g4 0]⟩)) (.kkk .z))) qe (by kernel_rfl) ?_
 refine WL_op ?_
 obtain ⟨r_2, h_r_2, hm⟩ := ob hm
 have k_9 := (((((((((((((((k_8.pk (.t (.t (.t (.t (.t .h)))))).pk (.t (.t (.t (.t (.t .h)))))).pk (.t (.t (.t .h)))).pk (.t (.t (.t .h)))).pk (.t (.t (.t (.t (.t (.t (.t (.t (.t (.t (.t (.t (.t .h)))))))))))))).pk (.t (.t (.t (.t (.t (.t (.t (.t (.t (.t (.t (.t (.t .h)))))))))))))).pk (.t (.t (.t (.t (.t (.t (.t (.t (.t (.t (.t (.t (.t .h)))))))))))))).pk (.t (.t (.t (.t (.t (.t (.t (.t (.t (.t (.t (.t (.t (.t (.t .h)))))))))))))))).pk (.t (.t (.t (.t (.t (.t (.t (.t (.t (.t (.t .h)))))))))))).pk (.t (.t (.t (.t (.t (.t (.t (.t (.t (.t (.t .h)))))))))))).pk (.t (.t (.t (.t (.t (.t (.t (.t (.t (.t (.t .h)))))))))))).pk (.t (.t (.t (.t (.t (.t (.t (.t (.t (.t (.t .h)))))))))))).pk (.t (.t (.t (.t (.t (.t (.t (.t (.t (.t (.t (.t .h))))))))))))).pk (.t (.t (.t (.t (.t (.t (.t (.t (.t (.t (.t (.t (.t .h)))))))))))))).pk (.t (.t (.t (.t (.t (.t (.t (.t (.t (.t (.t (.t (.t (.t .h))))))))))))))).pk (.t (.t (.t (.t (.t (.t (.t (.t (.t (.t (.t (.t (.t (.t (.t .h)))))))))))))))
 obtain ⟨F12, O12, kin2, hO2, hre2, hF2, hb2⟩ := k_9.go (.i (.i (.i (.i (.i (.i (.i (.i (.i (.i (.i (.i (.r (.r (.r (.r .e))))))))))))))))
 refine Op_callv [] 16 [] [.v (.func (.func 22) ⟨SV.vals []⟩ ⟨SV.vals [pt g0 0, pt g4 0]⟩)] [pt g_work 0, pt g_work1 0] do_go12 (by kernel_rfl) (c_dice_Dice_Order_1_k (F := F12) (O := O12) _ _ _ _ _ _ _ _ _ _ _ _ _ _ _ _ _ _ _ _ _ _ _ _ _ _ _ _ _ _ _ _ _ _ _ _ _ _ _ _ _ _ _ _ _ _ _ _ _ _ _ _ _ (Ro.of_old h_d_seed k_9 hF2) rfl hc_d_seed (Ro.of_old h_d_s_key k_9 hF2) rfl hc_d_s_key (Ro.of_old h_d_s_salt k_9 hF2) rfl hc_d_s_salt (Ro.of_old h_d_s_personal k_9 hF2) rfl hc_d_s_personal kin2 _ h_r_2) ?_
 rcases r_2 with r_3 | r_4
 · simp only [Sum.elim_inl, Sum.elim_inr] at hm
   rintro e_ w_5 ⟨A14, _, c15, A15, _, c16, A16, _, c17, g5, _, c18, A17, _, c19, rfl, rfl, rfl, rfl, rfl, rfl, k_10⟩
   have k_11 := hb2 w_5 _ _ k_10 (.c (.c (.c (.c (.c (.c (.c (.c (.c (.c (.c (.c (.c .n)))))))))))))
   refine ⟨.tup [], rfl, ?_⟩
   refine WL_nil <| At_go <| W_seq <| W_seq <| W_q [] (.n 18 (.b (decide (r_3.2.2.2.2.2.2.2.2.2.2.2.2.2.2.2.1 ≠ 0))) (.sss .a)) (qB k_11 9 rfl 0 (I r_3.2.2.2.2.2.2.2.2.2.2.2.2.2.2.2.1) (by kernel_rfl) <| qe) (by kernel_rfl) ?_
   refine At_go <| W_condp (r_3.2.2.2.2.2.2.2.2.2.2.2.2.2.2.2.1 ≠ 0) (by kernel_rfl) (fun hc => ?_) (fun hc => ?_)
   · rw [if_pos hc] at hm
     cases hm
   rw [if_neg hc] at hm
   refine W_skip <| At_go <| W_seq <| W_q [] (.n 4 (I r_3.2.2.2.2.2.2.2.2.2.2.2.2.2.2.2.1) .z) (qB k_11 9 rfl 0 (I r_3.2.2.2.2.2.2.2.2.2.2.2.2.2.2.2.1) (by kernel_rfl) <| qe) (by kernel_rfl) ?_
   refine At_go <| W_ret ?_
   obtain rfl := Option.some.inj hm
   refine At_rt [I r_3.2.2.2.2.2.2.2.2.2.2.2.2.2.2.2.1] qe (by kernel_rfl) ?_
   have k_14 := k_11.sel (.kkkk (.kkkk (.ss (.kk (.k .z)))))
   exact ⟨A14, r_3.2.2.2.1.length, c15, A15, r_3.2.2.2.2.2.2.2.1.length, c16, A16, r_3.2.2.2.2.2.2.2.2.1.length, c17, g5, r_3.2.2.2.2.2.2.2.2.2.2.2.1.length, c18, A17, r_3.2.2.2.2.2.2.2.2.2.2.2.2.2.2.2.2.2.length, c19, k_14.len 1 rfl, k_14.len 3 rfl, k_14.len 4 rfl, k_14.shlen 6 rfl, k_14.len 10 rfl, rfl, k_14⟩
 · simp only [Sum.elim_inl, Sum.elim_inr] at hm
   rintro e_ w_7 ⟨A18, _, c20, A19, _, c21, A20, _, c22, A21, _, c23, rfl, rfl, rfl, rfl, rfl, k_15⟩
   have k_16 := hb2 w_7 _ _ k_15 (.c (.c (.c (.c (.c (.c (.c (.c (.c (.c (.c (.c .n))))))))))))
   refine ⟨.tup [], rfl, ?_⟩
   refine WL_nil <| At_go <| W_seq <| W_seq <| W_q [] (.n 18 (.b (decide (r_4.2.2.2.2.2.2.2.2.2.2.2.2.2.2.1 ≠ 0))) (.sss .a)) (qB k_16 8 rfl 0 (I r_4.2.2.2.2.2.2.2.2.2.2.2.2.2.2.1) (by kernel_rfl) <| qe) (by kernel_rfl) ?_
   refine At_go <| W_condp (r_4.2.2.2.2.2.2.2.2.2.2.2.2.2.2.1 ≠ 0) (by kernel_rfl) (fun hc0 => ?_) (fun hc0 => ?_)
   · rw [if_pos hc0] at hm
     cases hm
   rw [if_neg hc0] at hm
   refine W_skip <| At_go <| W_seq <| W_q [] (.n 4 (I r_4.2.2.2.2.2.2.2.2.2.2.2.2.2.2.1) .z) (qB k_16 8 rfl 0 (I r_4.2.2.2.2.2.2.2.2.2.2.2.2.2.2.1) (by kernel_rfl) <| qe) (by kernel_rfl) ?_
   refine At_go <| W_ret ?_
   obtain rfl := Option.some.inj hm
   refine At_rt [I r_4.2.2.2.2.2.2.2.2.2.2.2.2.2.2.1] qe (by kernel_rfl) ?_
   have k_19 := k_16.sel (.kkkk (.kk (.k (.ss (.kk (.k .z))))))
   exact ⟨A18, r_4.2.2.2.1.length, c20, A19, r_4.2.2.2.2.2.2.2.1.length, c21, A20, r_4.2.2.2.2.2.2.2.2.1.length, c22, A21, r_4.2.2.2.2.2.2.2.2.2.2.2.2.2.2.2.2.length, c23, k_19.len 1 rfl, k_19.len 3 rfl, k_19.len 4 rfl, k_19.len 9 rfl, rfl, k_19⟩

theorem c_dice_Dice_Order_k {F O : Nat → Prop} {w : World} (d_seed : List UInt8) (d_s_key : List UInt8) (d_s_salt : List UInt8) (d_s_personal : List UInt8) (d_s_n_kind : Int) (d_s_n_digest : Int) (d_s_n_block : List UInt8) (d_s_n_key : List UInt8) (d_s_n_last : Bool) (d_s_n_written : UInt64) (d_s_n_e_h : Vec UInt64 8) (d_s_n_e_count_Lo : UInt64) (d_s_n_e_count_Hi : UInt64) (d_s_n_e_held : List UInt8) (d_s_n_e_block : Int) (d_s_at : UInt64) (d_s_now : Vec UInt8 64) (d_s_have : Int) (n : Int) (g_d : Nat) (A_d_seed : Option Addr) (n_d_seed : Nat) (c_d_seed : Nat) (g_d_s : Nat) (A_d_s_key : Option Addr) (n_d_s_key : Nat) (c_d_s_key : Nat) (A_d_s_salt : Option Addr) (n_d_s_salt : Nat) (c_d_s_salt : Nat) (A_d_s_personal : Option Addr) (n_d_s_personal : Nat) (c_d_s_personal : Nat) (g_d_s_n : Nat) (A_d_s_n_block : Option Addr) (n_d_s_n_block : Nat) (c_d_s_n_block : Nat) (A_d_s_n_key : Option Addr) (n_d_s_n_key : Nat) (c_d_s_n_key : Nat) (g_d_s_n_e : Nat) (A_d_s_n_e_held : Option Addr) (n_d_s_n_e_held : Nat) (c_d_s_n_e_held : Nat) (h_d_seed : Ro F w A_d_seed (e8.all d_seed)) (hn_d_seed : d_seed.length = n_d_seed) (hc_d_seed : n_d_seed ≤ c_d_seed) (h_d_s_key : Ro F w A_d_s_key (e8.all d_s_key)) (hn_d_s_key : d_s_key.length = n_d_s_key) (hc_d_s_key : n_d_s_key ≤ c_d_s_key) (h_d_s_salt : Ro F w A_d_s_salt (e8.all d_s_salt)) (hn_d_s_salt : d_s_salt.length = n_d_s_salt) (hc_d_s_salt : n_d_s_salt ≤ c_d_s_salt) (h_d_s_personal : Ro F w A_d_s_personal (e8.all d_s_personal)) (hn_d_s_personal : d_s_personal.length = n_d_s_personal) (hc_d_s_personal : n_d_s_personal ≤ c_d_s_personal) (k : Cx F O w w [Bx 42 g_d [sl A_d_seed n_d_seed c_d_seed, pt g_d_s 0], Bx 67 g_d_s [I 1, I 64, .u32 4294967295, .u64 274877906944, .b false, sl A_d_s_key n_d_s_key c_d_s_key, sl A_d_s_salt n_d_s_salt c_d_s_salt, sl A_d_s_personal n_d_s_personal c_d_s_personal, pt g_d_s_n 0, sl none 0 0, .u64 d_s_at, .ar e8 d_s_now, I d_s_have, .v (.func (.func 36) ⟨SV.vals [pt g_d_s 0]⟩ ⟨SV.vals []⟩)], Bx 114 g_d_s_n [I d_s_n_kind, I d_s_n_digest, sl A_d_s_n_block n_d_s_n_block c_d_s_n_block, sl A_d_s_n_key n_d_s_n_key c_d_s_n_key, .b d_s_n_last, .u64 d_s_n_written, .v (.iface 141 (SV.val (pt g_d_s_n_e 0)))], Ow e8 A_d_s_n_block n_d_s_n_block c_d_s_n_block d_s_n_block, Ow e8 A_d_s_n_key n_d_s_n_key c_d_s_n_key d_s_n_key, Bx 147 g_d_s_n_e [.ar e64 d_s_n_e_h, .u64 d_s_n_e_count_Lo, .u64 d_s_n_e_count_Hi, sl A_d_s_n_e_held n_d_s_n_e_held c_d_s_n_e_held, I d_s_n_e_block, .v (.func (.func 83) ⟨SV.vals []⟩ ⟨SV.vals []⟩), .v (.func (.func 84) ⟨SV.vals []⟩ ⟨SV.vals []⟩)], Ow e8 A_d_s_n_e_held n_d_s_n_e_held c_d_s_n_e_held d_s_n_e_held]) (r : (List Int × Int × Vec UInt64 8 × UInt64 × UInt64 × List UInt8 × Int × Int × Int × List UInt8 × List UInt8 × Bool × UInt64 × UInt64 × Vec UInt8 64 × Int) ⊕ (List Int × Int × Vec UInt64 8 × UInt64 × UInt64 × List UInt8 × Int × Int × Int × List UInt8 × List UInt8 × Bool × UInt64 × List UInt8 × UInt64 × Vec UInt8 64 × Int)) (hm : m_dice_Dice_Order_k d_seed d_s_key d_s_salt d_s_personal d_s_n_kind d_s_n_digest d_s_n_block d_s_n_key d_s_n_last d_s_n_written d_s_n_e_h d_s_n_e_count_Lo d_s_n_e_count_Hi d_s_n_e_held d_s_n_e_block d_s_at d_s_now d_s_have n = some r) :
    Calls Tryz.prog 6 (vals [pt g_d 0, I n]) w (fun e w' => match r with | .inl r0 => ∃ A n1 c A1 n2 c1 A2 n3 c2 A3 n4 c3, r0.1.length = n1 ∧ r0.2.2.2.2.2.1.length = n2 ∧ r0.2.2.2.2.2.2.2.2.2.1.length = n3 ∧ r0.2.2.2.2.2.2.2.2.2.2.1.length = n4 ∧ e = .returned (SV.val (.tup [sl A n1 c, I r0.2.1])) ∧ Cx F O w w' [Ow eI A n1 c r0.1, Bx 147 g_d_s_n_e [.ar e64 r0.2.2.1, .u64 r0.2.2.2.1, .u64 r0.2.2.2.2.1, sl A1 n2 c1, I r0.2.2.2.2.2.2.1, .v (.func (.func 83) ⟨SV.vals []⟩ ⟨SV.vals []⟩), .v (.func (.func 84) ⟨SV.vals []⟩ ⟨SV.vals []⟩)], Ow e8 A1 n2 c1 r0.2.2.2.2.2.1, Bx 114 g_d_s_n [I r0.2.2.2.2.2.2.2.1, I r0.2.2.2.2.2.2.2.2.1, sl A2 n3 c2, sl A3 n4 c3, .b r0.2.2.2.2.2.2.2.2.2.2.2.1, .u64 r0.2.2.2.2.2.2.2.2.2.2.2.2.1, .v (.iface 141 (SV.val (pt g_d_s_n_e 0)))], Ow e8 A2 n3 c2 r0.2.2.2.2.2.2.2.2.2.1, Ow e8 A3 n4 c3 r0.2.2.2.2.2.2.2.2.2.2.1, Bx 67 g_d_s [I 1, I 64, .u32 4294967295, .u64 274877906944, .b false, sl A_d_s_key n_d_s_key c_d_s_key, sl A_d_s_salt n_d_s_salt c_d_s_salt, sl A_d_s_personal n_d_s_personal c_d_s_personal, pt g_d_s_n 0, sl none 0 0, .u64 r0.2.2.2.2.2.2.2.2.2.2.2.2.2.1, .ar e8 r0.2.2.2.2.2.2.2.2.2.2.2.2.2.2.1, I r0.2.2.2.2.2.2.2.2.2.2.2.2.2.2.2, .v (.func (.func 36) ⟨SV.vals [pt g_d_s 0]⟩ ⟨SV.vals []⟩)], Bx 42 g_d [sl A_d_seed n_d_seed c_d_seed, pt g_d_s 0]] | .inr r1 => ∃ A4 n5 c4 A5 n6 c5 A6 n7 c6 A7 n8 c7 g n9 c8, r1.1.length = n5 ∧ r1.2.2.2.2.2.1.length = n6 ∧ r1.2.2.2.2.2.2.2.2.2.1.length = n7 ∧ r1.2.2.2.2.2.2.2.2.2.2.1.length = n8 ∧ r1.2.2.2.2.2.2.2.2.2.2.2.2.2.1.length = n9 ∧ e = .returned (SV.val (.tup [sl A4 n5 c4, I r1.2.1])) ∧ Cx F O w w' [Ow eI A4 n5 c4 r1.1, Bx 147 g_d_s_n_e [.ar e64 r1.2.2.1, .u64 r1.2.2.2.1, .u64 r1.2.2.2.2.1, sl A5 n6 c5, I r1.2.2.2.2.2.2.1, .v (.func (.func 83) ⟨SV.vals []⟩ ⟨SV.vals []⟩), .v (.func (.func 84) ⟨SV.vals []⟩ ⟨SV.vals []⟩)], Ow e8 A5 n6 c5 r1.2.2.2.2.2.1, Bx 114 g_d_s_n [I r1.2.2.2.2.2.2.2.1, I r1.2.2.2.2.2.2.2.2.1, sl A6 n7 c6, sl A7 n8 c7, .b r1.2.2.2.2.2.2.2.2.2.2.2.1, .u64 r1.2.2.2.2.2.2.2.2.2.2.2.2.1, .v (.iface 141 (SV.val (pt g_d_s_n_e 0)))], Ow e8 A6 n7 c6 r1.2.2.2.2.2.2.2.2.2.1, Ow e8 A7 n8 c7 r1.2.2.2.2.2.2.2.2.2.2.1, Bx 67 g_d_s [I 1, I 64, .u32 4294967295, .u64 274877906944, .b false, sl A_d_s_key n_d_s_key c_d_s_key, sl A_d_s_salt n_d_s_salt c_d_s_salt, sl A_d_s_personal n_d_s_personal c_d_s_personal, pt g_d_s_n 0, sl (some ⟨g, 0, none⟩) n9 c8, .u64 r1.2.2.2.2.2.2.2.2.2.2.2.2.2.2.1, .ar e8 r1.2.2.2.2.2.2.2.2.2.2.2.2.2.2.2.1, I r1.2.2.2.2.2.2.2.2.2.2.2.2.2.2.2.2, .v (.func (.func 63) ⟨SV.vals [pt g_d_s 0]⟩ ⟨SV.vals []⟩)], Sh (SH e8) [((some ⟨g, 0, none⟩), n9, c8)] [r1.2.2.2.2.2.2.2.2.2.2.2.2.2.1], Bx 42 g_d [sl A_d_seed n_d_seed c_d_seed, pt g_d_s 0]]) := by
 unfold m_dice_Dice_Order_k at hm
 subst hn_d_seed
 subst hn_d_s_key
 subst hn_d_s_salt
 subst hn_d_s_personal
 obtain rfl := k.len 3 rfl
 obtain rfl := k.len 4 rfl
 obtain rfl := k.len 6 rfl
 refine calls [pt g_d 0, I n] Tryz.func6 rfl (of_decide_eq_true (by kernel_rfl)) ?_
 refine W_seq <| W_reg <| WL_op <| Op_box [] 3 (I n) [I n] (by kernel_rfl) k ?_
 intro g0 w_ k_
 refine WLs 2 [] (.kk .z) qe (by kernel_rfl) ?_
 refine WL_nil <| At_go <| W_seq <| W_seq <| W_reg <| WLs 1 [] (.n 9 (pt g_d 0) .a) qe (by kernel_rfl) ?_
 refine WL_op ?_
 obtain ⟨r_, h_r_, hm⟩ := ob hm
 obtain ⟨F1, O1, kin, hO, hre, hF, hb⟩ := k_.go (.i (.i (.i (.i (.i (.i (.i (.r .e))))))))
 refine Op_call [] 10 _ do_go10 (by kernel_rfl) (c_dice_Dice_none_k (F := F1) (O := O1) _ _ _ _ _ _ _ _ _ _ _ _ _ _ _ _ _ _ _ _ _ _ _ _ _ _ _ _ _ _ _ _ _ _ _ _ _ _ _ _ _ _ _ (Ro.of_old h_d_seed k_ hF) rfl hc_d_seed (Ro.of_old h_d_s_key k_ hF) rfl hc_d_s_key (Ro.of_old h_d_s_salt k_ hF) rfl hc_d_s_salt (Ro.of_old h_d_s_personal k_ hF) rfl hc_d_s_personal kin _ h_r_) ?_
 rintro e_ w_1 ⟨A0, _, c0, A8, _, c9, A9, _, c10, rfl, rfl, rfl, rfl, k_1⟩
 have k_2 := hb w_1 _ _ k_1 (.c (.c (.c (.c (.c (.c (.c .n)))))))
 refine ⟨.b false, rfl, ?_⟩
 refine WL_nil <| At_go <| W_cond false (by kernel_rfl) (fun h => by cases h) (fun _ => ?_)
 refine W_skip <| At_go <| W_seq <| W_seq <| W_q [] (.n 16 (.b ((decide (n < 0)) || (decide (4096 < n)))) (.ss .a)) (qB k_2 7 rfl 0 (I n) (by kernel_rfl) <| qo (I n) <| qc (fun w => (decide (n < 0)) = false → ∃ a, (some ⟨g0, 0, none⟩ : Option Addr) = some a ∧ w.cell? a = some (SV.val (I n))) (fun hg0 => k_2.bld 7 rfl 0 (I n) (by kernel_rfl)) <| qe) (by kernel_rfl) ?_
 refine At_go <| W_cond ((decide (n < 0)) || (decide (4096 < n))) (by kernel_rfl) (fun hc => ?_) (fun hc => ?_)
 · rw [if_pos hc] at hm
   refine W_seq <| W_q [] (.n 4 (sl none 0 0) (.n 5 (I 1) .z)) qe (by kernel_rfl) ?_
   refine At_go <| W_ret (At_tr ?_)
   have k_3 := k_2.nil eI
   obtain rfl := Option.some.inj hm
   refine At_rt [sl none 0 0, I 1] qe (by kernel_rfl) ?_
   have k_4 := ((((((((k_3.pk (.t (.t (.t (.t (.t (.t .h))))))).pk (.t (.t (.t (.t (.t (.t .h))))))).pk (.t (.t (.t (.t (.t (.t .h))))))).pk (.t (.t (.t (.t (.t (.t .h))))))).pk (.t (.t (.t (.t (.t (.t .h))))))).pk (.t (.t (.t (.t (.t (.t .h))))))).pk (.t (.t (.t (.t (.t (.t .h))))))).pk (.t (.t (.t (.t (.t (.t (.t (.t .h))))))))).sel (.kkkk (.kkkk .z))
   exact ⟨none, 0, 0, A0, r_.2.2.2.1.length, c0, A8, r_.2.2.2.2.2.2.2.1.length, c9, A9, r_.2.2.2.2.2.2.2.2.1.length, c10, k_4.len 0 rfl, k_4.len 2 rfl, k_4.len 4 rfl, k_4.len 5 rfl, rfl, k_4⟩
 rw [if_neg (by rw [hc]; decide)] at hm
 refine W_skip <| At_go <| W_seq <| W_reg <| WLs 1 [] (.n 17 (I n) (.s .a)) (qB k_2 7 rfl 0 (I n) (by kernel_rfl) <| qe) (by kernel_rfl) ?_
 refine WL_op ?_
 obtain ⟨u, h_u, hm⟩ := ob hm
 refine Op_make do_tf29 eI (0 : Int) rfl [] 18 (I n) (I n) n n (by kernel_rfl) (need_some h_u).1 (need_some h_u).2.1 (need_some h_u).2.2 k_2 ?_
 intro A10 w_2 k_5
 refine WL_op <| Op_alloc [] 6 [sl none 0 0] (by kernel_rfl) k_5 ?_
 intro g1 w_3 k_6
 refine WL_op ?_
 have k_7 := k_6.sel (.kkkk (.kkkk (.kk .e)))
 refine Op_b [] 9 (sl A10 (Int.toNat n) (Int.toNat n)) [sl A10 (Int.toNat n) (Int.toNat n)] (Pt.at g1 0) k_7 rfl .all (by kernel_rfl) (by kernel_rfl) ?_
 intro w_4 k_8
 refine WL_nil <| At_go <| W_seq <| W_seq <| W_q [] (.n 19 (I n) (.n 20 (I 0) (.k (.ss .a)))) (qB k_8 7 rfl 0 (I n) (by kernel_rfl) <| qe) (by kernel_rfl) ?_
 refine At_go <| W_block ?_
 have k_10 := (((((((((k_8.pk (.t (.t (.t (.t (.t (.t (.t (.t .h))))))))).pk (.t (.t (.t (.t (.t (.t (.t (.t (.t .h)))))))))).pk (.t (.t (.t (.t (.t (.t (.t (.t (.t .h)))))))))).pk (.t (.t (.t (.t .h))))).pk (.t (.t (.t (.t .h))))).pk (.t (.t (.t (.t (.t (.t (.t .h)))))))).pk (.t (.t (.t (.t (.t (.t (.t .h)))))))).pk (.t (.t (.t (.t (.t (.t (.t .h)))))))).pk (.t (.t (.t (.t (.t (.t (.t (.t .h))))))))).pk (.t (.t (.t (.t (.t (.t (.t (.t (.t .h)))))))))
 refine W_lp (m_dice_Dice_Order_k_l0 d_seed d_s_key d_s_salt d_s_personal n r_) (fun s L wr => ∃ (l : List Int) (x_0 : Int), (l, x_0) = s ∧ L = [(0, pt g_d 0), (3, pt g0 0), (6, pt g1 0), (19, I n), (20, I x_0)] ∧ Cx F O w wr [Bx 42 g_d [sl A_d_seed d_seed.length c_d_seed, pt g_d_s 0], Bx 67 g_d_s [I 1, I 64, .u32 4294967295, .u64 274877906944, .b false, sl A_d_s_key d_s_key.length c_d_s_key, sl A_d_s_salt d_s_salt.length c_d_s_salt, sl A_d_s_personal d_s_personal.length c_d_s_personal, pt g_d_s_n 0, sl none 0 0, .u64 r_.2.2.2.2.2.2.2.2.2.2.2.1, .ar e8 r_.2.2.2.2.2.2.2.2.2.2.2.2.1, I r_.2.2.2.2.2.2.2.2.2.2.2.2.2, .v (.func (.func 36) ⟨SV.vals [pt g_d_s 0]⟩ ⟨SV.vals []⟩)], Bx 114 g_d_s_n [I r_.2.2.2.2.2.1, I r_.2.2.2.2.2.2.1, sl A8 r_.2.2.2.2.2.2.2.1.length c9, sl A9 r_.2.2.2.2.2.2.2.2.1.length c10, .b r_.2.2.2.2.2.2.2.2.2.1, .u64 r_.2.2.2.2.2.2.2.2.2.2.1, .v (.iface 141 (SV.val (pt g_d_s_n_e 0)))], Ow e8 A8 r_.2.2.2.2.2.2.2.1.length c9 r_.2.2.2.2.2.2.2.1, Ow e8 A9 r_.2.2.2.2.2.2.2.2.1.length c10 r_.2.2.2.2.2.2.2.2.1, Bx 147 g_d_s_n_e [.ar e64 r_.1, .u64 r_.2.1, .u64 r_.2.2.1, sl A0 r_.2.2.2.1.length c0, I r_.2.2.2.2.1, .v (.func (.func 83) ⟨SV.vals []⟩ ⟨SV.vals []⟩), .v (.func (.func 84) ⟨SV.vals []⟩ ⟨SV.vals []⟩)], Ow e8 A0 r_.2.2.2.1.length c0 r_.2.2.2.1, Bx 3 g0 [I n], Bx 29 g1 [sl A10 (Int.toNat n) (Int.toNat n)], Ow eI A10 (Int.toNat n) (Int.toNat n) l]) (List.replicate (Int.toNat n) (0 : Int), (0 : Int)) r hm ⟨List.replicate (Int.toNat n) (0 : Int), (0 : Int), rfl, rfl, k_10⟩ (by kernel_rfl) ?_
 intro s0_ L_ w_5 y0 hrel hstep hr0
 obtain ⟨l, x_0, rfl, rfl, k_9⟩ := hrel
 have hm := hstep; simp only [m_dice_Dice_Order_k_l0] at hm
 clear hstep
 refine W_seq <| W_q [] (.n 21 (.b (decide (x_0 < n))) .a) qe (by kernel_rfl) ?_
 refine At_go <| W_seq <| W_condp (x_0 < n) (by kernel_rfl) (fun hc1 => ?_) (fun hc1 => ?_)
 · rw [if_pos hc1] at hm
   refine W_skip <| At_go <| W_seq <| W_block <| W_seq <| W_q [] (.n 7 (I x_0) (.s .a)) qe (by kernel_rfl) ?_
   refine At_go <| W_reg ?_
   obtain ⟨x_33, h_x_33, hm⟩ := ob hm
   refine WLs 4 [] (.n 25 (I x_0) (.n 26 (.v (.pointer (ixA A10 x_0 1))) (.s .a))) (qB k_9 8 rfl 0 (sl A10 (Int.toNat n) (Int.toNat n)) (by kernel_rfl) <| qJ (k_9.rd 9 rfl) h_x_33 (k_9.len 9 rfl) <| qe) (by kernel_rfl) ?_
   refine WL_op <| Op_ost (E := eI) (kk := 0) (sv := I x_0) (svs := [I x_0]) [] 9 x_0 (by kernel_rfl) (Pt.ix1 A10 x_0 1) k_9 rfl (geti_some h_x_33).2 (E_ix (E := eI) (k_9.rd 9 rfl) (by decide) (geti_lt h_x_33).1 (geti_some h_x_33).2) rfl (Nat.le_of_ble_eq_true (by kernel_rfl)) ?_
   intro w_6 k_11
   refine WL_nil <| At_in <| At_go <| W_q [] (.n 20 (I (w64 (x_0 + 1))) (.ss (.kkkk .z))) qe (by kernel_rfl) ?_
   exact At_rd (l.set (Int.toNat x_0) x_0, w64 (x_0 + 1)) (Option.some.inj hm).symm ⟨l.set (Int.toNat x_0) x_0, w64 (x_0 + 1), rfl, rfl, k_11⟩ (by kernel_rfl)
 rw [if_neg hc1] at hm
 refine W_exit (At_te (At_te (At_ie ?_)))
 have hm := exit_of hm hr0
 refine At_go <| W_seq <| W_reg <| WLs 2 [] (.n 28 (pt g_d 0) (.n 29 (.v (.func (.func 12) ⟨SV.vals []⟩ ⟨SV.vals [pt g0 0, pt g1 0]⟩)) (.sss (.k .z)))) qe (by kernel_rfl) ?_
 refine WL_op ?_
 obtain ⟨r_1, h_r_1, hm⟩ := ob hm
 obtain ⟨F11, O11, kin1, hO1, hre1, hF1, hb1⟩ := k_9.go (.i (.i (.i (.i (.i (.i (.i (.i (.i (.i .e))))))))))
 refine Op_call [] 30 _ do_go11 (by kernel_rfl) (c_dice_Dice_drawn_o (F := F11) (O := O11) _ _ _ _ _ _ _ _ _ _ _ _ _ _ _ _ _ _ _ _ _ _ _ _ _ _ _ _ _ _ _ _ _ _ _ _ _ _ _ _ _ _ _ _ _ _ _ _ _ _ (Ro.of_old h_d_seed k_9 hF1) rfl hc_d_seed (Ro.of_old h_d_s_key k_9 hF1) rfl hc_d_s_key (Ro.of_old h_d_s_salt k_9 hF1) rfl hc_d_s_salt (Ro.of_old h_d_s_personal k_9 hF1) rfl hc_d_s_personal kin1 _ h_r_1) ?_
 rcases r_1 with r_2 | r_3
 · simp only [Sum.elim_inl, Sum.elim_inr] at hm
   rintro e_ w_7 ⟨A11, _, c11, A12, _, c12, A13, _, c13, g2, _, c14, A14, _, c15, rfl, rfl, rfl, rfl, rfl, rfl, k_12⟩
   have k_13 := hb1 w_7 _ _ k_12 (.c (.c (.c (.c (.c (.c (.c (.c (.c (.c (.c .n)))))))))))
   refine ⟨I r_2.1, rfl, ?_⟩
   have k_14 := k_13.sel (.kkkk (.kkkk (.s (.kk .e))))
   refine WLs 1 [] (.n 8 (I r_2.1) (.sss .a)) qe (by kernel_rfl) ?_
   refine WL_nil <| At_go <| W_seq <| W_seq <| W_q [] (.n 32 (.b (decide (r_2.1 ≠ 0))) .a) qe (by kernel_rfl) ?_
   refine At_go <| W_condp (r_2.1 ≠ 0) (by kernel_rfl) (fun hc2 => ?_) (fun hc2 => ?_)
   · rw [if_pos hc2] at hm
     refine W_seq <| W_q [] (.n 4 (sl none 0 0) (.n 5 (I r_2.1) .z)) qe (by kernel_rfl) ?_
     refine At_go <| W_ret (At_tr ?_)
     have k_15 := k_14.nil eI
     obtain rfl := Option.some.inj hm
     refine At_rt [sl none 0 0, I r_2.1] qe (by kernel_rfl) ?_
     have k_16 := (((((((((k_15.pk (.t (.t (.t (.t (.t (.t (.t .h)))))))).pk (.t (.t (.t (.t (.t (.t (.t .h)))))))).pk (.t (.t (.t (.t (.t (.t (.t .h)))))))).pk (.t (.t (.t (.t (.t (.t (.t .h)))))))).pk (.t (.t (.t (.t (.t (.t (.t .h)))))))).pk (.t (.t (.t (.t (.t (.t (.t .h)))))))).pk (.t (.t (.t (.t (.t (.t (.t .h)))))))).pk (.t (.t (.t (.t (.t (.t (.t .h)))))))).pk (.t (.t (.t (.t (.t (.t (.t (.t (.t (.t .h))))))))))).sel (.kkkk (.kkkk (.k .z)))
     exact ⟨none, 0, 0, A11, r_2.2.2.2.2.1.length, c11, A12, r_2.2.2.2.2.2.2.2.2.1.length, c12, A13, r_2.2.2.2.2.2.2.2.2.2.1.length, c13, g2, r_2.2.2.2.2.2.2.2.2.2.2.2.2.1.length, c14, k_16.len 0 rfl, k_16.len 2 rfl, k_16.len 4 rfl, k_16.len 5 rfl, k_16.shlen 7 rfl, rfl, k_16⟩
   rw [if_neg hc2] at hm
   refine W_skip <| At_go <| W_seq <| W_q [] (.n 4 (sl A14 r_2.2.2.2.2.2.2.2.2.2.2.2.2.2.2.2.2.2.length c15) (.n 5 (I 0) .z)) (qB k_14 8 rfl 0 (sl A14 r_2.2.2.2.2.2.2.2.2.2.2.2.2.2.2.2.2.2.length c15) (by kernel_rfl) <| qe) (by kernel_rfl) ?_
   refine At_go <| W_ret ?_
   obtain rfl := Option.some.inj hm
   refine At_rt [sl A14 r_2.2.2.2.2.2.2.2.2.2.2.2.2.2.2.2.2.2.length c15, I 0] qe (by kernel_rfl) ?_
   have k_17 := (((((((((k_14.pk (.t (.t (.t (.t (.t (.t (.t .h)))))))).pk (.t (.t (.t (.t (.t (.t (.t .h)))))))).pk (.t (.t (.t (.t (.t (.t (.t .h)))))))).pk (.t (.t (.t (.t (.t (.t (.t .h)))))))).pk (.t (.t (.t (.t (.t (.t (.t .h)))))))).pk (.t (.t (.t (.t (.t (.t (.t .h)))))))).pk (.t (.t (.t (.t (.t (.t (.t .h)))))))).pk (.t (.t (.t (.t (.t (.t (.t .h)))))))).pk (.t (.t (.t (.t (.t (.t (.t (.t (.t .h)))))))))).sel (.kkkk (.kkkk (.k .z)))
   exact ⟨A14, r_2.2.2.2.2.2.2.2.2.2.2.2.2.2.2.2.2.2.length, c15, A11, r_2.2.2.2.2.1.length, c11, A12, r_2.2.2.2.2.2.2.2.2.1.length, c12, A13, r_2.2.2.2.2.2.2.2.2.2.1.length, c13, g2, r_2.2.2.2.2.2.2.2.2.2.2.2.2.1.length, c14, k_17.len 0 rfl, k_17.len 2 rfl, k_17.len 4 rfl, k_17.len 5 rfl, k_17.shlen 7 rfl, rfl, k_17⟩
 · simp only [Sum.elim_inl, Sum.elim_inr] at hm
   rintro e_ w_8 ⟨A15, _, c16, A16, _, c17, A17, _, c18, A18, _, c19, rfl, rfl, rfl, rfl, rfl, k_18⟩
   have k_19 := hb1 w_8 _ _ k_18 (.c (.c (.c (.c (.c (.c (.c (.c (.c (.c .n))))))))))
   refine ⟨I r_3.1, rfl, ?_⟩
   have k_20 := k_19.sel (.kkkk (.kk (.k (.s (.kk .e)))))
   refine WLs 1 [] (.n 8 (I r_3.1) (.sss .a)) qe (by kernel_rfl) ?_
   refine WL_nil <| At_go <| W_seq <| W_seq <| W_q [] (.n 32 (.b (decide (r_3.1 ≠ 0))) .a) qe (by kernel_rfl) ?_
   refine At_go <| W_condp (r_3.1 ≠ 0) (by kernel_rfl) (fun hc3 => ?_) (fun hc3 => ?_)
   · rw [if_pos hc3] at hm
     refine W_seq <| W_q [] (.n 4 (sl none 0 0) (.n 5 (I r_3.1) .z)) qe (by kernel_rfl) ?_
     refine At_go <| W_ret (At_tr ?_)
     have k_21 := k_20.nil eI
     obtain rfl := Option.some.inj hm
     refine At_rt [sl none 0 0, I r_3.1] qe (by kernel_rfl) ?_
     have k_22 := ((((((((k_21.pk (.t (.t (.t (.t (.t (.t .h))))))).pk (.t (.t (.t (.t (.t (.t .h))))))).pk (.t (.t (.t (.t (.t (.t .h))))))).pk (.t (.t (.t (.t (.t (.t .h))))))).pk (.t (.t (.t (.t (.t (.t .h))))))).pk (.t (.t (.t (.t (.t (.t .h))))))).pk (.t (.t (.t (.t (.t (.t .h))))))).pk (.t (.t (.t (.t (.t (.t (.t (.t (.t .h)))))))))).sel (.kkkk (.kkkk .z))
     exact ⟨none, 0, 0, A15, r_3.2.2.2.2.1.length, c16, A16, r_3.2.2.2.2.2.2.2.2.1.length, c17, A17, r_3.2.2.2.2.2.2.2.2.2.1.length, c18, k_22.len 0 rfl, k_22.len 2 rfl, k_22.len 4 rfl, k_22.len 5 rfl, rfl, k_22⟩
   rw [if_neg hc3] at hm
   refine W_skip <| At_go <| W_seq <| W_q [] (.n 4 (sl A18 r_3.2.2.2.2.2.2.2.2.2.2.2.2.2.2.2.2.length c19) (.n 5 (I 0) .z)) (qB k_20 7 rfl 0 (sl A18 r_3.2.2.2.2.2.2.2.2.2.2.2.2.2.2.2.2.length c19) (by kernel_rfl) <| qe) (by kernel_rfl) ?_
   refine At_go <| W_ret ?_
   obtain rfl := Option.some.inj hm
   refine At_rt [sl A18 r_3.2.2.2.2.2.2.2.2.2.2.2.2.2.2.2.2.length c19, I 0] qe (by kernel_rfl) ?_
   have k_23 := ((((((((k_20.pk (.t (.t (.t (.t (.t (.t .h))))))).pk (.t (.t (.t (.t (.t (.t .h))))))).pk (.t (.t (.t (.t (.t (.t .h))))))).pk (.t (.t (.t (.t (.t (.t .h))))))).pk (.t (.t (.t (.t (.t (.t .h))))))).pk (.t (.t (.t (.t (.t (.t .h))))))).pk (.t (.t (.t (.t (.t (.t .h))))))).pk (.t (.t (.t (.t (.t (.t (.t (.t .h))))))))).sel (.kkkk (.kkkk .z))
   exact ⟨A18, r_3.2.2.2.2.2.2.2.2.2.2.2.2.2.2.2.2.length, c19, A15, r_3.2.2.2.2.1.length, c16, A16, r_3.2.2.2.2.2.2.2.2.1.length, c17, A17, r_3.2.2.2.2.2.2.2.2.2.1.length, c18, k_23.len 0 rfl, k_23.len 2 rfl, k_23.len 4 rfl, k_23.len 5 rfl, rfl, k_23⟩

theorem c_dice_Dice_Choose_k {F O : Nat → Prop} {w : World} (d_seed : List UInt8) (d_s_key : List UInt8) (d_s_salt : List UInt8) (d_s_personal : List UInt8) (d_s_n_kind : Int) (d_s_n_digest : Int) (d_s_n_block : List UInt8) (d_s_n_key : List UInt8) (d_s_n_last : Bool) (d_s_n_written : UInt64) (d_s_n_e_h : Vec UInt64 8) (d_s_n_e_count_Lo : UInt64) (d_s_n_e_count_Hi : UInt64) (d_s_n_e_held : List UInt8) (d_s_n_e_block : Int) (d_s_at : UInt64) (d_s_now : Vec UInt8 64) (d_s_have : Int) (n : Int) (k_ : Int) (g_d : Nat) (A_d_seed : Option Addr) (n_d_seed : Nat) (c_d_seed : Nat) (g_d_s : Nat) (A_d_s_key : Option Addr) (n_d_s_key : Nat) (c_d_s_key : Nat) (A_d_s_salt : Option Addr) (n_d_s_salt : Nat) (c_d_s_salt : Nat) (A_d_s_personal : Option Addr) (n_d_s_personal : Nat) (c_d_s_personal : Nat) (g_d_s_n : Nat) (A_d_s_n_block : Option Addr) (n_d_s_n_block : Nat) (c_d_s_n_block : Nat) (A_d_s_n_key : Option Addr) (n_d_s_n_key : Nat) (c_d_s_n_key : Nat) (g_d_s_n_e : Nat) (A_d_s_n_e_held : Option Addr) (n_d_s_n_e_held : Nat) (c_d_s_n_e_held : Nat) (h_d_seed : Ro F w A_d_seed (e8.all d_seed)) (hn_d_seed : d_seed.length = n_d_seed) (hc_d_seed : n_d_seed ≤ c_d_seed) (h_d_s_key : Ro F w A_d_s_key (e8.all d_s_key)) (hn_d_s_key : d_s_key.length = n_d_s_key) (hc_d_s_key : n_d_s_key ≤ c_d_s_key) (h_d_s_salt : Ro F w A_d_s_salt (e8.all d_s_salt)) (hn_d_s_salt : d_s_salt.length = n_d_s_salt) (hc_d_s_salt : n_d_s_salt ≤ c_d_s_salt) (h_d_s_personal : Ro F w A_d_s_personal (e8.all d_s_personal)) (hn_d_s_personal : d_s_personal.length = n_d_s_personal) (hc_d_s_personal : n_d_s_personal ≤ c_d_s_personal) (k : Cx F O w w [Bx 42 g_d [sl A_d_seed n_d_seed c_d_seed, pt g_d_s 0], Bx 67 g_d_s [I 1, I 64, .u32 4294967295, .u64 274877906944, .b false, sl A_d_s_key n_d_s_key c_d_s_key, sl A_d_s_salt n_d_s_salt c_d_s_salt, sl A_d_s_personal n_d_s_personal c_d_s_personal, pt g_d_s_n 0, sl none 0 0, .u64 d_s_at, .ar e8 d_s_now, I d_s_have, .v (.func (.func 36) ⟨SV.vals [pt g_d_s 0]⟩ ⟨SV.vals []⟩)], Bx 114 g_d_s_n [I d_s_n_kind, I d_s_n_digest, sl A_d_s_n_block n_d_s_n_block c_d_s_n_block, sl A_d_s_n_key n_d_s_n_key c_d_s_n_key, .b d_s_n_last, .u64 d_s_n_written, .v (.iface 141 (SV.val (pt g_d_s_n_e 0)))], Ow e8 A_d_s_n_block n_d_s_n_block c_d_s_n_block d_s_n_block, Ow e8 A_d_s_n_key n_d_s_n_key c_d_s_n_key d_s_n_key, Bx 147 g_d_s_n_e [.ar e64 d_s_n_e_h, .u64 d_s_n_e_count_Lo, .u64 d_s_n_e_count_Hi, sl A_d_s_n_e_held n_d_s_n_e_held c_d_s_n_e_held, I d_s_n_e_block, .v (.func (.func 83) ⟨SV.vals []⟩ ⟨SV.vals []⟩), .v (.func (.func 84) ⟨SV.vals []⟩ ⟨SV.vals []⟩)], Ow e8 A_d_s_n_e_held n_d_s_n_e_held c_d_s_n_e_held d_s_n_e_held]) (r : (List Int × Int × Vec UInt64 8 × UInt64 × UInt64 × List UInt8 × Int × Int × Int × List UInt8 × List UInt8 × Bool × UInt64 × UInt64 × Vec UInt8 64 × Int) ⊕ (List Int × Int × Vec UInt64 8 × UInt64 × UInt64 × List UInt8 × Int × Int × Int × List UInt8 × List UInt8 × Bool × UInt64 × List UInt8 × UInt64 × Vec UInt8 64 × Int)) (hm : m_dice_Dice_Choose_k d_seed d_s_key d_s_salt d_s_personal d_s_n_kind d_s_n_digest d_s_n_block d_s_n_key d_s_n_last d_s_n_written d_s_n_e_h d_s_n_e_count_Lo d_s_n_e_count_Hi d_s_n_e_held d_s_n_e_block d_s_at d_s_now d_s_have n k_ = some r) :
    Calls Tryz.prog 7 (vals [pt g_d 0, I n, I k_]) w (fun e w' => match r with | .inl r0 => ∃ A n1 c A1 n2 c1 A2 n3 c2 A3 n4 c3, r0.1.length = n1 ∧ r0.2.2.2.2.2.1.length = n2 ∧ r0.2.2.2.2.2.2.2.2.2.1.length = n3 ∧ r0.2.2.2.2.2.2.2.2.2.2.1.length = n4 ∧ e = .returned (SV.val (.tup [sl A n1 c, I r0.2.1])) ∧ Cx F O w w' [Ow eI A n1 c r0.1, Bx 147 g_d_s_n_e [.ar e64 r0.2.2.1, .u64 r0.2.2.2.1, .u64 r0.2.2.2.2.1, sl A1 n2 c1, I r0.2.2.2.2.2.2.1, .v (.func (.func 83) ⟨SV.vals []⟩ ⟨SV.vals []⟩), .v (.func (.func 84) ⟨SV.vals []⟩ ⟨SV.vals []⟩)], Ow e8 A1 n2 c1 r0.2.2.2.2.2.1, Bx 114 g_d_s_n [I r0.2.2.2.2.2.2.2.1, I r0.2.2.2.2.2.2.2.2.1, sl A2 n3 c2, sl A3 n4 c3, .b r0.2.2.2.2.2.2.2.2.2.2.2.1, .u64 r0.2.2.2.2.2.2.2.2.2.2.2.2.1, .v (.iface 141 (SV.val (pt g_d_s_n_e 0)))], Ow e8 A2 n3 c2 r0.2.2.2.2.2.2.2.2.2.1, Ow e8 A3 n4 c3 r0.2.2.2.2.2.2.2.2.2.2.1, Bx 67 g_d_s [I 1, I 64, .u32 4294967295, .u64 274877906944, .b false, sl A_d_s_key n_d_s_key c_d_s_key, sl A_d_s_salt n_d_s_salt c_d_s_salt, sl A_d_s_personal n_d_s_personal c_d_s_personal, pt g_d_s_n 0, sl none 0 0, .u64 r0.2.2.2.2.2.2.2.2.2.2.2.2.2.1, .ar e8 r0.2.2.2.2.2.2.2.2.2.2.2.2.2.2.1, I r0.2.2.2.2.2.2.2.2.2.2.2.2.2.2.2, .v (.func (.func 36) ⟨SV.vals [pt g_d_s 0]⟩ ⟨SV.vals []⟩)], Bx 42 g_d [sl A_d_seed n_d_seed c_d_seed, pt g_d_s 0]] | .inr r1 => ∃ A4 n5 c4 A5 n6 c5 A6 n7 c6 A7 n8 c7 g n9 c8, r1.1.length = n5 ∧ r1.2.2.2.2.2.1.length = n6 ∧ r1.2.2.2.2.2.2.2.2.2.1.length = n7 ∧ r1.2.2.2.2.2.2.2.2.2.2.1.length = n8 ∧ r1.2.2.2.2.2.2.2.2.2.2.2.2.2.1.length = n9 ∧ e = .returned (SV.val (.tup [sl A4 n5 c4, I r1.2.1])) ∧ Cx F O w w' [Ow eI A4 n5 c4 r1.1, Bx 147 g_d_s_n_e [.ar e64 r1.2.2.1, .u64 r1.2.2.2.1, .u64 r1.2.2.2.2.1, sl A5 n6 c5, I r1.2.2.2.2.2.2.1, .v (.func (.func 83) ⟨SV.vals []⟩ ⟨SV.vals []⟩), .v (.func (.func 84) ⟨SV.vals []⟩ ⟨SV.vals []⟩)], Ow e8 A5 n6 c5 r1.2.2.2.2.2.1, Bx 114 g_d_s_n [I r1.2.2.2.2.2.2.2.1, I r1.2.2.2.2.2.2.2.2.1, sl A6 n7 c6, sl A7 n8 c7, .b r1.2.2.2.2.2.2.2.2.2.2.2.1, .u64 r1.2.2.2.2.2.2.2.2.2.2.2.2.1, .v (.iface 141 (SV.val (pt g_d_s_n_e 0)))], Ow e8 A6 n7 c6 r1.2.2.2.2.2.2.2.2.2.1, Ow e8 A7 n8 c7 r1.2.2.2.2.2.2.2.2.2.2.1, Bx 67 g_d_s [I 1, I 64, .u32 4294967295, .u64 274877906944, .b false, sl A_d_s_key n_d_s_key c_d_s_key, sl A_d_s_salt n_d_s_salt c_d_s_salt, sl A_d_s_personal n_d_s_personal c_d_s_personal, pt g_d_s_n 0, sl (some ⟨g, 0, none⟩) n9 c8, .u64 r1.2.2.2.2.2.2.2.2.2.2.2.2.2.2.1, .ar e8 r1.2.2.2.2.2.2.2.2.2.2.2.2.2.2.2.1, I r1.2.2.2.2.2.2.2.2.2.2.2.2.2.2.2.2, .v (.func (.func 63) ⟨SV.vals [pt g_d_s 0]⟩ ⟨SV.vals []⟩)], Sh (SH e8) [((some ⟨g, 0, none⟩), n9, c8)] [r1.2.2.2.2.2.2.2.2.2.2.2.2.2.1], Bx 42 g_d [sl A_d_seed n_d_seed c_d_seed, pt g_d_s 0]]) := by
 unfold m_dice_Dice_Choose_k at hm
 subst hn_d_seed
 subst hn_d_s_key
 subst hn_d_s_salt
 subst hn_d_s_personal
 obtain rfl := k.len 3 rfl
 obtain rfl := k.len 4 rfl
 obtain rfl := k.len 6 rfl
 refine calls [pt g_d 0, I n, I k_] Tryz.func7 rfl (of_decide_eq_true (by kernel_rfl)) ?_
 refine W_seq <| W_q [] .a qe (by kernel_rfl) ?_
 refine At_go <| W_seq <| W_seq <| W_reg <| WLs 1 [] (.n 10 (pt g_d 0) .a) qe (by kernel_rfl) ?_
 refine WL_op ?_
 obtain ⟨r_, h_r_, hm⟩ := ob hm
 obtain ⟨F1, O1, kin, hO, hre, hF, hb⟩ := k.go (.i (.i (.i (.i (.i (.i (.i .e)))))))
 refine Op_call [] 11 _ do_go10 (by kernel_rfl) (c_dice_Dice_none_k (F := F1) (O := O1) _ _ _ _ _ _ _ _ _ _ _ _ _ _ _ _ _ _ _ _ _ _ _ _ _ _ _ _ _ _ _ _ _ _ _ _ _ _ _ _ _ _ _ (Ro.of_old h_d_seed k hF) rfl hc_d_seed (Ro.of_old h_d_s_key k hF) rfl hc_d_s_key (Ro.of_old h_d_s_salt k hF) rfl hc_d_s_salt (Ro.of_old h_d_s_personal k hF) rfl hc_d_s_personal kin _ h_r_) ?_
 rintro e_ w_ ⟨A0, _, c0, A8, _, c9, A9, _, c10, rfl, rfl, rfl, rfl, k_1⟩
 have k_2 := hb w_ _ _ k_1 (.c (.c (.c (.c (.c (.c (.c .n)))))))
 refine ⟨.b false, rfl, ?_⟩
 refine WL_nil <| At_go <| W_cond false (by kernel_rfl) (fun h => by cases h) (fun _ => ?_)
 refine W_skip <| At_go <| W_seq <| W_seq <| W_q [] (.n 26 (.b ((((decide (n < 0)) || (decide (4096 < n))) || (decide (k_ < 0))) || (decide (n < k_)))) (.ss .a)) qe (by kernel_rfl) ?_
 refine At_go <| W_cond ((((decide (n < 0)) || (decide (4096 < n))) || (decide (k_ < 0))) || (decide (n < k_))) (by kernel_rfl) (fun hc => ?_) (fun hc => ?_)
 · rw [if_pos hc] at hm
   refine W_seq <| W_q [] (.n 6 (sl none 0 0) (.n 7 (I 1) .z)) qe (by kernel_rfl) ?_
   refine At_go <| W_ret (At_tr ?_)
   have k_3 := k_2.nil eI
   obtain rfl := Option.some.inj hm
   refine At_rt [sl none 0 0, I 1] qe (by kernel_rfl) ?_
   have k_4 := (((((((k_3.pk (.t (.t (.t (.t (.t (.t .h))))))).pk (.t (.t (.t (.t (.t (.t .h))))))).pk (.t (.t (.t (.t (.t (.t .h))))))).pk (.t (.t (.t (.t (.t (.t .h))))))).pk (.t (.t (.t (.t (.t (.t .h))))))).pk (.t (.t (.t (.t (.t (.t .h))))))).pk (.t (.t (.t (.t (.t (.t .h))))))).pk (.t (.t (.t (.t (.t (.t (.t .h)))))))
   exact ⟨none, 0, 0, A0, r_.2.2.2.1.length, c0, A8, r_.2.2.2.2.2.2.2.1.length, c9, A9, r_.2.2.2.2.2.2.2.2.1.length, c10, k_4.len 0 rfl, k_4.len 2 rfl, k_4.len 4 rfl, k_4.len 5 rfl, rfl, k_4⟩
 rw [if_neg (by rw [hc]; decide)] at hm
 refine W_skip <| At_go <| W_seq <| W_reg <| WLs 2 [] (.n 28 (pt g_d 0) (.n 29 (I n) (.sss .a))) qe (by kernel_rfl) ?_
 refine WL_op ?_
 obtain ⟨r_1, h_r_1, hm⟩ := ob hm
 have k_5 := ((((((k_2.pk (.t .h)).pk (.t .h)).pk (.t (.t (.t (.t .h))))).pk (.t (.t (.t (.t .h))))).pk (.t (.t (.t (.t .h))))).pk (.t (.t (.t (.t (.t .h)))))).pk (.t (.t (.t (.t (.t (.t .h))))))
 obtain ⟨F11, O11, kin1, hO1, hre1, hF1, hb1⟩ := k_5.go (.i (.i (.i (.i (.i (.i (.i .e)))))))
 refine Op_call [] 30 _ do_go6 (by kernel_rfl) (c_dice_Dice_Order_k (F := F11) (O := O11) _ _ _ _ _ _ _ _ _ _ _ _ _ _ _ _ _ _ _ _ _ _ _ _ _ _ _ _ _ _ _ _ _ _ _ _ _ _ _ _ _ _ _ _ (Ro.of_old h_d_seed k_5 hF1) rfl hc_d_seed (Ro.of_old h_d_s_key k_5 hF1) rfl hc_d_s_key (Ro.of_old h_d_s_salt k_5 hF1) rfl hc_d_s_salt (Ro.of_old h_d_s_personal k_5 hF1) rfl hc_d_s_personal kin1 _ h_r_1) ?_
 rcases r_1 with r_2 | r_3
 · simp only [Sum.elim_inl, Sum.elim_inr] at hm
   rintro e_ w_1 ⟨A10, _, c11, A11, _, c12, A12, _, c13, A13, _, c14, rfl, rfl, rfl, rfl, rfl, k_6⟩
   have k_7 := hb1 w_1 _ _ k_6 (.c (.c (.c (.c (.c (.c (.c (.c .n))))))))
   refine ⟨.tup [sl A10 r_2.1.length c11, I r_2.2.1], rfl, ?_⟩
   refine WLs 5 [] (.n 8 (sl A10 r_2.1.length c11) (.n 9 (I r_2.2.1) (.sss .a))) qe (by kernel_rfl) ?_
   refine WL_nil <| At_go <| W_seq <| W_seq <| W_q [] (.n 34 (.b (decide (r_2.2.1 ≠ 0))) .a) qe (by kernel_rfl) ?_
   refine At_go <| W_condp (r_2.2.1 ≠ 0) (by kernel_rfl) (fun hc1 => ?_) (fun hc1 => ?_)
   · rw [if_pos hc1] at hm
     refine W_seq <| W_q [] (.n 6 (sl none 0 0) (.n 7 (I r_2.2.1) .z)) qe (by kernel_rfl) ?_
     refine At_go <| W_ret (At_tr ?_)
     have k_8 := k_7.nil eI
     obtain rfl := Option.some.inj hm
     refine At_rt [sl none 0 0, I r_2.2.1] qe (by kernel_rfl) ?_
     have k_9 := ((((((((k_8.pk (.t (.t (.t (.t (.t (.t (.t .h)))))))).pk (.t (.t (.t (.t (.t (.t (.t .h)))))))).pk (.t (.t (.t (.t (.t (.t (.t .h)))))))).pk (.t (.t (.t (.t (.t (.t (.t .h)))))))).pk (.t (.t (.t (.t (.t (.t (.t .h)))))))).pk (.t (.t (.t (.t (.t (.t (.t .h)))))))).pk (.t (.t (.t (.t (.t (.t (.t .h)))))))).pk (.t (.t (.t (.t (.t (.t (.t (.t .h))))))))).sel (.kkkk (.kkkk .z))
     exact ⟨none, 0, 0, A11, r_2.2.2.2.2.2.1.length, c12, A12, r_2.2.2.2.2.2.2.2.2.2.1.length, c13, A13, r_2.2.2.2.2.2.2.2.2.2.2.1.length, c14, k_9.len 0 rfl, k_9.len 2 rfl, k_9.len 4 rfl, k_9.len 5 rfl, rfl, k_9⟩
   rw [if_neg hc1] at hm
   refine W_skip <| At_go <| W_seq ?_
   obtain ⟨b, h_b, hm⟩ := ob hm
   have hs := slc_some h_b
   have hl := slc_len h_b
   have hn : r_2.1.length = r_2.1.length := (k_7.len 0 rfl)
   have hc2 : r_2.1.length ≤ c11 := (k_7.lec 0 rfl)
   obtain ⟨u, h_u, hm⟩ := ob hm
   have hq := need_some h_u
   have hc3 : b.length ≤ Int.toNat k_ := by omega
   refine W_q [] (.n 8 (sl A10 b.length (Int.toNat k_)) .z) (qp (0 ≤ k_ ∧ k_ ≤ ((c11 : Nat) : Int)) (by omega) <| qp (0 ≤ k_ ∧ k_ ≤ ((Int.toNat k_ : Nat) : Int)) (by omega) <| qo (.v (.slice A10 b.length (Int.toNat k_))) <| qp (Value.slice (slA A10 0 (Int.toNat k_) 1) (Int.toNat k_ - 0) (Int.toNat k_ - 0) = .slice A10 b.length (Int.toNat k_)) (slx0 _ _ _ _ _ (by omega)) <| qe) (by kernel_rfl) ?_
   refine At_go <| W_seq <| W_reg <| WLs 1 [] (.n 40 (sl A10 b.length (Int.toNat k_)) .a) qe (by kernel_rfl) ?_
   refine WL_op ?_
   have k_10 := k_7.pre 0 rfl b.length (Int.toNat k_) b (by omega) (by omega) (by omega) (slc_pre h_b rfl)
   obtain ⟨u1, h_u1, hm⟩ := ob hm
   refine Op_call [] 41 _ do_go14 (by kernel_rfl) (do_sort14 (i := 0) k_10 rfl (by have h2 := need_some h_u1; have h3 := k_10.len 0 rfl; omega)) ?_
   rintro e_ w_2 ⟨rfl, k_11⟩
   refine ⟨.tup [], rfl, ?_⟩
   refine WL_nil <| At_go <| W_seq <| W_q [] (.n 6 (sl A10 b.length (Int.toNat k_)) (.n 7 (I 0) .z)) qe (by kernel_rfl) ?_
   refine At_go <| W_ret ?_
   obtain rfl := Option.some.inj hm
   refine At_rt [sl A10 b.length (Int.toNat k_), I 0] qe (by kernel_rfl) ?_
   exact ⟨A10, b.length, Int.toNat k_, A11, r_2.2.2.2.2.2.1.length, c12, A12, r_2.2.2.2.2.2.2.2.2.2.1.length, c13, A13, r_2.2.2.2.2.2.2.2.2.2.2.1.length, c14, k_11.len 0 rfl, k_11.len 2 rfl, k_11.len 4 rfl, k_11.len 5 rfl, rfl, k_11⟩
 · simp only [Sum.elim_inl, Sum.elim_inr] at hm
   rintro e_ w_3 ⟨A14, _, c15, A15, _, c16, A16, _, c17, A17, _, c18, g0, _, c19, rfl, rfl, rfl, rfl, rfl, rfl, k_12⟩
   have k_13 := hb1 w_3 _ _ k_12 (.c (.c (.c (.c (.c (.c (.c (.c (.c .n)))))))))
   refine ⟨.tup [sl A14 r_3.1.length c15, I r_3.2.1], rfl, ?_⟩
   refine WLs 5 [] (.n 8 (sl A14 r_3.1.length c15) (.n 9 (I r_3.2.1) (.sss .a))) qe (by kernel_rfl) ?_
   refine WL_nil <| At_go <| W_seq <| W_seq <| W_q [] (.n 34 (.b (decide (r_3.2.1 ≠ 0))) .a) qe (by kernel_rfl) ?_
   refine At_go <| W_condp (r_3.2.1 ≠ 0) (by kernel_rfl) (fun hc4 => ?_) (fun hc4 => ?_)
   · rw [if_pos hc4] at hm
     refine W_seq <| W_q [] (.n 6 (sl none 0 0) (.n 7 (I r_3.2.1) .z)) qe (by kernel_rfl) ?_
     refine At_go <| W_ret (At_tr ?_)
     have k_14 := k_13.nil eI
     obtain rfl := Option.some.inj hm
     refine At_rt [sl none 0 0, I r_3.2.1] qe (by kernel_rfl) ?_
     have k_15 := (((((((((k_14.pk (.t (.t (.t (.t (.t (.t (.t (.t .h))))))))).pk (.t (.t (.t (.t (.t (.t (.t (.t .h))))))))).pk (.t (.t (.t (.t (.t (.t (.t (.t .h))))))))).pk (.t (.t (.t (.t (.t (.t (.t (.t .h))))))))).pk (.t (.t (.t (.t (.t (.t (.t (.t .h))))))))).pk (.t (.t (.t (.t (.t (.t (.t (.t .h))))))))).pk (.t (.t (.t (.t (.t (.t (.t (.t .h))))))))).pk (.t (.t (.t (.t (.t (.t (.t (.t .h))))))))).pk (.t (.t (.t (.t (.t (.t (.t (.t (.t .h)))))))))).sel (.kkkk (.kkkk (.k .z)))
     exact ⟨none, 0, 0, A15, r_3.2.2.2.2.2.1.length, c16, A16, r_3.2.2.2.2.2.2.2.2.2.1.length, c17, A17, r_3.2.2.2.2.2.2.2.2.2.2.1.length, c18, g0, r_3.2.2.2.2.2.2.2.2.2.2.2.2.2.1.length, c19, k_15.len 0 rfl, k_15.len 2 rfl, k_15.len 4 rfl, k_15.len 5 rfl, k_15.shlen 7 rfl, rfl, k_15⟩
   rw [if_neg hc4] at hm
   refine W_skip <| At_go <| W_seq ?_
   obtain ⟨b0, h_b0, hm⟩ := ob hm
   have hs0 := slc_some h_b0
   have hl0 := slc_len h_b0
   have hn0 : r_3.1.length = r_3.1.length := (k_13.len 0 rfl)
   have hc5 : r_3.1.length ≤ c15 := (k_13.lec 0 rfl)
   obtain ⟨u0, h_u0, hm⟩ := ob hm
   have hq0 := need_some h_u0
   have hc6 : b0.length ≤ Int.toNat k_ := by omega
   refine W_q [] (.n 8 (sl A14 b0.length (Int.toNat k_)) .z) (qp (0 ≤ k_ ∧ k_ ≤ ((c15 : Nat) : Int)) (by omega) <| qp (0 ≤ k_ ∧ k_ ≤ ((Int.toNat k_ : Nat) : Int)) (by omega) <| qo (.v (.slice A14 b0.length (Int.toNat k_))) <| qp (Value.slice (slA A14 0 (Int.toNat k_) 1) (Int.toNat k_ - 0) (Int.toNat k_ - 0) = .slice A14 b0.length (Int.toNat k_)) (slx0 _ _ _ _ _ (by omega)) <| qe) (by kernel_rfl) ?_
   refine At_go <| W_seq <| W_reg <| WLs 1 [] (.n 40 (sl A14 b0.length (Int.toNat k_)) .a) qe (by kernel_rfl) ?_
   refine WL_op ?_
   have k_16 := k_13.pre 0 rfl b0.length (Int.toNat k_) b0 (by omega) (by omega) (by omega) (slc_pre h_b0 rfl)
   obtain ⟨u2, h_u2, hm⟩ := ob hm
   refine Op_call [] 41 _ do_go14 (by kernel_rfl) (do_sort14 (i := 0) k_16 rfl (by have h2 := need_some h_u2; have h3 := k_16.len 0 rfl; omega)) ?_
   rintro e_ w_4 ⟨rfl, k_17⟩
   refine ⟨.tup [], rfl, ?_⟩
   refine WL_nil <| At_go <| W_seq <| W_q [] (.n 6 (sl A14 b0.length (Int.toNat k_)) (.n 7 (I 0) .z)) qe (by kernel_rfl) ?_
   refine At_go <| W_ret ?_
   obtain rfl := Option.some.inj hm
   refine At_rt [sl A14 b0.length (Int.toNat k_), I 0] qe (by kernel_rfl) ?_
   exact ⟨A14, b0.length, Int.toNat k_, A15, r_3.2.2.2.2.2.1.length, c16, A16, r_3.2.2.2.2.2.2.2.2.2.1.length, c17, A17, r_3.2.2.2.2.2.2.2.2.2.2.1.length, c18, g0, r_3.2.2.2.2.2.2.2.2.2.2.2.2.2.1.length, c19, k_17.len 0 rfl, k_17.len 2 rfl, k_17.len 4 rfl, k_17.len 5 rfl, k_17.shlen 7 rfl, rfl, k_17⟩

theorem c_dice_Dice_none_k_s1 {F O : Nat → Prop} {w : World} (d_seed : List UInt8) (d_s_key : List UInt8) (d_s_salt : List UInt8) (d_s_personal : List UInt8) (d_s_n_kind : Int) (d_s_n_digest : Int) (d_s_n_block : List UInt8) (d_s_n_key : List UInt8) (d_s_n_last : Bool) (d_s_n_written : UInt64) (d_s_n_e_h : Vec UInt64 8) (d_s_n_e_count_Lo : UInt64) (d_s_n_e_count_Hi : UInt64) (d_s_n_e_held : List UInt8) (d_s_n_e_block : Int) (d_s_root : List UInt8) (d_s_at : UInt64) (d_s_now : Vec UInt8 64) (d_s_have : Int) (g_d : Nat) (A_d_seed : Option Addr) (n_d_seed : Nat) (c_d_seed : Nat) (g_d_s : Nat) (A_d_s_key : Option Addr) (n_d_s_key : Nat) (c_d_s_key : Nat) (A_d_s_salt : Option Addr) (n_d_s_salt : Nat) (c_d_s_salt : Nat) (A_d_s_personal : Option Addr) (n_d_s_personal : Nat) (c_d_s_personal : Nat) (g_d_s_n : Nat) (A_d_s_n_block : Option Addr) (n_d_s_n_block : Nat) (c_d_s_n_block : Nat) (A_d_s_n_key : Option Addr) (n_d_s_n_key : Nat) (c_d_s_n_key : Nat) (g_d_s_n_e : Nat) (A_d_s_n_e_held : Option Addr) (n_d_s_n_e_held : Nat) (c_d_s_n_e_held : Nat) (g_d_s_root : Nat) (n_d_s_root : Nat) (c_d_s_root : Nat) (h_d_seed : Ro F w A_d_seed (e8.all d_seed)) (hn_d_seed : d_seed.length = n_d_seed) (hc_d_seed : n_d_seed ≤ c_d_seed) (h_d_s_key : Ro F w A_d_s_key (e8.all d_s_key)) (hn_d_s_key : d_s_key.length = n_d_s_key) (hc_d_s_key : n_d_s_key ≤ c_d_s_key) (h_d_s_salt : Ro F w A_d_s_salt (e8.all d_s_salt)) (hn_d_s_salt : d_s_salt.length = n_d_s_salt) (hc_d_s_salt : n_d_s_salt ≤ c_d_s_salt) (h_d_s_personal : Ro F w A_d_s_personal (e8.all d_s_personal)) (hn_d_s_personal : d_s_personal.length = n_d_s_personal) (hc_d_s_personal : n_d_s_personal ≤ c_d_s_personal) (h_d_s_root : Ro F w (some ⟨g_d_s_root, 0, none⟩) (e8.all d_s_root)) (hn_d_s_root : d_s_root.length = n_d_s_root) (hc_d_s_root : n_d_s_root ≤ c_d_s_root) (k : Cx F O w w [Bx 42 g_d [sl A_d_seed n_d_seed c_d_seed, pt g_d_s 0], Bx 67 g_d_s [I 1, I 64, .u32 4294967295, .u64 274877906944, .b false, sl A_d_s_key n_d_s_key c_d_s_key, sl A_d_s_salt n_d_s_salt c_d_s_salt, sl A_d_s_personal n_d_s_personal c_d_s_personal, pt g_d_s_n 0, sl (some ⟨g_d_s_root, 0, none⟩) n_d_s_root c_d_s_root, .u64 d_s_at, .ar e8 d_s_now, I d_s_have, .v (.func (.func 63) ⟨SV.vals [pt g_d_s 0]⟩ ⟨SV.vals []⟩)], Bx 114 g_d_s_n [I d_s_n_kind, I d_s_n_digest, sl A_d_s_n_block n_d_s_n_block c_d_s_n_block, sl A_d_s_n_key n_d_s_n_key c_d_s_n_key, .b d_s_n_last, .u64 d_s_n_written, .v (.iface 141 (SV.val (pt g_d_s_n_e 0)))], Ow e8 A_d_s_n_block n_d_s_n_block c_d_s_n_block d_s_n_block, Ow e8 A_d_s_n_key n_d_s_n_key c_d_s_n_key d_s_n_key, Bx 147 g_d_s_n_e [.ar e64 d_s_n_e_h, .u64 d_s_n_e_count_Lo, .u64 d_s_n_e_count_Hi, sl A_d_s_n_e_held n_d_s_n_e_held c_d_s_n_e_held, I d_s_n_e_block, .v (.func (.func 83) ⟨SV.vals []⟩ ⟨SV.vals []⟩), .v (.func (.func 84) ⟨SV.vals []⟩ ⟨SV.vals []⟩)], Ow e8 A_d_s_n_e_held n_d_s_n_e_held c_d_s_n_e_held d_s_n_e_held]) (r : (Vec UInt64 8 × UInt64 × UInt64 × List UInt8 × Int × Int × Int × List UInt8 × List UInt8 × Bool × UInt64 × UInt64 × Vec UInt8 64 × Int)) (hm : m_dice_Dice_none_k_s1 d_seed d_s_key d_s_salt d_s_personal d_s_n_kind d_s_n_digest d_s_n_block d_s_n_key d_s_n_last d_s_n_written d_s_n_e_h d_s_n_e_count_Lo d_s_n_e_count_Hi d_s_n_e_held d_s_n_e_block d_s_root d_s_at d_s_now d_s_have = some r) :
    Calls Tryz.prog 10 (vals [pt g_d 0]) w (fun e w' => ∃ A n c A1 n1 c1 A2 n2 c2, r.2.2.2.1.length = n ∧ r.2.2.2.2.2.2.2.1.length = n1 ∧ r.2.2.2.2.2.2.2.2.1.length = n2 ∧ e = .returned (SV.val (.b false)) ∧ Cx F O w w' [Bx 147 g_d_s_n_e [.ar e64 r.1, .u64 r.2.1, .u64 r.2.2.1, sl A n c, I r.2.2.2.2.1, .v (.func (.func 83) ⟨SV.vals []⟩ ⟨SV.vals []⟩), .v (.func (.func 84) ⟨SV.vals []⟩ ⟨SV.vals []⟩)], Ow e8 A n c r.2.2.2.1, Bx 114 g_d_s_n [I r.2.2.2.2.2.1, I r.2.2.2.2.2.2.1, sl A1 n1 c1, sl A2 n2 c2, .b r.2.2.2.2.2.2.2.2.2.1, .u64 r.2.2.2.2.2.2.2.2.2.2.1, .v (.iface 141 (SV.val (pt g_d_s_n_e 0)))], Ow e8 A1 n1 c1 r.2.2.2.2.2.2.2.1, Ow e8 A2 n2 c2 r.2.2.2.2.2.2.2.2.1, Bx 67 g_d_s [I 1, I 64, .u32 4294967295, .u64 274877906944, .b false, sl A_d_s_key n_d_s_key c_d_s_key, sl A_d_s_salt n_d_s_salt c_d_s_salt, sl A_d_s_personal n_d_s_personal c_d_s_personal, pt g_d_s_n 0, sl (some ⟨g_d_s_root, 0, none⟩) n_d_s_root c_d_s_root, .u64 r.2.2.2.2.2.2.2.2.2.2.2.1, .ar e8 r.2.2.2.2.2.2.2.2.2.2.2.2.1, I r.2.2.2.2.2.2.2.2.2.2.2.2.2, .v (.func (.func 63) ⟨SV.vals [pt g_d_s 0]⟩ ⟨SV.vals []⟩)], Bx 42 g_d [sl A_d_seed n_d_seed c_d_seed, pt g_d_s 0]]) := by
 unfold m_dice_Dice_none_k_s1 at hm
 subst hn_d_seed
 subst hn_d_s_key
 subst hn_d_s_salt
 subst hn_d_s_personal
 obtain rfl := k.len 3 rfl
 obtain rfl := k.len 4 rfl
 obtain rfl := k.len 6 rfl
 subst hn_d_s_root
 refine calls [pt g_d 0] Tryz.func10 rfl (of_decide_eq_true (by kernel_rfl)) ?_
 refine W_seq <| W_q [] .a qe (by kernel_rfl) ?_
 refine At_go <| W_seq <| W_q [5] (.n 2 (.b false) .z) (qs g_d 0 <| qs g_d 0 <| qB k 0 rfl 1 (pt g_d_s 0) (by kernel_rfl) <| qe) (by kernel_rfl) ?_
 refine At_go <| W_ret ?_
 obtain rfl := Option.some.inj hm
 refine At_rt [.b false] qe (by kernel_rfl) ?_
 have k_ := ((((((k.pk .h).pk (.t .h)).pk (.t (.t (.t (.t .h))))).pk (.t (.t (.t (.t .h))))).pk (.t (.t (.t (.t .h))))).pk (.t (.t (.t (.t (.t (.t .h))))))).pk (.t (.t (.t (.t (.t (.t .h))))))
 exact ⟨A_d_s_n_e_held, d_s_n_e_held.length, c_d_s_n_e_held, A_d_s_n_block, d_s_n_block.length, c_d_s_n_block, A_d_s_n_key, d_s_n_key.length, c_d_s_n_key, k_.len 1 rfl, k_.len 3 rfl, k_.len 4 rfl, rfl, k_⟩

theorem c_xof_bound_k_s1 {F O : Nat → Prop} {w : World} (y_key : List UInt8) (y_salt : List UInt8) (y_personal : List UInt8) (y_n_kind : Int) (y_n_digest : Int) (y_n_block : List UInt8) (y_n_key : List UInt8) (y_n_last : Bool) (y_n_written : UInt64) (y_n_e_h : Vec UInt64 8) (y_n_e_count_Lo : UInt64) (y_n_e_count_Hi : UInt64) (y_n_e_held : List UInt8) (y_n_e_block : Int) (y_root : List UInt8) (y_at : UInt64) (y_now : Vec UInt8 64) (y_have : Int) (y_write_key : List UInt8) (y_write_salt : List UInt8) (y_write_personal : List UInt8) (y_write_n_kind : Int) (y_write_n_digest : Int) (y_write_n_last : Bool) (y_write_n_written : UInt64) (y_write_n_e_h : Vec UInt64 8) (y_write_n_e_count_Lo : UInt64) (y_write_n_e_count_Hi : UInt64) (y_write_n_e_held : List UInt8) (y_write_n_e_block : Int) (y_write_root : List UInt8) (y_write_at : UInt64) (y_write_now : Vec UInt8 64) (y_write_have : Int) (g_y : Nat) (A_y_key : Option Addr) (n_y_key : Nat) (c_y_key : Nat) (A_y_salt : Option Addr) (n_y_salt : Nat) (c_y_salt : Nat) (A_y_personal : Option Addr) (n_y_personal : Nat) (c_y_personal : Nat) (g_y_n : Nat) (A_y_n_block : Option Addr) (n_y_n_block : Nat) (c_y_n_block : Nat) (A_y_n_key : Option Addr) (n_y_n_key : Nat) (c_y_n_key : Nat) (g_y_n_e : Nat) (A_y_n_e_held : Option Addr) (n_y_n_e_held : Nat) (c_y_n_e_held : Nat) (g_y_root : Nat) (n_y_root : Nat) (c_y_root : Nat) (g_y_write : Nat) (A_y_write_key : Option Addr) (n_y_write_key : Nat) (c_y_write_key : Nat) (A_y_write_salt : Option Addr) (n_y_write_salt : Nat) (c_y_write_salt : Nat) (A_y_write_personal : Option Addr) (n_y_write_personal : Nat) (c_y_write_personal : Nat) (g_y_write_n : Nat) (g_y_write_n_e : Nat) (A_y_write_n_e_held : Option Addr) (n_y_write_n_e_held : Nat) (c_y_write_n_e_held : Nat) (g_y_write_root : Nat) (n_y_write_root : Nat) (c_y_write_root : Nat) (h_y_key : Ro F w A_y_key (e8.all y_key)) (hn_y_key : y_key.length = n_y_key) (hc_y_key : n_y_key ≤ c_y_key) (h_y_salt : Ro F w A_y_salt (e8.all y_salt)) (hn_y_salt : y_salt.length = n_y_salt) (hc_y_salt : n_y_salt ≤ c_y_salt) (h_y_personal : Ro F w A_y_personal (e8.all y_personal)) (hn_y_personal : y_personal.length = n_y_personal) (hc_y_personal : n_y_personal ≤ c_y_personal) (h_y_root : Ro F w (some ⟨g_y_root, 0, none⟩) (e8.all y_root)) (hn_y_root : y_root.length = n_y_root) (hc_y_root : n_y_root ≤ c_y_root) (h_y_write_key : Ro F w A_y_write_key (e8.all y_write_key)) (hn_y_write_key : y_write_key.length = n_y_write_key) (hc_y_write_key : n_y_write_key ≤ c_y_write_key) (h_y_write_salt : Ro F w A_y_write_salt (e8.all y_write_salt)) (hn_y_write_salt : y_write_salt.length = n_y_write_salt) (hc_y_write_salt : n_y_write_salt ≤ c_y_write_salt) (h_y_write_personal : Ro F w A_y_write_personal (e8.all y_write_personal)) (hn_y_write_personal : y_write_personal.length = n_y_write_personal) (hc_y_write_personal : n_y_write_personal ≤ c_y_write_personal) (h_y_write_root : Ro F w (some ⟨g_y_write_root, 0, none⟩) (e8.all y_write_root)) (hn_y_write_root : y_write_root.length = n_y_write_root) (hc_y_write_root : n_y_write_root ≤ c_y_write_root) (k : Cx F O w w [Bx 67 g_y [I 1, I 64, .u32 4294967295, .u64 274877906944, .b false, sl A_y_key n_y_key c_y_key, sl A_y_salt n_y_salt c_y_salt, sl A_y_personal n_y_personal c_y_personal, pt g_y_n 0, sl (some ⟨g_y_root, 0, none⟩) n_y_root c_y_root, .u64 y_at, .ar e8 y_now, I y_have, .v (.func (.func 63) ⟨SV.vals [pt g_y_write 0]⟩ ⟨SV.vals []⟩)], Bx 114 g_y_n [I y_n_kind, I y_n_digest, sl A_y_n_block n_y_n_block c_y_n_block, sl A_y_n_key n_y_n_key c_y_n_key, .b y_n_last, .u64 y_n_written, .v (.iface 141 (SV.val (pt g_y_n_e 0)))], Ow e8 A_y_n_block n_y_n_block c_y_n_block y_n_block, Ow e8 A_y_n_key n_y_n_key c_y_n_key y_n_key, Bx 147 g_y_n_e [.ar e64 y_n_e_h, .u64 y_n_e_count_Lo, .u64 y_n_e_count_Hi, sl A_y_n_e_held n_y_n_e_held c_y_n_e_held, I y_n_e_block, .v (.func (.func 83) ⟨SV.vals []⟩ ⟨SV.vals []⟩), .v (.func (.func 84) ⟨SV.vals []⟩ ⟨SV.vals []⟩)], Ow e8 A_y_n_e_held n_y_n_e_held c_y_n_e_held y_n_e_held, Bx 67 g_y_write [I 1, I 64, .u32 4294967295, .u64 274877906944, .b false, sl A_y_write_key n_y_write_key c_y_write_key, sl A_y_write_salt n_y_write_salt c_y_write_salt, sl A_y_write_personal n_y_write_personal c_y_write_personal, pt g_y_write_n 0, sl (some ⟨g_y_write_root, 0, none⟩) n_y_write_root c_y_write_root, .u64 y_write_at, .ar e8 y_write_now, I y_write_have, .v (.func (.func 63) ⟨SV.vals [pt g_y_write 0]⟩ ⟨SV.vals []⟩)], Bx 114 g_y_write_n [I y_write_n_kind, I y_write_n_digest, sl A_y_n_block n_y_n_block c_y_n_block, sl A_y_n_key n_y_n_key c_y_n_key, .b y_write_n_last, .u64 y_write_n_written, .v (.iface 141 (SV.val (pt g_y_write_n_e 0)))], Bx 147 g_y_write_n_e [.ar e64 y_write_n_e_h, .u64 y_write_n_e_count_Lo, .u64 y_write_n_e_count_Hi, sl A_y_write_n_e_held n_y_write_n_e_held c_y_write_n_e_held, I y_write_n_e_block, .v (.func (.func 83) ⟨SV.vals []⟩ ⟨SV.vals []⟩), .v (.func (.func 84) ⟨SV.vals []⟩ ⟨SV.vals []⟩)], Ow e8 A_y_write_n_e_held n_y_write_n_e_held c_y_write_n_e_held y_write_n_e_held]) (r : (Int × Int × List UInt8 × List UInt8 × Bool × UInt64 × Vec UInt64 8 × UInt64 × UInt64 × List UInt8 × Int × UInt64 × Vec UInt8 64 × Int × Vec UInt64 8 × UInt64 × UInt64 × List UInt8 × Int × Int × Int × Bool × UInt64 × UInt64 × Vec UInt8 64 × Int)) (hm : m_xof_bound_k_s1 y_key y_salt y_personal y_n_kind y_n_digest y_n_block y_n_key y_n_last y_n_written y_n_e_h y_n_e_count_Lo y_n_e_count_Hi y_n_e_held y_n_e_block y_root y_at y_now y_have y_write_key y_write_salt y_write_personal y_write_n_kind y_write_n_digest y_write_n_last y_write_n_written y_write_n_e_h y_write_n_e_count_Lo y_write_n_e_count_Hi y_write_n_e_held y_write_n_e_block y_write_root y_write_at y_write_now y_write_have = some r) :
    Calls Tryz.prog 39 (vals [pt g_y 0]) w (fun e w' => ∃ A n c A1 n1 c1 A2 n2 c2 A3 n3 c3, r.2.2.1.length = n ∧ r.2.2.2.1.length = n1 ∧ r.2.2.2.2.2.2.2.2.2.1.length = n2 ∧ r.2.2.2.2.2.2.2.2.2.2.2.2.2.2.2.2.2.1.length = n3 ∧ e = .returned (SV.val (pt g_y 0)) ∧ Cx F O w w' [Bx 67 g_y [I 1, I 64, .u32 4294967295, .u64 274877906944, .b false, sl A_y_key n_y_key c_y_key, sl A_y_salt n_y_salt c_y_salt, sl A_y_personal n_y_personal c_y_personal, pt g_y_n 0, sl (some ⟨g_y_root, 0, none⟩) n_y_root c_y_root, .u64 r.2.2.2.2.2.2.2.2.2.2.2.1, .ar e8 r.2.2.2.2.2.2.2.2.2.2.2.2.1, I r.2.2.2.2.2.2.2.2.2.2.2.2.2.1, .v (.func (.func 63) ⟨SV.vals [pt g_y 0]⟩ ⟨SV.vals []⟩)], Bx 114 g_y_n [I r.1, I r.2.1, sl A n c, sl A1 n1 c1, .b r.2.2.2.2.1, .u64 r.2.2.2.2.2.1, .v (.iface 141 (SV.val (pt g_y_n_e 0)))], Ow e8 A n c r.2.2.1, Ow e8 A1 n1 c1 r.2.2.2.1, Bx 147 g_y_n_e [.ar e64 r.2.2.2.2.2.2.1, .u64 r.2.2.2.2.2.2.2.1, .u64 r.2.2.2.2.2.2.2.2.1, sl A2 n2 c2, I r.2.2.2.2.2.2.2.2.2.2.1, .v (.func (.func 83) ⟨SV.vals []⟩ ⟨SV.vals []⟩), .v (.func (.func 84) ⟨SV.vals []⟩ ⟨SV.vals []⟩)], Ow e8 A2 n2 c2 r.2.2.2.2.2.2.2.2.2.1, Bx 147 g_y_write_n_e [.ar e64 r.2.2.2.2.2.2.2.2.2.2.2.2.2.2.1, .u64 r.2.2.2.2.2.2.2.2.2.2.2.2.2.2.2.1, .u64 r.2.2.2.2.2.2.2.2.2.2.2.2.2.2.2.2.1, sl A3 n3 c3, I r.2.2.2.2.2.2.2.2.2.2.2.2.2.2.2.2.2.2.1, .v (.func (.func 83) ⟨SV.vals []⟩ ⟨SV.vals []⟩), .v (.func (.func 84) ⟨SV.vals []⟩ ⟨SV.vals []⟩)], Ow e8 A3 n3 c3 r.2.2.2.2.2.2.2.2.2.2.2.2.2.2.2.2.2.1, Bx 114 g_y_write_n [I r.2.2.2.2.2.2.2.2.2.2.2.2.2.2.2.2.2.2.2.1, I r.2.2.2.2.2.2.2.2.2.2.2.2.2.2.2.2.2.2.2.2.1, sl A n c, sl A1 n1 c1, .b r.2.2.2.2.2.2.2.2.2.2.2.2.2.2.2.2.2.2.2.2.2.1, .u64 r.2.2.2.2.2.2.2.2.2.2.2.2.2.2.2.2.2.2.2.2.2.2.1, .v (.iface 141 (SV.val (pt g_y_write_n_e 0)))], Bx 67 g_y_write [I 1, I 64, .u32 4294967295, .u64 274877906944, .b false, sl A_y_write_key n_y_write_key c_y_write_key, sl A_y_write_salt n_y_write_salt c_y_write_salt, sl A_y_write_personal n_y_write_personal c_y_write_personal, pt g_y_write_n 0, sl (some ⟨g_y_write_root, 0, none⟩) n_y_write_root c_y_write_root, .u64 r.2.2.2.2.2.2.2.2.2.2.2.2.2.2.2.2.2.2.2.2.2.2.2.1, .ar e8 r.2.2.2.2.2.2.2.2.2.2.2.2.2.2.2.2.2.2.2.2.2.2.2.2.1, I r.2.2.2.2.2.2.2.2.2.2.2.2.2.2.2.2.2.2.2.2.2.2.2.2.2, .v (.func (.func 63) ⟨SV.vals [pt g_y_write 0]⟩ ⟨SV.vals []⟩)]]) := by
 unfold m_xof_bound_k_s1 at hm
 subst hn_y_key
 subst hn_y_salt
 subst hn_y_personal
 obtain rfl := k.len 2 rfl
 obtain rfl := k.len 3 rfl
 obtain rfl := k.len 5 rfl
 subst hn_y_root
 subst hn_y_write_key
 subst hn_y_write_salt
 subst hn_y_write_personal
 obtain rfl := k.len 9 rfl
 subst hn_y_write_root
 refine calls [pt g_y 0] Tryz.func39 rfl (of_decide_eq_true (by kernel_rfl)) ?_
 refine W_seq <| W_q [] .a qe (by kernel_rfl) ?_
 refine At_go <| W_seq <| W_reg <| WLs 5 [] (.n 5 (.v (.func (.func 36) ⟨SV.vals [pt g_y 0]⟩ ⟨SV.vals []⟩)) (.n 7 (pt g_y 76) .a)) (qs g_y 0 <| qs g_y 0 <| qe) (by kernel_rfl) ?_
 refine WL_op <| Op_b [] 0 (.v (.func (.func 36) ⟨SV.vals [pt g_y 0]⟩ ⟨SV.vals []⟩)) [.v (.func (.func 36) ⟨SV.vals [pt g_y 0]⟩ ⟨SV.vals []⟩)] (Pt.at g_y 76) k rfl (.kkkk (.kkkk (.kkkk (.k .h)))) (by kernel_rfl) (by kernel_rfl) ?_
 intro w_ k_
 refine WL_nil <| At_go <| W_cut (fun L wr => m_xof_bound_k_s1_j0 y_n_kind y_n_digest y_n_block y_n_key y_n_last y_n_written y_n_e_h y_n_e_count_Lo y_n_e_count_Hi y_n_e_held y_n_e_block y_at y_now y_have y_write_n_kind y_write_n_digest y_write_n_last y_write_n_written y_write_n_e_h y_write_n_e_count_Lo y_write_n_e_count_Hi y_write_n_e_held y_write_n_e_block y_write_at y_write_now y_write_have  = some r ∧ L = [(0, pt g_y 0)] ∧ Cx F O w wr [Bx 67 g_y [I 1, I 64, .u32 4294967295, .u64 274877906944, .b false, sl A_y_key y_key.length c_y_key, sl A_y_salt y_salt.length c_y_salt, sl A_y_personal y_personal.length c_y_personal, pt g_y_n 0, sl (some ⟨g_y_root, 0, none⟩) y_root.length c_y_root, .u64 y_at, .ar e8 y_now, I y_have, .v (.func (.func 63) ⟨SV.vals [pt g_y 0]⟩ ⟨SV.vals []⟩)], Bx 114 g_y_n [I y_n_kind, I y_n_digest, sl A_y_n_block y_n_block.length c_y_n_block, sl A_y_n_key y_n_key.length c_y_n_key, .b y_n_last, .u64 y_n_written, .v (.iface 141 (SV.val (pt g_y_n_e 0)))], Ow e8 A_y_n_block y_n_block.length c_y_n_block y_n_block, Ow e8 A_y_n_key y_n_key.length c_y_n_key y_n_key, Bx 147 g_y_n_e [.ar e64 y_n_e_h, .u64 y_n_e_count_Lo, .u64 y_n_e_count_Hi, sl A_y_n_e_held y_n_e_held.length c_y_n_e_held, I y_n_e_block, .v (.func (.func 83) ⟨SV.vals []⟩ ⟨SV.vals []⟩), .v (.func (.func 84) ⟨SV.vals []⟩ ⟨SV.vals []⟩)], Ow e8 A_y_n_e_held y_n_e_held.length c_y_n_e_held y_n_e_held, Bx 147 g_y_write_n_e [.ar e64 y_write_n_e_h, .u64 y_write_n_e_count_Lo, .u64 y_write_n_e_count_Hi, sl A_y_write_n_e_held y_write_n_e_held.length c_y_write_n_e_held, I y_write_n_e_block, .v (.func (.func 83) ⟨SV.vals []⟩ ⟨SV.vals []⟩), .v (.func (.func 84) ⟨SV.vals []⟩ ⟨SV.vals []⟩)], Ow e8 A_y_write_n_e_held y_write_n_e_held.length c_y_write_n_e_held y_write_n_e_held, Bx 114 g_y_write_n [I y_write_n_kind, I y_write_n_digest, sl A_y_n_block y_n_block.length c_y_n_block, sl A_y_n_key y_n_key.length c_y_n_key, .b y_write_n_last, .u64 y_write_n_written, .v (.iface 141 (SV.val (pt g_y_write_n_e 0)))], Bx 67 g_y_write [I 1, I 64, .u32 4294967295, .u64 274877906944, .b false, sl A_y_write_key y_write_key.length c_y_write_key, sl A_y_write_salt y_write_salt.length c_y_write_salt, sl A_y_write_personal y_write_personal.length c_y_write_personal, pt g_y_write_n 0, sl (some ⟨g_y_write_root, 0, none⟩) y_write_root.length c_y_write_root, .u64 y_write_at, .ar e8 y_write_now, I y_write_have, .v (.func (.func 63) ⟨SV.vals [pt g_y_write 0]⟩ ⟨SV.vals []⟩)]]) ?_ ?_
 ·
  refine W_seq <| W_q [] (.n 12 (.b true) (.ss .a)) (qs g_y 0 <| qs g_y 0 <| qB k_ 0 rfl 9 (sl (some ⟨g_y_root, 0, none⟩) y_root.length c_y_root) (by kernel_rfl) <| qe) (by kernel_rfl) ?_
  refine At_go <| W_cond true (by kernel_rfl) (fun _ => ?_) (fun h => by cases h)
  refine W_reg <| WLs 5 [] (.n 15 (.v (.func (.func 63) ⟨SV.vals [pt g_y 0]⟩ ⟨SV.vals []⟩)) (.n 17 (pt g_y 76) (.s .a))) (qs g_y 0 <| qs g_y 0 <| qe) (by kernel_rfl) ?_
  refine WL_op <| Op_b [] 0 (.v (.func (.func 63) ⟨SV.vals [pt g_y 0]⟩ ⟨SV.vals []⟩)) [.v (.func (.func 63) ⟨SV.vals [pt g_y 0]⟩ ⟨SV.vals []⟩)] (Pt.at g_y 76) k_ rfl (.kkkk (.kkkk (.kkkk (.k .h)))) (by kernel_rfl) (by kernel_rfl) ?_
  intro w_1 k_1
  refine WL_nil ?_
  have k_2 := (((((((((k_1.pk (.t (.t (.t (.t (.t (.t .h))))))).pk (.t (.t (.t (.t (.t (.t (.t .h)))))))).pk (.t (.t (.t (.t (.t (.t (.t (.t (.t .h)))))))))).pk (.t (.t (.t (.t (.t (.t (.t (.t (.t .h)))))))))).pk (.t (.t (.t (.t (.t (.t (.t (.t (.t .h)))))))))).pk (.t (.t (.t (.t (.t (.t (.t (.t (.t .h)))))))))).pk (.t (.t (.t (.t (.t (.t (.t (.t (.t .h)))))))))).pk (.t (.t (.t (.t (.t (.t (.t (.t (.t .h)))))))))).pk (.t (.t (.t (.t (.t (.t (.t (.t (.t .h)))))))))).pk (.t (.t (.t (.t (.t (.t (.t (.t (.t .h)))))))))
  exact At_c ⟨hm, rfl, k_2⟩ (by kernel_rfl)
 rintro L_ w_2 ⟨hm, rfl, k_3⟩
 simp only [m_xof_bound_k_s1_j0] at hm
 refine W_seq <| W_q [] (.n 2 (pt g_y 0) .z) qe (by kernel_rfl) ?_
 refine At_go <| W_ret ?_
 obtain rfl := Option.some.inj hm
 refine At_rt [pt g_y 0] qe (by kernel_rfl) ?_
 exact ⟨A_y_n_block, y_n_block.length, c_y_n_block, A_y_n_key, y_n_key.length, c_y_n_key, A_y_n_e_held, y_n_e_held.length, c_y_n_e_held, A_y_write_n_e_held, y_write_n_e_held.length, c_y_write_n_e_held, k_3.len 2 rfl, k_3.len 3 rfl, k_3.len 5 rfl, k_3.len 7 rfl, rfl, k_3⟩

theorem c_xof_Stream_Copy_k_s1 {F O : Nat → Prop} {w : World} (x_key : List UInt8) (x_salt : List UInt8) (x_personal : List UInt8) (x_n_kind : Int) (x_n_digest : Int) (x_n_block : List UInt8) (x_n_key : List UInt8) (x_n_last : Bool) (x_n_written : UInt64) (x_n_e_h : Vec UInt64 8) (x_n_e_count_Lo : UInt64) (x_n_e_count_Hi : UInt64) (x_n_e_held : List UInt8) (x_n_e_block : Int) (x_root : List UInt8) (x_at : UInt64) (x_now : Vec UInt8 64) (x_have : Int) (g_x : Nat) (A_x_key : Option Addr) (n_x_key : Nat) (c_x_key : Nat) (A_x_salt : Option Addr) (n_x_salt : Nat) (c_x_salt : Nat) (A_x_personal : Option Addr) (n_x_personal : Nat) (c_x_personal : Nat) (g_x_n : Nat) (A_x_n_block : Option Addr) (n_x_n_block : Nat) (c_x_n_block : Nat) (A_x_n_key : Option Addr) (n_x_n_key : Nat) (c_x_n_key : Nat) (g_x_n_e : Nat) (A_x_n_e_held : Option Addr) (n_x_n_e_held : Nat) (c_x_n_e_held : Nat) (g_x_root : Nat) (n_x_root : Nat) (c_x_root : Nat) (h_x_key : Ro F w A_x_key (e8.all x_key)) (hn_x_key : x_key.length = n_x_key) (hc_x_key : n_x_key ≤ c_x_key) (h_x_salt : Ro F w A_x_salt (e8.all x_salt)) (hn_x_salt : x_salt.length = n_x_salt) (hc_x_salt : n_x_salt ≤ c_x_salt) (h_x_personal : Ro F w A_x_personal (e8.all x_personal)) (hn_x_personal : x_personal.length = n_x_personal) (hc_x_personal : n_x_personal ≤ c_x_personal) (h_x_root : Ro F w (some ⟨g_x_root, 0, none⟩) (e8.all x_root)) (hn_x_root : x_root.length = n_x_root) (hc_x_root : n_x_root ≤ c_x_root) (k : Cx F O w w [Bx 67 g_x [I 1, I 64, .u32 4294967295, .u64 274877906944, .b false, sl A_x_key n_x_key c_x_key, sl A_x_salt n_x_salt c_x_salt, sl A_x_personal n_x_personal c_x_personal, pt g_x_n 0, sl (some ⟨g_x_root, 0, none⟩) n_x_root c_x_root, .u64 x_at, .ar e8 x_now, I x_have, .v (.func (.func 63) ⟨SV.vals [pt g_x 0]⟩ ⟨SV.vals []⟩)], Bx 114 g_x_n [I x_n_kind, I x_n_digest, sl A_x_n_block n_x_n_block c_x_n_block, sl A_x_n_key n_x_n_key c_x_n_key, .b x_n_last, .u64 x_n_written, .v (.iface 141 (SV.val (pt g_x_n_e 0)))], Ow e8 A_x_n_block n_x_n_block c_x_n_block x_n_block, Ow e8 A_x_n_key n_x_n_key c_x_n_key x_n_key, Bx 147 g_x_n_e [.ar e64 x_n_e_h, .u64 x_n_e_count_Lo, .u64 x_n_e_count_Hi, sl A_x_n_e_held n_x_n_e_held c_x_n_e_held, I x_n_e_block, .v (.func (.func 83) ⟨SV.vals []⟩ ⟨SV.vals []⟩), .v (.func (.func 84) ⟨SV.vals []⟩ ⟨SV.vals []⟩)], Ow e8 A_x_n_e_held n_x_n_e_held c_x_n_e_held x_n_e_held]) (r : (Int × Int × List UInt8 × List UInt8 × Bool × UInt64 × Vec UInt64 8 × UInt64 × UInt64 × List UInt8 × Int × UInt64 × Vec UInt8 64 × Int × Vec UInt64 8 × UInt64 × UInt64 × List UInt8 × Int × Int × Int × Bool × UInt64 × UInt64 × Vec UInt8 64 × Int)) (hm : m_xof_Stream_Copy_k_s1 x_key x_salt x_personal x_n_kind x_n_digest x_n_block x_n_key x_n_last x_n_written x_n_e_h x_n_e_count_Lo x_n_e_count_Hi x_n_e_held x_n_e_block x_root x_at x_now x_have = some r) :
    Calls Tryz.prog 21 (vals [pt g_x 0]) w (fun e w' => ∃ g g1 A n c A1 n1 c1 g2 A2 n2 c2 A3 n3 c3, r.2.2.1.length = n ∧ r.2.2.2.1.length = n1 ∧ r.2.2.2.2.2.2.2.2.2.1.length = n2 ∧ r.2.2.2.2.2.2.2.2.2.2.2.2.2.2.2.2.2.1.length = n3 ∧ e = .returned (SV.val (pt g 0)) ∧ Cx F O w w' [Bx 67 g [I 1, I 64, .u32 4294967295, .u64 274877906944, .b false, sl A_x_key n_x_key c_x_key, sl A_x_salt n_x_salt c_x_salt, sl A_x_personal n_x_personal c_x_personal, pt g1 0, sl (some ⟨g_x_root, 0, none⟩) n_x_root c_x_root, .u64 r.2.2.2.2.2.2.2.2.2.2.2.1, .ar e8 r.2.2.2.2.2.2.2.2.2.2.2.2.1, I r.2.2.2.2.2.2.2.2.2.2.2.2.2.1, .v (.func (.func 63) ⟨SV.vals [pt g 0]⟩ ⟨SV.vals []⟩)], Bx 114 g1 [I r.1, I r.2.1, sl A n c, sl A1 n1 c1, .b r.2.2.2.2.1, .u64 r.2.2.2.2.2.1, .v (.iface 141 (SV.val (pt g2 0)))], Ow e8 A n c r.2.2.1, Ow e8 A1 n1 c1 r.2.2.2.1, Bx 147 g2 [.ar e64 r.2.2.2.2.2.2.1, .u64 r.2.2.2.2.2.2.2.1, .u64 r.2.2.2.2.2.2.2.2.1, sl A2 n2 c2, I r.2.2.2.2.2.2.2.2.2.2.1, .v (.func (.func 83) ⟨SV.vals []⟩ ⟨SV.vals []⟩), .v (.func (.func 84) ⟨SV.vals []⟩ ⟨SV.vals []⟩)], Ow e8 A2 n2 c2 r.2.2.2.2.2.2.2.2.2.1, Bx 147 g_x_n_e [.ar e64 r.2.2.2.2.2.2.2.2.2.2.2.2.2.2.1, .u64 r.2.2.2.2.2.2.2.2.2.2.2.2.2.2.2.1, .u64 r.2.2.2.2.2.2.2.2.2.2.2.2.2.2.2.2.1, sl A3 n3 c3, I r.2.2.2.2.2.2.2.2.2.2.2.2.2.2.2.2.2.2.1, .v (.func (.func 83) ⟨SV.vals []⟩ ⟨SV.vals []⟩), .v (.func (.func 84) ⟨SV.vals []⟩ ⟨SV.vals []⟩)], Ow e8 A3 n3 c3 r.2.2.2.2.2.2.2.2.2.2.2.2.2.2.2.2.2.1, Bx 114 g_x_n [I r.2.2.2.2.2.2.2.2.2.2.2.2.2.2.2.2.2.2.2.1, I r.2.2.2.2.2.2.2.2.2.2.2.2.2.2.2.2.2.2.2.2.1, sl A n c, sl A1 n1 c1, .b r.2.2.2.2.2.2.2.2.2.2.2.2.2.2.2.2.2.2.2.2.2.1, .u64 r.2.2.2.2.2.2.2.2.2.2.2.2.2.2.2.2.2.2.2.2.2.2.1, .v (.iface 141 (SV.val (pt g_x_n_e 0)))], Bx 67 g_x [I 1, I 64, .u32 4294967295, .u64 274877906944, .b false, sl A_x_key n_x_key c_x_key, sl A_x_salt n_x_salt c_x_salt, sl A_x_personal n_x_personal c_x_personal, pt g_x_n 0, sl (some ⟨g_x_root, 0, none⟩) n_x_root c_x_root, .u64 r.2.2.2.2.2.2.2.2.2.2.2.2.2.2.2.2.2.2.2.2.2.2.2.1, .ar e8 r.2.2.2.2.2.2.2.2.2.2.2.2.2.2.2.2.2.2.2.2.2.2.2.2.1, I r.2.2.2.2.2.2.2.2.2.2.2.2.2.2.2.2.2.2.2.2.2.2.2.2.2, .v (.func (.func 63) ⟨SV.vals [pt g_x 0]⟩ ⟨SV.vals []⟩)]]) := by
 unfold m_xof_Stream_Copy_k_s1 at hm
 subst hn_x_key
 subst hn_x_salt
 subst hn_x_personal
 obtain rfl := k.len 2 rfl
 obtain rfl := k.len 3 rfl
 obtain rfl := k.len 5 rfl
 subst hn_x_root
 refine calls [pt g_x 0] Tryz.func21 rfl (of_decide_eq_true (by kernel_rfl)) ?_
 refine W_seq <| W_q [] .a qe (by kernel_rfl) ?_
 refine At_go <| W_seq <| W_seq <| W_reg <| WLs 1 [] (.n 4 (pt g_x 0) .a) qe (by kernel_rfl) ?_
 refine WL_op ?_
 obtain ⟨r_, h_r_, hm⟩ := ob hm
 obtain ⟨F1, O1, kin, hO, hre, hF, hb⟩ := k.go (.i (.i (.i (.i (.i (.i .e))))))
 refine Op_call [] 5 _ do_go37 (by kernel_rfl) (c_xof_Stream_none_k_s1 (F := F1) (O := O1) _ _ _ _ _ _ _ _ _ _ _ _ _ _ _ _ _ _ _ _ _ _ _ _ _ _ _ _ _ _ _ _ _ _ _ _ _ _ _ _ _ _ (Ro.of_old h_x_key k hF) rfl hc_x_key (Ro.of_old h_x_salt k hF) rfl hc_x_salt (Ro.of_old h_x_personal k hF) rfl hc_x_personal (Ro.of_old h_x_root k hF) rfl hc_x_root kin _ h_r_) ?_
 rintro e_ w_ ⟨A0, _, c0, A4, _, c4, A5, _, c5, rfl, rfl, rfl, rfl, k_⟩
 have k_1 := hb w_ _ _ k_ (.c (.c (.c (.c (.c (.c .n))))))
 refine ⟨.b false, rfl, ?_⟩
 refine WL_nil <| At_go <| W_cond false (by kernel_rfl) (fun h => by cases h) (fun _ => ?_)
 refine W_skip <| At_go <| W_seq <| W_reg <| WLs 3 [] (.n 8 (.agg [I 1, I 64, .u32 4294967295, .u64 274877906944, .b false, sl A_x_key x_key.length c_x_key, sl A_x_salt x_salt.length c_x_salt, sl A_x_personal x_personal.length c_x_personal, pt g_x_n 0, sl (some ⟨g_x_root, 0, none⟩) x_root.length c_x_root, .u64 r_.2.2.2.2.2.2.2.2.2.2.2.1, .ar e8 r_.2.2.2.2.2.2.2.2.2.2.2.2.1, I r_.2.2.2.2.2.2.2.2.2.2.2.2.2, .v (.func (.func 63) ⟨SV.vals [pt g_x 0]⟩ ⟨SV.vals []⟩)]) (.ss .a)) (qs g_x 0 <| qT k_1 5 rfl 0 77 [I 1, I 64, .u32 4294967295, .u64 274877906944, .b false, sl A_x_key x_key.length c_x_key, sl A_x_salt x_salt.length c_x_salt, sl A_x_personal x_personal.length c_x_personal, pt g_x_n 0, sl (some ⟨g_x_root, 0, none⟩) x_root.length c_x_root, .u64 r_.2.2.2.2.2.2.2.2.2.2.2.1, .ar e8 r_.2.2.2.2.2.2.2.2.2.2.2.2.1, I r_.2.2.2.2.2.2.2.2.2.2.2.2.2, .v (.func (.func 63) ⟨SV.vals [pt g_x 0]⟩ ⟨SV.vals []⟩)] (by kernel_rfl) (by decide) <| qe) (by kernel_rfl) ?_
 refine WL_op <| Op_alloc [] 3 [I 0, I 0, .u32 0, .u64 0, .b false, sl none 0 0, sl none 0 0, sl none 0 0, .v (.pointer none), sl none 0 0, .u64 0, .ar e8 (Vec.rep 64 (0 : UInt8)), I 0, .v .nilFunc] (by kernel_rfl) k_1 ?_
 intro g0 w_1 k_2
 refine WL_op <| Op_b [] 6 (.agg [I 1, I 64, .u32 4294967295, .u64 274877906944, .b false, sl A_x_key x_key.length c_x_key, sl A_x_salt x_salt.length c_x_salt, sl A_x_personal x_personal.length c_x_personal, pt g_x_n 0, sl (some ⟨g_x_root, 0, none⟩) x_root.length c_x_root, .u64 r_.2.2.2.2.2.2.2.2.2.2.2.1, .ar e8 r_.2.2.2.2.2.2.2.2.2.2.2.2.1, I r_.2.2.2.2.2.2.2.2.2.2.2.2.2, .v (.func (.func 63) ⟨SV.vals [pt g_x 0]⟩ ⟨SV.vals []⟩)]) [I 1, I 64, .u32 4294967295, .u64 274877906944, .b false, sl A_x_key x_key.length c_x_key, sl A_x_salt x_salt.length c_x_salt, sl A_x_personal x_personal.length c_x_personal, pt g_x_n 0, sl (some ⟨g_x_root, 0, none⟩) x_root.length c_x_root, .u64 r_.2.2.2.2.2.2.2.2.2.2.2.1, .ar e8 r_.2.2.2.2.2.2.2.2.2.2.2.2.1, I r_.2.2.2.2.2.2.2.2.2.2.2.2.2, .v (.func (.func 63) ⟨SV.vals [pt g_x 0]⟩ ⟨SV.vals []⟩)] (Pt.at g0 0) k_2 rfl .all (by kernel_rfl) (by kernel_rfl) ?_
 intro w_2 k_3
 refine WL_nil <| At_go <| W_seq <| W_reg <| WLs 4 [] (.n 12 (pt g_x_n 0) (.k .z)) (qs g_x 0 <| qs g_x 0 <| qB k_3 5 rfl 8 (pt g_x_n 0) (by kernel_rfl) <| qe) (by kernel_rfl) ?_
 refine WL_op ?_
 obtain ⟨r_1, h_r_1, hm⟩ := ob hm
 have k_4 := ((((((k_3.pk (.t (.t (.t (.t (.t (.t .h))))))).pk (.t (.t (.t (.t (.t (.t .h))))))).pk (.t (.t (.t .h)))).pk (.t (.t (.t .h)))).pk (.t (.t (.t (.t (.t (.t .h))))))).pk (.t (.t (.t (.t (.t (.t .h))))))).pk (.t (.t (.t (.t (.t (.t .h))))))
 obtain ⟨F11, O11, kin1, hO1, hre1, hF1, hb1⟩ := k_4.go (.i (.i (.i (.i (.i (.r (.r .e)))))))
 refine Op_call [] 13 _ do_go38 (by kernel_rfl) (c_node_Node_Copy (F := F11) (O := O11) _ _ _ _ _ _ _ _ _ _ _ _ _ _ _ _ _ _ _ _ _ _ kin1 _ h_r_1) ?_
 rintro e_ w_3 ⟨g3, A6, _, c6, A7, _, c7, g4, A8, _, c8, A9, _, c9, rfl, rfl, rfl, rfl, rfl, k_5⟩
 have k_6 := hb1 w_3 _ _ k_5 (.c (.c (.c (.c (.c (.c (.c (.c .n))))))))
 refine ⟨pt g3 0, rfl, ?_⟩
 refine WLs 1 [] (.n 14 (pt g0 8) (.k (.s .a))) (qs g0 0 <| qe) (by kernel_rfl) ?_
 refine WL_op ?_
 have k_7 := k_6.sel (.kkkk (.kkkk (.kk .e)))
 refine Op_b [] 9 (pt g3 0) [pt g3 0] (Pt.at g0 8) k_7 rfl (.kkkk (.kkkk .h)) (by kernel_rfl) (by kernel_rfl) ?_
 intro w_4 k_8
 refine WL_nil <| At_go <| W_seq <| W_reg <| WL_op ?_
 obtain ⟨r_2, h_r_2, hm⟩ := ob hm
 have k_9 := (((((((((k_8.pk (.t (.t (.t (.t (.t (.t .h))))))).pk (.t (.t (.t (.t (.t (.t .h))))))).pk (.t (.t (.t (.t (.t (.t (.t .h)))))))).pk (.t (.t (.t (.t (.t (.t (.t (.t .h))))))))).pk (.t (.t (.t (.t (.t (.t (.t (.t .h))))))))).pk (.t (.t (.t (.t (.t (.t (.t (.t .h))))))))).pk (.t (.t (.t (.t (.t (.t (.t (.t .h))))))))).pk (.t (.t (.t (.t (.t (.t (.t (.t .h))))))))).pk (.t (.t (.t (.t (.t (.t (.t (.t .h))))))))).pk (.t (.t (.t (.t (.t (.t (.t (.t (.t .h)))))))))
 obtain ⟨F12, O12, kin2, hO2, hre2, hF2, hb2⟩ := k_9.go (.i (.i (.i (.i (.i (.i (.i (.i (.i (.i .e))))))))))
 refine Op_call [] 15 _ do_go39 (by kernel_rfl) (c_xof_bound_k_s1 (F := F12) (O := O12) _ _ _ _ _ _ _ _ _ _ _ _ _ _ _ _ _ _ _ _ _ _ _ _ _ _ _ _ _ _ _ _ _ _ _ _ _ _ _ _ _ _ _ _ _ _ _ _ _ _ _ _ _ _ _ _ _ _ _ _ _ _ _ _ _ _ _ _ _ _ _ _ _ _ _ _ (Ro.of_old h_x_key k_9 hF2) rfl hc_x_key (Ro.of_old h_x_salt k_9 hF2) rfl hc_x_salt (Ro.of_old h_x_personal k_9 hF2) rfl hc_x_personal (Ro.of_old h_x_root k_9 hF2) rfl hc_x_root (Ro.of_old h_x_key k_9 hF2) rfl hc_x_key (Ro.of_old h_x_salt k_9 hF2) rfl hc_x_salt (Ro.of_old h_x_personal k_9 hF2) rfl hc_x_personal (Ro.of_old h_x_root k_9 hF2) rfl hc_x_root kin2 _ h_r_2) ?_
 rintro e_ w_5 ⟨A10, _, c10, A11, _, c11, A12, _, c12, A13, _, c13, rfl, rfl, rfl, rfl, rfl, k_10⟩
 have k_11 := hb2 w_5 _ _ k_10 (.c (.c (.c (.c (.c (.c (.c (.c (.c (.c .n))))))))))
 refine ⟨pt g0 0, rfl, ?_⟩
 refine WLs 1 [] (.n 2 (pt g0 0) .z) qe (by kernel_rfl) ?_
 refine WL_nil <| At_go <| W_ret ?_
 obtain rfl := Option.some.inj hm
 refine At_rt [pt g0 0] qe (by kernel_rfl) ?_
 exact ⟨g0, g3, A10, r_2.2.2.1.length, c10, A11, r_2.2.2.2.1.length, c11, g4, A12, r_2.2.2.2.2.2.2.2.2.2.1.length, c12, A13, r_2.2.2.2.2.2.2.2.2.2.2.2.2.2.2.2.2.2.1.length, c13, k_11.len 2 rfl, k_11.len 3 rfl, k_11.len 5 rfl, k_11.len 7 rfl, rfl, k_11⟩

theorem c_dice_Dice_Order_1_k_s1 {F O : Nat → Prop} {w : World} (draw_seed : List UInt8) (draw_s_key : List UInt8) (draw_s_salt : List UInt8) (draw_s_personal : List UInt8) (draw_s_n_kind : Int) (draw_s_n_digest : Int) (draw_s_n_block : List UInt8) (draw_s_n_key : List UInt8) (draw_s_n_last : Bool) (draw_s_n_written : UInt64) (draw_s_n_e_h : Vec UInt64 8) (draw_s_n_e_count_Lo : UInt64) (draw_s_n_e_count_Hi : UInt64) (draw_s_n_e_held : List UInt8) (draw_s_n_e_block : Int) (draw_s_root : List UInt8) (draw_s_at : UInt64) (draw_s_now : Vec UInt8 64) (draw_s_have : Int) (draw : Int) (p : Int) (p1 : List Int) (g_draw : Nat) (g_draw1 : Nat) (A_draw_seed : Option Addr) (n_draw_seed : Nat) (c_draw_seed : Nat) (g_draw_s : Nat) (A_draw_s_key : Option Addr) (n_draw_s_key : Nat) (c_draw_s_key : Nat) (A_draw_s_salt : Option Addr) (n_draw_s_salt : Nat) (c_draw_s_salt : Nat) (A_draw_s_personal : Option Addr) (n_draw_s_personal : Nat) (c_draw_s_personal : Nat) (g_draw_s_n : Nat) (A_draw_s_n_block : Option Addr) (n_draw_s_n_block : Nat) (c_draw_s_n_block : Nat) (A_draw_s_n_key : Option Addr) (n_draw_s_n_key : Nat) (c_draw_s_n_key : Nat) (g_draw_s_n_e : Nat) (A_draw_s_n_e_held : Option Addr) (n_draw_s_n_e_held : Nat) (c_draw_s_n_e_held : Nat) (g_draw_s_root : Nat) (n_draw_s_root : Nat) (c_draw_s_root : Nat) (g_draw2 : Nat) (g_p : Nat) (g_p1 : Nat) (A_p1 : Option Addr) (n_p1 : Nat) (c_p1 : Nat) (h_draw_seed : Ro F w A_draw_seed (e8.all draw_seed)) (hn_draw_seed : draw_seed.length = n_draw_seed) (hc_draw_seed : n_draw_seed ≤ c_draw_seed) (h_draw_s_key : Ro F w A_draw_s_key (e8.all draw_s_key)) (hn_draw_s_key : draw_s_key.length = n_draw_s_key) (hc_draw_s_key : n_draw_s_key ≤ c_draw_s_key) (h_draw_s_salt : Ro F w A_draw_s_salt (e8.all draw_s_salt)) (hn_draw_s_salt : draw_s_salt.length = n_draw_s_salt) (hc_draw_s_salt : n_draw_s_salt ≤ c_draw_s_salt) (h_draw_s_personal : Ro F w A_draw_s_personal (e8.all draw_s_personal)) (hn_draw_s_personal : draw_s_personal.length = n_draw_s_personal) (hc_draw_s_personal : n_draw_s_personal ≤ c_draw_s_personal) (h_draw_s_root : Ro F w (some ⟨g_draw_s_root, 0, none⟩) (e8.all draw_s_root)) (hn_draw_s_root : draw_s_root.length = n_draw_s_root) (hc_draw_s_root : n_draw_s_root ≤ c_draw_s_root) (k : Cx F O w w [Bx 24 g_draw [pt g_draw1 0], Bx 42 g_draw1 [sl A_draw_seed n_draw_seed c_draw_seed, pt g_draw_s 0], Bx 67 g_draw_s [I 1, I 64, .u32 4294967295, .u64 274877906944, .b false, sl A_draw_s_key n_draw_s_key c_draw_s_key, sl A_draw_s_salt n_draw_s_salt c_draw_s_salt, sl A_draw_s_personal n_draw_s_personal c_draw_s_personal, pt g_draw_s_n 0, sl (some ⟨g_draw_s_root, 0, none⟩) n_draw_s_root c_draw_s_root, .u64 draw_s_at, .ar e8 draw_s_now, I draw_s_have, .v (.func (.func 63) ⟨SV.vals [pt g_draw_s 0]⟩ ⟨SV.vals []⟩)], Bx 114 g_draw_s_n [I draw_s_n_kind, I draw_s_n_digest, sl A_draw_s_n_block n_draw_s_n_block c_draw_s_n_block, sl A_draw_s_n_key n_draw_s_n_key c_draw_s_n_key, .b draw_s_n_last, .u64 draw_s_n_written, .v (.iface 141 (SV.val (pt g_draw_s_n_e 0)))], Ow e8 A_draw_s_n_block n_draw_s_n_block c_draw_s_n_block draw_s_n_block, Ow e8 A_draw_s_n_key n_draw_s_n_key c_draw_s_n_key draw_s_n_key, Bx 147 g_draw_s_n_e [.ar e64 draw_s_n_e_h, .u64 draw_s_n_e_count_Lo, .u64 draw_s_n_e_count_Hi, sl A_draw_s_n_e_held n_draw_s_n_e_held c_draw_s_n_e_held, I draw_s_n_e_block, .v (.func (.func 83) ⟨SV.vals []⟩ ⟨SV.vals []⟩), .v (.func (.func 84) ⟨SV.vals []⟩ ⟨SV.vals []⟩)], Ow e8 A_draw_s_n_e_held n_draw_s_n_e_held c_draw_s_n_e_held draw_s_n_e_held, Bx 25 g_draw2 [I draw], Bx 3 g_p [I p], Bx 29 g_p1 [sl A_p1 n_p1 c_p1], Ow eI A_p1 n_p1 c_p1 p1]) (r : (Vec UInt64 8 × UInt64 × UInt64 × List UInt8 × Int × Int × Int × List UInt8 × List UInt8 × Bool × UInt64 × UInt64 × Vec UInt8 64 × Int × Int × Int × List Int)) (hm : m_dice_Dice_Order_1_k_s1 draw_seed draw_s_key draw_s_salt draw_s_personal draw_s_n_kind draw_s_n_digest draw_s_n_block draw_s_n_key draw_s_n_last draw_s_n_written draw_s_n_e_h draw_s_n_e_count_Lo draw_s_n_e_count_Hi draw_s_n_e_held draw_s_n_e_block draw_s_root draw_s_at draw_s_now draw_s_have draw p p1 = some r) :
    Calls Tryz.prog 12 (vals [.v (.func (.func 22) ⟨SV.vals []⟩ ⟨SV.vals [pt g_draw 0, pt g_draw2 0]⟩), pt g_p 0, pt g_p1 0]) w (fun e w' => ∃ A n c A1 n1 c1 A2 n2 c2 A3 n3 c3, r.2.2.2.1.length = n ∧ r.2.2.2.2.2.2.2.1.length = n1 ∧ r.2.2.2.2.2.2.2.2.1.length = n2 ∧ r.2.2.2.2.2.2.2.2.2.2.2.2.2.2.2.2.length = n3 ∧ e = .returned (SV.val (.tup [])) ∧ Cx F O w w' [Bx 147 g_draw_s_n_e [.ar e64 r.1, .u64 r.2.1, .u64 r.2.2.1, sl A n c, I r.2.2.2.2.1, .v (.func (.func 83) ⟨SV.vals []⟩ ⟨SV.vals []⟩), .v (.func (.func 84) ⟨SV.vals []⟩ ⟨SV.vals []⟩)], Ow e8 A n c r.2.2.2.1, Bx 114 g_draw_s_n [I r.2.2.2.2.2.1, I r.2.2.2.2.2.2.1, sl A1 n1 c1, sl A2 n2 c2, .b r.2.2.2.2.2.2.2.2.2.1, .u64 r.2.2.2.2.2.2.2.2.2.2.1, .v (.iface 141 (SV.val (pt g_draw_s_n_e 0)))], Ow e8 A1 n1 c1 r.2.2.2.2.2.2.2.1, Ow e8 A2 n2 c2 r.2.2.2.2.2.2.2.2.1, Bx 67 g_draw_s [I 1, I 64, .u32 4294967295, .u64 274877906944, .b false, sl A_draw_s_key n_draw_s_key c_draw_s_key, sl A_draw_s_salt n_draw_s_salt c_draw_s_salt, sl A_draw_s_personal n_draw_s_personal c_draw_s_personal, pt g_draw_s_n 0, sl (some ⟨g_draw_s_root, 0, none⟩) n_draw_s_root c_draw_s_root, .u64 r.2.2.2.2.2.2.2.2.2.2.2.1, .ar e8 r.2.2.2.2.2.2.2.2.2.2.2.2.1, I r.2.2.2.2.2.2.2.2.2.2.2.2.2.1, .v (.func (.func 63) ⟨SV.vals [pt g_draw_s 0]⟩ ⟨SV.vals []⟩)], Bx 42 g_draw1 [sl A_draw_seed n_draw_seed c_draw_seed, pt g_draw_s 0], Bx 24 g_draw [pt g_draw1 0], Bx 25 g_draw2 [I r.2.2.2.2.2.2.2.2.2.2.2.2.2.2.1], Bx 3 g_p [I r.2.2.2.2.2.2.2.2.2.2.2.2.2.2.2.1], Bx 29 g_p1 [sl A3 n3 c3], Ow eI A3 n3 c3 r.2.2.2.2.2.2.2.2.2.2.2.2.2.2.2.2]) := by
 unfold m_dice_Dice_Order_1_k_s1 at hm
 subst hn_draw_seed
 subst hn_draw_s_key
 subst hn_draw_s_salt
 subst hn_draw_s_personal
 obtain rfl := k.len 4 rfl
 obtain rfl := k.len 5 rfl
 obtain rfl := k.len 7 rfl
 subst hn_draw_s_root
 obtain rfl := k.len 11 rfl
 refine calls [.v (.func (.func 22) ⟨SV.vals []⟩ ⟨SV.vals [pt g_draw 0, pt g_draw2 0]⟩), pt g_p 0, pt g_p1 0] Tryz.func12 rfl (of_decide_eq_true (by kernel_rfl)) ?_
 refine W_seq <| W_q [] (.n 4 (I (w64 (p - 1))) (.k (.s .a))) (qB k 9 rfl 0 (I p) (by kernel_rfl) <| qe) (by kernel_rfl) ?_
 refine At_go <| W_block <| W_un ?_
 refine W_seq <| W_seq <| W_q [] (.n 9 (.b (decide (1 ≤ (w64 (p - 1))))) .a) qe (by kernel_rfl) ?_
 refine At_go <| W_condp (1 ≤ (w64 (p - 1))) (by kernel_rfl) (fun hc => ?_) (fun hc => ?_)
 · rw [if_pos hc] at hm
   refine W_skip <| At_go <| W_seq <| W_block <| W_seq <| W_reg <| WLs 4 [] (.n 12 (.v (.func (.func 22) ⟨SV.vals []⟩ ⟨SV.vals [pt g_draw 0, pt g_draw2 0]⟩)) (.n 15 (.u64 (UInt64.ofInt (w64 ((w64 (p - 1)) + 1)))) (.s .a))) qe (by kernel_rfl) ?_
   refine WL_op ?_
   obtain ⟨r_, h_r_, hm⟩ := ob hm
   obtain ⟨F1, O1, kin, hO, hre, hF, hb⟩ := k.go (.i (.i (.i (.i (.i (.i (.i (.i (.i (.r (.r (.r .e))))))))))))
   refine Op_call [] 16 _ do_go13 (by kernel_rfl) (c_dice_below_k_s1 (F := F1) (O := O1) _ _ _ _ _ _ _ _ _ _ _ _ _ _ _ _ _ _ _ _ _ _ _ _ _ _ _ _ _ _ _ _ _ _ _ _ _ _ _ _ _ _ _ _ _ _ _ _ _ _ _ (Ro.of_old h_draw_seed k hF) rfl hc_draw_seed (Ro.of_old h_draw_s_key k hF) rfl hc_draw_s_key (Ro.of_old h_draw_s_salt k hF) rfl hc_draw_s_salt (Ro.of_old h_draw_s_personal k hF) rfl hc_draw_s_personal (Ro.of_old h_draw_s_root k hF) rfl hc_draw_s_root kin _ h_r_) ?_
   rintro e_ w_ ⟨A0, _, c0, A4, _, c4, A5, _, c5, rfl, rfl, rfl, rfl, k_⟩
   have k_1 := hb w_ _ _ k_ (.c (.c (.c (.c (.c (.c (.c (.c (.c .n)))))))))
   refine ⟨.u64 r_.1, rfl, ?_⟩
   refine WLs 1 [] (.n 5 (.u64 r_.1) (.sss .a)) qe (by kernel_rfl) ?_
   refine WL_nil <| At_go ?_
   have k_2 := k_1.drew 1
   refine W_m do_mixed (.q 0 0 (.q 1 0 (.q 4 0 (.q 5 0 (.q 6 0 (.q 7 0 (.q 2 1 (.q 3 1 (.q 8 1 (.q 9 1 (.q 10 0 (.q 11 0 (.q 12 0 (.op 13 (.q 14 1 (.op 15 .nil)))))))))))))))) [13, 15] k_2 (.c (.kkkk (.kkkk (.kk (.k .z)))) (.c (.kkkk (.kkkk (.kk (.k .e)))) .l)) (by kernel_rfl) (fun _ => ?_)
   obtain ⟨x_0, h_x_0, hm⟩ := ob hm
   refine MXq 6 0 [] (.n 17 (sl A_p1 p1.length c_p1) (.n 18 (I (w64 (p - 1))) (.n 24 (I x_0) .a))) (fun x hx => qB hx 10 rfl 0 (sl A_p1 p1.length c_p1) (by kernel_rfl) <| qB hx 10 rfl 0 (sl A_p1 p1.length c_p1) (by kernel_rfl) <| qW (hx.rd 11 rfl) h_x_0 (k_2.len 11 rfl) (I x_0) rfl <| qe) (by kernel_rfl) (fun _ => ?_)
   refine MXq 4 1 [] (.n 19 (sl A_p1 p1.length c_p1) (.n 20 (.u64 r_.1) (.n 25 (sl A_p1 p1.length c_p1) (.n 26 (I (w64 (p - 1))) (.kkk (.s .a)))))) (fun x hx => qB hx 10 rfl 0 (sl A_p1 p1.length c_p1) (by kernel_rfl) <| qB hx 10 rfl 0 (sl A_p1 p1.length c_p1) (by kernel_rfl) <| qe) (by kernel_rfl) (fun _ => ?_)
   obtain ⟨x_17, h_x_17, hm⟩ := ob hm
   obtain ⟨x_18, h_x_18, hm⟩ := ob hm
   refine MXq 3 0 [] (.n 28 (I x_17) (.n 29 (.v (.pointer (ixA A_p1 (w64 (p - 1)) 1))) (.kk (.ssss .a)))) (fun x hx => qW (hx.rd 11 rfl) h_x_17 (k_2.len 11 rfl) (I x_17) rfl <| qJ (hx.rd 11 rfl) h_x_18 (k_2.len 11 rfl) <| qe) (by kernel_rfl) (fun _ => ?_)
   refine MX_op (by kernel_rfl) rfl <| Op_ost (E := eI) (kk := 0) (sv := I x_0) (svs := [I x_0]) [] 11 x_0 (by kernel_rfl) (Pt.ix1 A_p1 (w64 (p - 1)) 1) k_2 rfl (geti_some h_x_18).2 (E_ix (E := eI) (k_2.rd 11 rfl) (by decide) (geti_lt h_x_18).1 (geti_some h_x_18).2) rfl (Nat.le_of_ble_eq_true (by kernel_rfl)) ?_
   intro w_1 k_3
   refine ⟨(k_3.sel (.kkkk (.kkkk (.kk (.k .z))))), fun _ => ?_⟩
   obtain ⟨x_19, h_x_19, hm⟩ := ob hm
   have hp := Rd.ix (E := eI) (k_3.rd 11 rfl) h_x_19 (k_3.len 11 rfl) (by decide)
   refine MXq 1 1 [] (.n 30 (.v (.pointer (ixA A_p1 (r_.1.toNat : Int) 1))) (.k (.ssss .a))) (fun x hx => qJp hp <| qe) (by kernel_rfl) (fun _ => ?_)
   refine MX_op (by kernel_rfl) rfl <| Op_ost (E := eI) (kk := 0) (sv := I x_17) (svs := [I x_17]) [] 11 x_17 (by kernel_rfl) (Pt.ix1 A_p1 (r_.1.toNat : Int) 1) k_3 rfl (geti_some h_x_19).2 (E_ix (E := eI) (k_3.rd 11 rfl) (by decide) (geti_lt h_x_19).1 (geti_some h_x_19).2) rfl (Nat.le_of_ble_eq_true (by kernel_rfl)) ?_
   intro w_2 k_4
   refine ⟨(k_4.sel (.kkkk (.kkkk (.kk (.k .z))))), fun _ => ?_⟩
   refine MX_nil <| At_in <| At_go <| W_q [] (.n 4 (I (w64 ((w64 (p - 1)) - 1))) (.sss .a)) qe (by kernel_rfl) ?_
   have k_6 := (((((((((((k_4.pk (.t (.t (.t (.t (.t (.t (.t (.t (.t .h)))))))))).pk (.t (.t (.t (.t (.t (.t (.t (.t (.t (.t (.t .h)))))))))))).pk (.t (.t (.t (.t (.t (.t (.t (.t (.t (.t (.t .h)))))))))))).pk (.t (.t (.t (.t (.t (.t (.t (.t (.t (.t (.t .h)))))))))))).pk (.t (.t (.t (.t (.t .h)))))).pk (.t (.t (.t (.t (.t .h)))))).pk (.t (.t (.t (.t (.t (.t (.t (.t .h))))))))).pk (.t (.t (.t (.t (.t (.t (.t (.t .h))))))))).pk (.t (.t (.t (.t (.t (.t (.t (.t .h))))))))).pk (.t (.t (.t (.t (.t (.t (.t (.t (.t .h)))))))))).pk (.t (.t (.t (.t (.t (.t (.t (.t (.t (.t .h))))))))))).pk (.t (.t (.t (.t (.t (.t (.t (.t (.t (.t (.t .h)))))))))))
   refine At_lp (m_dice_Dice_Order_1_k_s1_l0 draw_seed draw_s_key draw_s_salt draw_s_personal draw_s_root p) (fun s L wr => ∃ (draw1 : Int) (draw2 : Int) (draw3 : List UInt8) (draw4 : List UInt8) (draw5 : Bool) (draw6 : UInt64) (draw7 : Vec UInt64 8) (draw8 : UInt64) (draw9 : UInt64) (draw10 : List UInt8) (draw11 : Int) (draw12 : UInt64) (draw13 : Vec UInt8 64) (draw14 : Int) (draw15 : Int) (x_20 : List Int) (i : Int) (A6 : Option Addr) (n0 : Nat) (c6 : Nat) (A7 : Option Addr) (n4 : Nat) (c7 : Nat) (A8 : Option Addr) (n5 : Nat) (c8 : Nat), (draw1, draw2, draw3, draw4, draw5, draw6, draw7, draw8, draw9, draw10, draw11, draw12, draw13, draw14, draw15, x_20, i) = s ∧ L = [(0, .v (.func (.func 22) ⟨SV.vals []⟩ ⟨SV.vals [pt g_draw 0, pt g_draw2 0]⟩)), (2, pt g_p1 0), (4, I i)] ∧ draw3.length = n0 ∧ draw4.length = n4 ∧ draw10.length = n5 ∧ Cx F O w wr [Bx 24 g_draw [pt g_draw1 0], Bx 42 g_draw1 [sl A_draw_seed draw_seed.length c_draw_seed, pt g_draw_s 0], Bx 67 g_draw_s [I 1, I 64, .u32 4294967295, .u64 274877906944, .b false, sl A_draw_s_key draw_s_key.length c_draw_s_key, sl A_draw_s_salt draw_s_salt.length c_draw_s_salt, sl A_draw_s_personal draw_s_personal.length c_draw_s_personal, pt g_draw_s_n 0, sl (some ⟨g_draw_s_root, 0, none⟩) draw_s_root.length c_draw_s_root, .u64 draw12, .ar e8 draw13, I draw14, .v (.func (.func 63) ⟨SV.vals [pt g_draw_s 0]⟩ ⟨SV.vals []⟩)], Bx 114 g_draw_s_n [I draw1, I draw2, sl A6 n0 c6, sl A7 n4 c7, .b draw5, .u64 draw6, .v (.iface 141 (SV.val (pt g_draw_s_n_e 0)))], Ow e8 A6 n0 c6 draw3, Ow e8 A7 n4 c7 draw4, Bx 147 g_draw_s_n_e [.ar e64 draw7, .u64 draw8, .u64 draw9, sl A8 n5 c8, I draw11, .v (.func (.func 83) ⟨SV.vals []⟩ ⟨SV.vals []⟩), .v (.func (.func 84) ⟨SV.vals []⟩ ⟨SV.vals []⟩)], Ow e8 A8 n5 c8 draw10, Bx 25 g_draw2 [I draw15], Bx 29 g_p1 [sl A_p1 p1.length c_p1], Ow eI A_p1 p1.length c_p1 x_20, Bx 3 g_p [I p]]) (r_.2.2.2.2.2.2.1, r_.2.2.2.2.2.2.2.1, r_.2.2.2.2.2.2.2.2.1, r_.2.2.2.2.2.2.2.2.2.1, r_.2.2.2.2.2.2.2.2.2.2.1, r_.2.2.2.2.2.2.2.2.2.2.2.1, r_.2.1, r_.2.2.1, r_.2.2.2.1, r_.2.2.2.2.1, r_.2.2.2.2.2.1, r_.2.2.2.2.2.2.2.2.2.2.2.2.1, r_.2.2.2.2.2.2.2.2.2.2.2.2.2.1, r_.2.2.2.2.2.2.2.2.2.2.2.2.2.2.1, r_.2.2.2.2.2.2.2.2.2.2.2.2.2.2.2, (p1.set (Int.toNat (w64 (p - 1))) x_0).set (Int.toNat (r_.1.toNat : Int)) x_17, w64 ((w64 (p - 1)) - 1)) r hm ⟨r_.2.2.2.2.2.2.1, r_.2.2.2.2.2.2.2.1, r_.2.2.2.2.2.2.2.2.1, r_.2.2.2.2.2.2.2.2.2.1, r_.2.2.2.2.2.2.2.2.2.2.1, r_.2.2.2.2.2.2.2.2.2.2.2.1, r_.2.1, r_.2.2.1, r_.2.2.2.1, r_.2.2.2.2.1, r_.2.2.2.2.2.1, r_.2.2.2.2.2.2.2.2.2.2.2.2.1, r_.2.2.2.2.2.2.2.2.2.2.2.2.2.1, r_.2.2.2.2.2.2.2.2.2.2.2.2.2.2.1, r_.2.2.2.2.2.2.2.2.2.2.2.2.2.2.2, (p1.set (Int.toNat (w64 (p - 1))) x_0).set (Int.toNat (r_.1.toNat : Int)) x_17, w64 ((w64 (p - 1)) - 1), A4, r_.2.2.2.2.2.2.2.2.1.length, c4, A5, r_.2.2.2.2.2.2.2.2.2.1.length, c5, A0, r_.2.2.2.2.1.length, c0, rfl, rfl, k_6.len 4 rfl, k_6.len 5 rfl, k_6.len 7 rfl, k_6⟩ (by kernel_rfl) ?_
   intro s0_ L_ w_3 y0 hrel hstep hr0
   obtain ⟨draw1, draw2, draw3, draw4, draw5, draw6, draw7, draw8, draw9, draw10, draw11, draw12, draw13, draw14, draw15, x_20, i, A6, _, c6, A7, _, c7, A8, _, c8, rfl, rfl, rfl, rfl, rfl, k_5⟩ := hrel
   have hm := hstep; simp only [m_dice_Dice_Order_1_k_s1_l0] at hm
   clear hstep
   refine W_seq <| W_seq <| W_q [] (.n 9 (.b (decide (1 ≤ i))) .a) qe (by kernel_rfl) ?_
   refine At_go <| W_condp (1 ≤ i) (by kernel_rfl) (fun hc1 => ?_) (fun hc1 => ?_)
   · rw [if_pos hc1] at hm
     refine W_skip <| At_go <| W_seq <| W_block <| W_seq <| W_reg <| WLs 4 [] (.n 12 (.v (.func (.func 22) ⟨SV.vals []⟩ ⟨SV.vals [pt g_draw 0, pt g_draw2 0]⟩)) (.n 15 (.u64 (UInt64.ofInt (w64 (i + 1)))) (.s .a))) qe (by kernel_rfl) ?_
     refine WL_op ?_
     obtain ⟨r_1, h_r_1, hm⟩ := ob hm
     obtain ⟨F11, O11, kin1, hO1, hre1, hF1, hb1⟩ := k_5.go (.i (.i (.i (.i (.i (.i (.i (.i (.i (.r (.r (.r .e))))))))))))
     refine Op_call [] 16 _ do_go13 (by kernel_rfl) (c_dice_below_k_s1 (F := F11) (O := O11) _ _ _ _ _ _ _ _ _ _ _ _ _ _ _ _ _ _ _ _ _ _ _ _ _ _ _ _ _ _ _ _ _ _ _ _ _ _ _ _ _ _ _ _ _ _ _ _ _ _ _ (Ro.of_old h_draw_seed k_5 hF1) rfl hc_draw_seed (Ro.of_old h_draw_s_key k_5 hF1) rfl hc_draw_s_key (Ro.of_old h_draw_s_salt k_5 hF1) rfl hc_draw_s_salt (Ro.of_old h_draw_s_personal k_5 hF1) rfl hc_draw_s_personal (Ro.of_old h_draw_s_root k_5 hF1) rfl hc_draw_s_root kin1 _ h_r_1) ?_
     rintro e_ w_4 ⟨A9, _, c9, A10, _, c10, A11, _, c11, rfl, rfl, rfl, rfl, k_7⟩
     have k_8 := hb1 w_4 _ _ k_7 (.c (.c (.c (.c (.c (.c (.c (.c (.c .n)))))))))
     refine ⟨.u64 r_1.1, rfl, ?_⟩
     refine WLs 1 [] (.n 5 (.u64 r_1.1) (.sss .a)) qe (by kernel_rfl) ?_
     refine WL_nil <| At_go ?_
     have k_9 := k_8.drew 1
     refine W_m do_mixed (.q 0 0 (.q 1 0 (.q 4 0 (.q 5 0 (.q 6 0 (.q 7 0 (.q 2 1 (.q 3 1 (.q 8 1 (.q 9 1 (.q 10 0 (.q 11 0 (.q 12 0 (.op 13 (.q 14 1 (.op 15 .nil)))))))))))))))) [13, 15] k_9 (.c (.kkkk (.kkkk (.kk (.s (.k .e))))) (.c (.kkkk (.kkkk (.kk (.k .e)))) .l)) (by kernel_rfl) (fun _ => ?_)
     obtain ⟨x_21, h_x_21, hm⟩ := ob hm
     refine MXq 6 0 [] (.n 17 (sl A_p1 p1.length c_p1) (.n 18 (I i) (.n 24 (I x_21) .a))) (fun x hx => qB hx 9 rfl 0 (sl A_p1 p1.length c_p1) (by kernel_rfl) <| qB hx 9 rfl 0 (sl A_p1 p1.length c_p1) (by kernel_rfl) <| qW (hx.rd 10 rfl) h_x_21 (k_9.len 10 rfl) (I x_21) rfl <| qe) (by kernel_rfl) (fun _ => ?_)
     refine MXq 4 1 [] (.n 19 (sl A_p1 p1.length c_p1) (.n 20 (.u64 r_1.1) (.n 25 (sl A_p1 p1.length c_p1) (.n 26 (I i) (.kkk (.s .a)))))) (fun x hx => qB hx 9 rfl 0 (sl A_p1 p1.length c_p1) (by kernel_rfl) <| qB hx 9 rfl 0 (sl A_p1 p1.length c_p1) (by kernel_rfl) <| qe) (by kernel_rfl) (fun _ => ?_)
     obtain ⟨x_22, h_x_22, hm⟩ := ob hm
     obtain ⟨x_23, h_x_23, hm⟩ := ob hm
     refine MXq 3 0 [] (.n 28 (I x_22) (.n 29 (.v (.pointer (ixA A_p1 i 1))) (.kk (.ssss .a)))) (fun x hx => qW (hx.rd 10 rfl) h_x_22 (k_9.len 10 rfl) (I x_22) rfl <| qJ (hx.rd 10 rfl) h_x_23 (k_9.len 10 rfl) <| qe) (by kernel_rfl) (fun _ => ?_)
     refine MX_op (by kernel_rfl) rfl <| Op_ost (E := eI) (kk := 0) (sv := I x_21) (svs := [I x_21]) [] 10 x_21 (by kernel_rfl) (Pt.ix1 A_p1 i 1) k_9 rfl (geti_some h_x_23).2 (E_ix (E := eI) (k_9.rd 10 rfl) (by decide) (geti_lt h_x_23).1 (geti_some h_x_23).2) rfl (Nat.le_of_ble_eq_true (by kernel_rfl)) ?_
     intro w_5 k_10
     refine ⟨(k_10.sel (.kkkk (.kkkk (.kk (.s (.k .e)))))), fun _ => ?_⟩
     obtain ⟨x_24, h_x_24, hm⟩ := ob hm
     have hp1 := Rd.ix (E := eI) (k_10.rd 10 rfl) h_x_24 (k_10.len 10 rfl) (by decide)
     refine MXq 1 1 [] (.n 30 (.v (.pointer (ixA A_p1 (r_1.1.toNat : Int) 1))) (.k (.ssss .a))) (fun x hx => qJp hp1 <| qe) (by kernel_rfl) (fun _ => ?_)
     refine MX_op (by kernel_rfl) rfl <| Op_ost (E := eI) (kk := 0) (sv := I x_22) (svs := [I x_22]) [] 10 x_22 (by kernel_rfl) (Pt.ix1 A_p1 (r_1.1.toNat : Int) 1) k_10 rfl (geti_some h_x_24).2 (E_ix (E := eI) (k_10.rd 10 rfl) (by decide) (geti_lt h_x_24).1 (geti_some h_x_24).2) rfl (Nat.le_of_ble_eq_true (by kernel_rfl)) ?_
     intro w_6 k_11
     refine ⟨(k_11.sel (.kkkk (.kkkk (.kk (.s (.k .e)))))), fun _ => ?_⟩
     refine MX_nil <| At_in <| At_go <| W_q [] (.n 4 (I (w64 (i - 1))) (.ss (.kk .z))) qe (by kernel_rfl) ?_
     have k_12 := (((((((((((k_11.pk (.t (.t (.t (.t (.t (.t (.t (.t (.t (.t (.t .h)))))))))))).pk (.t (.t (.t (.t (.t (.t (.t (.t (.t (.t (.t .h)))))))))))).pk (.t (.t (.t (.t (.t (.t (.t (.t (.t (.t (.t .h)))))))))))).pk (.t (.t (.t (.t (.t (.t (.t (.t (.t (.t (.t .h)))))))))))).pk (.t (.t (.t (.t (.t .h)))))).pk (.t (.t (.t (.t (.t .h)))))).pk (.t (.t (.t (.t (.t (.t (.t (.t .h))))))))).pk (.t (.t (.t (.t (.t (.t (.t (.t .h))))))))).pk (.t (.t (.t (.t (.t (.t (.t (.t .h))))))))).pk (.t (.t (.t (.t (.t (.t (.t (.t (.t .h)))))))))).pk (.t (.t (.t (.t (.t (.t (.t (.t (.t (.t .h))))))))))).pk (.t (.t (.t (.t (.t (.t (.t (.t (.t (.t (.t .h)))))))))))
     exact At_rd (r_1.2.2.2.2.2.2.1, r_1.2.2.2.2.2.2.2.1, r_1.2.2.2.2.2.2.2.2.1, r_1.2.2.2.2.2.2.2.2.2.1, r_1.2.2.2.2.2.2.2.2.2.2.1, r_1.2.2.2.2.2.2.2.2.2.2.2.1, r_1.2.1, r_1.2.2.1, r_1.2.2.2.1, r_1.2.2.2.2.1, r_1.2.2.2.2.2.1, r_1.2.2.2.2.2.2.2.2.2.2.2.2.1, r_1.2.2.2.2.2.2.2.2.2.2.2.2.2.1, r_1.2.2.2.2.2.2.2.2.2.2.2.2.2.2.1, r_1.2.2.2.2.2.2.2.2.2.2.2.2.2.2.2, (x_20.set (Int.toNat i) x_21).set (Int.toNat (r_1.1.toNat : Int)) x_22, w64 (i - 1)) (Option.some.inj hm).symm ⟨r_1.2.2.2.2.2.2.1, r_1.2.2.2.2.2.2.2.1, r_1.2.2.2.2.2.2.2.2.1, r_1.2.2.2.2.2.2.2.2.2.1, r_1.2.2.2.2.2.2.2.2.2.2.1, r_1.2.2.2.2.2.2.2.2.2.2.2.1, r_1.2.1, r_1.2.2.1, r_1.2.2.2.1, r_1.2.2.2.2.1, r_1.2.2.2.2.2.1, r_1.2.2.2.2.2.2.2.2.2.2.2.2.1, r_1.2.2.2.2.2.2.2.2.2.2.2.2.2.1, r_1.2.2.2.2.2.2.2.2.2.2.2.2.2.2.1, r_1.2.2.2.2.2.2.2.2.2.2.2.2.2.2.2, (x_20.set (Int.toNat i) x_21).set (Int.toNat (r_1.1.toNat : Int)) x_22, w64 (i - 1), A10, r_1.2.2.2.2.2.2.2.2.1.length, c10, A11, r_1.2.2.2.2.2.2.2.2.2.1.length, c11, A9, r_1.2.2.2.2.1.length, c9, rfl, rfl, k_12.len 4 rfl, k_12.len 5 rfl, k_12.len 7 rfl, k_12⟩ (by kernel_rfl)
   rw [if_neg hc1] at hm
   refine W_exit (At_te (At_te (At_ie ?_)))
   have hm := exit_of hm hr0
   obtain rfl := Option.some.inj hm
   refine At_en [] qe (by kernel_rfl) ?_
   have k_13 := (((((((((((k_5.pk (.t (.t (.t (.t (.t (.t (.t (.t (.t (.t .h))))))))))).pk (.t (.t (.t (.t (.t (.t (.t (.t (.t (.t .h))))))))))).pk (.t (.t (.t (.t (.t (.t (.t (.t (.t (.t (.t .h)))))))))))).pk (.t (.t (.t (.t (.t (.t (.t (.t (.t (.t (.t .h)))))))))))).pk (.t (.t (.t (.t .h))))).pk (.t (.t (.t (.t (.t .h)))))).pk (.t (.t (.t (.t (.t (.t .h))))))).pk (.t (.t (.t (.t (.t (.t (.t (.t (.t .h)))))))))).pk (.t (.t (.t (.t (.t (.t (.t (.t (.t .h)))))))))).pk (.t (.t (.t (.t (.t (.t (.t (.t (.t .h)))))))))).pk (.t (.t (.t (.t (.t (.t (.t (.t (.t (.t (.t .h)))))))))))).pk (.t (.t (.t (.t (.t (.t (.t (.t (.t (.t (.t .h)))))))))))
   exact ⟨A8, draw10.length, c8, A6, draw3.length, c6, A7, draw4.length, c7, A_p1, p1.length, c_p1, k_13.len 1 rfl, k_13.len 3 rfl, k_13.len 4 rfl, k_13.len 11 rfl, rfl, k_13⟩
 rw [if_neg hc] at hm
 refine W_exit (At_te (At_te (At_ie ?_)))
 obtain rfl := Option.some.inj hm
 refine At_en [] qe (by kernel_rfl) ?_
 have k_14 := (((((((((((k.pk (.t (.t (.t (.t (.t (.t (.t (.t (.t (.t (.t .h)))))))))))).pk (.t (.t (.t (.t (.t (.t (.t (.t (.t (.t (.t .h)))))))))))).pk (.t (.t (.t (.t (.t (.t (.t (.t (.t (.t (.t .h)))))))))))).pk (.t (.t (.t (.t (.t (.t (.t (.t (.t (.t (.t .h)))))))))))).pk (.t (.t (.t (.t .h))))).pk (.t (.t (.t (.t (.t .h)))))).pk (.t (.t (.t (.t (.t (.t .h))))))).pk (.t (.t (.t (.t (.t (.t (.t (.t (.t .h)))))))))).pk (.t (.t (.t (.t (.t (.t (.t (.t (.t .h)))))))))).pk (.t (.t (.t (.t (.t (.t (.t (.t (.t .h)))))))))).pk (.t (.t (.t (.t (.t (.t (.t (.t (.t (.t (.t .h)))))))))))).pk (.t (.t (.t (.t (.t (.t (.t (.t (.t (.t (.t .h)))))))))))
 exact ⟨A_draw_s_n_e_held, draw_s_n_e_held.length, c_draw_s_n_e_held, A_draw_s_n_block, draw_s_n_block.length, c_draw_s_n_block, A_draw_s_n_key, draw_s_n_key.length, c_draw_s_n_key, A_p1, p1.length, c_p1, k_14.len 1 rfl, k_14.len 3 rfl, k_14.len 4 rfl, k_14.len 11 rfl, rfl, k_14⟩

theorem c_dice_Dice_drawn_o_s1 {F O : Nat → Prop} {w : World} (d_seed : List UInt8) (d_s_key : List UInt8) (d_s_salt : List UInt8) (d_s_personal : List UInt8) (d_s_n_kind : Int) (d_s_n_digest : Int) (d_s_n_block : List UInt8) (d_s_n_key : List UInt8) (d_s_n_last : Bool) (d_s_n_written : UInt64) (d_s_n_e_h : Vec UInt64 8) (d_s_n_e_count_Lo : UInt64) (d_s_n_e_count_Hi : UInt64) (d_s_n_e_held : List UInt8) (d_s_n_e_block : Int) (d_s_root : List UInt8) (d_s_at : UInt64) (d_s_now : Vec UInt8 64) (d_s_have : Int) (work : Int) (work1 : List Int) (g_d : Nat) (A_d_seed : Option Addr) (n_d_seed : Nat) (c_d_seed : Nat) (g_d_s : Nat) (A_d_s_key : Option Addr) (n_d_s_key : Nat) (c_d_s_key : Nat) (A_d_s_salt : Option Addr) (n_d_s_salt : Nat) (c_d_s_salt : Nat) (A_d_s_personal : Option Addr) (n_d_s_personal : Nat) (c_d_s_personal : Nat) (g_d_s_n : Nat) (A_d_s_n_block : Option Addr) (n_d_s_n_block : Nat) (c_d_s_n_block : Nat) (A_d_s_n_key : Option Addr) (n_d_s_n_key : Nat) (c_d_s_n_key : Nat) (g_d_s_n_e : Nat) (A_d_s_n_e_held : Option Addr) (n_d_s_n_e_held : Nat) (c_d_s_n_e_held : Nat) (g_d_s_root : Nat) (n_d_s_root : Nat) (c_d_s_root : Nat) (g_work : Nat) (g_work1 : Nat) (A_work1 : Option Addr) (n_work1 : Nat) (c_work1 : Nat) (h_d_seed : Ro F w A_d_seed (e8.all d_seed)) (hn_d_seed : d_seed.length = n_d_seed) (hc_d_seed : n_d_seed ≤ c_d_seed) (h_d_s_key : Ro F w A_d_s_key (e8.all d_s_key)) (hn_d_s_key : d_s_key.length = n_d_s_key) (hc_d_s_key : n_d_s_key ≤ c_d_s_key) (h_d_s_salt : Ro F w A_d_s_salt (e8.all d_s_salt)) (hn_d_s_salt : d_s_salt.length = n_d_s_salt) (hc_d_s_salt : n_d_s_salt ≤ c_d_s_salt) (h_d_s_personal : Ro F w A_d_s_personal (e8.all d_s_personal)) (hn_d_s_personal : d_s_personal.length = n_d_s_personal) (hc_d_s_personal : n_d_s_personal ≤ c_d_s_personal) (h_d_s_root : Ro F w (some ⟨g_d_s_root, 0, none⟩) (e8.all d_s_root)) (hn_d_s_root : d_s_root.length = n_d_s_root) (hc_d_s_root : n_d_s_root ≤ c_d_s_root) (k : Cx F O w w [Bx 42 g_d [sl A_d_seed n_d_seed c_d_seed, pt g_d_s 0], Bx 67 g_d_s [I 1, I 64, .u32 4294967295, .u64 274877906944, .b false, sl A_d_s_key n_d_s_key c_d_s_key, sl A_d_s_salt n_d_s_salt c_d_s_salt, sl A_d_s_personal n_d_s_personal c_d_s_personal, pt g_d_s_n 0, sl (some ⟨g_d_s_root, 0, none⟩) n_d_s_root c_d_s_root, .u64 d_s_at, .ar e8 d_s_now, I d_s_have, .v (.func (.func 63) ⟨SV.vals [pt g_d_s 0]⟩ ⟨SV.vals []⟩)], Bx 114 g_d_s_n [I d_s_n_kind, I d_s_n_digest, sl A_d_s_n_block n_d_s_n_block c_d_s_n_block, sl A_d_s_n_key n_d_s_n_key c_d_s_n_key, .b d_s_n_last, .u64 d_s_n_written, .v (.iface 141 (SV.val (pt g_d_s_n_e 0)))], Ow e8 A_d_s_n_block n_d_s_n_block c_d_s_n_block d_s_n_block, Ow e8 A_d_s_n_key n_d_s_n_key c_d_s_n_key d_s_n_key, Bx 147 g_d_s_n_e [.ar e64 d_s_n_e_h, .u64 d_s_n_e_count_Lo, .u64 d_s_n_e_count_Hi, sl A_d_s_n_e_held n_d_s_n_e_held c_d_s_n_e_held, I d_s_n_e_block, .v (.func (.func 83) ⟨SV.vals []⟩ ⟨SV.vals []⟩), .v (.func (.func 84) ⟨SV.vals []⟩ ⟨SV.vals []⟩)], Ow e8 A_d_s_n_e_held n_d_s_n_e_held c_d_s_n_e_held d_s_n_e_held, Bx 3 g_work [I work], Bx 29 g_work1 [sl A_work1 n_work1 c_work1], Ow eI A_work1 n_work1 c_work1 work1]) (r : (Int × Vec UInt64 8 × UInt64 × UInt64 × List UInt8 × Int × Int × Int × List UInt8 × List UInt8 × Bool × UInt64 × UInt64 × Vec UInt8 64 × Int × Int × List Int)) (hm : m_dice_Dice_drawn_o_s1 d_seed d_s_key d_s_salt d_s_personal d_s_n_kind d_s_n_digest d_s_n_block d_s_n_key d_s_n_last d_s_n_written d_s_n_e_h d_s_n_e_count_Lo d_s_n_e_count_Hi d_s_n_e_held d_s_n_e_block d_s_root d_s_at d_s_now d_s_have work work1 = some r) :
    Calls Tryz.prog 11 (vals [pt g_d 0, .v (.func (.func 12) ⟨SV.vals []⟩ ⟨SV.vals [pt g_work 0, pt g_work1 0]⟩)]) w (fun e w' => ∃ A n c A1 n1 c1 A2 n2 c2 A3 n3 c3, r.2.2.2.2.1.length = n ∧ r.2.2.2.2.2.2.2.2.1.length = n1 ∧ r.2.2.2.2.2.2.2.2.2.1.length = n2 ∧ r.2.2.2.2.2.2.2.2.2.2.2.2.2.2.2.2.length = n3 ∧ e = .returned (SV.val (I r.1)) ∧ Cx F O w w' [Bx 147 g_d_s_n_e [.ar e64 r.2.1, .u64 r.2.2.1, .u64 r.2.2.2.1, sl A n c, I r.2.2.2.2.2.1, .v (.func (.func 83) ⟨SV.vals []⟩ ⟨SV.vals []⟩), .v (.func (.func 84) ⟨SV.vals []⟩ ⟨SV.vals []⟩)], Ow e8 A n c r.2.2.2.2.1, Bx 114 g_d_s_n [I r.2.2.2.2.2.2.1, I r.2.2.2.2.2.2.2.1, sl A1 n1 c1, sl A2 n2 c2, .b r.2.2.2.2.2.2.2.2.2.2.1, .u64 r.2.2.2.2.2.2.2.2.2.2.2.1, .v (.iface 141 (SV.val (pt g_d_s_n_e 0)))], Ow e8 A1 n1 c1 r.2.2.2.2.2.2.2.2.1, Ow e8 A2 n2 c2 r.2.2.2.2.2.2.2.2.2.1, Bx 67 g_d_s [I 1, I 64, .u32 4294967295, .u64 274877906944, .b false, sl A_d_s_key n_d_s_key c_d_s_key, sl A_d_s_salt n_d_s_salt c_d_s_salt, sl A_d_s_personal n_d_s_personal c_d_s_personal, pt g_d_s_n 0, sl (some ⟨g_d_s_root, 0, none⟩) n_d_s_root c_d_s_root, .u64 r.2.2.2.2.2.2.2.2.2.2.2.2.1, .ar e8 r.2.2.2.2.2.2.2.2.2.2.2.2.2.1, I r.2.2.2.2.2.2.2.2.2.2.2.2.2.2.1, .v (.func (.func 63) ⟨SV.vals [pt g_d_s 0]⟩ ⟨SV.vals []⟩)], Bx 42 g_d [sl A_d_seed n_d_seed c_d_seed, pt g_d_s 0], Bx 3 g_work [I r.2.2.2.2.2.2.2.2.2.2.2.2.2.2.2.1], Bx 29 g_work1 [sl A3 n3 c3], Ow eI A3 n3 c3 r.2.2.2.2.2.2.2.2.2.2.2.2.2.2.2.2]) := by
 unfold m_dice_Dice_drawn_o_s1 at hm
 subst hn_d_seed
 subst hn_d_s_key
 subst hn_d_s_salt
 subst hn_d_s_personal
 obtain rfl := k.len 3 rfl
 obtain rfl := k.len 4 rfl
 obtain rfl := k.len 6 rfl
 subst hn_d_s_root
 obtain rfl := k.len 9 rfl
 refine calls [pt g_d 0, .v (.func (.func 12) ⟨SV.vals []⟩ ⟨SV.vals [pt g_work 0, pt g_work1 0]⟩)] Tryz.func11 rfl (of_decide_eq_true (by kernel_rfl)) ?_
 refine W_seq <| W_reg <| WL_op <| Op_box [] 2 (pt g_d 0) [pt g_d 0] (by kernel_rfl) k ?_
 intro g w_ k_
 refine WLs 1 [] (.k (.s .a)) qe (by kernel_rfl) ?_
 refine WL_nil <| At_go <| W_seq <| W_seq <| W_reg <| WLs 1 [] (.n 7 (pt g_d 0) .a) (qB k_ 10 rfl 0 (pt g_d 0) (by kernel_rfl) <| qe) (by kernel_rfl) ?_
 refine WL_op ?_
 obtain ⟨r_, h_r_, hm⟩ := ob hm
 obtain ⟨F1, O1, kin, hO, hre, hF, hb⟩ := k_.go (.i (.i (.i (.i (.i (.i (.i (.r (.r (.r (.r .e)))))))))))
 refine Op_call [] 8 _ do_go10 (by kernel_rfl) (c_dice_Dice_none_k_s1 (F := F1) (O := O1) _ _ _ _ _ _ _ _ _ _ _ _ _ _ _ _ _ _ _ _ _ _ _ _ _ _ _ _ _ _ _ _ _ _ _ _ _ _ _ _ _ _ _ _ _ _ _ (Ro.of_old h_d_seed k_ hF) rfl hc_d_seed (Ro.of_old h_d_s_key k_ hF) rfl hc_d_s_key (Ro.of_old h_d_s_salt k_ hF) rfl hc_d_s_salt (Ro.of_old h_d_s_personal k_ hF) rfl hc_d_s_personal (Ro.of_old h_d_s_root k_ hF) rfl hc_d_s_root kin _ h_r_) ?_
 rintro e_ w_1 ⟨A0, _, c0, A4, _, c4, A5, _, c5, rfl, rfl, rfl, rfl, k_1⟩
 have k_2 := hb w_1 _ _ k_1 (.c (.c (.c (.c (.c (.c (.c .n)))))))
 refine ⟨.b false, rfl, ?_⟩
 refine WL_nil <| At_go <| W_cond false (by kernel_rfl) (fun h => by cases h) (fun _ => ?_)
 refine W_skip <| At_go <| W_seq <| W_reg <| WLs 4 [] (.n 12 (pt g_d_s 0) (.ss .a)) (qB k_2 10 rfl 0 (pt g_d 0) (by kernel_rfl) <| qs g_d 0 <| qs g_d 0 <| qB k_2 6 rfl 1 (pt g_d_s 0) (by kernel_rfl) <| qe) (by kernel_rfl) ?_
 refine WL_op ?_
 obtain ⟨r_1, h_r_1, hm⟩ := ob hm
 have k_3 := ((((((((((k_2.pk (.t (.t (.t (.t (.t (.t (.t (.t (.t (.t .h))))))))))).pk (.t (.t (.t (.t (.t (.t (.t (.t (.t (.t .h))))))))))).pk (.t (.t (.t (.t (.t (.t (.t (.t (.t (.t .h))))))))))).pk (.t (.t (.t (.t (.t (.t (.t (.t (.t (.t .h))))))))))).pk (.t (.t (.t (.t (.t (.t (.t (.t (.t (.t .h))))))))))).pk (.t (.t (.t (.t (.t (.t .h))))))).pk (.t (.t (.t (.t (.t (.t .h))))))).pk (.t (.t (.t (.t (.t (.t (.t (.t (.t .h)))))))))).pk (.t (.t (.t (.t (.t (.t (.t (.t (.t .h)))))))))).pk (.t (.t (.t (.t (.t (.t (.t (.t (.t .h)))))))))).pk (.t (.t (.t (.t (.t (.t (.t (.t (.t (.t .h))))))))))
 obtain ⟨F11, O11, kin1, hO1, hre1, hF1, hb1⟩ := k_3.go (.i (.i (.i (.i (.i (.i (.r (.r (.r (.r (.r .e)))))))))))
 refine Op_call [] 13 _ do_go21 (by kernel_rfl) (c_xof_Stream_Copy_k_s1 (F := F11) (O := O11) _ _ _ _ _ _ _ _ _ _ _ _ _ _ _ _ _ _ _ _ _ _ _ _ _ _ _ _ _ _ _ _ _ _ _ _ _ _ _ _ _ _ (Ro.of_old h_d_s_key k_3 hF1) rfl hc_d_s_key (Ro.of_old h_d_s_salt k_3 hF1) rfl hc_d_s_salt (Ro.of_old h_d_s_personal k_3 hF1) rfl hc_d_s_personal (Ro.of_old h_d_s_root k_3 hF1) rfl hc_d_s_root kin1 _ h_r_1) ?_
 rintro e_ w_2 ⟨g1, g2, A6, _, c6, A7, _, c7, g3, A8, _, c8, A9, _, c9, rfl, rfl, rfl, rfl, rfl, k_4⟩
 have k_5 := hb1 w_2 _ _ k_4 (.c (.c (.c (.c (.c (.c (.c (.c (.c (.c .n))))))))))
 refine ⟨pt g1 0, rfl, ?_⟩
 refine WLs 1 [] (.n 5 (pt g1 0) (.ss .a)) qe (by kernel_rfl) ?_
 refine WL_nil <| At_go <| W_seq <| W_reg <| WL_op <| Op_alloc [] 6 [I 0] (by kernel_rfl) k_5 ?_
 intro g4 w_3 k_6
 refine WL_op ?_
 have k_7 := k_6.sel (.kkkk (.kkkk (.kkkk (.kkkk .e))))
 refine Op_b [] 15 (I 0) [I 0] (Pt.at g4 0) k_7 rfl .all (by kernel_rfl) (by kernel_rfl) ?_
 intro w_4 k_8
 refine WL_nil <| At_go <| W_seq <| W_reg <| WLs 2 [] (.n 14 (.v (.func (.func 12) ⟨SV.vals []⟩ ⟨SV.vals [pt g_work 0, pt g_work1 0]⟩)) (.n 15 (.v (.func (.func 22) ⟨SV.vals []⟩ ⟨SV.vals [pt g 0, pt g4 0]⟩)) (.kkk .z))) qe (by kernel_rfl) ?_
 refine WL_op ?_
 obtain ⟨r_2, h_r_2, hm⟩ := ob hm
 have k_9 := (((((((((((((((k_8.pk (.t (.t (.t (.t (.t .h)))))).pk (.t (.t (.t (.t (.t .h)))))).pk (.t (.t (.t .h)))).pk (.t (.t (.t .h)))).pk (.t (.t (.t (.t (.t (.t (.t (.t (.t (.t (.t (.t (.t .h)))))))))))))).pk (.t (.t (.t (.t (.t (.t (.t (.t (.t (.t (.t (.t (.t .h)))))))))))))).pk (.t (.t (.t (.t (.t (.t (.t (.t (.t (.t (.t (.t (.t .h)))))))))))))).pk (.t (.t (.t (.t (.t (.t (.t (.t (.t (.t (.t (.t (.t (.t (.t .h)))))))))))))))).pk (.t (.t (.t (.t (.t (.t (.t (.t (.t (.t (.t .h)))))))))))).pk (.t (.t (.t (.t (.t (.t (.t (.t (.t (.t (.t .h)))))))))))).pk (.t (.t (.t (.t (.t (.t (.t (.t (.t (.t (.t .h)))))))))))).pk (.t (.t (.t (.t (.t (.t (.t (.t (.t (.t (.t .h)))))))))))).pk (.t (.t (.t (.t (.t (.t (.t (.t (.t (.t (.t (.t .h))))))))))))).pk (.t (.t (.t (.t (.t (.t (.t (.t (.t (.t (.t (.t (.t .h)))))))))))))).pk (.t (.t (.t (.t (.t (.t (.t (.t (.t (.t (.t (.t (.t (.t .h))))))))))))))).pk (.t (.t (.t (.t (.t (.t (.t (.t (.t (.t (.t (.t (.t (.t (.t .h)))))))))))))))
 obtain ⟨F12, O12, kin2, hO2, hre2, hF2, hb2⟩ := k_9.go (.i (.i (.i (.i (.i (.i (.i (.i (.i (.i (.i (.i (.r (.r (.r (.r .e))))))))))))))))
 refine Op_callv [] 16 [] [.v (.func (.func 22) ⟨SV.vals []⟩ ⟨SV.vals [pt g 0, pt g4 0]⟩)] [pt g_work 0, pt g_work1 0] do_go12 (by kernel_rfl) (c_dice_Dice_Order_1_k_s1 (F := F12) (O := O12) _ _ _ _ _ _ _ _ _ _ _ _ _ _ _ _ _ _ _ _ _ _ _ _ _ _ _ _ _ _ _ _ _ _ _ _ _ _ _ _ _ _ _ _ _ _ _ _ _ _ _ _ _ _ _ _ _ (Ro.of_old h_d_seed k_9 hF2) rfl hc_d_seed (Ro.of_old h_d_s_key k_9 hF2) rfl hc_d_s_key (Ro.of_old h_d_s_salt k_9 hF2) rfl hc_d_s_salt (Ro.of_old h_d_s_personal k_9 hF2) rfl hc_d_s_personal (Ro.of_old h_d_s_root k_9 hF2) rfl hc_d_s_root kin2 _ h_r_2) ?_
 rintro e_ w_5 ⟨A10, _, c10, A11, _, c11, A12, _, c12, A13, _, c13, rfl, rfl, rfl, rfl, rfl, k_10⟩
 have k_11 := hb2 w_5 _ _ k_10 (.c (.c (.c (.c (.c (.c (.c (.c (.c (.c (.c (.c .n))))))))))))
 refine ⟨.tup [], rfl, ?_⟩
 refine WL_nil <| At_go <| W_seq <| W_seq <| W_q [] (.n 18 (.b (decide (r_2.2.2.2.2.2.2.2.2.2.2.2.2.2.2.1 ≠ 0))) (.sss .a)) (qB k_11 8 rfl 0 (I r_2.2.2.2.2.2.2.2.2.2.2.2.2.2.2.1) (by kernel_rfl) <| qe) (by kernel_rfl) ?_
 refine At_go <| W_condp (r_2.2.2.2.2.2.2.2.2.2.2.2.2.2.2.1 ≠ 0) (by kernel_rfl) (fun hc => ?_) (fun hc => ?_)
 · rw [if_pos hc] at hm
   cases hm
 rw [if_neg hc] at hm
 refine W_skip <| At_go <| W_seq <| W_q [] (.n 4 (I r_2.2.2.2.2.2.2.2.2.2.2.2.2.2.2.1) .z) (qB k_11 8 rfl 0 (I r_2.2.2.2.2.2.2.2.2.2.2.2.2.2.2.1) (by kernel_rfl) <| qe) (by kernel_rfl) ?_
 refine At_go <| W_ret ?_
 obtain rfl := Option.some.inj hm
 refine At_rt [I r_2.2.2.2.2.2.2.2.2.2.2.2.2.2.2.1] qe (by kernel_rfl) ?_
 have k_14 := k_11.sel (.kkkk (.kk (.k (.ss (.kk (.k .z))))))
 exact ⟨A10, r_2.2.2.2.1.length, c10, A11, r_2.2.2.2.2.2.2.2.1.length, c11, A12, r_2.2.2.2.2.2.2.2.2.1.length, c12, A13, r_2.2.2.2.2.2.2.2.2.2.2.2.2.2.2.2.2.length, c13, k_14.len 1 rfl, k_14.len 3 rfl, k_14.len 4 rfl, k_14.len 9 rfl, rfl, k_14⟩

theorem c_dice_Dice_Order_k_s1 {F O : Nat → Prop} {w : World} (d_seed : List UInt8) (d_s_key : List UInt8) (d_s_salt : List UInt8) (d_s_personal : List UInt8) (d_s_n_kind : Int) (d_s_n_digest : Int) (d_s_n_block : List UInt8) (d_s_n_key : List UInt8) (d_s_n_last : Bool) (d_s_n_written : UInt64) (d_s_n_e_h : Vec UInt64 8) (d_s_n_e_count_Lo : UInt64) (d_s_n_e_count_Hi : UInt64) (d_s_n_e_held : List UInt8) (d_s_n_e_block : Int) (d_s_root : List UInt8) (d_s_at : UInt64) (d_s_now : Vec UInt8 64) (d_s_have : Int) (n : Int) (g_d : Nat) (A_d_seed : Option Addr) (n_d_seed : Nat) (c_d_seed : Nat) (g_d_s : Nat) (A_d_s_key : Option Addr) (n_d_s_key : Nat) (c_d_s_key : Nat) (A_d_s_salt : Option Addr) (n_d_s_salt : Nat) (c_d_s_salt : Nat) (A_d_s_personal : Option Addr) (n_d_s_personal : Nat) (c_d_s_personal : Nat) (g_d_s_n : Nat) (A_d_s_n_block : Option Addr) (n_d_s_n_block : Nat) (c_d_s_n_block : Nat) (A_d_s_n_key : Option Addr) (n_d_s_n_key : Nat) (c_d_s_n_key : Nat) (g_d_s_n_e : Nat) (A_d_s_n_e_held : Option Addr) (n_d_s_n_e_held : Nat) (c_d_s_n_e_held : Nat) (g_d_s_root : Nat) (n_d_s_root : Nat) (c_d_s_root : Nat) (h_d_seed : Ro F w A_d_seed (e8.all d_seed)) (hn_d_seed : d_seed.length = n_d_seed) (hc_d_seed : n_d_seed ≤ c_d_seed) (h_d_s_key : Ro F w A_d_s_key (e8.all d_s_key)) (hn_d_s_key : d_s_key.length = n_d_s_key) (hc_d_s_key : n_d_s_key ≤ c_d_s_key) (h_d_s_salt : Ro F w A_d_s_salt (e8.all d_s_salt)) (hn_d_s_salt : d_s_salt.length = n_d_s_salt) (hc_d_s_salt : n_d_s_salt ≤ c_d_s_salt) (h_d_s_personal : Ro F w A_d_s_personal (e8.all d_s_personal)) (hn_d_s_personal : d_s_personal.length = n_d_s_personal) (hc_d_s_personal : n_d_s_personal ≤ c_d_s_personal) (h_d_s_root : Ro F w (some ⟨g_d_s_root, 0, none⟩) (e8.all d_s_root)) (hn_d_s_root : d_s_root.length = n_d_s_root) (hc_d_s_root : n_d_s_root ≤ c_d_s_root) (k : Cx F O w w [Bx 42 g_d [sl A_d_seed n_d_seed c_d_seed, pt g_d_s 0], Bx 67 g_d_s [I 1, I 64, .u32 4294967295, .u64 274877906944, .b false, sl A_d_s_key n_d_s_key c_d_s_key, sl A_d_s_salt n_d_s_salt c_d_s_salt, sl A_d_s_personal n_d_s_personal c_d_s_personal, pt g_d_s_n 0, sl (some ⟨g_d_s_root, 0, none⟩) n_d_s_root c_d_s_root, .u64 d_s_at, .ar e8 d_s_now, I d_s_have, .v (.func (.func 63) ⟨SV.vals [pt g_d_s 0]⟩ ⟨SV.vals []⟩)], Bx 114 g_d_s_n [I d_s_n_kind, I d_s_n_digest, sl A_d_s_n_block n_d_s_n_block c_d_s_n_block, sl A_d_s_n_key n_d_s_n_key c_d_s_n_key, .b d_s_n_last, .u64 d_s_n_written, .v (.iface 141 (SV.val (pt g_d_s_n_e 0)))], Ow e8 A_d_s_n_block n_d_s_n_block c_d_s_n_block d_s_n_block, Ow e8 A_d_s_n_key n_d_s_n_key c_d_s_n_key d_s_n_key, Bx 147 g_d_s_n_e [.ar e64 d_s_n_e_h, .u64 d_s_n_e_count_Lo, .u64 d_s_n_e_count_Hi, sl A_d_s_n_e_held n_d_s_n_e_held c_d_s_n_e_held, I d_s_n_e_block, .v (.func (.func 83) ⟨SV.vals []⟩ ⟨SV.vals []⟩), .v (.func (.func 84) ⟨SV.vals []⟩ ⟨SV.vals []⟩)], Ow e8 A_d_s_n_e_held n_d_s_n_e_held c_d_s_n_e_held d_s_n_e_held]) (r : (List Int × Int × Vec UInt64 8 × UInt64 × UInt64 × List UInt8 × Int × Int × Int × List UInt8 × List UInt8 × Bool × UInt64 × UInt64 × Vec UInt8 64 × Int)) (hm : m_dice_Dice_Order_k_s1 d_seed d_s_key d_s_salt d_s_personal d_s_n_kind d_s_n_digest d_s_n_block d_s_n_key d_s_n_last d_s_n_written d_s_n_e_h d_s_n_e_count_Lo d_s_n_e_count_Hi d_s_n_e_held d_s_n_e_block d_s_root d_s_at d_s_now d_s_have n = some r) :
    Calls Tryz.prog 6 (vals [pt g_d 0, I n]) w (fun e w' => ∃ A n1 c A1 n2 c1 A2 n3 c2 A3 n4 c3, r.1.length = n1 ∧ r.2.2.2.2.2.1.length = n2 ∧ r.2.2.2.2.2.2.2.2.2.1.length = n3 ∧ r.2.2.2.2.2.2.2.2.2.2.1.length = n4 ∧ e = .returned (SV.val (.tup [sl A n1 c, I r.2.1])) ∧ Cx F O w w' [Ow eI A n1 c r.1, Bx 147 g_d_s_n_e [.ar e64 r.2.2.1, .u64 r.2.2.2.1, .u64 r.2.2.2.2.1, sl A1 n2 c1, I r.2.2.2.2.2.2.1, .v (.func (.func 83) ⟨SV.vals []⟩ ⟨SV.vals []⟩), .v (.func (.func 84) ⟨SV.vals []⟩ ⟨SV.vals []⟩)], Ow e8 A1 n2 c1 r.2.2.2.2.2.1, Bx 114 g_d_s_n [I r.2.2.2.2.2.2.2.1, I r.2.2.2.2.2.2.2.2.1, sl A2 n3 c2, sl A3 n4 c3, .b r.2.2.2.2.2.2.2.2.2.2.2.1, .u64 r.2.2.2.2.2.2.2.2.2.2.2.2.1, .v (.iface 141 (SV.val (pt g_d_s_n_e 0)))], Ow e8 A2 n3 c2 r.2.2.2.2.2.2.2.2.2.1, Ow e8 A3 n4 c3 r.2.2.2.2.2.2.2.2.2.2.1, Bx 67 g_d_s [I 1, I 64, .u32 4294967295, .u64 274877906944, .b false, sl A_d_s_key n_d_s_key c_d_s_key, sl A_d_s_salt n_d_s_salt c_d_s_salt, sl A_d_s_personal n_d_s_personal c_d_s_personal, pt g_d_s_n 0, sl (some ⟨g_d_s_root, 0, none⟩) n_d_s_root c_d_s_root, .u64 r.2.2.2.2.2.2.2.2.2.2.2.2.2.1, .ar e8 r.2.2.2.2.2.2.2.2.2.2.2.2.2.2.1, I r.2.2.2.2.2.2.2.2.2.2.2.2.2.2.2, .v (.func (.func 63) ⟨SV.vals [pt g_d_s 0]⟩ ⟨SV.vals []⟩)], Bx 42 g_d [sl A_d_seed n_d_seed c_d_seed, pt g_d_s 0]]) := by
 unfold m_dice_Dice_Order_k_s1 at hm
 subst hn_d_seed
 subst hn_d_s_key
 subst hn_d_s_salt
 subst hn_d_s_personal
 obtain rfl := k.len 3 rfl
 obtain rfl := k.len 4 rfl
 obtain rfl := k.len 6 rfl
 subst hn_d_s_root
 refine calls [pt g_d 0, I n] Tryz.func6 rfl (of_decide_eq_true (by kernel_rfl)) ?_
 refine W_seq <| W_reg <| WL_op <| Op_box [] 3 (I n) [I n] (by kernel_rfl) k ?_
 intro g w_ k_
 refine WLs 2 [] (.kk .z) qe (by kernel_rfl) ?_
 refine WL_nil <| At_go <| W_seq <| W_seq <| W_reg <| WLs 1 [] (.n 9 (pt g_d 0) .a) qe (by kernel_rfl) ?_
 refine WL_op ?_
 obtain ⟨r_, h_r_, hm⟩ := ob hm
 obtain ⟨F1, O1, kin, hO, hre, hF, hb⟩ := k_.go (.i (.i (.i (.i (.i (.i (.i (.r .e))))))))
 refine Op_call [] 10 _ do_go10 (by kernel_rfl) (c_dice_Dice_none_k_s1 (F := F1) (O := O1) _ _ _ _ _ _ _ _ _ _ _ _ _ _ _ _ _ _ _ _ _ _ _ _ _ _ _ _ _ _ _ _ _ _ _ _ _ _ _ _ _ _ _ _ _ _ _ (Ro.of_old h_d_seed k_ hF) rfl hc_d_seed (Ro.of_old h_d_s_key k_ hF) rfl hc_d_s_key (Ro.of_old h_d_s_salt k_ hF) rfl hc_d_s_salt (Ro.of_old h_d_s_personal k_ hF) rfl hc_d_s_personal (Ro.of_old h_d_s_root k_ hF) rfl hc_d_s_root kin _ h_r_) ?_
 rintro e_ w_1 ⟨A0, _, c0, A4, _, c4, A5, _, c5, rfl, rfl, rfl, rfl, k_1⟩
 have k_2 := hb w_1 _ _ k_1 (.c (.c (.c (.c (.c (.c (.c .n)))))))
 refine ⟨.b false, rfl, ?_⟩
 refine WL_nil <| At_go <| W_cond false (by kernel_rfl) (fun h => by cases h) (fun _ => ?_)
 refine W_skip <| At_go <| W_seq <| W_seq <| W_q [] (.n 16 (.b ((decide (n < 0)) || (decide (4096 < n)))) (.ss .a)) (qB k_2 7 rfl 0 (I n) (by kernel_rfl) <| qo (I n) <| qc (fun w => (decide (n < 0)) = false → ∃ a, (some ⟨g, 0, none⟩ : Option Addr) = some a ∧ w.cell? a = some (SV.val (I n))) (fun hg0 => k_2.bld 7 rfl 0 (I n) (by kernel_rfl)) <| qe) (by kernel_rfl) ?_
 refine At_go <| W_cond ((decide (n < 0)) || (decide (4096 < n))) (by kernel_rfl) (fun hc => ?_) (fun hc => ?_)
 · rw [if_pos hc] at hm
   refine W_seq <| W_q [] (.n 4 (sl none 0 0) (.n 5 (I 1) .z)) qe (by kernel_rfl) ?_
   refine At_go <| W_ret (At_tr ?_)
   have k_3 := k_2.nil eI
   obtain rfl := Option.some.inj hm
   refine At_rt [sl none 0 0, I 1] qe (by kernel_rfl) ?_
   have k_4 := ((((((((k_3.pk (.t (.t (.t (.t (.t (.t .h))))))).pk (.t (.t (.t (.t (.t (.t .h))))))).pk (.t (.t (.t (.t (.t (.t .h))))))).pk (.t (.t (.t (.t (.t (.t .h))))))).pk (.t (.t (.t (.t (.t (.t .h))))))).pk (.t (.t (.t (.t (.t (.t .h))))))).pk (.t (.t (.t (.t (.t (.t .h))))))).pk (.t (.t (.t (.t (.t (.t (.t (.t .h))))))))).sel (.kkkk (.kkkk .z))
   exact ⟨none, 0, 0, A0, r_.2.2.2.1.length, c0, A4, r_.2.2.2.2.2.2.2.1.length, c4, A5, r_.2.2.2.2.2.2.2.2.1.length, c5, k_4.len 0 rfl, k_4.len 2 rfl, k_4.len 4 rfl, k_4.len 5 rfl, rfl, k_4⟩
 rw [if_neg (by rw [hc]; decide)] at hm
 refine W_skip <| At_go <| W_seq <| W_reg <| WLs 1 [] (.n 17 (I n) (.s .a)) (qB k_2 7 rfl 0 (I n) (by kernel_rfl) <| qe) (by kernel_rfl) ?_
 refine WL_op ?_
 obtain ⟨u, h_u, hm⟩ := ob hm
 refine Op_make do_tf29 eI (0 : Int) rfl [] 18 (I n) (I n) n n (by kernel_rfl) (need_some h_u).1 (need_some h_u).2.1 (need_some h_u).2.2 k_2 ?_
 intro A6 w_2 k_5
 refine WL_op <| Op_alloc [] 6 [sl none 0 0] (by kernel_rfl) k_5 ?_
 intro g1 w_3 k_6
 refine WL_op ?_
 have k_7 := k_6.sel (.kkkk (.kkkk (.kk .e)))
 refine Op_b [] 9 (sl A6 (Int.toNat n) (Int.toNat n)) [sl A6 (Int.toNat n) (Int.toNat n)] (Pt.at g1 0) k_7 rfl .all (by kernel_rfl) (by kernel_rfl) ?_
 intro w_4 k_8
 refine WL_nil <| At_go <| W_seq <| W_seq <| W_q [] (.n 19 (I n) (.n 20 (I 0) (.k (.ss .a)))) (qB k_8 7 rfl 0 (I n) (by kernel_rfl) <| qe) (by kernel_rfl) ?_
 refine At_go <| W_block ?_
 have k_10 := (((((((((k_8.pk (.t (.t (.t (.t (.t (.t (.t (.t .h))))))))).pk (.t (.t (.t (.t (.t (.t (.t (.t (.t .h)))))))))).pk (.t (.t (.t (.t (.t (.t (.t (.t (.t .h)))))))))).pk (.t (.t (.t (.t .h))))).pk (.t (.t (.t (.t .h))))).pk (.t (.t (.t (.t (.t (.t (.t .h)))))))).pk (.t (.t (.t (.t (.t (.t (.t .h)))))))).pk (.t (.t (.t (.t (.t (.t (.t .h)))))))).pk (.t (.t (.t (.t (.t (.t (.t (.t .h))))))))).pk (.t (.t (.t (.t (.t (.t (.t (.t (.t .h)))))))))
 refine W_lp (m_dice_Dice_Order_k_s1_l0 d_seed d_s_key d_s_salt d_s_personal d_s_root n r_) (fun s L wr => ∃ (l : List Int) (x_0 : Int), (l, x_0) = s ∧ L = [(0, pt g_d 0), (3, pt g 0), (6, pt g1 0), (19, I n), (20, I x_0)] ∧ Cx F O w wr [Bx 42 g_d [sl A_d_seed d_seed.length c_d_seed, pt g_d_s 0], Bx 67 g_d_s [I 1, I 64, .u32 4294967295, .u64 274877906944, .b false, sl A_d_s_key d_s_key.length c_d_s_key, sl A_d_s_salt d_s_salt.length c_d_s_salt, sl A_d_s_personal d_s_personal.length c_d_s_personal, pt g_d_s_n 0, sl (some ⟨g_d_s_root, 0, none⟩) d_s_root.length c_d_s_root, .u64 r_.2.2.2.2.2.2.2.2.2.2.2.1, .ar e8 r_.2.2.2.2.2.2.2.2.2.2.2.2.1, I r_.2.2.2.2.2.2.2.2.2.2.2.2.2, .v (.func (.func 63) ⟨SV.vals [pt g_d_s 0]⟩ ⟨SV.vals []⟩)], Bx 114 g_d_s_n [I r_.2.2.2.2.2.1, I r_.2.2.2.2.2.2.1, sl A4 r_.2.2.2.2.2.2.2.1.length c4, sl A5 r_.2.2.2.2.2.2.2.2.1.length c5, .b r_.2.2.2.2.2.2.2.2.2.1, .u64 r_.2.2.2.2.2.2.2.2.2.2.1, .v (.iface 141 (SV.val (pt g_d_s_n_e 0)))], Ow e8 A4 r_.2.2.2.2.2.2.2.1.length c4 r_.2.2.2.2.2.2.2.1, Ow e8 A5 r_.2.2.2.2.2.2.2.2.1.length c5 r_.2.2.2.2.2.2.2.2.1, Bx 147 g_d_s_n_e [.ar e64 r_.1, .u64 r_.2.1, .u64 r_.2.2.1, sl A0 r_.2.2.2.1.length c0, I r_.2.2.2.2.1, .v (.func (.func 83) ⟨SV.vals []⟩ ⟨SV.vals []⟩), .v (.func (.func 84) ⟨SV.vals []⟩ ⟨SV.vals []⟩)], Ow e8 A0 r_.2.2.2.1.length c0 r_.2.2.2.1, Bx 3 g [I n], Bx 29 g1 [sl A6 (Int.toNat n) (Int.toNat n)], Ow eI A6 (Int.toNat n) (Int.toNat n) l]) (List.replicate (Int.toNat n) (0 : Int), (0 : Int)) r hm ⟨List.replicate (Int.toNat n) (0 : Int), (0 : Int), rfl, rfl, k_10⟩ (by kernel_rfl) ?_
 intro s0_ L_ w_5 y0 hrel hstep hr0
 obtain ⟨l, x_0, rfl, rfl, k_9⟩ := hrel
 have hm := hstep; simp only [m_dice_Dice_Order_k_s1_l0] at hm
 clear hstep
 refine W_seq <| W_q [] (.n 21 (.b (decide (x_0 < n))) .a) qe (by kernel_rfl) ?_
 refine At_go <| W_seq <| W_condp (x_0 < n) (by kernel_rfl) (fun hc1 => ?_) (fun hc1 => ?_)
 · rw [if_pos hc1] at hm
   refine W_skip <| At_go <| W_seq <| W_block <| W_seq <| W_q [] (.n 7 (I x_0) (.s .a)) qe (by kernel_rfl) ?_
   refine At_go <| W_reg ?_
   obtain ⟨x_16, h_x_16, hm⟩ := ob hm
   refine WLs 4 [] (.n 25 (I x_0) (.n 26 (.v (.pointer (ixA A6 x_0 1))) (.s .a))) (qB k_9 8 rfl 0 (sl A6 (Int.toNat n) (Int.toNat n)) (by kernel_rfl) <| qJ (k_9.rd 9 rfl) h_x_16 (k_9.len 9 rfl) <| qe) (by kernel_rfl) ?_
   refine WL_op <| Op_ost (E := eI) (kk := 0) (sv := I x_0) (svs := [I x_0]) [] 9 x_0 (by kernel_rfl) (Pt.ix1 A6 x_0 1) k_9 rfl (geti_some h_x_16).2 (E_ix (E := eI) (k_9.rd 9 rfl) (by decide) (geti_lt h_x_16).1 (geti_some h_x_16).2) rfl (Nat.le_of_ble_eq_true (by kernel_rfl)) ?_
   intro w_6 k_11
   refine WL_nil <| At_in <| At_go <| W_q [] (.n 20 (I (w64 (x_0 + 1))) (.ss (.kkkk .z))) qe (by kernel_rfl) ?_
   exact At_rd (l.set (Int.toNat x_0) x_0, w64 (x_0 + 1)) (Option.some.inj hm).symm ⟨l.set (Int.toNat x_0) x_0, w64 (x_0 + 1), rfl, rfl, k_11⟩ (by kernel_rfl)
 rw [if_neg hc1] at hm
 refine W_exit (At_te (At_te (At_ie ?_)))
 have hm := exit_of hm hr0
 refine At_go <| W_seq <| W_reg <| WLs 2 [] (.n 28 (pt g_d 0) (.n 29 (.v (.func (.func 12) ⟨SV.vals []⟩ ⟨SV.vals [pt g 0, pt g1 0]⟩)) (.sss (.k .z)))) qe (by kernel_rfl) ?_
 refine WL_op ?_
 obtain ⟨r_1, h_r_1, hm⟩ := ob hm
 obtain ⟨F11, O11, kin1, hO1, hre1, hF1, hb1⟩ := k_9.go (.i (.i (.i (.i (.i (.i (.i (.i (.i (.i .e))))))))))
 refine Op_call [] 30 _ do_go11 (by kernel_rfl) (c_dice_Dice_drawn_o_s1 (F := F11) (O := O11) _ _ _ _ _ _ _ _ _ _ _ _ _ _ _ _ _ _ _ _ _ _ _ _ _ _ _ _ _ _ _ _ _ _ _ _ _ _ _ _ _ _ _ _ _ _ _ _ _ _ _ _ _ _ (Ro.of_old h_d_seed k_9 hF1) rfl hc_d_seed (Ro.of_old h_d_s_key k_9 hF1) rfl hc_d_s_key (Ro.of_old h_d_s_salt k_9 hF1) rfl hc_d_s_salt (Ro.of_old h_d_s_personal k_9 hF1) rfl hc_d_s_personal (Ro.of_old h_d_s_root k_9 hF1) rfl hc_d_s_root kin1 _ h_r_1) ?_
 rintro e_ w_7 ⟨A7, _, c6, A8, _, c7, A9, _, c8, A10, _, c9, rfl, rfl, rfl, rfl, rfl, k_12⟩
 have k_13 := hb1 w_7 _ _ k_12 (.c (.c (.c (.c (.c (.c (.c (.c (.c (.c .n))))))))))
 refine ⟨I r_1.1, rfl, ?_⟩
 have k_14 := k_13.sel (.kkkk (.kk (.k (.s (.kk .e)))))
 refine WLs 1 [] (.n 8 (I r_1.1) (.sss .a)) qe (by kernel_rfl) ?_
 refine WL_nil <| At_go <| W_seq <| W_seq <| W_q [] (.n 32 (.b (decide (r_1.1 ≠ 0))) .a) qe (by kernel_rfl) ?_
 refine At_go <| W_condp (r_1.1 ≠ 0) (by kernel_rfl) (fun hc2 => ?_) (fun hc2 => ?_)
 · rw [if_pos hc2] at hm
   refine W_seq <| W_q [] (.n 4 (sl none 0 0) (.n 5 (I r_1.1) .z)) qe (by kernel_rfl) ?_
   refine At_go <| W_ret (At_tr ?_)
   have k_15 := k_14.nil eI
   obtain rfl := Option.some.inj hm
   refine At_rt [sl none 0 0, I r_1.1] qe (by kernel_rfl) ?_
   have k_16 := ((((((((k_15.pk (.t (.t (.t (.t (.t (.t .h))))))).pk (.t (.t (.t (.t (.t (.t .h))))))).pk (.t (.t (.t (.t (.t (.t .h))))))).pk (.t (.t (.t (.t (.t (.t .h))))))).pk (.t (.t (.t (.t (.t (.t .h))))))).pk (.t (.t (.t (.t (.t (.t .h))))))).pk (.t (.t (.t (.t (.t (.t .h))))))).pk (.t (.t (.t (.t (.t (.t (.t (.t (.t .h)))))))))).sel (.kkkk (.kkkk .z))
   exact ⟨none, 0, 0, A7, r_1.2.2.2.2.1.length, c6, A8, r_1.2.2.2.2.2.2.2.2.1.length, c7, A9, r_1.2.2.2.2.2.2.2.2.2.1.length, c8, k_16.len 0 rfl, k_16.len 2 rfl, k_16.len 4 rfl, k_16.len 5 rfl, rfl, k_16⟩
 rw [if_neg hc2] at hm
 refine W_skip <| At_go <| W_seq <| W_q [] (.n 4 (sl A10 r_1.2.2.2.2.2.2.2.2.2.2.2.2.2.2.2.2.length c9) (.n 5 (I 0) .z)) (qB k_14 7 rfl 0 (sl A10 r_1.2.2.2.2.2.2.2.2.2.2.2.2.2.2.2.2.length c9) (by kernel_rfl) <| qe) (by kernel_rfl) ?_
 refine At_go <| W_ret ?_
 obtain rfl := Option.some.inj hm
 refine At_rt [sl A10 r_1.2.2.2.2.2.2.2.2.2.2.2.2.2.2.2.2.length c9, I 0] qe (by kernel_rfl) ?_
 have k_17 := ((((((((k_14.pk (.t (.t (.t (.t (.t (.t .h))))))).pk (.t (.t (.t (.t (.t (.t .h))))))).pk (.t (.t (.t (.t (.t (.t .h))))))).pk (.t (.t (.t (.t (.t (.t .h))))))).pk (.t (.t (.t (.t (.t (.t .h))))))).pk (.t (.t (.t (.t (.t (.t .h))))))).pk (.t (.t (.t (.t (.t (.t .h))))))).pk (.t (.t (.t (.t (.t (.t (.t (.t .h))))))))).sel (.kkkk (.kkkk .z))
 exact ⟨A10, r_1.2.2.2.2.2.2.2.2.2.2.2.2.2.2.2.2.length, c9, A7, r_1.2.2.2.2.1.length, c6, A8, r_1.2.2.2.2.2.2.2.2.1.length, c7, A9, r_1.2.2.2.2.2.2.2.2.2.1.length, c8, k_17.len 0 rfl, k_17.len 2 rfl, k_17.len 4 rfl, k_17.len 5 rfl, rfl, k_17⟩
end Go.Sx

