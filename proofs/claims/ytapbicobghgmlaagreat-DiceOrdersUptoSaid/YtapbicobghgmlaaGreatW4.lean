import Derived.Test.YtapbicobghgmlaaGreatW3
namespace Go.Sx
open Go.RowKit Go.Proofs
set_option linter.unusedVariables false
set_option linter.unusedSimpArgs false
set_option maxRecDepth 20000

theorem c_dice_Dice_Choose_k_s1 {F O : Nat → Prop} {w : World} (d_seed : List UInt8) (d_s_key : List UInt8) (d_s_salt : List UInt8) (d_s_personal : List UInt8) (d_s_n_kind : Int) (d_s_n_digest : Int) (d_s_n_block : List UInt8) (d_s_n_key : List UInt8) (d_s_n_last : Bool) (d_s_n_written : UInt64) (d_s_n_e_h : Vec UInt64 8) (d_s_n_e_count_Lo : UInt64) (d_s_n_e_count_Hi : UInt64) (d_s_n_e_held : List UInt8) (d_s_n_e_block : Int) (d_s_root : List UInt8) (d_s_at : UInt64) (d_s_now : Vec UInt8 64) (d_s_have : Int) (n : Int) (k_ : Int) (g_d : Nat) (A_d_seed : Option Addr) (n_d_seed : Nat) (c_d_seed : Nat) (g_d_s : Nat) (A_d_s_key : Option Addr) (n_d_s_key : Nat) (c_d_s_key : Nat) (A_d_s_salt : Option Addr) (n_d_s_salt : Nat) (c_d_s_salt : Nat) (A_d_s_personal : Option Addr) (n_d_s_personal : Nat) (c_d_s_personal : Nat) (g_d_s_n : Nat) (A_d_s_n_block : Option Addr) (n_d_s_n_block : Nat) (c_d_s_n_block : Nat) (A_d_s_n_key : Option Addr) (n_d_s_n_key : Nat) (c_d_s_n_key : Nat) (g_d_s_n_e : Nat) (A_d_s_n_e_held : Option Addr) (n_d_s_n_e_held : Nat) (c_d_s_n_e_held : Nat) (g_d_s_root : Nat) (n_d_s_root : Nat) (c_d_s_root : Nat) (h_d_seed : Ro F w A_d_seed (e8.all d_seed)) (hn_d_seed : d_seed.length = n_d_seed) (hc_d_seed : n_d_seed ≤ c_d_seed) (h_d_s_key : Ro F w A_d_s_key (e8.all d_s_key)) (hn_d_s_key : d_s_key.length = n_d_s_key) (hc_d_s_key : n_d_s_key ≤ c_d_s_key) (h_d_s_salt : Ro F w A_d_s_salt (e8.all d_s_salt)) (hn_d_s_salt : d_s_salt.length = n_d_s_salt) (hc_d_s_salt : n_d_s_salt ≤ c_d_s_salt) (h_d_s_personal : Ro F w A_d_s_personal (e8.all d_s_personal)) (hn_d_s_personal : d_s_personal.length = n_d_s_personal) (hc_d_s_personal : n_d_s_personal ≤ c_d_s_personal) (h_d_s_root : Ro F w (some ⟨g_d_s_root, 0, none⟩) (e8.all d_s_root)) (hn_d_s_root : d_s_root.length = n_d_s_root) (hc_d_s_root : n_d_s_root ≤ c_d_s_root) (k : Cx F O w w [Bx 42 g_d [sl A_d_seed n_d_seed c_d_seed, pt g_d_s 0], Bx 67 g_d_s [I 1, I 64, .u32 4294967295, .u64 274877906944, .b false, sl A_d_s_key n_d_s_key c_d_s_key, sl A_d_s_salt n_d_s_salt c_d_s_salt, sl A_d_s_personal n_d_s_personal c_d_s_personal, pt g_d_s_n 0, sl (some ⟨g_d_s_root, 0, none⟩) n_d_s_root c_d_s_root, .u64 d_s_at, .ar e8 d_s_now, I d_s_have, .v (.func (.func 63) ⟨SV.vals [pt g_d_s 0]⟩ ⟨SV.vals []⟩)], Bx 114 g_d_s_n [I d_s_n_kind, I d_s_n_digest, sl A_d_s_n_block n_d_s_n_block c_d_s_n_block, sl A_d_s_n_key n_d_s_n_key c_d_s_n_key, .b d_s_n_last, .u64 d_s_n_written, .v (.iface 141 (SV.val (pt g_d_s_n_e 0)))], Ow e8 A_d_s_n_block n_d_s_n_block c_d_s_n_block d_s_n_block, Ow e8 A_d_s_n_key n_d_s_n_key c_d_s_n_key d_s_n_key, Bx 147 g_d_s_n_e [.ar e64 d_s_n_e_h, .u64 d_s_n_e_count_Lo, .u64 d_s_n_e_count_Hi, sl A_d_s_n_e_held n_d_s_n_e_held c_d_s_n_e_held, I d_s_n_e_block, .v (.func (.func 83) ⟨SV.vals []⟩ ⟨SV.vals []⟩), .v (.func (.func 84) ⟨SV.vals []⟩ ⟨SV.vals []⟩)], Ow e8 A_d_s_n_e_held n_d_s_n_e_held c_d_s_n_e_held d_s_n_e_held]) (r : (List Int × Int × Vec UInt64 8 × UInt64 × UInt64 × List UInt8 × Int × Int × Int × List UInt8 × List UInt8 × Bool × UInt64 × UInt64 × Vec UInt8 64 × Int)) (hm : m_dice_Dice_Choose_k_s1 d_seed d_s_key d_s_salt d_s_personal d_s_n_kind d_s_n_digest d_s_n_block d_s_n_key d_s_n_last d_s_n_written d_s_n_e_h d_s_n_e_count_Lo d_s_n_e_count_Hi d_s_n_e_held d_s_n_e_block d_s_root d_s_at d_s_now d_s_have n k_ = some r) :
    Calls Tryz.prog 7 (vals [pt g_d 0, I n, I k_]) w (fun e w' => ∃ A n1 c A1 n2 c1 A2 n3 c2 A3 n4 c3, r.1.length = n1 ∧ r.2.2.2.2.2.1.length = n2 ∧ r.2.2.2.2.2.2.2.2.2.1.length = n3 ∧ r.2.2.2.2.2.2.2.2.2.2.1.length = n4 ∧ e = .returned (SV.val (.tup [sl A n1 c, I r.2.1])) ∧ Cx F O w w' [Ow eI A n1 c r.1, Bx 147 g_d_s_n_e [.ar e64 r.2.2.1, .u64 r.2.2.2.1, .u64 r.2.2.2.2.1, sl A1 n2 c1, I r.2.2.2.2.2.2.1, .v (.func (.func 83) ⟨SV.vals []⟩ ⟨SV.vals []⟩), .v (.func (.func 84) ⟨SV.vals []⟩ ⟨SV.vals []⟩)], Ow e8 A1 n2 c1 r.2.2.2.2.2.1, Bx 114 g_d_s_n [I r.2.2.2.2.2.2.2.1, I r.2.2.2.2.2.2.2.2.1, sl A2 n3 c2, sl A3 n4 c3, .b r.2.2.2.2.2.2.2.2.2.2.2.1, .u64 r.2.2.2.2.2.2.2.2.2.2.2.2.1, .v (.iface 141 (SV.val (pt g_d_s_n_e 0)))], Ow e8 A2 n3 c2 r.2.2.2.2.2.2.2.2.2.1, Ow e8 A3 n4 c3 r.2.2.2.2.2.2.2.2.2.2.1, Bx 67 g_d_s [I 1, I 64, .u32 4294967295, .u64 274877906944, .b false, sl A_d_s_key n_d_s_key c_d_s_key, sl A_d_s_salt n_d_s_salt c_d_s_salt, sl A_d_s_personal n_d_s_personal c_d_s_personal, pt g_d_s_n 0, sl (some ⟨g_d_s_root, 0, none⟩) n_d_s_root c_d_s_root, .u64 r.2.2.2.2.2.2.2.2.2.2.2.2.2.1, .ar e8 r.2.2.2.2.2.2.2.2.2.2.2.2.2.2.1, I r.2.2.2.2.2.2.2.2.2.2.2.2.2.2.2, .v (.func (.func 63) ⟨SV.vals [pt g_d_s 0]⟩ ⟨SV.vals []⟩)], Bx 42 g_d [sl A_d_seed n_d_seed c_d_seed, pt g_d_s 0]]) := by
 unfold m_dice_Dice_Choose_k_s1 at hm
 subst hn_d_seed
 subst hn_d_s_key
 subst hn_d_s_salt
 subst hn_d_s_personal
 obtain rfl := k.len 3 rfl
 obtain rfl := k.len 4 rfl
 obtain rfl := k.len 6 rfl
 subst hn_d_s_root
 refine calls [pt g_d 0, I n, I k_] Tryz.func7 rfl (of_decide_eq_true (by kernel_rfl)) ?_
 refine W_seq <| W_q [] .a qe (by kernel_rfl) ?_
 refine At_go <| W_seq <| W_seq <| W_reg <| WLs 1 [] (.n 10 (pt g_d 0) .a) qe (by kernel_rfl) ?_
 refine WL_op ?_
 obtain ⟨r_, h_r_, hm⟩ := ob hm
 obtain ⟨F1, O1, kin, hO, hre, hF, hb⟩ := k.go (.i (.i (.i (.i (.i (.i (.i .e)))))))
 refine Op_call [] 11 _ do_go10 (by kernel_rfl) (c_dice_Dice_none_k_s1 (F := F1) (O := O1) _ _ _ _ _ _ _ _ _ _ _ _ _ _ _ _ _ _ _ _ _ _ _ _ _ _ _ _ _ _ _ _ _ _ _ _ _ _ _ _ _ _ _ _ _ _ _ (Ro.of_old h_d_seed k hF) rfl hc_d_seed (Ro.of_old h_d_s_key k hF) rfl hc_d_s_key (Ro.of_old h_d_s_salt k hF) rfl hc_d_s_salt (Ro.of_old h_d_s_personal k hF) rfl hc_d_s_personal (Ro.of_old h_d_s_root k hF) rfl hc_d_s_root kin _ h_r_) ?_
 rintro e_ w_ ⟨A0, _, c0, A4, _, c4, A5, _, c5, rfl, rfl, rfl, rfl, k_1⟩
 have k_2 := hb w_ _ _ k_1 (.c (.c (.c (.c (.c (.c (.c .n)))))))
 refine ⟨.b false, rfl, ?_⟩
 refine WL_nil <| At_go <| W_cond false (by kernel_rfl) (fun h => by cases h) (fun _ => ?_)
 refine W_skip <| At_go <| W_seq <| W_seq <| W_q [] (.n 26 (.b ((((decide (n < 0)) || (decide (4096 < n))) || (decide (k_ < 0))) || (decide (n < k_)))) (.ss .a)) qe (by kernel_rfl) ?_
 refine At_go <| W_cond ((((decide (n < 0)) || (decide (4096 < n))) || (decide (k_ < 0))) || (decide (n < k_))) (by kernel_rfl) (fun hc => ?_) (fun hc => ?_)
 · rw [if_pos hc] at hm
   refine W_seq <| W_q [] (.n 6 (sl none 0 0) (.n 7 (I 1) .z)) qe (by kernel_rfl) ?_
   refine At_go <| W_ret (At_tr ?_)
   have k_3 := k_2.nil eI
   obtain rfl := Option.some.inj hm
   refine At_rt [sl none 0 0, I 1] qe (by kernel_rfl) ?_
   have k_4 := (((((((k_3.pk (.t (.t (.t (.t (.t (.t .h))))))).pk (.t (.t (.t (.t (.t (.t .h))))))).pk (.t (.t (.t (.t (.t (.t .h))))))).pk (.t (.t (.t (.t (.t (.t .h))))))).pk (.t (.t (.t (.t (.t (.t .h))))))).pk (.t (.t (.t (.t (.t (.t .h))))))).pk (.t (.t (.t (.t (.t (.t .h))))))).pk (.t (.t (.t (.t (.t (.t (.t .h)))))))
   exact ⟨none, 0, 0, A0, r_.2.2.2.1.length, c0, A4, r_.2.2.2.2.2.2.2.1.length, c4, A5, r_.2.2.2.2.2.2.2.2.1.length, c5, k_4.len 0 rfl, k_4.len 2 rfl, k_4.len 4 rfl, k_4.len 5 rfl, rfl, k_4⟩
 rw [if_neg (by rw [hc]; decide)] at hm
 refine W_skip <| At_go <| W_seq <| W_reg <| WLs 2 [] (.n 28 (pt g_d 0) (.n 29 (I n) (.sss .a))) qe (by kernel_rfl) ?_
 refine WL_op ?_
 obtain ⟨r_1, h_r_1, hm⟩ := ob hm
 have k_5 := ((((((k_2.pk (.t .h)).pk (.t .h)).pk (.t (.t (.t (.t .h))))).pk (.t (.t (.t (.t .h))))).pk (.t (.t (.t (.t .h))))).pk (.t (.t (.t (.t (.t .h)))))).pk (.t (.t (.t (.t (.t (.t .h))))))
 obtain ⟨F11, O11, kin1, hO1, hre1, hF1, hb1⟩ := k_5.go (.i (.i (.i (.i (.i (.i (.i .e)))))))
 refine Op_call [] 30 _ do_go6 (by kernel_rfl) (c_dice_Dice_Order_k_s1 (F := F11) (O := O11) _ _ _ _ _ _ _ _ _ _ _ _ _ _ _ _ _ _ _ _ _ _ _ _ _ _ _ _ _ _ _ _ _ _ _ _ _ _ _ _ _ _ _ _ _ _ _ _ (Ro.of_old h_d_seed k_5 hF1) rfl hc_d_seed (Ro.of_old h_d_s_key k_5 hF1) rfl hc_d_s_key (Ro.of_old h_d_s_salt k_5 hF1) rfl hc_d_s_salt (Ro.of_old h_d_s_personal k_5 hF1) rfl hc_d_s_personal (Ro.of_old h_d_s_root k_5 hF1) rfl hc_d_s_root kin1 _ h_r_1) ?_
 rintro e_ w_1 ⟨A6, _, c6, A7, _, c7, A8, _, c8, A9, _, c9, rfl, rfl, rfl, rfl, rfl, k_6⟩
 have k_7 := hb1 w_1 _ _ k_6 (.c (.c (.c (.c (.c (.c (.c (.c .n))))))))
 refine ⟨.tup [sl A6 r_1.1.length c6, I r_1.2.1], rfl, ?_⟩
 refine WLs 5 [] (.n 8 (sl A6 r_1.1.length c6) (.n 9 (I r_1.2.1) (.sss .a))) qe (by kernel_rfl) ?_
 refine WL_nil <| At_go <| W_seq <| W_seq <| W_q [] (.n 34 (.b (decide (r_1.2.1 ≠ 0))) .a) qe (by kernel_rfl) ?_
 refine At_go <| W_condp (r_1.2.1 ≠ 0) (by kernel_rfl) (fun hc1 => ?_) (fun hc1 => ?_)
 · rw [if_pos hc1] at hm
   refine W_seq <| W_q [] (.n 6 (sl none 0 0) (.n 7 (I r_1.2.1) .z)) qe (by kernel_rfl) ?_
   refine At_go <| W_ret (At_tr ?_)
   have k_8 := k_7.nil eI
   obtain rfl := Option.some.inj hm
   refine At_rt [sl none 0 0, I r_1.2.1] qe (by kernel_rfl) ?_
   have k_9 := ((((((((k_8.pk (.t (.t (.t (.t (.t (.t (.t .h)))))))).pk (.t (.t (.t (.t (.t (.t (.t .h)))))))).pk (.t (.t (.t (.t (.t (.t (.t .h)))))))).pk (.t (.t (.t (.t (.t (.t (.t .h)))))))).pk (.t (.t (.t (.t (.t (.t (.t .h)))))))).pk (.t (.t (.t (.t (.t (.t (.t .h)))))))).pk (.t (.t (.t (.t (.t (.t (.t .h)))))))).pk (.t (.t (.t (.t (.t (.t (.t (.t .h))))))))).sel (.kkkk (.kkkk .z))
   exact ⟨none, 0, 0, A7, r_1.2.2.2.2.2.1.length, c7, A8, r_1.2.2.2.2.2.2.2.2.2.1.length, c8, A9, r_1.2.2.2.2.2.2.2.2.2.2.1.length, c9, k_9.len 0 rfl, k_9.len 2 rfl, k_9.len 4 rfl, k_9.len 5 rfl, rfl, k_9⟩
 rw [if_neg hc1] at hm
 refine W_skip <| At_go <| W_seq ?_
 obtain ⟨b, h_b, hm⟩ := ob hm
 have hs := slc_some h_b
 have hl := slc_len h_b
 have hn : r_1.1.length = r_1.1.length := (k_7.len 0 rfl)
 have hc2 : r_1.1.length ≤ c6 := (k_7.lec 0 rfl)
 obtain ⟨u, h_u, hm⟩ := ob hm
 have hq := need_some h_u
 have hc3 : b.length ≤ Int.toNat k_ := by omega
 refine W_q [] (.n 8 (sl A6 b.length (Int.toNat k_)) .z) (qp (0 ≤ k_ ∧ k_ ≤ ((c6 : Nat) : Int)) (by omega) <| qp (0 ≤ k_ ∧ k_ ≤ ((Int.toNat k_ : Nat) : Int)) (by omega) <| qo (.v (.slice A6 b.length (Int.toNat k_))) <| qp (Value.slice (slA A6 0 (Int.toNat k_) 1) (Int.toNat k_ - 0) (Int.toNat k_ - 0) = .slice A6 b.length (Int.toNat k_)) (slx0 _ _ _ _ _ (by omega)) <| qe) (by kernel_rfl) ?_
 refine At_go <| W_seq <| W_reg <| WLs 1 [] (.n 40 (sl A6 b.length (Int.toNat k_)) .a) qe (by kernel_rfl) ?_
 refine WL_op ?_
 have k_10 := k_7.pre 0 rfl b.length (Int.toNat k_) b (by omega) (by omega) (by omega) (slc_pre h_b rfl)
 obtain ⟨u1, h_u1, hm⟩ := ob hm
 refine Op_call [] 41 _ do_go14 (by kernel_rfl) (do_sort14 (i := 0) k_10 rfl (by have h2 := need_some h_u1; have h3 := k_10.len 0 rfl; omega)) ?_
 rintro e_ w_2 ⟨rfl, k_11⟩
 refine ⟨.tup [], rfl, ?_⟩
 refine WL_nil <| At_go <| W_seq <| W_q [] (.n 6 (sl A6 b.length (Int.toNat k_)) (.n 7 (I 0) .z)) qe (by kernel_rfl) ?_
 refine At_go <| W_ret ?_
 obtain rfl := Option.some.inj hm
 refine At_rt [sl A6 b.length (Int.toNat k_), I 0] qe (by kernel_rfl) ?_
 exact ⟨A6, b.length, Int.toNat k_, A7, r_1.2.2.2.2.2.1.length, c7, A8, r_1.2.2.2.2.2.2.2.2.2.1.length, c8, A9, r_1.2.2.2.2.2.2.2.2.2.2.1.length, c9, k_11.len 0 rfl, k_11.len 2 rfl, k_11.len 4 rfl, k_11.len 5 rfl, rfl, k_11⟩

theorem c_l25_DiceOrders_k {F O : Nat → Prop} {w : World} (seed : Vec UInt8 8) (n : UInt8) (k_ : UInt8) (k : Cx F O w w []) (r : Bool) (hm : m_l25_DiceOrders_k seed n k_ = some r) :
    Calls Tryz.prog 3 (vals [.agg [.ar e8 seed], .u8 n, .u8 k_]) w (fun e w' => e = .returned (SV.val (.b r)) ∧ Cx F O w w' []) := by
 unfold m_l25_DiceOrders_k at hm
 refine calls [.agg [.ar e8 seed], .u8 n, .u8 k_] Tryz.func3 rfl (of_decide_eq_true (by kernel_rfl)) ?_
 refine W_seq <| W_reg <| WL_op <| Op_box [] 3 (.agg [.ar e8 seed]) [.ar e8 seed] (by kernel_rfl) k ?_
 intro g w_ k_1
 refine WLs 1 [] (.k (.s .a)) qe (by kernel_rfl) ?_
 refine WL_nil <| At_go <| W_seq <| W_seq <| W_reg <| WL_op ?_
 obtain ⟨r_, h_r_, hm⟩ := ob hm
 refine Op_call [] 18 _ do_go4 (by kernel_rfl) (c_l25_awake_k (F := N0) (O := N0)  (Cx.refl _) _ h_r_) ?_
 rintro e_ w_1 ⟨rfl, k_2⟩
 have k_3 := k_1.call k_2
 refine ⟨.b r_, rfl, ?_⟩
 refine WLs 1 [] (.n 19 (.b (!r_)) (.s .a)) qe (by kernel_rfl) ?_
 refine WL_nil <| At_go <| W_cond (!r_) (by kernel_rfl) (fun hc => ?_) (fun hc => ?_)
 · rw [if_pos hc] at hm
   refine W_seq <| W_q [] (.n 6 (.b false) .z) qe (by kernel_rfl) ?_
   refine At_go <| W_ret (At_tr ?_)
   obtain rfl := Option.some.inj hm
   refine At_rt [.b false] qe (by kernel_rfl) ?_
   have k_4 := k_3.sel .z
   exact ⟨rfl, k_4⟩
 rw [if_neg (by rw [hc]; decide)] at hm
 refine W_skip <| At_go <| W_seq <| W_reg <| WLs 1 [] (.n 21 (sl (some ⟨g, 0, none⟩) 8 8) (.ss .a)) (qo (.v (.slice (some ⟨g, 0, none⟩) 8 8)) <| qp (((some ⟨g, 0, none⟩) : Option Addr).isSome = true ∧ Value.slice (slA (some ⟨g, 0, none⟩) 0 8 1) (8 - 0) (8 - 0) = .slice (some ⟨g, 0, none⟩) 8 8) ⟨rfl, slx0 _ _ _ _ _ rfl⟩ <| qe) (by kernel_rfl) ?_
 refine WL_op ?_
 obtain ⟨r_1, h_r_1, hm⟩ := ob hm
 refine Op_call [] 22 _ do_go5 (by kernel_rfl) (c_dice_New_k (F := N0) (O := N0) _ _ _ _ (Ro.n0 (Rd.vec (k_3.brd 0 rfl) (c := Enc.all e8 seed.l) (off := 0) (by kernel_rfl))) seed.h (Nat.le_refl _) (Cx.refl _) _ h_r_1) ?_
 rcases r_1 with r_2 | r_3
 · simp only [Sum.elim_inl, Sum.elim_inr] at hm
   rintro e_ w_2 ⟨rfl, k_5⟩
   have k_6 := k_3.call k_5
   refine ⟨.tup [.v (.pointer none), I r_2], rfl, ?_⟩
   have k_7 := k_6.sel .z
   refine WLs 5 [] (.n 7 (.v (.pointer none)) (.n 8 (I r_2) (.ss .a))) qe (by kernel_rfl) ?_
   refine WL_nil <| At_go <| W_seq <| W_seq <| W_q [27] (.n 30 (.b true) (.k (.s .a))) qe (by kernel_rfl) ?_
   refine At_go <| W_cond true (by kernel_rfl) (fun _ => ?_) (fun h => by cases h)
   refine W_seq <| W_q [] (.n 6 (.b false) .z) qe (by kernel_rfl) ?_
   refine At_go <| W_ret (At_tr ?_)
   obtain rfl := Option.some.inj hm
   refine At_rt [.b false] qe (by kernel_rfl) ?_
   exact ⟨rfl, k_7⟩
 · simp only [Sum.elim_inl, Sum.elim_inr] at hm
   rintro e_ w_3 ⟨g1, A, _, c, g2, A1, _, c1, A2, _, c2, A3, _, c3, g3, A4, _, c4, A5, _, c5, g4, A6, _, c6, rfl, rfl, rfl, rfl, rfl, rfl, rfl, rfl, k_8⟩
   have k_9 := k_3.call k_8
   refine ⟨.tup [pt g1 0, I 0], rfl, ?_⟩
   have k_10 := k_9.sel (.s (.kkkk (.kkkk (.kk (.k .e)))))
   refine WLs 5 [] (.n 7 (pt g1 0) (.n 8 (I 0) (.ss .a))) qe (by kernel_rfl) ?_
   refine WL_nil <| At_go <| W_seq <| W_seq <| W_q [27] (.n 30 (.b false) (.k (.s .a))) qe (by kernel_rfl) ?_
   refine At_go <| W_cond false (by kernel_rfl) (fun h => by cases h) (fun _ => ?_)
   refine W_skip <| At_go <| W_seq <| W_reg <| WLs 3 [] (.n 32 (pt g1 0) (.n 34 (I (n.toNat : Int)) (.s .a))) qe (by kernel_rfl) ?_
   refine WL_op ?_
   obtain ⟨r_4, h_r_4, hm⟩ := ob hm
   obtain ⟨F1, O1, kin, hO, hre, hF, hb⟩ := k_10.go (.i (.r (.i (.r (.r (.r (.i (.i (.i (.i (.i .e)))))))))))
   refine Op_call [] 35 _ do_go6 (by kernel_rfl) (c_dice_Dice_Order_k (F := F1) (O := O1) _ _ _ _ _ _ _ _ _ _ _ _ _ _ _ _ _ _ _ _ _ _ _ _ _ _ _ _ _ _ _ _ _ _ _ _ _ _ _ _ _ _ _ _ (Ro.of_sh kin.off hre 0 rfl) (k_10.shlen 1 rfl) (k_10.shlec 1 rfl) (Ro.of_sh kin.off hre 1 rfl) (k_10.shlen 3 rfl) (k_10.shlec 3 rfl) (Ro.of_sh kin.off hre 2 rfl) (k_10.shlen 4 rfl) (k_10.shlec 4 rfl) (Ro.of_sh kin.off hre 3 rfl) (k_10.shlen 5 rfl) (k_10.shlec 5 rfl) kin _ h_r_4) ?_
   rcases r_4 with r_5 | r_6
   · simp only [Sum.elim_inl, Sum.elim_inr] at hm
     rintro e_ w_4 ⟨A7, _, c7, A8, _, c8, A9, _, c9, A10, _, c10, rfl, rfl, rfl, rfl, rfl, k_11⟩
     have k_12 := hb w_4 _ _ k_11 (.c (.c (.c (.c (.c (.c (.c (.c .n))))))))
     refine ⟨.tup [sl A7 r_5.1.length c7, I r_5.2.1], rfl, ?_⟩
     refine WLs 5 [] (.n 9 (sl A7 r_5.1.length c7) (.n 10 (I r_5.2.1) (.sss .a))) qe (by kernel_rfl) ?_
     refine WL_nil <| At_go <| W_seq <| W_seq <| W_q [] (.n 46 (.b ((decide (r_5.2.1 ≠ 0)) || (decide (((r_5.1.length : Nat) : Int) ≠ (n.toNat : Int))))) (.k (.s .a))) qe (by kernel_rfl) ?_
     refine At_go <| W_cond ((decide (r_5.2.1 ≠ 0)) || (decide (((r_5.1.length : Nat) : Int) ≠ (n.toNat : Int)))) (by kernel_rfl) (fun hc1 => ?_) (fun hc1 => ?_)
     · rw [if_pos hc1] at hm
       refine W_seq <| W_q [] (.n 6 (.b false) .z) qe (by kernel_rfl) ?_
       refine At_go <| W_ret (At_tr ?_)
       obtain rfl := Option.some.inj hm
       refine At_rt [.b false] qe (by kernel_rfl) ?_
       have k_13 := k_12.sel .z
       exact ⟨rfl, k_13⟩
     rw [if_neg (by rw [hc1]; decide)] at hm
     refine W_skip <| At_go <| W_seq <| W_reg <| WLs 2 [] (.n 48 (I (n.toNat : Int)) (.s .a)) qe (by kernel_rfl) ?_
     refine WL_op ?_
     have k_14 := k_12.sel (.kkkk (.kkkk (.kkkk .e)))
     obtain ⟨u, h_u, hm⟩ := ob hm
     refine Op_make do_tf32 eB false rfl [] 49 (I (n.toNat : Int)) (I (n.toNat : Int)) (n.toNat : Int) (n.toNat : Int) (by kernel_rfl) (need_some h_u).1 (need_some h_u).2.1 (need_some h_u).2.2 k_14 ?_
     intro A11 w_5 k_15
     refine WLs 1 [] (.n 11 (sl A11 (Int.toNat (n.toNat : Int)) (Int.toNat (n.toNat : Int))) (.ss .a)) qe (by kernel_rfl) ?_
     refine WL_nil <| At_go <| W_seq <| W_seq <| W_q [] (.n 50 (sl A7 r_5.1.length c7) (.n 51 (I ((r_5.1.length : Nat) : Int)) (.n 52 (I 0) (.k (.s .a))))) qe (by kernel_rfl) ?_
     refine At_go <| W_block ?_
     have k_17 := ((((((((((((k_15.pk .h).pk (.t (.t (.t (.t (.t (.t (.t (.t (.t (.t (.t (.t .h))))))))))))).pk (.t (.t (.t .h)))).pk (.t (.t (.t .h)))).pk (.t (.t (.t (.t (.t (.t .h))))))).pk (.t (.t (.t (.t (.t (.t .h))))))).pk (.t (.t (.t (.t (.t (.t .h))))))).pk (.t (.t (.t (.t (.t (.t (.t (.t (.t (.t (.t (.t .h))))))))))))).pk (.t (.t (.t (.t (.t (.t (.t (.t (.t (.t (.t (.t .h))))))))))))).pk (.t (.t (.t (.t (.t (.t (.t (.t (.t (.t (.t (.t .h))))))))))))).pk (.t (.t (.t (.t (.t (.t (.t (.t (.t (.t .h))))))))))).pk (.t (.t (.t (.t (.t (.t (.t (.t (.t (.t (.t (.t .h))))))))))))).pk (.t (.t (.t (.t (.t (.t (.t (.t (.t (.t (.t (.t .h))))))))))))
     refine W_lp (m_l25_DiceOrders_k_l0 n k_ r_3 r_5) (fun s L wr => ∃ (seen : List Bool) (x_0 : Int), (seen, x_0) = s ∧ L = [(1, .u8 n), (2, .u8 k_), (7, pt g1 0), (11, sl A11 (Int.toNat (n.toNat : Int)) (Int.toNat (n.toNat : Int))), (50, sl A7 r_5.1.length c7), (51, I ((r_5.1.length : Nat) : Int)), (52, I x_0)] ∧ Cx F O w wr [Bx 42 g1 [sl A r_3.1.length c, pt g2 0], Sh (SH e8) [(A, r_3.1.length, c)] [r_3.1], Bx 67 g2 [I 1, I 64, .u32 4294967295, .u64 274877906944, .b false, sl A1 r_3.2.1.length c1, sl A2 r_3.2.2.1.length c2, sl A3 r_3.2.2.2.1.length c3, pt g3 0, sl none 0 0, .u64 r_5.2.2.2.2.2.2.2.2.2.2.2.2.2.1, .ar e8 r_5.2.2.2.2.2.2.2.2.2.2.2.2.2.2.1, I r_5.2.2.2.2.2.2.2.2.2.2.2.2.2.2.2, .v (.func (.func 36) ⟨SV.vals [pt g2 0]⟩ ⟨SV.vals []⟩)], Sh (SH e8) [(A1, r_3.2.1.length, c1)] [r_3.2.1], Sh (SH e8) [(A2, r_3.2.2.1.length, c2)] [r_3.2.2.1], Sh (SH e8) [(A3, r_3.2.2.2.1.length, c3)] [r_3.2.2.2.1], Bx 114 g3 [I r_5.2.2.2.2.2.2.2.1, I r_5.2.2.2.2.2.2.2.2.1, sl A9 r_5.2.2.2.2.2.2.2.2.2.1.length c9, sl A10 r_5.2.2.2.2.2.2.2.2.2.2.1.length c10, .b r_5.2.2.2.2.2.2.2.2.2.2.2.1, .u64 r_5.2.2.2.2.2.2.2.2.2.2.2.2.1, .v (.iface 141 (SV.val (pt g4 0)))], Ow e8 A9 r_5.2.2.2.2.2.2.2.2.2.1.length c9 r_5.2.2.2.2.2.2.2.2.2.1, Ow e8 A10 r_5.2.2.2.2.2.2.2.2.2.2.1.length c10 r_5.2.2.2.2.2.2.2.2.2.2.1, Bx 147 g4 [.ar e64 r_5.2.2.1, .u64 r_5.2.2.2.1, .u64 r_5.2.2.2.2.1, sl A8 r_5.2.2.2.2.2.1.length c8, I r_5.2.2.2.2.2.2.1, .v (.func (.func 83) ⟨SV.vals []⟩ ⟨SV.vals []⟩), .v (.func (.func 84) ⟨SV.vals []⟩ ⟨SV.vals []⟩)], Ow e8 A8 r_5.2.2.2.2.2.1.length c8 r_5.2.2.2.2.2.1, Ow eB A11 (Int.toNat (n.toNat : Int)) (Int.toNat (n.toNat : Int)) seen, Ow eI A7 r_5.1.length c7 r_5.1]) (List.replicate (Int.toNat (n.toNat : Int)) false, (0 : Int)) r hm ⟨List.replicate (Int.toNat (n.toNat : Int)) false, (0 : Int), rfl, rfl, k_17⟩ (by kernel_rfl) ?_
     intro s0_ L_ w_6 y0 hrel hstep hr0
     obtain ⟨seen, x_0, rfl, rfl, k_16⟩ := hrel
     have hm := hstep; simp only [m_l25_DiceOrders_k_l0] at hm
     clear hstep
     refine W_seq <| W_q [] (.n 53 (.b (decide (x_0 < ((r_5.1.length : Nat) : Int)))) .a) qe (by kernel_rfl) ?_
     refine At_go <| W_seq <| W_condp (x_0 < ((r_5.1.length : Nat) : Int)) (by kernel_rfl) (fun hc2 => ?_) (fun hc2 => ?_)
     · rw [if_pos hc2] at hm
       refine W_skip <| At_go <| W_seq <| W_block <| W_seq ?_
       obtain ⟨x_1, h_x_1, hm⟩ := ob hm
       refine W_q [] (.n 13 (I x_1) (.s .a)) (qW (k_16.rd 12 rfl) h_x_1 (k_16.len 12 rfl) (I x_1) rfl <| qe) (by kernel_rfl) ?_
       refine At_go <| W_seq <| W_seq ?_
       obtain ⟨x_2, h_x_2, hm⟩ := ob hm
       refine W_q [] (.n 69 (.b (((decide (x_1 < 0)) || (decide ((n.toNat : Int) ≤ x_1))) || x_2)) .a) (qp (((decide (x_1 < 0)) || (decide ((n.toNat : Int) ≤ x_1))) = false → 0 ≤ x_1 ∧ x_1 < ((Int.toNat (n.toNat : Int) : Nat) : Int) ∧ A11.isSome = true) (fun hg0 => Rd.ix (E := eB) (k_16.rd 11 rfl) (gif_not h_x_2 hg0) (k_16.len 11 rfl) (by decide)) <| qo (.b x_2) <| qc (fun w => ((decide (x_1 < 0)) || (decide ((n.toNat : Int) ≤ x_1))) = false → ∃ a, ixA A11 x_1 1 = some a ∧ w.cell? a = some (SV.val (.b x_2))) (fun hg0 => Rd.el (k := 0) (k_16.rd 11 rfl) (gif_not h_x_2 hg0) (Pt.ix1 A11 x_1 1) rfl) <| qe) (by kernel_rfl) ?_
       refine At_go <| W_cond (((decide (x_1 < 0)) || (decide ((n.toNat : Int) ≤ x_1))) || x_2) (by kernel_rfl) (fun hc3 => ?_) (fun hc3 => ?_)
       · rw [if_pos hc3] at hm
         refine W_seq <| W_q [] (.n 6 (.b false) .z) qe (by kernel_rfl) ?_
         refine At_go <| W_ret (At_tr (At_ir (At_tr (At_tr (At_ir (At_tr ?_))))))
         have hm := exit_of hm hr0
         obtain rfl := Option.some.inj hm
         refine At_rt [.b false] qe (by kernel_rfl) ?_
         have k_18 := k_16.sel .z
         exact ⟨rfl, k_18⟩
       rw [if_neg (by rw [hc3]; decide)] at hm
       refine W_skip <| At_go <| W_reg ?_
       obtain ⟨x_3, h_x_3, hm⟩ := ob hm
       refine WLs 3 [] (.n 72 (.v (.pointer (ixA A11 x_1 1))) (.ss .a)) (qJ (k_16.rd 11 rfl) h_x_3 (k_16.len 11 rfl) <| qe) (by kernel_rfl) ?_
       refine WL_op <| Op_ost (E := eB) (kk := 0) (sv := .b true) (svs := [.b true]) [] 11 true (by kernel_rfl) (Pt.ix1 A11 x_1 1) k_16 rfl (geti_some h_x_3).2 (E_ix (E := eB) (k_16.rd 11 rfl) (by decide) (geti_lt h_x_3).1 (geti_some h_x_3).2) rfl (Nat.le_of_ble_eq_true (by kernel_rfl)) ?_
       intro w_7 k_19
       refine WL_nil <| At_in <| At_go <| W_q [] (.n 52 (I (w64 (x_0 + 1))) (.s (.kkkk (.kk .z)))) qe (by kernel_rfl) ?_
       exact At_rd (seen.set (Int.toNat x_1) true, w64 (x_0 + 1)) (Option.some.inj hm).symm ⟨seen.set (Int.toNat x_1) true, w64 (x_0 + 1), rfl, rfl, k_19⟩ (by kernel_rfl)
     rw [if_neg hc2] at hm
     refine W_exit (At_te (At_te (At_ie ?_)))
     have hm := exit_of hm hr0
     refine At_go <| W_seq <| W_reg <| WLs 5 [] (.n 75 (pt g1 0) (.n 77 (I (n.toNat : Int)) (.n 79 (I (k_.toNat : Int)) (.s (.kk .z))))) qe (by kernel_rfl) ?_
     refine WL_op ?_
     obtain ⟨r_7, h_r_7, hm⟩ := ob hm
     obtain ⟨F11, O11, kin1, hO1, hre1, hF1, hb1⟩ := k_16.go (.i (.r (.i (.r (.r (.r (.i (.i (.i (.i (.i (.r (.r .e)))))))))))))
     refine Op_call [] 80 _ do_go7 (by kernel_rfl) (c_dice_Dice_Choose_k (F := F11) (O := O11) _ _ _ _ _ _ _ _ _ _ _ _ _ _ _ _ _ _ _ _ _ _ _ _ _ _ _ _ _ _ _ _ _ _ _ _ _ _ _ _ _ _ _ _ _ (Ro.of_sh kin1.off hre1 0 rfl) (k_16.shlen 1 rfl) (k_16.shlec 1 rfl) (Ro.of_sh kin1.off hre1 1 rfl) (k_16.shlen 3 rfl) (k_16.shlec 3 rfl) (Ro.of_sh kin1.off hre1 2 rfl) (k_16.shlen 4 rfl) (k_16.shlec 4 rfl) (Ro.of_sh kin1.off hre1 3 rfl) (k_16.shlen 5 rfl) (k_16.shlec 5 rfl) kin1 _ h_r_7) ?_
     rcases r_7 with r_8 | r_9
     · simp only [Sum.elim_inl, Sum.elim_inr] at hm
       rintro e_ w_8 ⟨A12, _, c11, A13, _, c12, A14, _, c13, A15, _, c14, rfl, rfl, rfl, rfl, rfl, k_20⟩
       have k_21 := hb1 w_8 _ _ k_20 (.c (.c (.c (.c (.c (.c (.c (.c .n))))))))
       refine ⟨.tup [sl A12 r_8.1.length c11, I r_8.2.1], rfl, ?_⟩
       have k_22 := k_21.sel (.k .z)
       refine WLs 5 [] (.n 14 (sl A12 r_8.1.length c11) (.n 15 (I r_8.2.1) (.ssss .a))) qe (by kernel_rfl) ?_
       refine WL_nil <| At_go <| W_seq <| W_seq <| W_q [] (.n 85 (.b (decide (n < k_))) .a) qe (by kernel_rfl) ?_
       refine At_go <| W_condp (n < k_) (by kernel_rfl) (fun hc4 => ?_) (fun hc4 => ?_)
       · rw [if_pos hc4] at hm
         refine W_seq <| W_q [] (.n 6 (.b ((decide (r_8.2.1 = 1)) && (decide (((r_8.1.length : Nat) : Int) = 0)))) .z) qe (by kernel_rfl) ?_
         refine At_go <| W_ret (At_tr ?_)
         obtain rfl := Option.some.inj hm
         refine At_rt [.b ((decide (r_8.2.1 = 1)) && (decide (((r_8.1.length : Nat) : Int) = 0)))] qe (by kernel_rfl) ?_
         have k_23 := k_22.sel .z
         exact ⟨rfl, k_23⟩
       rw [if_neg hc4] at hm
       refine W_skip <| At_go <| W_seq <| W_seq <| W_q [] (.n 93 (sl A12 r_8.1.length c11) (.n 94 (I ((r_8.1.length : Nat) : Int)) (.n 95 (I 0) (.s .a)))) qe (by kernel_rfl) ?_
       refine At_go <| W_block <| W_lp (m_l25_DiceOrders_k_l1 n k_ r_8) (fun s L wr => ∃ (x_4 : Int), x_4 = s ∧ L = [(1, .u8 n), (2, .u8 k_), (14, sl A12 r_8.1.length c11), (15, I r_8.2.1), (93, sl A12 r_8.1.length c11), (94, I ((r_8.1.length : Nat) : Int)), (95, I x_4)] ∧ Cx F O w wr [Ow eI A12 r_8.1.length c11 r_8.1]) (0 : Int) r hm ⟨(0 : Int), rfl, rfl, k_22⟩ (by kernel_rfl) ?_
       intro s0_ L_ w_9 y0 hrel hstep hr0
       obtain ⟨x_4, rfl, rfl, k_24⟩ := hrel
       have hm := hstep; simp only [m_l25_DiceOrders_k_l1] at hm
       clear hstep
       refine W_seq <| W_q [] (.n 96 (.b (decide (x_4 < ((r_8.1.length : Nat) : Int)))) .a) qe (by kernel_rfl) ?_
       refine At_go <| W_seq <| W_condp (x_4 < ((r_8.1.length : Nat) : Int)) (by kernel_rfl) (fun hc5 => ?_) (fun hc5 => ?_)
       · rw [if_pos hc5] at hm
         refine W_skip <| At_go <| W_seq <| W_block <| W_seq ?_
         obtain ⟨x_5, h_x_5, hm⟩ := ob hm
         refine W_q [] (.n 16 (I x_4) (.n 17 (I x_5) (.s .a))) (qW (k_24.rd 0 rfl) h_x_5 (k_24.len 0 rfl) (I x_5) rfl <| qe) (by kernel_rfl) ?_
         refine At_go <| W_seq ?_
         obtain ⟨x_6, h_x_6, hm⟩ := ob hm
         refine W_q [] (.n 120 (.b (((decide (x_5 < 0)) || (decide ((n.toNat : Int) ≤ x_5))) || ((decide (0 < x_4)) && (decide (x_5 ≤ x_6))))) (.ss .a)) (qp (((decide (x_5 < 0)) || (decide ((n.toNat : Int) ≤ x_5))) = false → (decide (0 < x_4)) = true → 0 ≤ w64 (x_4 - 1) ∧ w64 (x_4 - 1) < ((r_8.1.length : Nat) : Int) ∧ A12.isSome = true) (fun hg1 => fun hg0 => Rd.ix (E := eI) (k_24.rd 0 rfl) (gif_some (gif_not h_x_6 hg1) hg0) (k_24.len 0 rfl) (by decide)) <| qo (I x_6) <| qc (fun w => ((decide (x_5 < 0)) || (decide ((n.toNat : Int) ≤ x_5))) = false → (decide (0 < x_4)) = true → ∃ a, ixA A12 (w64 (x_4 - 1)) 1 = some a ∧ w.cell? a = some (SV.val (I x_6))) (fun hg1 => fun hg0 => Rd.el (k := 0) (k_24.rd 0 rfl) (gif_some (gif_not h_x_6 hg1) hg0) (Pt.ix1 A12 (w64 (x_4 - 1)) 1) rfl) <| qe) (by kernel_rfl) ?_
         refine At_go <| W_cond (((decide (x_5 < 0)) || (decide ((n.toNat : Int) ≤ x_5))) || ((decide (0 < x_4)) && (decide (x_5 ≤ x_6)))) (by kernel_rfl) (fun hc6 => ?_) (fun hc6 => ?_)
         · rw [if_pos hc6] at hm
           refine W_seq <| W_q [] (.n 6 (.b false) .z) qe (by kernel_rfl) ?_
           refine At_go <| W_ret (At_ir (At_tr (At_tr (At_ir (At_tr ?_)))))
           have hm := exit_of hm hr0
           obtain rfl := Option.some.inj hm
           refine At_rt [.b false] qe (by kernel_rfl) ?_
           have k_25 := k_24.sel .z
           exact ⟨rfl, k_25⟩
         rw [if_neg (by rw [hc6]; decide)] at hm
         refine W_skip <| At_in <| At_go <| W_q [] (.n 95 (I (w64 (x_4 + 1))) (.s (.kkkk (.kk .z)))) qe (by kernel_rfl) ?_
         exact At_rd (w64 (x_4 + 1)) (Option.some.inj hm).symm ⟨w64 (x_4 + 1), rfl, rfl, k_24⟩ (by kernel_rfl)
       rw [if_neg hc5] at hm
       refine W_exit (At_te (At_te (At_ie ?_)))
       have hm := exit_of hm hr0
       refine At_go <| W_seq <| W_q [] (.n 6 (.b ((decide (r_8.2.1 = 0)) && (decide (((r_8.1.length : Nat) : Int) = (k_.toNat : Int))))) .z) qe (by kernel_rfl) ?_
       refine At_go <| W_ret ?_
       obtain rfl := Option.some.inj hm
       refine At_rt [.b ((decide (r_8.2.1 = 0)) && (decide (((r_8.1.length : Nat) : Int) = (k_.toNat : Int))))] qe (by kernel_rfl) ?_
       have k_26 := k_24.sel .z
       exact ⟨rfl, k_26⟩
     · simp only [Sum.elim_inl, Sum.elim_inr] at hm
       rintro e_ w_10 ⟨A16, _, c15, A17, _, c16, A18, _, c17, A19, _, c18, g5, _, c19, rfl, rfl, rfl, rfl, rfl, rfl, k_27⟩
       have k_28 := hb1 w_10 _ _ k_27 (.c (.c (.c (.c (.c (.c (.c (.c (.c .n)))))))))
       refine ⟨.tup [sl A16 r_9.1.length c15, I r_9.2.1], rfl, ?_⟩
       have k_29 := k_28.sel (.k .z)
       refine WLs 5 [] (.n 14 (sl A16 r_9.1.length c15) (.n 15 (I r_9.2.1) (.ssss .a))) qe (by kernel_rfl) ?_
       refine WL_nil <| At_go <| W_seq <| W_seq <| W_q [] (.n 85 (.b (decide (n < k_))) .a) qe (by kernel_rfl) ?_
       refine At_go <| W_condp (n < k_) (by kernel_rfl) (fun hc7 => ?_) (fun hc7 => ?_)
       · rw [if_pos hc7] at hm
         refine W_seq <| W_q [] (.n 6 (.b ((decide (r_9.2.1 = 1)) && (decide (((r_9.1.length : Nat) : Int) = 0)))) .z) qe (by kernel_rfl) ?_
         refine At_go <| W_ret (At_tr ?_)
         obtain rfl := Option.some.inj hm
         refine At_rt [.b ((decide (r_9.2.1 = 1)) && (decide (((r_9.1.length : Nat) : Int) = 0)))] qe (by kernel_rfl) ?_
         have k_30 := k_29.sel .z
         exact ⟨rfl, k_30⟩
       rw [if_neg hc7] at hm
       refine W_skip <| At_go <| W_seq <| W_seq <| W_q [] (.n 93 (sl A16 r_9.1.length c15) (.n 94 (I ((r_9.1.length : Nat) : Int)) (.n 95 (I 0) (.s .a)))) qe (by kernel_rfl) ?_
       refine At_go <| W_block <| W_lp (m_l25_DiceOrders_k_l2 n k_ r_9) (fun s L wr => ∃ (x_7 : Int), x_7 = s ∧ L = [(1, .u8 n), (2, .u8 k_), (14, sl A16 r_9.1.length c15), (15, I r_9.2.1), (93, sl A16 r_9.1.length c15), (94, I ((r_9.1.length : Nat) : Int)), (95, I x_7)] ∧ Cx F O w wr [Ow eI A16 r_9.1.length c15 r_9.1]) (0 : Int) r hm ⟨(0 : Int), rfl, rfl, k_29⟩ (by kernel_rfl) ?_
       intro s0_ L_ w_11 y0 hrel hstep hr0
       obtain ⟨x_7, rfl, rfl, k_31⟩ := hrel
       have hm := hstep; simp only [m_l25_DiceOrders_k_l2] at hm
       clear hstep
       refine W_seq <| W_q [] (.n 96 (.b (decide (x_7 < ((r_9.1.length : Nat) : Int)))) .a) qe (by kernel_rfl) ?_
       refine At_go <| W_seq <| W_condp (x_7 < ((r_9.1.length : Nat) : Int)) (by kernel_rfl) (fun hc8 => ?_) (fun hc8 => ?_)
       · rw [if_pos hc8] at hm
         refine W_skip <| At_go <| W_seq <| W_block <| W_seq ?_
         obtain ⟨x_8, h_x_8, hm⟩ := ob hm
         refine W_q [] (.n 16 (I x_7) (.n 17 (I x_8) (.s .a))) (qW (k_31.rd 0 rfl) h_x_8 (k_31.len 0 rfl) (I x_8) rfl <| qe) (by kernel_rfl) ?_
         refine At_go <| W_seq ?_
         obtain ⟨x_9, h_x_9, hm⟩ := ob hm
         refine W_q [] (.n 120 (.b (((decide (x_8 < 0)) || (decide ((n.toNat : Int) ≤ x_8))) || ((decide (0 < x_7)) && (decide (x_8 ≤ x_9))))) (.ss .a)) (qp (((decide (x_8 < 0)) || (decide ((n.toNat : Int) ≤ x_8))) = false → (decide (0 < x_7)) = true → 0 ≤ w64 (x_7 - 1) ∧ w64 (x_7 - 1) < ((r_9.1.length : Nat) : Int) ∧ A16.isSome = true) (fun hg1 => fun hg0 => Rd.ix (E := eI) (k_31.rd 0 rfl) (gif_some (gif_not h_x_9 hg1) hg0) (k_31.len 0 rfl) (by decide)) <| qo (I x_9) <| qc (fun w => ((decide (x_8 < 0)) || (decide ((n.toNat : Int) ≤ x_8))) = false → (decide (0 < x_7)) = true → ∃ a, ixA A16 (w64 (x_7 - 1)) 1 = some a ∧ w.cell? a = some (SV.val (I x_9))) (fun hg1 => fun hg0 => Rd.el (k := 0) (k_31.rd 0 rfl) (gif_some (gif_not h_x_9 hg1) hg0) (Pt.ix1 A16 (w64 (x_7 - 1)) 1) rfl) <| qe) (by kernel_rfl) ?_
         refine At_go <| W_cond (((decide (x_8 < 0)) || (decide ((n.toNat : Int) ≤ x_8))) || ((decide (0 < x_7)) && (decide (x_8 ≤ x_9)))) (by kernel_rfl) (fun hc9 => ?_) (fun hc9 => ?_)
         · rw [if_pos hc9] at hm
           refine W_seq <| W_q [] (.n 6 (.b false) .z) qe (by kernel_rfl) ?_
           refine At_go <| W_ret (At_ir (At_tr (At_tr (At_ir (At_tr ?_)))))
           have hm := exit_of hm hr0
           obtain rfl := Option.some.inj hm
           refine At_rt [.b false] qe (by kernel_rfl) ?_
           have k_32 := k_31.sel .z
           exact ⟨rfl, k_32⟩
         rw [if_neg (by rw [hc9]; decide)] at hm
         refine W_skip <| At_in <| At_go <| W_q [] (.n 95 (I (w64 (x_7 + 1))) (.s (.kkkk (.kk .z)))) qe (by kernel_rfl) ?_
         exact At_rd (w64 (x_7 + 1)) (Option.some.inj hm).symm ⟨w64 (x_7 + 1), rfl, rfl, k_31⟩ (by kernel_rfl)
       rw [if_neg hc8] at hm
       refine W_exit (At_te (At_te (At_ie ?_)))
       have hm := exit_of hm hr0
       refine At_go <| W_seq <| W_q [] (.n 6 (.b ((decide (r_9.2.1 = 0)) && (decide (((r_9.1.length : Nat) : Int) = (k_.toNat : Int))))) .z) qe (by kernel_rfl) ?_
       refine At_go <| W_ret ?_
       obtain rfl := Option.some.inj hm
       refine At_rt [.b ((decide (r_9.2.1 = 0)) && (decide (((r_9.1.length : Nat) : Int) = (k_.toNat : Int))))] qe (by kernel_rfl) ?_
       have k_33 := k_31.sel .z
       exact ⟨rfl, k_33⟩
   · simp only [Sum.elim_inl, Sum.elim_inr] at hm
     rintro e_ w_12 ⟨A20, _, c20, A21, _, c21, A22, _, c22, A23, _, c23, g6, _, c24, rfl, rfl, rfl, rfl, rfl, rfl, k_34⟩
     have k_35 := hb w_12 _ _ k_34 (.c (.c (.c (.c (.c (.c (.c (.c (.c .n)))))))))
     refine ⟨.tup [sl A20 r_6.1.length c20, I r_6.2.1], rfl, ?_⟩
     refine WLs 5 [] (.n 9 (sl A20 r_6.1.length c20) (.n 10 (I r_6.2.1) (.sss .a))) qe (by kernel_rfl) ?_
     refine WL_nil <| At_go <| W_seq <| W_seq <| W_q [] (.n 46 (.b ((decide (r_6.2.1 ≠ 0)) || (decide (((r_6.1.length : Nat) : Int) ≠ (n.toNat : Int))))) (.k (.s .a))) qe (by kernel_rfl) ?_
     refine At_go <| W_cond ((decide (r_6.2.1 ≠ 0)) || (decide (((r_6.1.length : Nat) : Int) ≠ (n.toNat : Int)))) (by kernel_rfl) (fun hc10 => ?_) (fun hc10 => ?_)
     · rw [if_pos hc10] at hm
       refine W_seq <| W_q [] (.n 6 (.b false) .z) qe (by kernel_rfl) ?_
       refine At_go <| W_ret (At_tr ?_)
       obtain rfl := Option.some.inj hm
       refine At_rt [.b false] qe (by kernel_rfl) ?_
       have k_36 := k_35.sel .z
       exact ⟨rfl, k_36⟩
     rw [if_neg (by rw [hc10]; decide)] at hm
     refine W_skip <| At_go <| W_seq <| W_reg <| WLs 2 [] (.n 48 (I (n.toNat : Int)) (.s .a)) qe (by kernel_rfl) ?_
     refine WL_op ?_
     have k_37 := k_35.sel (.kkkk (.kkkk (.kkkk (.k .e))))
     obtain ⟨u0, h_u0, hm⟩ := ob hm
     refine Op_make do_tf32 eB false rfl [] 49 (I (n.toNat : Int)) (I (n.toNat : Int)) (n.toNat : Int) (n.toNat : Int) (by kernel_rfl) (need_some h_u0).1 (need_some h_u0).2.1 (need_some h_u0).2.2 k_37 ?_
     intro A24 w_13 k_38
     refine WLs 1 [] (.n 11 (sl A24 (Int.toNat (n.toNat : Int)) (Int.toNat (n.toNat : Int))) (.ss .a)) qe (by kernel_rfl) ?_
     refine WL_nil <| At_go <| W_seq <| W_seq <| W_q [] (.n 50 (sl A20 r_6.1.length c20) (.n 51 (I ((r_6.1.length : Nat) : Int)) (.n 52 (I 0) (.k (.s .a))))) qe (by kernel_rfl) ?_
     refine At_go <| W_block ?_
     have k_40 := (((((((((((((k_38.pk .h).pk (.t (.t (.t (.t (.t (.t (.t (.t (.t (.t (.t (.t (.t .h)))))))))))))).pk (.t (.t (.t (.t (.t (.t (.t (.t .h))))))))).pk (.t (.t (.t (.t .h))))).pk (.t (.t (.t (.t .h))))).pk (.t (.t (.t (.t (.t (.t (.t .h)))))))).pk (.t (.t (.t (.t (.t (.t (.t .h)))))))).pk (.t (.t (.t (.t (.t (.t (.t .h)))))))).pk (.t (.t (.t (.t (.t (.t (.t (.t (.t (.t (.t (.t (.t .h)))))))))))))).pk (.t (.t (.t (.t (.t (.t (.t (.t (.t (.t (.t (.t (.t .h)))))))))))))).pk (.t (.t (.t (.t (.t (.t (.t (.t (.t (.t (.t (.t (.t .h)))))))))))))).pk (.t (.t (.t (.t (.t (.t (.t (.t (.t (.t (.t .h)))))))))))).pk (.t (.t (.t (.t (.t (.t (.t (.t (.t (.t (.t (.t (.t .h)))))))))))))).pk (.t (.t (.t (.t (.t (.t (.t (.t (.t (.t (.t (.t (.t .h)))))))))))))
     refine W_lp (m_l25_DiceOrders_k_l3 n k_ r_3 r_6) (fun s L wr => ∃ (seen0 : List Bool) (x_10 : Int), (seen0, x_10) = s ∧ L = [(1, .u8 n), (2, .u8 k_), (7, pt g1 0), (11, sl A24 (Int.toNat (n.toNat : Int)) (Int.toNat (n.toNat : Int))), (50, sl A20 r_6.1.length c20), (51, I ((r_6.1.length : Nat) : Int)), (52, I x_10)] ∧ Cx F O w wr [Bx 42 g1 [sl A r_3.1.length c, pt g2 0], Sh (SH e8) [(A, r_3.1.length, c)] [r_3.1], Bx 67 g2 [I 1, I 64, .u32 4294967295, .u64 274877906944, .b false, sl A1 r_3.2.1.length c1, sl A2 r_3.2.2.1.length c2, sl A3 r_3.2.2.2.1.length c3, pt g3 0, sl (some ⟨g6, 0, none⟩) r_6.2.2.2.2.2.2.2.2.2.2.2.2.2.1.length c24, .u64 r_6.2.2.2.2.2.2.2.2.2.2.2.2.2.2.1, .ar e8 r_6.2.2.2.2.2.2.2.2.2.2.2.2.2.2.2.1, I r_6.2.2.2.2.2.2.2.2.2.2.2.2.2.2.2.2, .v (.func (.func 63) ⟨SV.vals [pt g2 0]⟩ ⟨SV.vals []⟩)], Sh (SH e8) [(A1, r_3.2.1.length, c1)] [r_3.2.1], Sh (SH e8) [(A2, r_3.2.2.1.length, c2)] [r_3.2.2.1], Sh (SH e8) [(A3, r_3.2.2.2.1.length, c3)] [r_3.2.2.2.1], Bx 114 g3 [I r_6.2.2.2.2.2.2.2.1, I r_6.2.2.2.2.2.2.2.2.1, sl A22 r_6.2.2.2.2.2.2.2.2.2.1.length c22, sl A23 r_6.2.2.2.2.2.2.2.2.2.2.1.length c23, .b r_6.2.2.2.2.2.2.2.2.2.2.2.1, .u64 r_6.2.2.2.2.2.2.2.2.2.2.2.2.1, .v (.iface 141 (SV.val (pt g4 0)))], Ow e8 A22 r_6.2.2.2.2.2.2.2.2.2.1.length c22 r_6.2.2.2.2.2.2.2.2.2.1, Ow e8 A23 r_6.2.2.2.2.2.2.2.2.2.2.1.length c23 r_6.2.2.2.2.2.2.2.2.2.2.1, Bx 147 g4 [.ar e64 r_6.2.2.1, .u64 r_6.2.2.2.1, .u64 r_6.2.2.2.2.1, sl A21 r_6.2.2.2.2.2.1.length c21, I r_6.2.2.2.2.2.2.1, .v (.func (.func 83) ⟨SV.vals []⟩ ⟨SV.vals []⟩), .v (.func (.func 84) ⟨SV.vals []⟩ ⟨SV.vals []⟩)], Ow e8 A21 r_6.2.2.2.2.2.1.length c21 r_6.2.2.2.2.2.1, Sh (SH e8) [((some ⟨g6, 0, none⟩), r_6.2.2.2.2.2.2.2.2.2.2.2.2.2.1.length, c24)] [r_6.2.2.2.2.2.2.2.2.2.2.2.2.2.1], Ow eB A24 (Int.toNat (n.toNat : Int)) (Int.toNat (n.toNat : Int)) seen0, Ow eI A20 r_6.1.length c20 r_6.1]) (List.replicate (Int.toNat (n.toNat : Int)) false, (0 : Int)) r hm ⟨List.replicate (Int.toNat (n.toNat : Int)) false, (0 : Int), rfl, rfl, k_40⟩ (by kernel_rfl) ?_
     intro s0_ L_ w_14 y0 hrel hstep hr0
     obtain ⟨seen0, x_10, rfl, rfl, k_39⟩ := hrel
     have hm := hstep; simp only [m_l25_DiceOrders_k_l3] at hm
     clear hstep
     refine W_seq <| W_q [] (.n 53 (.b (decide (x_10 < ((r_6.1.length : Nat) : Int)))) .a) qe (by kernel_rfl) ?_
     refine At_go <| W_seq <| W_condp (x_10 < ((r_6.1.length : Nat) : Int)) (by kernel_rfl) (fun hc11 => ?_) (fun hc11 => ?_)
     · rw [if_pos hc11] at hm
       refine W_skip <| At_go <| W_seq <| W_block <| W_seq ?_
       obtain ⟨x_11, h_x_11, hm⟩ := ob hm
       refine W_q [] (.n 13 (I x_11) (.s .a)) (qW (k_39.rd 13 rfl) h_x_11 (k_39.len 13 rfl) (I x_11) rfl <| qe) (by kernel_rfl) ?_
       refine At_go <| W_seq <| W_seq ?_
       obtain ⟨x_12, h_x_12, hm⟩ := ob hm
       refine W_q [] (.n 69 (.b (((decide (x_11 < 0)) || (decide ((n.toNat : Int) ≤ x_11))) || x_12)) .a) (qp (((decide (x_11 < 0)) || (decide ((n.toNat : Int) ≤ x_11))) = false → 0 ≤ x_11 ∧ x_11 < ((Int.toNat (n.toNat : Int) : Nat) : Int) ∧ A24.isSome = true) (fun hg0 => Rd.ix (E := eB) (k_39.rd 12 rfl) (gif_not h_x_12 hg0) (k_39.len 12 rfl) (by decide)) <| qo (.b x_12) <| qc (fun w => ((decide (x_11 < 0)) || (decide ((n.toNat : Int) ≤ x_11))) = false → ∃ a, ixA A24 x_11 1 = some a ∧ w.cell? a = some (SV.val (.b x_12))) (fun hg0 => Rd.el (k := 0) (k_39.rd 12 rfl) (gif_not h_x_12 hg0) (Pt.ix1 A24 x_11 1) rfl) <| qe) (by kernel_rfl) ?_
       refine At_go <| W_cond (((decide (x_11 < 0)) || (decide ((n.toNat : Int) ≤ x_11))) || x_12) (by kernel_rfl) (fun hc12 => ?_) (fun hc12 => ?_)
       · rw [if_pos hc12] at hm
         refine W_seq <| W_q [] (.n 6 (.b false) .z) qe (by kernel_rfl) ?_
         refine At_go <| W_ret (At_tr (At_ir (At_tr (At_tr (At_ir (At_tr ?_))))))
         have hm := exit_of hm hr0
         obtain rfl := Option.some.inj hm
         refine At_rt [.b false] qe (by kernel_rfl) ?_
         have k_41 := k_39.sel .z
         exact ⟨rfl, k_41⟩
       rw [if_neg (by rw [hc12]; decide)] at hm
       refine W_skip <| At_go <| W_reg ?_
       obtain ⟨x_13, h_x_13, hm⟩ := ob hm
       refine WLs 3 [] (.n 72 (.v (.pointer (ixA A24 x_11 1))) (.ss .a)) (qJ (k_39.rd 12 rfl) h_x_13 (k_39.len 12 rfl) <| qe) (by kernel_rfl) ?_
       refine WL_op <| Op_ost (E := eB) (kk := 0) (sv := .b true) (svs := [.b true]) [] 12 true (by kernel_rfl) (Pt.ix1 A24 x_11 1) k_39 rfl (geti_some h_x_13).2 (E_ix (E := eB) (k_39.rd 12 rfl) (by decide) (geti_lt h_x_13).1 (geti_some h_x_13).2) rfl (Nat.le_of_ble_eq_true (by kernel_rfl)) ?_
       intro w_15 k_42
       refine WL_nil <| At_in <| At_go <| W_q [] (.n 52 (I (w64 (x_10 + 1))) (.s (.kkkk (.kk .z)))) qe (by kernel_rfl) ?_
       exact At_rd (seen0.set (Int.toNat x_11) true, w64 (x_10 + 1)) (Option.some.inj hm).symm ⟨seen0.set (Int.toNat x_11) true, w64 (x_10 + 1), rfl, rfl, k_42⟩ (by kernel_rfl)
     rw [if_neg hc11] at hm
     refine W_exit (At_te (At_te (At_ie ?_)))
     have hm := exit_of hm hr0
     refine At_go <| W_seq <| W_reg <| WLs 5 [] (.n 75 (pt g1 0) (.n 77 (I (n.toNat : Int)) (.n 79 (I (k_.toNat : Int)) (.s (.kk .z))))) qe (by kernel_rfl) ?_
     refine WL_op ?_
     obtain ⟨r_10, h_r_10, hm⟩ := ob hm
     obtain ⟨F12, O12, kin2, hO2, hre2, hF2, hb2⟩ := k_39.go (.i (.r (.i (.r (.r (.r (.i (.i (.i (.i (.i (.r (.r (.r .e))))))))))))))
     refine Op_call [] 80 _ do_go7 (by kernel_rfl) (c_dice_Dice_Choose_k_s1 (F := F12) (O := O12) _ _ _ _ _ _ _ _ _ _ _ _ _ _ _ _ _ _ _ _ _ _ _ _ _ _ _ _ _ _ _ _ _ _ _ _ _ _ _ _ _ _ _ _ _ _ _ _ _ (Ro.of_sh kin2.off hre2 0 rfl) (k_39.shlen 1 rfl) (k_39.shlec 1 rfl) (Ro.of_sh kin2.off hre2 1 rfl) (k_39.shlen 3 rfl) (k_39.shlec 3 rfl) (Ro.of_sh kin2.off hre2 2 rfl) (k_39.shlen 4 rfl) (k_39.shlec 4 rfl) (Ro.of_sh kin2.off hre2 3 rfl) (k_39.shlen 5 rfl) (k_39.shlec 5 rfl) (Ro.of_sh kin2.off hre2 4 rfl) (k_39.shlen 11 rfl) (k_39.shlec 11 rfl) kin2 _ h_r_10) ?_
     rintro e_ w_16 ⟨A25, _, c25, A26, _, c26, A27, _, c27, A28, _, c28, rfl, rfl, rfl, rfl, rfl, k_43⟩
     have k_44 := hb2 w_16 _ _ k_43 (.c (.c (.c (.c (.c (.c (.c (.c .n))))))))
     refine ⟨.tup [sl A25 r_10.1.length c25, I r_10.2.1], rfl, ?_⟩
     have k_45 := k_44.sel (.k .z)
     refine WLs 5 [] (.n 14 (sl A25 r_10.1.length c25) (.n 15 (I r_10.2.1) (.ssss .a))) qe (by kernel_rfl) ?_
     refine WL_nil <| At_go <| W_seq <| W_seq <| W_q [] (.n 85 (.b (decide (n < k_))) .a) qe (by kernel_rfl) ?_
     refine At_go <| W_condp (n < k_) (by kernel_rfl) (fun hc13 => ?_) (fun hc13 => ?_)
     · rw [if_pos hc13] at hm
       refine W_seq <| W_q [] (.n 6 (.b ((decide (r_10.2.1 = 1)) && (decide (((r_10.1.length : Nat) : Int) = 0)))) .z) qe (by kernel_rfl) ?_
       refine At_go <| W_ret (At_tr ?_)
       obtain rfl := Option.some.inj hm
       refine At_rt [.b ((decide (r_10.2.1 = 1)) && (decide (((r_10.1.length : Nat) : Int) = 0)))] qe (by kernel_rfl) ?_
       have k_46 := k_45.sel .z
       exact ⟨rfl, k_46⟩
     rw [if_neg hc13] at hm
     refine W_skip <| At_go <| W_seq <| W_seq <| W_q [] (.n 93 (sl A25 r_10.1.length c25) (.n 94 (I ((r_10.1.length : Nat) : Int)) (.n 95 (I 0) (.s .a)))) qe (by kernel_rfl) ?_
     refine At_go <| W_block <| W_lp (m_l25_DiceOrders_k_l4 n k_ r_10) (fun s L wr => ∃ (x_14 : Int), x_14 = s ∧ L = [(1, .u8 n), (2, .u8 k_), (14, sl A25 r_10.1.length c25), (15, I r_10.2.1), (93, sl A25 r_10.1.length c25), (94, I ((r_10.1.length : Nat) : Int)), (95, I x_14)] ∧ Cx F O w wr [Ow eI A25 r_10.1.length c25 r_10.1]) (0 : Int) r hm ⟨(0 : Int), rfl, rfl, k_45⟩ (by kernel_rfl) ?_
     intro s0_ L_ w_17 y0 hrel hstep hr0
     obtain ⟨x_14, rfl, rfl, k_47⟩ := hrel
     have hm := hstep; simp only [m_l25_DiceOrders_k_l4] at hm
     clear hstep
     refine W_seq <| W_q [] (.n 96 (.b (decide (x_14 < ((r_10.1.length : Nat) : Int)))) .a) qe (by kernel_rfl) ?_
     refine At_go <| W_seq <| W_condp (x_14 < ((r_10.1.length : Nat) : Int)) (by kernel_rfl) (fun hc14 => ?_) (fun hc14 => ?_)
     · rw [if_pos hc14] at hm
       refine W_skip <| At_go <| W_seq <| W_block <| W_seq ?_
       obtain ⟨x_15, h_x_15, hm⟩ := ob hm
       refine W_q [] (.n 16 (I x_14) (.n 17 (I x_15) (.s .a))) (qW (k_47.rd 0 rfl) h_x_15 (k_47.len 0 rfl) (I x_15) rfl <| qe) (by kernel_rfl) ?_
       refine At_go <| W_seq ?_
       obtain ⟨x_16, h_x_16, hm⟩ := ob hm
       refine W_q [] (.n 120 (.b (((decide (x_15 < 0)) || (decide ((n.toNat : Int) ≤ x_15))) || ((decide (0 < x_14)) && (decide (x_15 ≤ x_16))))) (.ss .a)) (qp (((decide (x_15 < 0)) || (decide ((n.toNat : Int) ≤ x_15))) = false → (decide (0 < x_14)) = true → 0 ≤ w64 (x_14 - 1) ∧ w64 (x_14 - 1) < ((r_10.1.length : Nat) : Int) ∧ A25.isSome = true) (fun hg1 => fun hg0 => Rd.ix (E := eI) (k_47.rd 0 rfl) (gif_some (gif_not h_x_16 hg1) hg0) (k_47.len 0 rfl) (by decide)) <| qo (I x_16) <| qc (fun w => ((decide (x_15 < 0)) || (decide ((n.toNat : Int) ≤ x_15))) = false → (decide (0 < x_14)) = true → ∃ a, ixA A25 (w64 (x_14 - 1)) 1 = some a ∧ w.cell? a = some (SV.val (I x_16))) (fun hg1 => fun hg0 => Rd.el (k := 0) (k_47.rd 0 rfl) (gif_some (gif_not h_x_16 hg1) hg0) (Pt.ix1 A25 (w64 (x_14 - 1)) 1) rfl) <| qe) (by kernel_rfl) ?_
       refine At_go <| W_cond (((decide (x_15 < 0)) || (decide ((n.toNat : Int) ≤ x_15))) || ((decide (0 < x_14)) && (decide (x_15 ≤ x_16)))) (by kernel_rfl) (fun hc15 => ?_) (fun hc15 => ?_)
       · rw [if_pos hc15] at hm
         refine W_seq <| W_q [] (.n 6 (.b false) .z) qe (by kernel_rfl) ?_
         refine At_go <| W_ret (At_ir (At_tr (At_tr (At_ir (At_tr ?_)))))
         have hm := exit_of hm hr0
         obtain rfl := Option.some.inj hm
         refine At_rt [.b false] qe (by kernel_rfl) ?_
         have k_48 := k_47.sel .z
         exact ⟨rfl, k_48⟩
       rw [if_neg (by rw [hc15]; decide)] at hm
       refine W_skip <| At_in <| At_go <| W_q [] (.n 95 (I (w64 (x_14 + 1))) (.s (.kkkk (.kk .z)))) qe (by kernel_rfl) ?_
       exact At_rd (w64 (x_14 + 1)) (Option.some.inj hm).symm ⟨w64 (x_14 + 1), rfl, rfl, k_47⟩ (by kernel_rfl)
     rw [if_neg hc14] at hm
     refine W_exit (At_te (At_te (At_ie ?_)))
     have hm := exit_of hm hr0
     refine At_go <| W_seq <| W_q [] (.n 6 (.b ((decide (r_10.2.1 = 0)) && (decide (((r_10.1.length : Nat) : Int) = (k_.toNat : Int))))) .z) qe (by kernel_rfl) ?_
     refine At_go <| W_ret ?_
     obtain rfl := Option.some.inj hm
     refine At_rt [.b ((decide (r_10.2.1 = 0)) && (decide (((r_10.1.length : Nat) : Int) = (k_.toNat : Int))))] qe (by kernel_rfl) ?_
     have k_49 := k_47.sel .z
     exact ⟨rfl, k_49⟩
end Go.Sx

