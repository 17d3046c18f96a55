import Derived.Test.YtjddlmbpkkbkoaaGreatW3
namespace Go.Sx
open Go.RowKit Go.Proofs
set_option linter.unusedVariables false
set_option linter.unusedSimpArgs false
set_option maxRecDepth 20000
variable {F O : Nat → Prop} {w : World}
theorem c_mac_digest (k_ : Int) (n : Int) (key : List UInt8) (salt : List UInt8) (personal : List UInt8) (data : List UInt8) (A_key : Option Addr) (n_key : Nat) (c_key : Nat) (A_salt : Option Addr) (n_salt : Nat) (c_salt : Nat) (A_personal : Option Addr) (n_personal : Nat) (c_personal : Nat) (A_data : Option Addr) (n_data : Nat) (c_data : Nat) (h_key : Ro F w A_key (e8.all key)) (hn_key : key.length = n_key) (hc_key : n_key ≤ c_key) (h_salt : Ro F w A_salt (e8.all salt)) (hn_salt : salt.length = n_salt) (hc_salt : n_salt ≤ c_salt) (h_personal : Ro F w A_personal (e8.all personal)) (hn_personal : personal.length = n_personal) (hc_personal : n_personal ≤ c_personal) (h_data : Ro F w A_data (e8.all data)) (hn_data : data.length = n_data) (hc_data : n_data ≤ c_data) (k : Cx F O w w []) (r : (List UInt8 × Int)) (hm : m_mac_digest k_ n key salt personal data = some r) :
    Calls Tryz.prog 28 (vals [I k_, I n, sl A_key n_key c_key, sl A_salt n_salt c_salt, sl A_personal n_personal c_personal, sl A_data n_data c_data]) w (fun e w' => ∃ A n1 c, r.1.length = n1 ∧ e = .returned (SV.val (.tup [sl A n1 c, I r.2])) ∧ Cx F O w w' [Ow e8 A n1 c r.1]) := by
 unfold m_mac_digest at hm
 subst hn_key
 subst hn_salt
 subst hn_personal
 subst hn_data
 refine calz [I k_, I n, sl A_key key.length c_key, sl A_salt salt.length c_salt, sl A_personal personal.length c_personal, sl A_data data.length c_data] Tryz.func28 rfl ?_
 refine Wz .a ?_
 refine W_seq <| W_seq <| W_reg <| We 1 (.n 19 (I k_) .a) ?_
 refine WL_op ?_
 obtain ⟨r_, h_r_, hm⟩ := ob hm
 refine Op_cz 20 mr_go35 (c_param_Size (F := N0) (O := N0) _ (Cx.refl _) _ h_r_) ?_
 rintro e_ w_ ⟨rfl, k_1⟩
 have k_2 := k.call k_1
 refine ⟨.tup [I r_.1, I r_.2], rfl, ?_⟩
 refine We 5 (.n 15 (I r_.2) (.ss .a)) ?_
 refine Wn <| Wz (.n 24 (.b (decide (r_.2 ≠ 0))) (.s .a)) ?_
 refine W_pz (r_.2 ≠ 0) (fun hc => ?_) fun hc => ?_
 · rw [if_pos hc] at hm
   refine Wz (.n 12 (sl none 0 0) (.n 13 (I 1) .z)) ?_
   refine W_ret (At_tr ?_)
   have k_3 := k_2.nil e8
   obtain rfl := si hm
   refine At_rz [sl none 0 0, I 1] qe ?_
   exact ⟨none, 0, 0, k_3.len 0 rfl, rfl, k_3⟩
 rw [if_neg hc] at hm
 refine W_skip <| At_go <| W_seq <| W_reg <| We 6 (.n 30 (.agg [I n, I (key.length : Int), I 1, I 1, .u32 0, .u64 0, .u32 0, I 0, I 0, sl A_salt salt.length c_salt, sl A_personal personal.length c_personal]) (.s (.kkk (.ss .a)))) ?_
 refine WL_op <| Op_alloc [] 16 [I 0, I 0, I 0, I 0, .u32 0, .u64 0, .u32 0, I 0, I 0, sl none 0 0, sl none 0 0] (by kernel_rfl) k_2 ?_
 intro g w_1 k_4
 refine WL_op <| Op_bz 0 (.agg [I n, I (key.length : Int), I 1, I 1, .u32 0, .u64 0, .u32 0, I 0, I 0, sl A_salt salt.length c_salt, sl A_personal personal.length c_personal]) [I n, I (key.length : Int), I 1, I 1, .u32 0, .u64 0, .u32 0, I 0, I 0, sl A_salt salt.length c_salt, sl A_personal personal.length c_personal] (Pt.at g 0) k_4 rfl .all ?_
 intro w_2 k_5
 refine Wn <| W_seq <| W_seq <| W_reg <| Wl 2 (.n 31 (I k_) (.n 32 (.agg [I n, I (key.length : Int), I 1, I 1, .u32 0, .u64 0, .u32 0, I 0, I 0, sl A_salt salt.length c_salt, sl A_personal personal.length c_personal]) (.k (.s .a)))) (qT k_5 0 rfl 0 11 [I n, I (key.length : Int), I 1, I 1, .u32 0, .u64 0, .u32 0, I 0, I 0, sl A_salt salt.length c_salt, sl A_personal personal.length c_personal] (by kernel_rfl) (by decide) <| qe) ?_
 refine WL_op ?_
 obtain ⟨r_1, h_r_1, hm⟩ := ob hm
 refine Op_cz 33 mr_go36 (c_param_Check (F := N0) (O := N0) _ _ _ _ _ _ _ _ _ _ _ _ _ _ _ _ _ _ (Ro.n0 (h_salt.cx k_5)) rfl hc_salt (Ro.n0 (h_personal.cx k_5)) rfl hc_personal (Cx.refl _) _ h_r_1) ?_
 rintro e_ w_3 ⟨rfl, k_6⟩
 have k_7 := k_5.call k_6
 refine ⟨I r_1, rfl, ?_⟩
 refine We 1 (.n 17 (I r_1) (.sss .a)) ?_
 refine Wn <| Wz (.n 35 (.b (decide (r_1 ≠ 0))) .a) ?_
 refine W_pz (r_1 ≠ 0) (fun hc1 => ?_) fun hc1 => ?_
 · rw [if_pos hc1] at hm
   refine Wz (.n 12 (sl none 0 0) (.n 13 (I r_1) .z)) ?_
   refine W_ret (At_tr ?_)
   have k_8 := k_7.nil e8
   obtain rfl := si hm
   refine At_rz [sl none 0 0, I r_1] qe ?_
   have k_9 := k_8.sel (.s (.k .e))
   exact ⟨none, 0, 0, k_9.len 0 rfl, rfl, k_9⟩
 rw [if_neg hc1] at hm
 refine W_skip <| At_go <| W_seq <| W_reg <| Wl 5 (.n 37 (I k_) (.n 38 (.agg [I n, I (key.length : Int), I 1, I 1, .u32 0, .u64 0, .u32 0, I 0, I 0, sl A_salt salt.length c_salt, sl A_personal personal.length c_personal]) (.n 39 (sl A_key key.length c_key) (.n 40 (I n) (.n 41 (sl A_data data.length c_data) .z))))) (qT k_7 0 rfl 0 11 [I n, I (key.length : Int), I 1, I 1, .u32 0, .u64 0, .u32 0, I 0, I 0, sl A_salt salt.length c_salt, sl A_personal personal.length c_personal] (by kernel_rfl) (by decide) <| qe) ?_
 refine WL_op ?_
 have k_10 := k_7.sel (.k .e)
 obtain ⟨r_2, h_r_2, hm⟩ := ob hm
 refine Op_cz 42 mr_go37 (c_node_Hash (F := N0) (O := N0) _ _ _ _ _ _ _ _ _ _ _ _ _ _ _ _ _ _ _ _ _ _ _ _ _ _ _ _ (Ro.n0 (h_salt.cx k_10)) rfl hc_salt (Ro.n0 (h_personal.cx k_10)) rfl hc_personal (Ro.n0 (h_key.cx k_10)) rfl hc_key (Ro.n0 (h_data.cx k_10)) rfl hc_data (Cx.refl _) _ h_r_2) ?_
 rintro e_ w_4 ⟨A0, _, c0, rfl, rfl, k_11⟩
 have k_12 := k_10.call k_11
 refine ⟨.tup [sl A0 r_2.1.length c0, I r_2.2], rfl, ?_⟩
 have k_13 := k_12.sel (.s (.k .e))
 refine We 4 (.n 12 (sl A0 r_2.1.length c0) (.n 13 (I r_2.2) .z)) ?_
 refine Wn <| W_ret ?_
 obtain rfl := si hm
 refine At_rz [sl A0 r_2.1.length c0, I r_2.2] qe ?_
 exact ⟨A0, r_2.1.length, c0, k_13.len 0 rfl, rfl, k_13⟩
theorem c_mac_Ring_Tag_m (r_k : Int) (r_n : Int) (ks_r_keys : List (List UInt8)) (xs_r_keys : List (List UInt8)) (name : List UInt8) (data : List UInt8) (g_r : Nat) (b_r_keys : Nat) (hd_r_keys : List Hd) (A_data : Option Addr) (n_data : Nat) (c_data : Nat) (h_data : Ro F w A_data (e8.all data)) (hn_data : data.length = n_data) (hc_data : n_data ≤ c_data) (k : Cx F O w w [Bx 58 g_r [I r_k, I r_n, .v (.map (some b_r_keys))], MR e8 b_r_keys ks_r_keys hd_r_keys xs_r_keys]) (r : (List UInt8 × Int × Int × Int × List (List UInt8) × List (List UInt8))) (hm : m_mac_Ring_Tag_m r_k r_n ks_r_keys xs_r_keys name data = some r) :
    Calls Tryz.prog 13 (vals [pt g_r 0, .s name, sl A_data n_data c_data]) w (fun e w' => ∃ A n c hd, r.1.length = n ∧ e = .returned (SV.val (.tup [sl A n c, I r.2.1])) ∧ Cx F O w w' [Ow e8 A n c r.1, Bx 58 g_r [I r.2.2.1, I r.2.2.2.1, .v (.map (some b_r_keys))], MR e8 b_r_keys r.2.2.2.2.1 hd r.2.2.2.2.2]) := by
 unfold m_mac_Ring_Tag_m at hm
 subst hn_data
 refine calz [pt g_r 0, .s name, sl A_data data.length c_data] Tryz.func13 rfl ?_
 refine Wz .a ?_
 refine W_seq <| W_seq <| W_reg <| We 1 (.n 10 (pt g_r 0) .a) ?_
 refine WL_op ?_
 obtain ⟨r_, h_r_, hm⟩ := ob hm
 obtain ⟨F1, O1, kin, hO, hre, hF, hb⟩ := k.go (.i (.i .e))
 refine Op_cz 11 mr_go22 (c_mac_Ring_none_m (F := F1) (O := O1) _ _ _ _ _ _ _ kin _ h_r_) ?_
 rintro e_ w_ ⟨hd0, rfl, k_⟩
 have k_1 := hb w_ _ _ k_ (.c (.c .n))
 refine ⟨.b false, rfl, ?_⟩
 refine Wn <| W_cond false (by kernel_rfl) (fun h => by cases h) (fun _ => ?_)
 refine W_skip <| At_go <| W_seq <| W_reg <| Wl 5 (.n 16 (.v (.map (some b_r_keys))) (.n 17 (.s name) (.ss (.k (.s .a))))) (qs g_r 0 <| qs g_r 0 <| qB k_1 0 rfl 2 (.v (.map (some b_r_keys))) (by kernel_rfl) <| qe) ?_
 refine WL_op ?_
 have k_2 := (k_1.pk .h).pk (.t .h)
 refine Op_lookR (kt := 9) (e := 33) (key := name) [] 18 (by kernel_rfl) (by kernel_rfl) k_2 (fun hf => ?_) (fun j key B c0 hf1 hx_ hh hle => ?_)
 · simp only [mget_none hf, Option.elim_none] at hm
   refine We 5 (.n 8 (sl none 0 0) (.n 9 (.b false) (.sss .a))) ?_
   refine Wn <| W_seq <| Wz (.n 22 (.b true) (.k (.s .a))) ?_
   refine W_cond true (by kernel_rfl) (fun _ => ?_) (fun h => by cases h)
   refine Wz (.n 6 (sl none 0 0) (.n 7 (I 6) .z)) ?_
   refine W_ret (At_tr ?_)
   have k_3 := k_2.nil e8
   obtain rfl := si hm
   refine At_rz [sl none 0 0, I 6] qe ?_
   have k_4 := ((k_3.pk .h).pk (.t .h)).pk (.t (.t .h))
   exact ⟨none, 0, 0, hd0, k_4.len 0 rfl, rfl, k_4⟩
 · simp only [mget_some hf1 hx_, Option.elim_some] at hm
   refine We 5 (.n 8 (sl B key.length c0) (.n 9 (.b true) (.sss .a))) ?_
   refine Wn <| W_seq <| Wz (.n 22 (.b false) (.k (.s .a))) ?_
   refine W_cond false (by kernel_rfl) (fun h => by cases h) (fun _ => ?_)
   refine W_skip <| At_go <| W_seq ?_
   have k_5 := k_2.drew 1
   refine W_m mr_mixed (.q 8 0 (.q 9 0 (.q 0 1 (.q 1 1 (.q 2 1 (.q 3 0 (.q 4 1 (.q 5 1 (.q 6 1 (.q 7 0 (.op 10 (.q 11 1 (.q 12 1 (.q 13 1 (.q 14 1 .nil))))))))))))))) [10] k_5 (.c (.kk .e) .l) (by kernel_rfl) (fun _ => ?_)
   refine MXz 2 0 (.n 31 (sl B key.length c0) (.n 32 (sl A_data data.length c_data) (.ss (.k .z)))) (fun x hx => qe) fun _ => ?_
   refine MXz 3 1 (.n 25 (pt g_r 0) .a) (fun x hx => qs g_r 0 <| qs g_r 0 <| qe) fun _ => ?_
   refine MXz 1 0 (.n 26 (I r_.1) (.s .a)) (fun x hx => qB hx 1 rfl 0 (I r_.1) (by kernel_rfl) <| qe) fun _ => ?_
   refine MXz 3 1 (.n 29 (pt g_r 1) (.kkk .z)) (fun x hx => qs g_r 0 <| qs g_r 0 <| qe) fun _ => ?_
   refine MXz 1 0 (.n 30 (I r_.2.1) (.s .a)) (fun x hx => qB hx 1 rfl 1 (I r_.2.1) (by kernel_rfl) <| qe) fun _ => ?_
   refine MX_op (by kernel_rfl) rfl ?_
   obtain ⟨r_1, h_r_1, hm⟩ := ob hm
   refine Op_cz 33 mr_go28 (c_mac_digest (F := N0) (O := N0) _ _ _ _ _ _ _ _ _ _ _ _ _ _ _ _ _ _ (Ro.n0 (k_5.mr_in 0 rfl hx_ hh)) rfl hle (Ro.nilE e8) rfl (Nat.le_refl 0) (Ro.nilE e8) rfl (Nat.le_refl 0) (Ro.n0 (h_data.cx k_5)) rfl hc_data (Cx.refl _) _ h_r_1) ?_
   rintro e_ w_1 ⟨A0, _, c1, rfl, rfl, k_6⟩
   have k_7 := k_5.call k_6
   refine ⟨.tup [sl A0 r_1.1.length c1, I r_1.2], rfl, ?_⟩
   refine ⟨(k_7.sel (.kk .z)), fun _ => ?_⟩
   refine MXz 4 1 (.n 6 (sl A0 r_1.1.length c1) (.n 7 (I r_1.2) .z)) (fun x hx => qe) fun _ => ?_
   refine MX_nil <| At_go <| W_ret ?_
   obtain rfl := si hm
   refine At_rz [sl A0 r_1.1.length c1, I r_1.2] qe ?_
   have k_8 := ((k_7.pk .h).pk (.t .h)).pk (.t (.t .h))
   exact ⟨A0, r_1.1.length, c1, hd0, k_8.len 0 rfl, rfl, k_8⟩
theorem c_mac_Equal (a_ : List UInt8) (b : List UInt8) (A_a_ : Option Addr) (n_a_ : Nat) (c_a_ : Nat) (A_b : Option Addr) (n_b : Nat) (c_b : Nat) (h_a_ : Ro F w A_a_ (e8.all a_)) (hn_a_ : a_.length = n_a_) (hc_a_ : n_a_ ≤ c_a_) (h_b : Ro F w A_b (e8.all b)) (hn_b : b.length = n_b) (hc_b : n_b ≤ c_b) (k : Cx F O w w []) (r : Bool) (hm : m_mac_Equal a_ b = some r) :
    Calls Tryz.prog 30 (vals [sl A_a_ n_a_ c_a_, sl A_b n_b c_b]) w (fun e w' => e = .returned (SV.val (.b r)) ∧ Cx F O w w' []) := by
 unfold m_mac_Equal at hm
 subst hn_a_
 subst hn_b
 refine calz [sl A_a_ a_.length c_a_, sl A_b b.length c_b] Tryz.func30 rfl ?_
 refine Wz .a ?_
 refine W_seq <| Wz (.n 11 (.b (decide ((a_.length : Int) ≠ (b.length : Int)))) .a) ?_
 refine W_pz ((a_.length : Int) ≠ (b.length : Int)) (fun hc => ?_) fun hc => ?_
 · rw [if_pos hc] at hm
   refine Wz (.n 4 (.b false) .z) ?_
   refine W_ret (At_tr ?_)
   obtain rfl := si hm
   refine At_rz [.b false] qe ?_
   exact ⟨rfl, k⟩
 rw [if_neg hc] at hm
 refine W_skip <| At_go <| Wz (.n 5 (.u8 0) (.s .a)) ?_
 refine W_seq <| Wz (.n 13 (I (a_.length : Int)) (.n 14 (I 0) .a)) ?_
 refine W_block <| W_lp (m_mac_Equal_l0 a_ b) (fun s L wr => ∃ (diff : UInt8) (x_0 : Int), (diff, x_0) = s ∧ L = [(0, sl A_a_ a_.length c_a_), (1, sl A_b b.length c_b), (5, .u8 diff), (13, I (a_.length : Int)), (14, I x_0)] ∧ Cx F O w wr []) ((0 : UInt8), (0 : Int)) r hm ⟨(0 : UInt8), (0 : Int), rfl, rfl, k⟩ (by kernel_rfl) ?_
 intro s0_ L_ w_ y0 hrel hstep hr0
 obtain ⟨diff, x_0, rfl, rfl, k_⟩ := hrel
 have hm := hstep; simp only [m_mac_Equal_l0] at hm
 clear hstep
 refine Wz (.n 15 (.b (decide (x_0 < (a_.length : Int)))) .a) ?_
 refine W_seq <| W_pz (x_0 < (a_.length : Int)) (fun hc1 => ?_) fun hc1 => ?_
 · rw [if_pos hc1] at hm
   refine W_skip <| At_go <| W_seq <| W_block <| W_seq <| W_q [] (.n 6 (I x_0) (.s .a)) qe (by kernel_rfl) ?_
   refine At_go ?_
   obtain ⟨x_1, zh1, hm⟩ := ob hm
   obtain ⟨x_2, zh2, hm⟩ := ob hm
   refine W_d mr_mixed (by kernel_rfl) (.n 5 (.u8 (diff ||| (x_1 ^^^ x_2))) (.s (.kk (.s .a)))) (fun m => qW (h_a_.cx (k_.drew m)) zh1 rfl (.u8 x_1) rfl <| qW (h_b.cx (k_.drew m)) zh2 rfl (.u8 x_2) rfl <| qe) (by kernel_rfl) (fun m_ => ?_)
   have k_1 := k_.drew m_
   refine At_in <| At_go <| W_q [] (.n 14 (I (w64 (x_0 + 1))) (.kkkk .z)) qe (by kernel_rfl) ?_
   exact At_rd (diff ||| (x_1 ^^^ x_2), w64 (x_0 + 1)) (Option.some.inj hm).symm ⟨diff ||| (x_1 ^^^ x_2), w64 (x_0 + 1), rfl, rfl, k_1⟩ (by kernel_rfl)
 rw [if_neg hc1] at hm
 refine W_exit (At_te (At_te (At_ie ?_)))
 have hm := exit_of hm hr0
 refine At_go <| Wz (.n 4 (.b (decide (diff = 0))) .z) ?_
 refine W_ret ?_
 obtain rfl := si hm
 refine At_rz [.b (decide (diff = 0))] qe ?_
 exact ⟨rfl, k_⟩
theorem c_mac_Ring_Who_m (r_k : Int) (r_n : Int) (ks_r_keys : List (List UInt8)) (xs_r_keys : List (List UInt8)) (tag : List UInt8) (data : List UInt8) (g_r : Nat) (b_r_keys : Nat) (hd_r_keys : List Hd) (A_tag : Option Addr) (n_tag : Nat) (c_tag : Nat) (A_data : Option Addr) (n_data : Nat) (c_data : Nat) (h_tag : Ro F w A_tag (e8.all tag)) (hn_tag : tag.length = n_tag) (hc_tag : n_tag ≤ c_tag) (h_data : Ro F w A_data (e8.all data)) (hn_data : data.length = n_data) (hc_data : n_data ≤ c_data) (k : Cx F O w w [Bx 58 g_r [I r_k, I r_n, .v (.map (some b_r_keys))], MR e8 b_r_keys ks_r_keys hd_r_keys xs_r_keys]) (r : (List UInt8 × Bool × Int × Int × Int × List (List UInt8) × List (List UInt8))) (hm : m_mac_Ring_Who_m r_k r_n ks_r_keys xs_r_keys tag data = some r) :
    Calls Tryz.prog 17 (vals [pt g_r 0, sl A_tag n_tag c_tag, sl A_data n_data c_data]) w (fun e w' => ∃ hd, e = .returned (SV.val (.tup [.s r.1, .b r.2.1, I r.2.2.1])) ∧ Cx F O w w' [Bx 58 g_r [I r.2.2.2.1, I r.2.2.2.2.1, .v (.map (some b_r_keys))], MR e8 b_r_keys r.2.2.2.2.2.1 hd r.2.2.2.2.2.2]) := by
 unfold m_mac_Ring_Who_m at hm
 subst hn_tag
 subst hn_data
 refine calz [pt g_r 0, sl A_tag tag.length c_tag, sl A_data data.length c_data] Tryz.func17 rfl ?_
 refine Wz .a ?_
 refine W_seq <| W_seq <| W_reg <| We 1 (.n 13 (pt g_r 0) .a) ?_
 refine WL_op ?_
 obtain ⟨r_, h_r_, hm⟩ := ob hm
 obtain ⟨F1, O1, kin, hO, hre, hF, hb⟩ := k.go (.i (.i .e))
 refine Op_cz 14 mr_go22 (c_mac_Ring_none_m (F := F1) (O := O1) _ _ _ _ _ _ _ kin _ h_r_) ?_
 rintro e_ w_ ⟨hd0, rfl, k_⟩
 have k_1 := hb w_ _ _ k_ (.c (.c .n))
 refine ⟨.b false, rfl, ?_⟩
 refine Wn <| W_cond false (by kernel_rfl) (fun h => by cases h) (fun _ => ?_)
 refine W_skip <| At_go <| W_seq <| W_seq <| Wa (.n 21 (.b (decide ((tag.length : Int) ≠ r_.2.1))) (.ss .a)) (qs g_r 0 <| qs g_r 0 <| qB k_1 0 rfl 1 (I r_.2.1) (by kernel_rfl) <| qe) ?_
 refine W_pz ((tag.length : Int) ≠ r_.2.1) (fun hc => ?_) fun hc => ?_
 · rw [if_pos hc] at hm
   refine Wz (.n 6 (.s ([] : List UInt8)) (.n 7 (.b false) (.n 8 (I 60) .z))) ?_
   refine W_ret (At_tr ?_)
   obtain rfl := si hm
   refine At_rz [.s ([] : List UInt8), .b false, I 60] qe ?_
   exact ⟨hd0, rfl, k_1⟩
 rw [if_neg hc] at hm
 refine W_skip <| At_go <| W_seq <| W_seq <| W_reg <| We 1 (.n 22 (pt g_r 0) (.s .a)) ?_
 refine WL_op ?_
 obtain ⟨r_1, h_r_1, hm⟩ := ob hm
 obtain ⟨F11, O11, kin1, hO1, hre1, hF1, hb1⟩ := k_1.go (.i (.i .e))
 refine Op_cz 23 mr_go11 (c_mac_Ring_Names_m (F := F11) (O := O11) _ _ _ _ _ _ _ kin1 _ h_r_1) ?_
 rintro e_ w_1 ⟨A, _, c, hd1, rfl, rfl, k_2⟩
 have k_3 := hb1 w_1 _ _ k_2 (.c (.c (.c .n)))
 refine ⟨sl A r_1.1.length c, rfl, ?_⟩
 refine We 2 (.n 24 (I (r_1.1.length : Int)) (.n 25 (I 0) (.k (.s .a)))) ?_
 refine Wn <| W_block ?_
 have k_5 := ((k_3.pk .h).pk (.t (.t .h))).pk (.t (.t .h))
 refine W_lp (m_mac_Ring_Who_m_l0 tag data r_1) (fun s L wr => ∃ (r_2 : Int) (r_3 : Int) (ks0 : List (List UInt8)) (xs0 : List (List UInt8)) (x_0 : Int) (hd2 : List Hd), (r_2, r_3, ks0, xs0, x_0) = s ∧ L = [(0, pt g_r 0), (1, sl A_tag tag.length c_tag), (2, sl A_data data.length c_data), (23, sl A r_1.1.length c), (24, I (r_1.1.length : Int)), (25, I x_0)] ∧ Cx F O w wr [Bx 58 g_r [I r_2, I r_3, .v (.map (some b_r_keys))], MR e8 b_r_keys ks0 hd2 xs0, Ow eS A r_1.1.length c r_1.1]) (r_1.2.1, r_1.2.2.1, r_1.2.2.2.1, r_1.2.2.2.2, (0 : Int)) r hm ⟨r_1.2.1, r_1.2.2.1, r_1.2.2.2.1, r_1.2.2.2.2, (0 : Int), hd1, rfl, rfl, k_5⟩ (by kernel_rfl) ?_
 intro s0_ L_ w_2 y0 hrel hstep hr0
 obtain ⟨r_2, r_3, ks0, xs0, x_0, hd2, rfl, rfl, k_4⟩ := hrel
 have hm := hstep; simp only [m_mac_Ring_Who_m_l0] at hm
 clear hstep
 refine Wz (.n 26 (.b (decide (x_0 < (r_1.1.length : Int)))) .a) ?_
 refine W_seq <| W_pz (x_0 < (r_1.1.length : Int)) (fun hc1 => ?_) fun hc1 => ?_
 · rw [if_pos hc1] at hm
   refine W_skip <| At_go <| W_seq <| W_block <| W_seq ?_
   obtain ⟨x_5, zh5, hm⟩ := ob hm
   refine Wa (.n 10 (.s x_5) (.s .a)) (qW (k_4.rd 2 rfl) zh5 (k_4.len 2 rfl) (.s x_5) rfl <| qe) ?_
   refine W_seq <| W_reg <| We 3 (.n 30 (pt g_r 0) (.n 31 (.s x_5) (.n 32 (sl A_data data.length c_data) .a))) ?_
   refine WL_op ?_
   obtain ⟨r_4, h_r_4, hm⟩ := ob hm
   obtain ⟨F12, O12, kin2, hO2, hre2, hF2, hb2⟩ := k_4.go (.i (.i (.r .e)))
   refine Op_cz 33 mr_go13 (c_mac_Ring_Tag_m (F := F12) (O := O12) _ _ _ _ _ _ _ _ _ _ _ _ (Ro.of_old h_data k_4 hF2) rfl hc_data kin2 _ h_r_4) ?_
   rintro e_ w_3 ⟨A1, _, c1, hd3, rfl, rfl, k_6⟩
   have k_7 := hb2 w_3 _ _ k_6 (.c (.c (.c .n)))
   refine ⟨.tup [sl A1 r_4.1.length c1, I r_4.2.1], rfl, ?_⟩
   refine We 5 (.n 11 (sl A1 r_4.1.length c1) (.ssss .a)) ?_
   refine Wn <| W_seq <| W_reg <| We 2 (.n 36 (sl A1 r_4.1.length c1) (.n 37 (sl A_tag tag.length c_tag) (.s .a))) ?_
   refine WL_op ?_
   obtain ⟨r_5, h_r_5, hm⟩ := ob hm
   refine Op_cz 38 mr_go30 (c_mac_Equal (F := N0) (O := N0) _ _ _ _ _ _ _ _ (Ro.n0 (k_7.rd 0 rfl)) (k_7.len 0 rfl) (k_7.lec 0 rfl) (Ro.n0 (h_tag.cx k_7)) rfl hc_tag (Cx.refl _) _ h_r_5) ?_
   rintro e_ w_4 ⟨rfl, k_8⟩
   have k_9 := k_7.call k_8
   refine ⟨.b r_5, rfl, ?_⟩
   have k_10 := k_9.sel (.s (.kk (.k .e)))
   refine Wn <| W_cz r_5 (fun hc2 => ?_) fun hc2 => ?_
   · rw [if_pos hc2] at hm
     refine Wz (.n 6 (.s x_5) (.n 7 (.b true) (.n 8 (I 0) .z))) ?_
     refine W_ret (At_ir (At_tr (At_tr (At_ir (At_tr ?_)))))
     have hm := exit_of hm hr0
     obtain rfl := si hm
     refine At_rz [.s x_5, .b true, I 0] qe ?_
     have k_11 := k_10.sel (.kk .z)
     exact ⟨hd3, rfl, k_11⟩
   rw [if_neg (by rw [hc2]; decide)] at hm
   refine W_skip <| At_in <| At_go <| W_q [] (.n 25 (I (w64 (x_0 + 1))) (.ssss (.kkkk (.k .z)))) qe (by kernel_rfl) ?_
   exact At_rd (r_4.2.2.1, r_4.2.2.2.1, r_4.2.2.2.2.1, r_4.2.2.2.2.2, w64 (x_0 + 1)) (Option.some.inj hm).symm ⟨r_4.2.2.1, r_4.2.2.2.1, r_4.2.2.2.2.1, r_4.2.2.2.2.2, w64 (x_0 + 1), hd3, rfl, rfl, k_10⟩ (by kernel_rfl)
 rw [if_neg hc1] at hm
 refine W_exit (At_te (At_te (At_ie ?_)))
 have hm := exit_of hm hr0
 refine At_go <| Wz (.n 6 (.s ([] : List UInt8)) (.n 7 (.b false) (.n 8 (I 0) .z))) ?_
 refine W_ret ?_
 obtain rfl := si hm
 refine At_rz [.s ([] : List UInt8), .b false, I 0] qe ?_
 have k_12 := k_4.sel (.kk .z)
 exact ⟨hd2, rfl, k_12⟩
theorem c_l06_MacRings (k_ : Int) (n : Int) (script : List (Int × List UInt8 × List UInt8 × List UInt8)) (A_script : Option Addr) (n_script : Nat) (c_script : Nat) (ys_script : List (Int × List UInt8 × Hd × Hd)) (h_script : RoG F w (eP eI (eP eS (eP eH eH))) (RP RQ (RP RQ (RP (RH F w e8) (RH F w e8)))) A_script ys_script script) (hn_script : script.length = n_script) (hc_script : n_script ≤ c_script) (k : Cx F O w w []) (r : Bool) (hm : m_l06_MacRings k_ n script = some r) :
    Calls Tryz.prog 3 (vals [I k_, I n, sl A_script n_script c_script]) w (fun e w' => e = .returned (SV.val (.b r)) ∧ Cx F O w w' []) := by
 unfold m_l06_MacRings at hm
 subst hn_script
 refine calz [I k_, I n, sl A_script script.length c_script] Tryz.func3 rfl ?_
 refine Wz .a ?_
 refine W_seq <| W_reg <| We 2 (.n 29 (I k_) (.n 30 (I n) .a)) ?_
 refine WL_op ?_
 obtain ⟨r_, h_r_, hm⟩ := ob hm
 refine Op_cz 31 mr_go4 (c_mac_NewRing (F := N0) (O := N0) _ _ (Cx.refl _) _ h_r_) ?_
 rcases r_ with r_1 | r_2
 · simp only [Sum.elim_inl, Sum.elim_inr] at hm
   rintro e_ w_ ⟨rfl, k_1⟩
   have k_2 := k.call k_1
   refine ⟨.tup [.v (.pointer none), I r_1], rfl, ?_⟩
   refine We 5 (.n 7 (.v (.pointer none)) (.n 8 (I r_1) (.sss .a))) ?_
   refine Wn <| W_seq <| W_reg <| We 2 (.n 35 (I k_) (.n 36 (I n) (.kk (.ss .a)))) ?_
   refine WL_op ?_
   obtain ⟨r_3, h_r_3, hm⟩ := ob hm
   refine Op_cz 37 mr_go5 (c_r06_NewRing (F := N0) (O := N0) _ _ (Cx.refl _) _ h_r_3) ?_
   rintro e_ w_1 ⟨A, _, c, ys, rfl, rfl, k_3⟩
   have k_4 := k_2.call k_3
   refine ⟨.tup [.agg [.b r_3.1, I r_3.2.1, I r_3.2.2.1, sl A r_3.2.2.2.1.length c], I r_3.2.2.2.2], rfl, ?_⟩
   refine We 3 (.n 38 (.agg [.b r_3.1, I r_3.2.1, I r_3.2.2.1, sl A r_3.2.2.2.1.length c]) (.n 39 (I r_3.2.2.2.2) (.sss .a))) ?_
   refine WL_op <| Op_alloc [] 9 [.b false, I 0, I 0, sl none 0 0] (by kernel_rfl) k_4 ?_
   intro g w_2 k_5
   refine WL_op <| Op_bz 1 (.agg [.b r_3.1, I r_3.2.1, I r_3.2.2.1, sl A r_3.2.2.2.1.length c]) [.b r_3.1, I r_3.2.1, I r_3.2.2.1, sl A r_3.2.2.2.1.length c] (Pt.at g 0) k_5 rfl .all ?_
   intro w_3 k_6
   refine We 1 (.n 10 (I r_3.2.2.2.2) (.k (.ss .a))) ?_
   refine Wn <| W_seq <| Wz (.n 49 (.b ((decide (r_1 ≠ r_3.2.2.2.2)) || (decide (true ≠ (decide (r_3.2.2.2.2 ≠ 0)))))) (.s (.kk (.s .a)))) ?_
   refine W_cz ((decide (r_1 ≠ r_3.2.2.2.2)) || (decide (true ≠ (decide (r_3.2.2.2.2 ≠ 0))))) (fun hc => ?_) fun hc => ?_
   · rw [if_pos hc] at hm
     refine Wz (.n 6 (.b false) .z) ?_
     refine W_ret (At_tr ?_)
     obtain rfl := si hm
     refine At_rz [.b false] qe ?_
     have k_7 := k_6.sel .z
     exact ⟨rfl, k_7⟩
   rw [if_neg (by rw [hc]; decide)] at hm
   refine W_skip <| At_go <| W_seq <| Wz (.n 11 (I 0) (.s .a)) ?_
   refine W_block ?_
   have k_9 := (k_6.pk .h).pk (.t .h)
   refine W_lp (m_l06_MacRings_l0 script) (fun s L wr => ∃ (s_ : Bool) (s_1 : Int) (s_2 : Int) (s_3 : List (List UInt8 × List UInt8)) (i : Int) (A1 : Option Addr) (n1 : Nat) (c1 : Nat) (ys1 : List (List UInt8 × Hd)), (s_, s_1, s_2, s_3, i) = s ∧ L = [(2, sl A_script script.length c_script), (7, .v (.pointer none)), (9, pt g 0), (11, I i)] ∧ s_3.length = n1 ∧ Cx F O w wr [Bx 30 g [.b s_, I s_1, I s_2, sl A1 n1 c1], OG (eP eS eH) (SP SQ (SH e8)) A1 n1 c1 ys1 s_3]) (r_3.1, r_3.2.1, r_3.2.2.1, r_3.2.2.2.1, (0 : Int)) r hm ⟨r_3.1, r_3.2.1, r_3.2.2.1, r_3.2.2.2.1, (0 : Int), A, r_3.2.2.2.1.length, c, ys, rfl, rfl, k_9.oglen 1 rfl, k_9⟩ (by kernel_rfl) ?_
   intro s0_ L_ w_4 y0 hrel hstep hr0
   obtain ⟨s_, s_1, s_2, s_3, i, A1, _, c1, ys1, rfl, rfl, rfl, k_8⟩ := hrel
   have hm := hstep; simp only [m_l06_MacRings_l0] at hm
   clear hstep
   refine W_seq <| Wz (.n 53 (.b (decide (i < (script.length : Int)))) .a) ?_
   refine W_pz (i < (script.length : Int)) (fun hc1 => ?_) fun hc1 => ?_
   · rw [if_pos hc1] at hm
     refine W_skip <| At_go <| W_cut (fun L wr => ∃ (s_4 : Bool) (s_5 : Int) (s_6 : Int) (s_7 : List (List UInt8 × List UInt8)) (A2 : Option Addr) (n2 : Nat) (c2 : Nat) (ys2 : List (List UInt8 × Hd)), m_l06_MacRings_j0 i s_4 s_5 s_6 s_7 = some y0 ∧ L = [(2, sl A_script script.length c_script), (7, .v (.pointer none)), (9, pt g 0), (11, I i)] ∧ s_7.length = n2 ∧ Cx F O w wr [Bx 30 g [.b s_4, I s_5, I s_6, sl A2 n2 c2], OG (eP eS eH) (SP SQ (SH e8)) A2 n2 c2 ys2 s_7]) ?_ ?_
     ·
      refine W_block <| W_seq <| W_reg ?_
      obtain ⟨x_0, zh0, hm⟩ := ob hm
      obtain ⟨⟨q, q1, ⟨B, n3, c3⟩, ⟨B1, n4, c4⟩⟩, hy, hg⟩ := h_script.at zh0
      simp only [RP, RQ, RH] at hg; obtain ⟨rfl, rfl, ⟨rfl, hle, hro⟩, ⟨rfl, hle1, hro1⟩⟩ := hg
      refine Wl 4 (.n 59 (.agg [I x_0.1, .s x_0.2.1, sl B x_0.2.2.1.length c3, sl B1 x_0.2.2.2.length c4]) (.s .a)) (qJ (E := (eP eI (eP eS (eP eH eH)))) (h_script.ro.cx k_8) hy h_script.len <| qR [I x_0.1, .s x_0.2.1, sl B x_0.2.2.1.length c3, sl B1 x_0.2.2.2.length c4] (Rd.els (k := 0) (m := 4) (h_script.ro.cx k_8) hy (Pt.ix1 A_script i 4) rfl (by decide) (by decide)) <| qe) ?_
      refine WL_op <| Op_alloc [] 12 [I 0, .s ([] : List UInt8), sl none 0 0, sl none 0 0] (by kernel_rfl) k_8 ?_
      intro g1 w_5 k_10
      refine WL_op <| Op_bz 2 (.agg [I x_0.1, .s x_0.2.1, sl B x_0.2.2.1.length c3, sl B1 x_0.2.2.2.length c4]) [I x_0.1, .s x_0.2.1, sl B x_0.2.2.1.length c3, sl B1 x_0.2.2.2.length c4] (Pt.at g1 0) k_10 rfl .all ?_
      intro w_6 k_11
      refine Wn <| W_seq <| W_reg <| Wl 2 (.n 61 (sl B x_0.2.2.1.length c3) (.k (.s .a))) (qs g1 0 <| qB k_11 2 rfl 2 (sl B x_0.2.2.1.length c3) (by kernel_rfl) <| qe) ?_
      refine WL_op ?_
      obtain ⟨r_4, h_r_4, hm⟩ := ob hm
      refine Op_cz 62 mr_go6 (c_l06_wide (F := N0) (O := N0) _ _ _ _ (Ro.n0 (hro.cx k_11)) rfl hle (Cx.refl _) _ h_r_4) ?_
      rintro e_ w_7 ⟨A3, _, c5, rfl, rfl, k_12⟩
      have k_13 := k_11.call k_12
      refine ⟨sl A3 r_4.length c5, rfl, ?_⟩
      refine We 1 (.n 13 (sl A3 r_4.length c5) (.ss .a)) ?_
      refine Wn <| W_seq ?_
      obtain ⟨b, h_b, hm⟩ := ob hm
      have hs := slc_some h_b
      have hl := slc_len h_b
      have hn : r_4.length = r_4.length := (k_13.len 3 rfl)
      have hc2 : r_4.length ≤ c5 := (k_13.lec 3 rfl)
      have hc3 : b.length ≤ c5 := by omega
      refine Wa (.n 14 (sl A3 b.length c5) .a) (qs g1 0 <| qB k_13 2 rfl 2 (sl B x_0.2.2.1.length c3) (by kernel_rfl) <| qp (0 ≤ (x_0.2.2.1.length : Int) ∧ (x_0.2.2.1.length : Int) ≤ (c5 : Int)) (by omega) <| qo (.v (.slice A3 b.length c5)) <| qp (Value.slice (slA A3 0 c5 1) (Int.toNat (x_0.2.2.1.length : Int) - 0) (c5 - 0) = .slice A3 b.length c5) (slx0 _ _ _ _ _ (by omega)) <| qe) ?_
      refine W_cut (fun L wr => ∃ (s_8 : Bool) (s_9 : Int) (s_10 : Int) (s_11 : List (List UInt8 × List UInt8)) (A4 : Option Addr) (n5 : Nat) (c6 : Nat) (ys3 : List (List UInt8 × Hd)), m_l06_MacRings_j1 i x_0 r_4 b s_8 s_9 s_10 s_11 = some y0 ∧ L = [(2, sl A_script script.length c_script), (7, .v (.pointer none)), (9, pt g 0), (11, I i), (12, pt g1 0), (13, sl A3 r_4.length c5), (14, sl A3 b.length c5)] ∧ s_11.length = n5 ∧ Cx F O w wr [Bx 30 g [.b s_8, I s_9, I s_10, sl A4 n5 c6], OG (eP eS eH) (SP SQ (SH e8)) A4 n5 c6 ys3 s_11, Bx 35 g1 [I x_0.1, .s x_0.2.1, sl B x_0.2.2.1.length c3, sl B1 x_0.2.2.2.length c4], Ow e8 A3 r_4.length c5 r_4]) ?_ ?_
      ·
       refine W_seq <| Wa (.n 69 (I x_0.1) .a) (qs g1 0 <| qB k_13 2 rfl 0 (I x_0.1) (by kernel_rfl) <| qe) ?_
       refine W_block <| Wz (.n 102 (.b (decide (x_0.1 = 0))) .a) ?_
       refine W_pz (x_0.1 = 0) (fun hc4 => ?_) fun hc4 => ?_
       · rw [if_pos hc4] at hm
         refine W_seq <| W_reg <| Wl 4 (.n 104 (.v (.pointer none)) (.n 106 (.s x_0.2.1) (.n 107 (sl A3 b.length c5) (.ss .a)))) (qs g1 0 <| qB k_13 2 rfl 1 (.s x_0.2.1) (by kernel_rfl) <| qe) ?_
         refine WL_op ?_
         obtain ⟨r_5, h_r_5, hm⟩ := ob hm
         refine Op_cz 108 mr_go7 (c_mac_Ring_Add (F := N0) (O := N0) _ _ _ _ _ (Ro.n0 (Rd.pre (k_13.rd 3 rfl) h_b rfl)) rfl hc3 (Cx.refl _) _ h_r_5) ?_
         rintro e_ w_8 ⟨rfl, k_14⟩
         have k_15 := k_13.call k_14
         refine ⟨I 7, rfl, ?_⟩
         refine We 1 (.n 8 (I 7) (.ssss .a)) ?_
         refine Wn <| W_seq <| W_reg <| Wl 5 (.n 110 (.agg [.b s_, I s_1, I s_2, sl A1 s_3.length c1]) (.n 112 (.s x_0.2.1) (.n 114 (sl B x_0.2.2.1.length c3) .a))) (qT k_15 0 rfl 0 4 [.b s_, I s_1, I s_2, sl A1 s_3.length c1] (by kernel_rfl) (by decide) <| qs g1 0 <| qB k_15 2 rfl 1 (.s x_0.2.1) (by kernel_rfl) <| qs g1 0 <| qB k_15 2 rfl 2 (sl B x_0.2.2.1.length c3) (by kernel_rfl) <| qe) ?_
         refine WL_op ?_
         have k_16 := k_15.sel (.kkkk .e)
         obtain ⟨r_6, h_r_6, hm⟩ := ob hm
         obtain ⟨F1, O1, kin, hO, hre, hF, hb⟩ := k_16.go (.r (.r (.r (.r .e))))
         refine Op_cz 115 mr_go8 (c_r06_Add (F := F1) (O := O1) _ _ _ _ _ _ _ _ _ _ _ _ _ (RoH.of_rest hre 1 rfl) (k_16.oglen 1 rfl) (k_16.oglec 1 rfl) (Ro.of_old hro k_16 hF) rfl hle kin _ h_r_6) ?_
         rcases r_6 with r_7 | r_8
         · simp only [Sum.elim_inl, Sum.elim_inr] at hm
           rintro e_ w_9 ⟨rfl, k_17⟩
           have k_18 := hb w_9 _ _ k_17 .n
           refine ⟨.tup [.agg [.b r_7.1, I r_7.2.1, I r_7.2.2.1, sl A1 s_3.length c1], I r_7.2.2.2], rfl, ?_⟩
           refine We 3 (.n 116 (.agg [.b r_7.1, I r_7.2.1, I r_7.2.2.1, sl A1 s_3.length c1]) (.n 117 (I r_7.2.2.2) (.ssss .a))) ?_
           refine WL_op <| Op_bz 0 (.agg [.b r_7.1, I r_7.2.1, I r_7.2.2.1, sl A1 s_3.length c1]) [.b r_7.1, I r_7.2.1, I r_7.2.2.1, sl A1 s_3.length c1] (Pt.at g 0) k_18 rfl .all ?_
           intro w_10 k_19
           refine We 1 (.n 10 (I r_7.2.2.2) (.ss .a)) ?_
           refine Wn <| Wz (.n 120 (.b (decide (7 ≠ r_7.2.2.2))) (.ss .a)) ?_
           refine W_pz (7 ≠ r_7.2.2.2) (fun hc5 => ?_) fun hc5 => ?_
           · rw [if_pos hc5] at hm
             refine Wz (.n 6 (.b false) .z) ?_
             refine W_ret (At_ir (At_tr (At_ir (At_tr (At_tr (At_ir (At_tr ?_)))))))
             have hm := exit_of hm hr0
             obtain rfl := si hm
             refine At_rz [.b false] qe ?_
             have k_20 := k_19.sel .z
             exact ⟨rfl, k_20⟩
           rw [if_neg hc5] at hm
           refine W_skip <| At_in ?_
           exact At_cz ⟨r_7.1, r_7.2.1, r_7.2.2.1, s_3, A1, s_3.length, c1, ys1, hm, rfl, k_19.oglen 1 rfl, k_19⟩
         · simp only [Sum.elim_inl, Sum.elim_inr] at hm
           rintro e_ w_11 ⟨A5, _, c7, ys4, rfl, rfl, k_21⟩
           have k_22 := hb w_11 _ _ k_21 (.c .n)
           refine ⟨.tup [.agg [.b r_8.1, I r_8.2.1, I r_8.2.2.1, sl A5 r_8.2.2.2.length c7], I 0], rfl, ?_⟩
           refine We 3 (.n 116 (.agg [.b r_8.1, I r_8.2.1, I r_8.2.2.1, sl A5 r_8.2.2.2.length c7]) (.n 117 (I 0) (.ssss .a))) ?_
           refine WL_op <| Op_bz 1 (.agg [.b r_8.1, I r_8.2.1, I r_8.2.2.1, sl A5 r_8.2.2.2.length c7]) [.b r_8.1, I r_8.2.1, I r_8.2.2.1, sl A5 r_8.2.2.2.length c7] (Pt.at g 0) k_22 rfl .all ?_
           intro w_12 k_23
           have k_24 := k_23.sel (.kk (.s (.kk .e)))
           refine We 1 (.n 10 (I 0) (.ss .a)) ?_
           refine Wn <| Wz (.n 120 (.b (decide (7 ≠ 0))) (.ss .a)) ?_
           refine W_pz (7 ≠ 0) (fun hc6 => ?_) fun hc6 => ?_
           · rw [if_pos hc6] at hm
             refine Wz (.n 6 (.b false) .z) ?_
             refine W_ret (At_ir (At_tr (At_ir (At_tr (At_tr (At_ir (At_tr ?_)))))))
             have hm := exit_of hm hr0
             obtain rfl := si hm
             refine At_rz [.b false] qe ?_
             have k_25 := k_24.sel .z
             exact ⟨rfl, k_25⟩
           rw [if_neg hc6] at hm
           refine W_skip <| At_in ?_
           have k_26 := (((k_24.pk (.t (.t (.t .h)))).pk (.t (.t (.t .h)))).pk (.t (.t .h))).pk (.t (.t (.t .h)))
           exact At_cz ⟨r_8.1, r_8.2.1, r_8.2.2.1, r_8.2.2.2, A5, r_8.2.2.2.length, c7, ys4, hm, rfl, k_26.oglen 1 rfl, k_26⟩
       rw [if_neg hc4] at hm
       refine Wz (.n 121 (.b (decide (x_0.1 = 1))) (.s .a)) ?_
       refine W_pz (x_0.1 = 1) (fun hc7 => ?_) fun hc7 => ?_
       · rw [if_pos hc7] at hm
         refine W_seq <| W_reg <| Wl 3 (.n 123 (.v (.pointer none)) (.n 125 (.s x_0.2.1) (.ss .a))) (qs g1 0 <| qB k_13 2 rfl 1 (.s x_0.2.1) (by kernel_rfl) <| qe) ?_
         refine WL_op ?_
         obtain ⟨r_9, h_r_9, hm⟩ := ob hm
         refine Op_cz 126 mr_go9 (c_mac_Ring_Drop (F := N0) (O := N0) _ (Cx.refl _) _ h_r_9) ?_
         rintro e_ w_13 ⟨rfl, k_27⟩
         have k_28 := k_13.call k_27
         refine ⟨I 7, rfl, ?_⟩
         refine We 1 (.n 8 (I 7) (.sss .a)) ?_
         refine Wn <| W_seq <| W_reg <| Wl 3 (.n 128 (.agg [.b s_, I s_1, I s_2, sl A1 s_3.length c1]) (.n 130 (.s x_0.2.1) .a)) (qT k_28 0 rfl 0 4 [.b s_, I s_1, I s_2, sl A1 s_3.length c1] (by kernel_rfl) (by decide) <| qs g1 0 <| qB k_28 2 rfl 1 (.s x_0.2.1) (by kernel_rfl) <| qe) ?_
         refine WL_op ?_
         have k_29 := k_28.sel (.kkkk .e)
         obtain ⟨r_10, h_r_10, hm⟩ := ob hm
         obtain ⟨F11, O11, kin1, hO1, hre1, hF1, hb1⟩ := k_29.go (.r (.r (.r (.r .e))))
         refine Op_cz 131 mr_go10 (c_r06_Drop (F := F11) (O := O11) _ _ _ _ _ _ _ _ _ (RoH.of_rest hre1 1 rfl) (k_29.oglen 1 rfl) (k_29.oglec 1 rfl) kin1 _ h_r_10) ?_
         rcases r_10 with r_11 | r_12
         · simp only [Sum.elim_inl, Sum.elim_inr] at hm
           rintro e_ w_14 ⟨rfl, k_30⟩
           have k_31 := hb1 w_14 _ _ k_30 .n
           refine ⟨.tup [.agg [.b r_11.1, I r_11.2.1, I r_11.2.2.1, sl A1 s_3.length c1], I r_11.2.2.2], rfl, ?_⟩
           refine We 3 (.n 132 (.agg [.b r_11.1, I r_11.2.1, I r_11.2.2.1, sl A1 s_3.length c1]) (.n 133 (I r_11.2.2.2) (.sss .a))) ?_
           refine WL_op <| Op_bz 0 (.agg [.b r_11.1, I r_11.2.1, I r_11.2.2.1, sl A1 s_3.length c1]) [.b r_11.1, I r_11.2.1, I r_11.2.2.1, sl A1 s_3.length c1] (Pt.at g 0) k_31 rfl .all ?_
           intro w_15 k_32
           refine We 1 (.n 10 (I r_11.2.2.2) (.ss .a)) ?_
           refine Wn <| Wz (.n 136 (.b (decide (7 ≠ r_11.2.2.2))) (.ss .a)) ?_
           refine W_pz (7 ≠ r_11.2.2.2) (fun hc8 => ?_) fun hc8 => ?_
           · rw [if_pos hc8] at hm
             refine Wz (.n 6 (.b false) .z) ?_
             refine W_ret (At_ir (At_tr (At_ir (At_tr (At_tr (At_ir (At_tr ?_)))))))
             have hm := exit_of hm hr0
             obtain rfl := si hm
             refine At_rz [.b false] qe ?_
             have k_33 := k_32.sel .z
             exact ⟨rfl, k_33⟩
           rw [if_neg hc8] at hm
           refine W_skip <| At_in ?_
           exact At_cz ⟨r_11.1, r_11.2.1, r_11.2.2.1, s_3, A1, s_3.length, c1, ys1, hm, rfl, k_32.oglen 1 rfl, k_32⟩
         · simp only [Sum.elim_inl, Sum.elim_inr] at hm
           rintro e_ w_16 ⟨A6, _, c8, ys5, rfl, rfl, k_34⟩
           have k_35 := hb1 w_16 _ _ k_34 (.c .n)
           refine ⟨.tup [.agg [.b r_12.1, I r_12.2.1, I r_12.2.2.1, sl A6 r_12.2.2.2.length c8], I 0], rfl, ?_⟩
           refine We 3 (.n 132 (.agg [.b r_12.1, I r_12.2.1, I r_12.2.2.1, sl A6 r_12.2.2.2.length c8]) (.n 133 (I 0) (.sss .a))) ?_
           refine WL_op <| Op_bz 1 (.agg [.b r_12.1, I r_12.2.1, I r_12.2.2.1, sl A6 r_12.2.2.2.length c8]) [.b r_12.1, I r_12.2.1, I r_12.2.2.1, sl A6 r_12.2.2.2.length c8] (Pt.at g 0) k_35 rfl .all ?_
           intro w_17 k_36
           have k_37 := k_36.sel (.kk (.s (.kk .e)))
           refine We 1 (.n 10 (I 0) (.ss .a)) ?_
           refine Wn <| Wz (.n 136 (.b (decide (7 ≠ 0))) (.ss .a)) ?_
           refine W_pz (7 ≠ 0) (fun hc9 => ?_) fun hc9 => ?_
           · rw [if_pos hc9] at hm
             refine Wz (.n 6 (.b false) .z) ?_
             refine W_ret (At_ir (At_tr (At_ir (At_tr (At_tr (At_ir (At_tr ?_)))))))
             have hm := exit_of hm hr0
             obtain rfl := si hm
             refine At_rz [.b false] qe ?_
             have k_38 := k_37.sel .z
             exact ⟨rfl, k_38⟩
           rw [if_neg hc9] at hm
           refine W_skip <| At_in ?_
           have k_39 := (((k_37.pk (.t (.t (.t .h)))).pk (.t (.t (.t .h)))).pk (.t (.t .h))).pk (.t (.t (.t .h)))
           exact At_cz ⟨r_12.1, r_12.2.1, r_12.2.2.1, r_12.2.2.2, A6, r_12.2.2.2.length, c8, ys5, hm, rfl, k_39.oglen 1 rfl, k_39⟩
       rw [if_neg hc7] at hm
       refine Wz (.n 137 (.b (decide (x_0.1 = 2))) (.s .a)) ?_
       refine W_pz (x_0.1 = 2) (fun hc10 => ?_) fun hc10 => ?_
       · rw [if_pos hc10] at hm
         refine W_seq <| W_reg <| We 1 (.n 139 (.v (.pointer none)) (.ss .a)) ?_
         refine WL_op ?_
         obtain ⟨r_13, h_r_13, hm⟩ := ob hm
         refine Op_cz 140 mr_go11 (c_mac_Ring_Names (F := N0) (O := N0)  (Cx.refl _) _ h_r_13) ?_
         rintro e_ w_18 ⟨A7, _, c9, rfl, rfl, k_40⟩
         have k_41 := k_13.call k_40
         refine ⟨sl A7 r_13.length c9, rfl, ?_⟩
         refine We 1 (.n 15 (sl A7 r_13.length c9) (.ss .a)) ?_
         refine Wn <| W_seq <| W_reg <| Wl 1 (.n 141 (.agg [.b s_, I s_1, I s_2, sl A1 s_3.length c1]) .a) (qT k_41 0 rfl 0 4 [.b s_, I s_1, I s_2, sl A1 s_3.length c1] (by kernel_rfl) (by decide) <| qe) ?_
         refine WL_op ?_
         have k_42 := k_41.sel (.kkkk (.k .e))
         obtain ⟨r_14, h_r_14, hm⟩ := ob hm
         refine Op_cz 142 mr_go12 (c_r06_Names (F := N0) (O := N0) _ _ _ _ _ _ _ _ (RoG.of_cx k_42 1 rfl (fun R_ y_ x_ hR_ q_ => ⟨(And.left q_), (SH.rh (And.right q_) hR_)⟩)) (k_42.oglen 1 rfl) (k_42.oglec 1 rfl) (Cx.refl _) _ h_r_14) ?_
         rintro e_ w_19 ⟨A8, _, c10, rfl, rfl, k_43⟩
         have k_44 := k_42.call k_43
         refine ⟨sl A8 r_14.length c10, rfl, ?_⟩
         refine We 1 (.n 16 (sl A8 r_14.length c10) (.ss .a)) ?_
         refine Wn <| W_seq <| Wz (.n 147 (.b (decide ((r_13.length : Int) ≠ (r_14.length : Int)))) .a) ?_
         refine W_pz ((r_13.length : Int) ≠ (r_14.length : Int)) (fun hc11 => ?_) fun hc11 => ?_
         · rw [if_pos hc11] at hm
           refine Wz (.n 6 (.b false) .z) ?_
           refine W_ret (At_tr (At_ir (At_tr (At_ir (At_tr (At_tr (At_ir (At_tr ?_))))))))
           have hm := exit_of hm hr0
           obtain rfl := si hm
           refine At_rz [.b false] qe ?_
           have k_45 := k_44.sel .z
           exact ⟨rfl, k_45⟩
         rw [if_neg hc11] at hm
         refine W_skip <| At_go <| Wz (.n 17 (I 0) (.s .a)) ?_
         refine W_block <| W_lp (m_l06_MacRings_l1 s_ s_1 s_2 s_3 i x_0 r_4 b r_14) (fun s L wr => ∃ (l : List (List UInt8)) (j : Int), (l, j) = s ∧ L = [(2, sl A_script script.length c_script), (7, .v (.pointer none)), (9, pt g 0), (11, I i), (12, pt g1 0), (13, sl A3 r_4.length c5), (14, sl A3 b.length c5), (15, sl A7 r_13.length c9), (16, sl A8 r_14.length c10), (17, I j)] ∧ Cx F O w wr [Bx 30 g [.b s_, I s_1, I s_2, sl A1 s_3.length c1], OG (eP eS eH) (SP SQ (SH e8)) A1 s_3.length c1 ys1 s_3, Bx 35 g1 [I x_0.1, .s x_0.2.1, sl B x_0.2.2.1.length c3, sl B1 x_0.2.2.2.length c4], Ow e8 A3 r_4.length c5 r_4, Ow eS A7 r_13.length c9 l, Ow eS A8 r_14.length c10 r_14]) (r_13, (0 : Int)) y0 hm ⟨r_13, (0 : Int), rfl, rfl, k_44⟩ (by kernel_rfl) ?_
         intro s1_ L_ w_20 y1 hrel hstep hr1
         obtain ⟨l, j, rfl, rfl, k_46⟩ := hrel
         have hm := hstep; simp only [m_l06_MacRings_l1] at hm
         clear hstep
         refine W_seq <| Wz (.n 151 (.b (decide (j < (r_14.length : Int)))) .a) ?_
         refine W_pz (j < (r_14.length : Int)) (fun hc12 => ?_) fun hc12 => ?_
         · rw [if_pos hc12] at hm
           refine W_skip <| At_go <| W_seq <| W_block <| W_seq <| W_seq ?_
           obtain ⟨x_1, zh1, hm⟩ := ob hm
           obtain ⟨x_2, zh2, hm⟩ := ob hm
           refine W_d mr_mixed (by kernel_rfl) (.n 162 (.b (decide (x_1 ≠ x_2))) (.s .a)) (fun m => qW ((k_46.drew m).rd 4 rfl) zh1 (k_46.len 4 rfl) (.s x_1) rfl <| qW ((k_46.drew m).rd 5 rfl) zh2 (k_46.len 5 rfl) (.s x_2) rfl <| qe) (by kernel_rfl) (fun m_ => ?_)
           have k_47 := k_46.drew m_
           refine At_go <| W_pz (x_1 ≠ x_2) (fun hc13 => ?_) fun hc13 => ?_
           · rw [if_pos hc13] at hm
             refine Wz (.n 6 (.b false) .z) ?_
             refine W_ret (At_tr (At_ir (At_tr (At_tr (At_ir (At_ir (At_tr (At_ir (At_tr (At_tr (At_ir (At_tr ?_))))))))))))
             have hm := exit_of hm hr1
             have hm := exit_of hm hr0
             obtain rfl := si hm
             refine At_rz [.b false] qe ?_
             have k_48 := k_47.sel .z
             exact ⟨rfl, k_48⟩
           rw [if_neg hc13] at hm
           refine W_skip <| At_go <| W_reg ?_
           obtain ⟨x_3, zh3, hm⟩ := ob hm
           refine Wl 3 (.n 165 (.v (.pointer (ixA A7 j 1))) (.s .a)) (qJ (k_47.rd 4 rfl) zh3 (k_47.len 4 rfl) <| qe) ?_
           refine WL_op <| Op_ost (E := eS) (kk := 0) (sv := .s ([63] : List UInt8)) (svs := [.s ([63] : List UInt8)]) [] 4 ([63] : List UInt8) (by kernel_rfl) (Pt.ix1 A7 j 1) k_47 rfl (geti_some zh3).2 (E_ix (E := eS) (k_47.rd 4 rfl) (by decide) (geti_lt zh3).1 (geti_some zh3).2) rfl (Nat.le_of_ble_eq_true (by kernel_rfl)) ?_
           intro w_21 k_49
           refine WL_nil <| At_in <| At_go <| W_q [] (.n 17 (I (w64 (j + 1))) (.s (.kkkk (.kkkk (.k .z))))) qe (by kernel_rfl) ?_
           exact At_rd (l.set (Int.toNat j) ([63] : List UInt8), w64 (j + 1)) (Option.some.inj hm).symm ⟨l.set (Int.toNat j) ([63] : List UInt8), w64 (j + 1), rfl, rfl, k_49⟩ (by kernel_rfl)
         rw [if_neg hc12] at hm
         refine W_exit (At_te (At_te (At_ie ?_)))
         have hm := exit_of hm hr1
         refine At_in ?_
         have k_50 := k_46.sel (.kkkk .z)
         exact At_cz ⟨s_, s_1, s_2, s_3, A1, s_3.length, c1, ys1, hm, rfl, k_50.oglen 1 rfl, k_50⟩
       rw [if_neg hc10] at hm
       refine Wz (.n 166 (.b (decide (x_0.1 = 3))) (.ss .a)) ?_
       refine W_pz (x_0.1 = 3) (fun hc14 => ?_) fun hc14 => ?_
       · rw [if_pos hc14] at hm
         refine W_seq <| W_reg <| Wl 5 (.n 169 (.v (.pointer none)) (.n 171 (.s x_0.2.1) (.n 173 (sl B1 x_0.2.2.2.length c4) (.s .a)))) (qs g1 0 <| qB k_13 2 rfl 1 (.s x_0.2.1) (by kernel_rfl) <| qs g1 0 <| qB k_13 2 rfl 3 (sl B1 x_0.2.2.2.length c4) (by kernel_rfl) <| qe) ?_
         refine WL_op ?_
         obtain ⟨r_15, h_r_15, hm⟩ := ob hm
         refine Op_cz 174 mr_go13 (c_mac_Ring_Tag (F := N0) (O := N0) _ _ _ _ _ (Ro.n0 (hro1.cx k_13)) rfl hle1 (Cx.refl _) _ h_r_15) ?_
         rintro e_ w_22 ⟨A9, _, c11, rfl, rfl, k_51⟩
         have k_52 := k_13.call k_51
         refine ⟨.tup [sl A9 r_15.length c11, I 7], rfl, ?_⟩
         refine We 5 (.n 18 (sl A9 r_15.length c11) (.n 19 (I 7) (.ssss .a))) ?_
         refine Wn <| W_seq <| W_reg <| Wl 5 (.n 178 (.agg [.b s_, I s_1, I s_2, sl A1 s_3.length c1]) (.n 180 (.s x_0.2.1) (.n 182 (sl B1 x_0.2.2.2.length c4) .a))) (qT k_52 0 rfl 0 4 [.b s_, I s_1, I s_2, sl A1 s_3.length c1] (by kernel_rfl) (by decide) <| qs g1 0 <| qB k_52 2 rfl 1 (.s x_0.2.1) (by kernel_rfl) <| qs g1 0 <| qB k_52 2 rfl 3 (sl B1 x_0.2.2.2.length c4) (by kernel_rfl) <| qe) ?_
         refine WL_op ?_
         have k_53 := k_52.sel (.kkkk (.k .e))
         obtain ⟨r_16, h_r_16, hm⟩ := ob hm
         refine Op_cz 183 mr_go14 (c_r06_Tag (F := N0) (O := N0) _ _ _ _ _ _ _ _ _ _ _ _ _ (RoG.of_cx k_53 1 rfl (fun R_ y_ x_ hR_ q_ => ⟨(And.left q_), (SH.rh (And.right q_) hR_)⟩)) (k_53.oglen 1 rfl) (k_53.oglec 1 rfl) (Ro.n0 (hro1.cx k_53)) rfl hle1 (Cx.refl _) _ h_r_16) ?_
         rintro e_ w_23 ⟨A10, _, c12, rfl, rfl, k_54⟩
         have k_55 := k_53.call k_54
         refine ⟨.tup [sl A10 r_16.1.length c12, I r_16.2], rfl, ?_⟩
         refine We 5 (.n 20 (sl A10 r_16.1.length c12) (.n 21 (I r_16.2) (.ssss .a))) ?_
         refine Wn <| W_seq <| W_seq <| W_reg <| We 4 (.n 189 (.b (decide (7 ≠ r_16.2))) (.k (.s (.k (.s .a))))) ?_
         refine WL_sp 189 (decide (7 ≠ r_16.2)) (.s .a) (by kernel_rfl) (fun hg1 => ?_) (fun hg1 => ?_)
         · rw [if_pos (of_decide_eq_true hg1)] at hm
           refine WLs 5 [189] (.n 194 (.b true) (.ss .a)) qe (by kernel_rfl) ?_
           refine Wn <| W_cond true (by kernel_rfl) (fun _ => ?_) (fun h => by cases h)
           refine Wz (.n 6 (.b false) .z) ?_
           refine W_ret (At_tr (At_ir (At_tr (At_ir (At_tr (At_tr (At_ir (At_tr ?_))))))))
           have hm := exit_of hm hr0
           obtain rfl := si hm
           refine At_rz [.b false] qe ?_
           have k_56 := k_55.sel .z
           exact ⟨rfl, k_56⟩
         · rw [if_neg (of_decide_eq_false hg1)] at hm
           refine WLs 2 [189] (.n 190 (sl A9 r_15.length c11) (.n 191 (sl A10 r_16.1.length c12) (.k (.s .a)))) qe (by kernel_rfl) ?_
           refine WL_op ?_
           obtain ⟨r_17, h_r_17, hm⟩ := ob hm
           refine Op_call [189] 192 _ mr_go15 (by kernel_rfl) (c_l06_same (F := N0) (O := N0) _ _ _ _ _ _ _ _ (Ro.n0 (k_55.rd 4 rfl)) (k_55.len 4 rfl) (k_55.lec 4 rfl) (Ro.n0 (k_55.rd 5 rfl)) (k_55.len 5 rfl) (k_55.lec 5 rfl) (Cx.refl _) _ h_r_17) ?_
           rintro e_ w_24 ⟨rfl, k_57⟩
           have k_58 := k_55.call k_57
           refine ⟨.b r_17, rfl, ?_⟩
           have k_59 := k_58.sel (.kkkk (.k .z))
           refine WLs 2 [189] (.n 194 (.b (!r_17)) (.ssss .a)) qe (by kernel_rfl) ?_
           refine Wn <| W_cz (!r_17) (fun hc15 => ?_) fun hc15 => ?_
           · rw [if_pos hc15] at hm
             refine Wz (.n 6 (.b false) .z) ?_
             refine W_ret (At_tr (At_ir (At_tr (At_ir (At_tr (At_tr (At_ir (At_tr ?_))))))))
             have hm := exit_of hm hr0
             obtain rfl := si hm
             refine At_rz [.b false] qe ?_
             have k_60 := k_59.sel .z
             exact ⟨rfl, k_60⟩
           rw [if_neg (by rw [hc15]; decide)] at hm
           refine W_skip <| At_go <| W_reg <| We 1 (.n 195 (sl A9 r_15.length c11) (.ss .a)) ?_
           refine WL_op ?_
           obtain ⟨r_18, h_r_18, hm⟩ := ob hm
           obtain ⟨F12, O12, kin2, hO2, hre2, hF2, hb2⟩ := k_59.go (.r (.r (.r (.r (.i .e)))))
           refine Op_cz 196 mr_go16 (c_l06_spoil (F := F12) (O := O12) _ _ _ _ kin2 _ h_r_18) ?_
           rintro e_ w_25 ⟨rfl, k_61⟩
           have k_62 := hb2 w_25 _ _ k_61 .n
           refine ⟨.tup [], rfl, ?_⟩
           refine WL_nil <| At_in ?_
           exact At_cz ⟨s_, s_1, s_2, s_3, A1, s_3.length, c1, ys1, hm, rfl, k_62.oglen 1 rfl, k_62⟩
       rw [if_neg hc14] at hm
       refine W_seq <| W_reg <| Wl 4 (.n 71 (.v (.pointer none)) (.n 72 (sl A3 b.length c5) (.n 74 (sl B1 x_0.2.2.2.length c4) (.s .a)))) (qs g1 0 <| qB k_13 2 rfl 3 (sl B1 x_0.2.2.2.length c4) (by kernel_rfl) <| qe) ?_
       refine WL_op ?_
       obtain ⟨r_19, h_r_19, hm⟩ := ob hm
       refine Op_cz 75 mr_go17 (c_mac_Ring_Who (F := N0) (O := N0) _ _ _ _ _ _ _ _ (Ro.n0 (Rd.pre (k_13.rd 3 rfl) h_b rfl)) rfl hc3 (Ro.n0 (hro1.cx k_13)) rfl hle1 (Cx.refl _) _ h_r_19) ?_
       rintro e_ w_26 ⟨rfl, k_63⟩
       have k_64 := k_13.call k_63
       refine ⟨.tup [.s ([] : List UInt8), .b false, I 7], rfl, ?_⟩
       refine We 7 (.n 22 (.s ([] : List UInt8)) (.n 23 (.b false) (.n 24 (I 7) (.ssss .a)))) ?_
       refine Wn <| W_seq <| W_reg <| Wl 5 (.n 80 (.agg [.b s_, I s_1, I s_2, sl A1 s_3.length c1]) (.n 82 (sl B x_0.2.2.1.length c3) (.n 84 (sl B1 x_0.2.2.2.length c4) .a))) (qT k_64 0 rfl 0 4 [.b s_, I s_1, I s_2, sl A1 s_3.length c1] (by kernel_rfl) (by decide) <| qs g1 0 <| qB k_64 2 rfl 2 (sl B x_0.2.2.1.length c3) (by kernel_rfl) <| qs g1 0 <| qB k_64 2 rfl 3 (sl B1 x_0.2.2.2.length c4) (by kernel_rfl) <| qe) ?_
       refine WL_op ?_
       have k_65 := k_64.sel (.kkkk .e)
       obtain ⟨r_20, h_r_20, hm⟩ := ob hm
       refine Op_cz 85 mr_go18 (c_r06_Who (F := N0) (O := N0) _ _ _ _ _ _ _ _ _ _ _ _ _ _ _ _ (RoG.of_cx k_65 1 rfl (fun R_ y_ x_ hR_ q_ => ⟨(And.left q_), (SH.rh (And.right q_) hR_)⟩)) (k_65.oglen 1 rfl) (k_65.oglec 1 rfl) (Ro.n0 (hro.cx k_65)) rfl hle (Ro.n0 (hro1.cx k_65)) rfl hle1 (Cx.refl _) _ h_r_20) ?_
       rintro e_ w_27 ⟨rfl, k_66⟩
       have k_67 := k_65.call k_66
       refine ⟨.tup [.s r_20.1, .b r_20.2.1, I r_20.2.2], rfl, ?_⟩
       refine We 7 (.n 25 (.s r_20.1) (.n 26 (.b r_20.2.1) (.n 27 (I r_20.2.2) (.ssss .a)))) ?_
       refine Wn <| Wz (.n 101 (.b (((decide (7 ≠ r_20.2.2)) || (decide (([] : List UInt8) ≠ r_20.1))) || (decide (false ≠ r_20.2.1)))) (.ssss (.ss .a))) ?_
       refine W_cz (((decide (7 ≠ r_20.2.2)) || (decide (([] : List UInt8) ≠ r_20.1))) || (decide (false ≠ r_20.2.1))) (fun hc16 => ?_) fun hc16 => ?_
       · rw [if_pos hc16] at hm
         refine Wz (.n 6 (.b false) .z) ?_
         refine W_ret (At_ir (At_tr (At_ir (At_tr (At_tr (At_ir (At_tr ?_)))))))
         have hm := exit_of hm hr0
         obtain rfl := si hm
         refine At_rz [.b false] qe ?_
         have k_68 := k_67.sel .z
         exact ⟨rfl, k_68⟩
       rw [if_neg (by rw [hc16]; decide)] at hm
       refine W_skip <| At_in ?_
       exact At_cz ⟨s_, s_1, s_2, s_3, A1, s_3.length, c1, ys1, hm, rfl, k_67.oglen 1 rfl, k_67⟩
      rintro L_ w_28 ⟨s_8, s_9, s_10, s_11, A4, _, c6, ys3, hm, rfl, rfl, k_69⟩
      simp only [m_l06_MacRings_j1] at hm
      refine W_seq <| W_seq <| W_reg <| Wl 3 (.n 197 (sl A3 r_4.length c5) (.n 199 (sl B x_0.2.2.1.length c3) (.kkkk (.ss .a)))) (qs g1 0 <| qB k_69 2 rfl 2 (sl B x_0.2.2.1.length c3) (by kernel_rfl) <| qe) ?_
      refine WL_op ?_
      obtain ⟨r_21, h_r_21, hm⟩ := ob hm
      refine Op_cz 200 mr_go19 (c_l06_kept (F := N0) (O := N0) _ _ _ _ _ _ _ _ (Ro.n0 (k_69.rd 3 rfl)) (k_69.len 3 rfl) (k_69.lec 3 rfl) (Ro.n0 (hro.cx k_69)) rfl hle (Cx.refl _) _ h_r_21) ?_
      rintro e_ w_29 ⟨rfl, k_70⟩
      have k_71 := k_69.call k_70
      refine ⟨.b r_21, rfl, ?_⟩
      have k_72 := k_71.sel (.kk (.s (.k .e)))
      refine We 1 (.n 201 (.b (!r_21)) (.sss .a)) ?_
      refine Wn <| W_cz (!r_21) (fun hc17 => ?_) fun hc17 => ?_
      · rw [if_pos hc17] at hm
        refine Wz (.n 6 (.b false) .z) ?_
        refine W_ret (At_tr (At_ir (At_tr (At_tr (At_ir (At_tr ?_))))))
        have hm := exit_of hm hr0
        obtain rfl := si hm
        refine At_rz [.b false] qe ?_
        have k_73 := k_72.sel .z
        exact ⟨rfl, k_73⟩
      rw [if_neg (by rw [hc17]; decide)] at hm
      refine W_skip <| At_go <| W_reg <| We 1 (.n 202 (sl A3 b.length c5) (.s (.kkkk .z))) ?_
      refine WL_op ?_
      have k_74 := k_72.pre 2 rfl b.length c5 b (by omega) (by omega) (by omega) (slc_pre h_b rfl)
      obtain ⟨r_22, h_r_22, hm⟩ := ob hm
      obtain ⟨F13, O13, kin3, hO3, hre3, hF3, hb3⟩ := k_74.go (.r (.r (.i .e)))
      refine Op_cz 203 mr_go16 (c_l06_spoil (F := F13) (O := O13) _ _ _ _ kin3 _ h_r_22) ?_
      rintro e_ w_30 ⟨rfl, k_75⟩
      have k_76 := hb3 w_30 _ _ k_75 .n
      refine ⟨.tup [], rfl, ?_⟩
      refine WL_nil <| At_in ?_
      exact At_cz ⟨s_8, s_9, s_10, s_11, A4, s_11.length, c6, ys3, hm, rfl, k_76.oglen 1 rfl, k_76⟩
     rintro L_ w_31 ⟨s_4, s_5, s_6, s_7, A2, _, c2, ys2, hm, rfl, rfl, k_77⟩
     simp only [m_l06_MacRings_j0] at hm
     refine W_q [] (.n 11 (I (w64 (i + 1))) (.kkk .z)) qe (by kernel_rfl) ?_
     exact At_rd (s_4, s_5, s_6, s_7, w64 (i + 1)) (Option.some.inj hm).symm ⟨s_4, s_5, s_6, s_7, w64 (i + 1), A2, s_7.length, c2, ys2, rfl, rfl, k_77.oglen 1 rfl, k_77⟩ (by kernel_rfl)
   rw [if_neg hc1] at hm
   refine W_exit (At_te (At_te (At_ie ?_)))
   have hm := exit_of hm hr0
   refine At_go <| Wz (.n 6 (.b true) .z) ?_
   refine W_ret ?_
   obtain rfl := si hm
   refine At_rz [.b true] qe ?_
   have k_78 := k_8.sel .z
   exact ⟨rfl, k_78⟩
 · simp only [Sum.elim_inl, Sum.elim_inr] at hm
   rintro e_ w_0 ⟨g0, hd, b0, rfl, k_79⟩
   have k_80 := k.call k_79
   refine ⟨.tup [pt g0 0, I 0], rfl, ?_⟩
   refine We 5 (.n 7 (pt g0 0) (.n 8 (I 0) (.sss .a))) ?_
   refine Wn <| W_seq <| W_reg <| We 2 (.n 35 (I k_) (.n 36 (I n) (.kk (.ss .a)))) ?_
   refine WL_op ?_
   obtain ⟨r_23, h_r_23, hm⟩ := ob hm
   refine Op_cz 37 mr_go5 (c_r06_NewRing (F := N0) (O := N0) _ _ (Cx.refl _) _ h_r_23) ?_
   rintro e_ w_32 ⟨A0, _, c0, ys0, rfl, rfl, k_81⟩
   have k_82 := k_80.call k_81
   refine ⟨.tup [.agg [.b r_23.1, I r_23.2.1, I r_23.2.2.1, sl A0 r_23.2.2.2.1.length c0], I r_23.2.2.2.2], rfl, ?_⟩
   refine We 3 (.n 38 (.agg [.b r_23.1, I r_23.2.1, I r_23.2.2.1, sl A0 r_23.2.2.2.1.length c0]) (.n 39 (I r_23.2.2.2.2) (.sss .a))) ?_
   refine WL_op <| Op_alloc [] 9 [.b false, I 0, I 0, sl none 0 0] (by kernel_rfl) k_82 ?_
   intro g2 w_33 k_83
   refine WL_op <| Op_bz 3 (.agg [.b r_23.1, I r_23.2.1, I r_23.2.2.1, sl A0 r_23.2.2.2.1.length c0]) [.b r_23.1, I r_23.2.1, I r_23.2.2.1, sl A0 r_23.2.2.2.1.length c0] (Pt.at g2 0) k_83 rfl .all ?_
   intro w_34 k_84
   refine We 1 (.n 10 (I r_23.2.2.2.2) (.k (.ss .a))) ?_
   refine Wn <| W_seq <| Wz (.n 49 (.b ((decide (0 ≠ r_23.2.2.2.2)) || (decide (false ≠ (decide (r_23.2.2.2.2 ≠ 0)))))) (.s (.kk (.s .a)))) ?_
   refine W_cz ((decide (0 ≠ r_23.2.2.2.2)) || (decide (false ≠ (decide (r_23.2.2.2.2 ≠ 0))))) (fun hc0 => ?_) fun hc0 => ?_
   · rw [if_pos hc0] at hm
     refine Wz (.n 6 (.b false) .z) ?_
     refine W_ret (At_tr ?_)
     obtain rfl := si hm
     refine At_rz [.b false] qe ?_
     have k_85 := k_84.sel .z
     exact ⟨rfl, k_85⟩
   rw [if_neg (by rw [hc0]; decide)] at hm
   refine W_skip <| At_go <| W_seq <| Wz (.n 11 (I 0) (.s .a)) ?_
   refine W_block ?_
   have k_87 := (((k_84.pk (.t (.t .h))).pk (.t (.t (.t .h)))).pk (.t (.t (.t .h)))).pk (.t (.t (.t .h)))
   refine W_lp (m_l06_MacRings_l2 script) (fun s L wr => ∃ (r_24 : Int) (r_25 : Int) (ks : List (List UInt8)) (xs : List (List UInt8)) (s_0 : Bool) (s_12 : Int) (s_13 : Int) (s_14 : List (List UInt8 × List UInt8)) (i0 : Int) (hd1 : List Hd) (A11 : Option Addr) (n6 : Nat) (c13 : Nat) (ys6 : List (List UInt8 × Hd)), (r_24, r_25, ks, xs, s_0, s_12, s_13, s_14, i0) = s ∧ L = [(2, sl A_script script.length c_script), (7, pt g0 0), (9, pt g2 0), (11, I i0)] ∧ s_14.length = n6 ∧ Cx F O w wr [Bx 58 g0 [I r_24, I r_25, .v (.map (some b0))], MR e8 b0 ks hd1 xs, Bx 30 g2 [.b s_0, I s_12, I s_13, sl A11 n6 c13], OG (eP eS eH) (SP SQ (SH e8)) A11 n6 c13 ys6 s_14]) (r_2.1, r_2.2.1, r_2.2.2.1, r_2.2.2.2, r_23.1, r_23.2.1, r_23.2.2.1, r_23.2.2.2.1, (0 : Int)) r hm ⟨r_2.1, r_2.2.1, r_2.2.2.1, r_2.2.2.2, r_23.1, r_23.2.1, r_23.2.2.1, r_23.2.2.2.1, (0 : Int), hd, A0, r_23.2.2.2.1.length, c0, ys0, rfl, rfl, k_87.oglen 3 rfl, k_87⟩ (by kernel_rfl) ?_
   intro s0_ L_ w_35 y0 hrel hstep hr0
   obtain ⟨r_24, r_25, ks, xs, s_0, s_12, s_13, s_14, i0, hd1, A11, _, c13, ys6, rfl, rfl, rfl, k_86⟩ := hrel
   have hm := hstep; simp only [m_l06_MacRings_l2] at hm
   clear hstep
   refine W_seq <| Wz (.n 53 (.b (decide (i0 < (script.length : Int)))) .a) ?_
   refine W_pz (i0 < (script.length : Int)) (fun hc18 => ?_) fun hc18 => ?_
   · rw [if_pos hc18] at hm
     refine W_skip <| At_go <| W_cut (fun L wr => ∃ (r_26 : Int) (r_27 : Int) (ks1 : List (List UInt8)) (xs1 : List (List UInt8)) (s_15 : Bool) (s_16 : Int) (s_17 : Int) (s_18 : List (List UInt8 × List UInt8)) (hd2 : List Hd) (A12 : Option Addr) (n7 : Nat) (c14 : Nat) (ys7 : List (List UInt8 × Hd)), m_l06_MacRings_j2 i0 r_26 r_27 ks1 xs1 s_15 s_16 s_17 s_18 = some y0 ∧ L = [(2, sl A_script script.length c_script), (7, pt g0 0), (9, pt g2 0), (11, I i0)] ∧ s_18.length = n7 ∧ Cx F O w wr [Bx 58 g0 [I r_26, I r_27, .v (.map (some b0))], MR e8 b0 ks1 hd2 xs1, Bx 30 g2 [.b s_15, I s_16, I s_17, sl A12 n7 c14], OG (eP eS eH) (SP SQ (SH e8)) A12 n7 c14 ys7 s_18]) ?_ ?_
     ·
      refine W_block <| W_seq <| W_reg ?_
      obtain ⟨x_4, zh4, hm⟩ := ob hm
      obtain ⟨⟨q0, q2, ⟨B0, n8, c15⟩, ⟨B2, n9, c16⟩⟩, hy0, hg0⟩ := h_script.at zh4
      simp only [RP, RQ, RH] at hg0; obtain ⟨rfl, rfl, ⟨rfl, hle0, hro0⟩, ⟨rfl, hle2, hro2⟩⟩ := hg0
      refine Wl 4 (.n 59 (.agg [I x_4.1, .s x_4.2.1, sl B0 x_4.2.2.1.length c15, sl B2 x_4.2.2.2.length c16]) (.s .a)) (qJ (E := (eP eI (eP eS (eP eH eH)))) (h_script.ro.cx k_86) hy0 h_script.len <| qR [I x_4.1, .s x_4.2.1, sl B0 x_4.2.2.1.length c15, sl B2 x_4.2.2.2.length c16] (Rd.els (k := 0) (m := 4) (h_script.ro.cx k_86) hy0 (Pt.ix1 A_script i0 4) rfl (by decide) (by decide)) <| qe) ?_
      refine WL_op <| Op_alloc [] 12 [I 0, .s ([] : List UInt8), sl none 0 0, sl none 0 0] (by kernel_rfl) k_86 ?_
      intro g3 w_36 k_88
      refine WL_op <| Op_bz 4 (.agg [I x_4.1, .s x_4.2.1, sl B0 x_4.2.2.1.length c15, sl B2 x_4.2.2.2.length c16]) [I x_4.1, .s x_4.2.1, sl B0 x_4.2.2.1.length c15, sl B2 x_4.2.2.2.length c16] (Pt.at g3 0) k_88 rfl .all ?_
      intro w_37 k_89
      refine Wn <| W_seq <| W_reg <| Wl 2 (.n 61 (sl B0 x_4.2.2.1.length c15) (.k (.s .a))) (qs g3 0 <| qB k_89 4 rfl 2 (sl B0 x_4.2.2.1.length c15) (by kernel_rfl) <| qe) ?_
      refine WL_op ?_
      obtain ⟨r_28, h_r_28, hm⟩ := ob hm
      refine Op_cz 62 mr_go6 (c_l06_wide (F := N0) (O := N0) _ _ _ _ (Ro.n0 (hro0.cx k_89)) rfl hle0 (Cx.refl _) _ h_r_28) ?_
      rintro e_ w_38 ⟨A13, _, c17, rfl, rfl, k_90⟩
      have k_91 := k_89.call k_90
      refine ⟨sl A13 r_28.length c17, rfl, ?_⟩
      refine We 1 (.n 13 (sl A13 r_28.length c17) (.ss .a)) ?_
      refine Wn <| W_seq ?_
      obtain ⟨b1, h_b1, hm⟩ := ob hm
      have hs0 := slc_some h_b1
      have hl0 := slc_len h_b1
      have hn0 : r_28.length = r_28.length := (k_91.len 5 rfl)
      have hc19 : r_28.length ≤ c17 := (k_91.lec 5 rfl)
      have hc20 : b1.length ≤ c17 := by omega
      refine Wa (.n 14 (sl A13 b1.length c17) .a) (qs g3 0 <| qB k_91 4 rfl 2 (sl B0 x_4.2.2.1.length c15) (by kernel_rfl) <| qp (0 ≤ (x_4.2.2.1.length : Int) ∧ (x_4.2.2.1.length : Int) ≤ (c17 : Int)) (by omega) <| qo (.v (.slice A13 b1.length c17)) <| qp (Value.slice (slA A13 0 c17 1) (Int.toNat (x_4.2.2.1.length : Int) - 0) (c17 - 0) = .slice A13 b1.length c17) (slx0 _ _ _ _ _ (by omega)) <| qe) ?_
      refine W_cut (fun L wr => ∃ (r_29 : Int) (r_30 : Int) (ks2 : List (List UInt8)) (xs2 : List (List UInt8)) (s_19 : Bool) (s_20 : Int) (s_21 : Int) (s_22 : List (List UInt8 × List UInt8)) (hd3 : List Hd) (A14 : Option Addr) (n10 : Nat) (c18 : Nat) (ys8 : List (List UInt8 × Hd)), m_l06_MacRings_j3 i0 x_4 r_28 b1 r_29 r_30 ks2 xs2 s_19 s_20 s_21 s_22 = some y0 ∧ L = [(2, sl A_script script.length c_script), (7, pt g0 0), (9, pt g2 0), (11, I i0), (12, pt g3 0), (13, sl A13 r_28.length c17), (14, sl A13 b1.length c17)] ∧ s_22.length = n10 ∧ Cx F O w wr [Bx 58 g0 [I r_29, I r_30, .v (.map (some b0))], MR e8 b0 ks2 hd3 xs2, Bx 30 g2 [.b s_19, I s_20, I s_21, sl A14 n10 c18], OG (eP eS eH) (SP SQ (SH e8)) A14 n10 c18 ys8 s_22, Bx 35 g3 [I x_4.1, .s x_4.2.1, sl B0 x_4.2.2.1.length c15, sl B2 x_4.2.2.2.length c16], Ow e8 A13 r_28.length c17 r_28]) ?_ ?_
      ·
       refine W_seq <| Wa (.n 69 (I x_4.1) .a) (qs g3 0 <| qB k_91 4 rfl 0 (I x_4.1) (by kernel_rfl) <| qe) ?_
       refine W_block <| Wz (.n 102 (.b (decide (x_4.1 = 0))) .a) ?_
       refine W_pz (x_4.1 = 0) (fun hc21 => ?_) fun hc21 => ?_
       · rw [if_pos hc21] at hm
         refine W_seq <| W_reg <| Wl 4 (.n 104 (pt g0 0) (.n 106 (.s x_4.2.1) (.n 107 (sl A13 b1.length c17) (.ss .a)))) (qs g3 0 <| qB k_91 4 rfl 1 (.s x_4.2.1) (by kernel_rfl) <| qe) ?_
         refine WL_op ?_
         obtain ⟨r_31, h_r_31, hm⟩ := ob hm
         obtain ⟨F10, O10, kin0, hO0, hre0, hF0, hb0⟩ := k_91.go (.i (.i (.r (.r (.r (.r .e))))))
         refine Op_cz 108 mr_go7 (c_mac_Ring_Add_m (F := F10) (O := O10) _ _ _ _ _ _ _ _ _ _ _ _ (Ro.pre (Ro.of_rest hre0 3 rfl) h_b1 rfl) rfl hc20 kin0 _ h_r_31) ?_
         rintro e_ w_39 ⟨hd4, rfl, k_92⟩
         have k_93 := hb0 w_39 _ _ k_92 (.c (.c .n))
         refine ⟨I r_31.1, rfl, ?_⟩
         refine We 1 (.n 8 (I r_31.1) (.ssss .a)) ?_
         refine Wn <| W_seq <| W_reg <| Wl 5 (.n 110 (.agg [.b s_0, I s_12, I s_13, sl A11 s_14.length c13]) (.n 112 (.s x_4.2.1) (.n 114 (sl B0 x_4.2.2.1.length c15) .a))) (qT k_93 2 rfl 0 4 [.b s_0, I s_12, I s_13, sl A11 s_14.length c13] (by kernel_rfl) (by decide) <| qs g3 0 <| qB k_93 4 rfl 1 (.s x_4.2.1) (by kernel_rfl) <| qs g3 0 <| qB k_93 4 rfl 2 (sl B0 x_4.2.2.1.length c15) (by kernel_rfl) <| qe) ?_
         refine WL_op ?_
         have k_94 := k_93.sel (.kkkk (.kk .e))
         obtain ⟨r_32, h_r_32, hm⟩ := ob hm
         obtain ⟨F14, O14, kin4, hO4, hre4, hF4, hb4⟩ := k_94.go (.r (.r (.r (.r (.r (.r .e))))))
         refine Op_cz 115 mr_go8 (c_r06_Add (F := F14) (O := O14) _ _ _ _ _ _ _ _ _ _ _ _ _ (RoH.of_rest hre4 3 rfl) (k_94.oglen 3 rfl) (k_94.oglec 3 rfl) (Ro.of_old hro0 k_94 hF4) rfl hle0 kin4 _ h_r_32) ?_
         rcases r_32 with r_33 | r_34
         · simp only [Sum.elim_inl, Sum.elim_inr] at hm
           rintro e_ w_40 ⟨rfl, k_95⟩
           have k_96 := hb4 w_40 _ _ k_95 .n
           refine ⟨.tup [.agg [.b r_33.1, I r_33.2.1, I r_33.2.2.1, sl A11 s_14.length c13], I r_33.2.2.2], rfl, ?_⟩
           refine We 3 (.n 116 (.agg [.b r_33.1, I r_33.2.1, I r_33.2.2.1, sl A11 s_14.length c13]) (.n 117 (I r_33.2.2.2) (.ssss .a))) ?_
           refine WL_op <| Op_bz 2 (.agg [.b r_33.1, I r_33.2.1, I r_33.2.2.1, sl A11 s_14.length c13]) [.b r_33.1, I r_33.2.1, I r_33.2.2.1, sl A11 s_14.length c13] (Pt.at g2 0) k_96 rfl .all ?_
           intro w_41 k_97
           refine We 1 (.n 10 (I r_33.2.2.2) (.ss .a)) ?_
           refine Wn <| Wz (.n 120 (.b (decide (r_31.1 ≠ r_33.2.2.2))) (.ss .a)) ?_
           refine W_pz (r_31.1 ≠ r_33.2.2.2) (fun hc22 => ?_) fun hc22 => ?_
           · rw [if_pos hc22] at hm
             refine Wz (.n 6 (.b false) .z) ?_
             refine W_ret (At_ir (At_tr (At_ir (At_tr (At_tr (At_ir (At_tr ?_)))))))
             have hm := exit_of hm hr0
             obtain rfl := si hm
             refine At_rz [.b false] qe ?_
             have k_98 := k_97.sel .z
             exact ⟨rfl, k_98⟩
           rw [if_neg hc22] at hm
           refine W_skip <| At_in ?_
           exact At_cz ⟨r_31.2.1, r_31.2.2.1, r_31.2.2.2.1, r_31.2.2.2.2, r_33.1, r_33.2.1, r_33.2.2.1, s_14, hd4, A11, s_14.length, c13, ys6, hm, rfl, k_97.oglen 3 rfl, k_97⟩
         · simp only [Sum.elim_inl, Sum.elim_inr] at hm
           rintro e_ w_42 ⟨A15, _, c19, ys9, rfl, rfl, k_99⟩
           have k_100 := hb4 w_42 _ _ k_99 (.c .n)
           refine ⟨.tup [.agg [.b r_34.1, I r_34.2.1, I r_34.2.2.1, sl A15 r_34.2.2.2.length c19], I 0], rfl, ?_⟩
           refine We 3 (.n 116 (.agg [.b r_34.1, I r_34.2.1, I r_34.2.2.1, sl A15 r_34.2.2.2.length c19]) (.n 117 (I 0) (.ssss .a))) ?_
           refine WL_op <| Op_bz 3 (.agg [.b r_34.1, I r_34.2.1, I r_34.2.2.1, sl A15 r_34.2.2.2.length c19]) [.b r_34.1, I r_34.2.1, I r_34.2.2.1, sl A15 r_34.2.2.2.length c19] (Pt.at g2 0) k_100 rfl .all ?_
           intro w_43 k_101
           have k_102 := k_101.sel (.kkkk (.s (.kk .e)))
           refine We 1 (.n 10 (I 0) (.ss .a)) ?_
           refine Wn <| Wz (.n 120 (.b (decide (r_31.1 ≠ 0))) (.ss .a)) ?_
           refine W_pz (r_31.1 ≠ 0) (fun hc23 => ?_) fun hc23 => ?_
           · rw [if_pos hc23] at hm
             refine Wz (.n 6 (.b false) .z) ?_
             refine W_ret (At_ir (At_tr (At_ir (At_tr (At_tr (At_ir (At_tr ?_)))))))
             have hm := exit_of hm hr0
             obtain rfl := si hm
             refine At_rz [.b false] qe ?_
             have k_103 := k_102.sel .z
             exact ⟨rfl, k_103⟩
           rw [if_neg hc23] at hm
           refine W_skip <| At_in ?_
           have k_104 := (((((k_102.pk (.t (.t (.t (.t (.t .h)))))).pk (.t (.t (.t (.t (.t .h)))))).pk (.t (.t .h))).pk (.t (.t (.t (.t (.t .h)))))).pk (.t (.t (.t (.t (.t .h)))))).pk (.t (.t (.t (.t (.t .h)))))
           exact At_cz ⟨r_31.2.1, r_31.2.2.1, r_31.2.2.2.1, r_31.2.2.2.2, r_34.1, r_34.2.1, r_34.2.2.1, r_34.2.2.2, hd4, A15, r_34.2.2.2.length, c19, ys9, hm, rfl, k_104.oglen 3 rfl, k_104⟩
       rw [if_neg hc21] at hm
       refine Wz (.n 121 (.b (decide (x_4.1 = 1))) (.s .a)) ?_
       refine W_pz (x_4.1 = 1) (fun hc24 => ?_) fun hc24 => ?_
       · rw [if_pos hc24] at hm
         refine W_seq <| W_reg <| Wl 3 (.n 123 (pt g0 0) (.n 125 (.s x_4.2.1) (.ss .a))) (qs g3 0 <| qB k_91 4 rfl 1 (.s x_4.2.1) (by kernel_rfl) <| qe) ?_
         refine WL_op ?_
         obtain ⟨r_35, h_r_35, hm⟩ := ob hm
         obtain ⟨F15, O15, kin5, hO5, hre5, hF5, hb5⟩ := k_91.go (.i (.i (.r (.r (.r (.r .e))))))
         refine Op_cz 126 mr_go9 (c_mac_Ring_Drop_m (F := F15) (O := O15) _ _ _ _ _ _ _ _ kin5 _ h_r_35) ?_
         rintro e_ w_44 ⟨hd5, rfl, k_105⟩
         have k_106 := hb5 w_44 _ _ k_105 (.c (.c .n))
         refine ⟨I r_35.1, rfl, ?_⟩
         refine We 1 (.n 8 (I r_35.1) (.sss .a)) ?_
         refine Wn <| W_seq <| W_reg <| Wl 3 (.n 128 (.agg [.b s_0, I s_12, I s_13, sl A11 s_14.length c13]) (.n 130 (.s x_4.2.1) .a)) (qT k_106 2 rfl 0 4 [.b s_0, I s_12, I s_13, sl A11 s_14.length c13] (by kernel_rfl) (by decide) <| qs g3 0 <| qB k_106 4 rfl 1 (.s x_4.2.1) (by kernel_rfl) <| qe) ?_
         refine WL_op ?_
         have k_107 := k_106.sel (.kkkk (.kk .e))
         obtain ⟨r_36, h_r_36, hm⟩ := ob hm
         obtain ⟨F16, O16, kin6, hO6, hre6, hF6, hb6⟩ := k_107.go (.r (.r (.r (.r (.r (.r .e))))))
         refine Op_cz 131 mr_go10 (c_r06_Drop (F := F16) (O := O16) _ _ _ _ _ _ _ _ _ (RoH.of_rest hre6 3 rfl) (k_107.oglen 3 rfl) (k_107.oglec 3 rfl) kin6 _ h_r_36) ?_
         rcases r_36 with r_37 | r_38
         · simp only [Sum.elim_inl, Sum.elim_inr] at hm
           rintro e_ w_45 ⟨rfl, k_108⟩
           have k_109 := hb6 w_45 _ _ k_108 .n
           refine ⟨.tup [.agg [.b r_37.1, I r_37.2.1, I r_37.2.2.1, sl A11 s_14.length c13], I r_37.2.2.2], rfl, ?_⟩
           refine We 3 (.n 132 (.agg [.b r_37.1, I r_37.2.1, I r_37.2.2.1, sl A11 s_14.length c13]) (.n 133 (I r_37.2.2.2) (.sss .a))) ?_
           refine WL_op <| Op_bz 2 (.agg [.b r_37.1, I r_37.2.1, I r_37.2.2.1, sl A11 s_14.length c13]) [.b r_37.1, I r_37.2.1, I r_37.2.2.1, sl A11 s_14.length c13] (Pt.at g2 0) k_109 rfl .all ?_
           intro w_46 k_110
           refine We 1 (.n 10 (I r_37.2.2.2) (.ss .a)) ?_
           refine Wn <| Wz (.n 136 (.b (decide (r_35.1 ≠ r_37.2.2.2))) (.ss .a)) ?_
           refine W_pz (r_35.1 ≠ r_37.2.2.2) (fun hc25 => ?_) fun hc25 => ?_
           · rw [if_pos hc25] at hm
             refine Wz (.n 6 (.b false) .z) ?_
             refine W_ret (At_ir (At_tr (At_ir (At_tr (At_tr (At_ir (At_tr ?_)))))))
             have hm := exit_of hm hr0
             obtain rfl := si hm
             refine At_rz [.b false] qe ?_
             have k_111 := k_110.sel .z
             exact ⟨rfl, k_111⟩
           rw [if_neg hc25] at hm
           refine W_skip <| At_in ?_
           exact At_cz ⟨r_35.2.1, r_35.2.2.1, r_35.2.2.2.1, r_35.2.2.2.2, r_37.1, r_37.2.1, r_37.2.2.1, s_14, hd5, A11, s_14.length, c13, ys6, hm, rfl, k_110.oglen 3 rfl, k_110⟩
         · simp only [Sum.elim_inl, Sum.elim_inr] at hm
           rintro e_ w_47 ⟨A16, _, c20, ys10, rfl, rfl, k_112⟩
           have k_113 := hb6 w_47 _ _ k_112 (.c .n)
           refine ⟨.tup [.agg [.b r_38.1, I r_38.2.1, I r_38.2.2.1, sl A16 r_38.2.2.2.length c20], I 0], rfl, ?_⟩
           refine We 3 (.n 132 (.agg [.b r_38.1, I r_38.2.1, I r_38.2.2.1, sl A16 r_38.2.2.2.length c20]) (.n 133 (I 0) (.sss .a))) ?_
           refine WL_op <| Op_bz 3 (.agg [.b r_38.1, I r_38.2.1, I r_38.2.2.1, sl A16 r_38.2.2.2.length c20]) [.b r_38.1, I r_38.2.1, I r_38.2.2.1, sl A16 r_38.2.2.2.length c20] (Pt.at g2 0) k_113 rfl .all ?_
           intro w_48 k_114
           have k_115 := k_114.sel (.kkkk (.s (.kk .e)))
           refine We 1 (.n 10 (I 0) (.ss .a)) ?_
           refine Wn <| Wz (.n 136 (.b (decide (r_35.1 ≠ 0))) (.ss .a)) ?_
           refine W_pz (r_35.1 ≠ 0) (fun hc26 => ?_) fun hc26 => ?_
           · rw [if_pos hc26] at hm
             refine Wz (.n 6 (.b false) .z) ?_
             refine W_ret (At_ir (At_tr (At_ir (At_tr (At_tr (At_ir (At_tr ?_)))))))
             have hm := exit_of hm hr0
             obtain rfl := si hm
             refine At_rz [.b false] qe ?_
             have k_116 := k_115.sel .z
             exact ⟨rfl, k_116⟩
           rw [if_neg hc26] at hm
           refine W_skip <| At_in ?_
           have k_117 := (((((k_115.pk (.t (.t (.t (.t (.t .h)))))).pk (.t (.t (.t (.t (.t .h)))))).pk (.t (.t .h))).pk (.t (.t (.t (.t (.t .h)))))).pk (.t (.t (.t (.t (.t .h)))))).pk (.t (.t (.t (.t (.t .h)))))
           exact At_cz ⟨r_35.2.1, r_35.2.2.1, r_35.2.2.2.1, r_35.2.2.2.2, r_38.1, r_38.2.1, r_38.2.2.1, r_38.2.2.2, hd5, A16, r_38.2.2.2.length, c20, ys10, hm, rfl, k_117.oglen 3 rfl, k_117⟩
       rw [if_neg hc24] at hm
       refine Wz (.n 137 (.b (decide (x_4.1 = 2))) (.s .a)) ?_
       refine W_pz (x_4.1 = 2) (fun hc27 => ?_) fun hc27 => ?_
       · rw [if_pos hc27] at hm
         refine W_seq <| W_reg <| We 1 (.n 139 (pt g0 0) (.ss .a)) ?_
         refine WL_op ?_
         obtain ⟨r_39, h_r_39, hm⟩ := ob hm
         obtain ⟨F17, O17, kin7, hO7, hre7, hF7, hb7⟩ := k_91.go (.i (.i (.r (.r (.r (.r .e))))))
         refine Op_cz 140 mr_go11 (c_mac_Ring_Names_m (F := F17) (O := O17) _ _ _ _ _ _ _ kin7 _ h_r_39) ?_
         rintro e_ w_49 ⟨A17, _, c21, hd6, rfl, rfl, k_118⟩
         have k_119 := hb7 w_49 _ _ k_118 (.c (.c (.c .n)))
         refine ⟨sl A17 r_39.1.length c21, rfl, ?_⟩
         refine We 1 (.n 15 (sl A17 r_39.1.length c21) (.ss .a)) ?_
         refine Wn <| W_seq <| W_reg <| Wl 1 (.n 141 (.agg [.b s_0, I s_12, I s_13, sl A11 s_14.length c13]) .a) (qT k_119 3 rfl 0 4 [.b s_0, I s_12, I s_13, sl A11 s_14.length c13] (by kernel_rfl) (by decide) <| qe) ?_
         refine WL_op ?_
         have k_120 := k_119.sel (.kkkk (.kk (.k .e)))
         obtain ⟨r_40, h_r_40, hm⟩ := ob hm
         refine Op_cz 142 mr_go12 (c_r06_Names (F := N0) (O := N0) _ _ _ _ _ _ _ _ (RoG.of_cx k_120 4 rfl (fun R_ y_ x_ hR_ q_ => ⟨(And.left q_), (SH.rh (And.right q_) hR_)⟩)) (k_120.oglen 4 rfl) (k_120.oglec 4 rfl) (Cx.refl _) _ h_r_40) ?_
         rintro e_ w_50 ⟨A18, _, c22, rfl, rfl, k_121⟩
         have k_122 := k_120.call k_121
         refine ⟨sl A18 r_40.length c22, rfl, ?_⟩
         refine We 1 (.n 16 (sl A18 r_40.length c22) (.ss .a)) ?_
         refine Wn <| W_seq <| Wz (.n 147 (.b (decide ((r_39.1.length : Int) ≠ (r_40.length : Int)))) .a) ?_
         refine W_pz ((r_39.1.length : Int) ≠ (r_40.length : Int)) (fun hc28 => ?_) fun hc28 => ?_
         · rw [if_pos hc28] at hm
           refine Wz (.n 6 (.b false) .z) ?_
           refine W_ret (At_tr (At_ir (At_tr (At_ir (At_tr (At_tr (At_ir (At_tr ?_))))))))
           have hm := exit_of hm hr0
           obtain rfl := si hm
           refine At_rz [.b false] qe ?_
           have k_123 := k_122.sel .z
           exact ⟨rfl, k_123⟩
         rw [if_neg hc28] at hm
         refine W_skip <| At_go <| Wz (.n 17 (I 0) (.s .a)) ?_
         refine W_block ?_
         have k_125 := (((((((k_122.pk (.t (.t (.t (.t (.t (.t (.t .h)))))))).pk (.t .h)).pk (.t (.t (.t (.t (.t (.t (.t .h)))))))).pk (.t (.t (.t (.t (.t (.t (.t .h)))))))).pk (.t (.t (.t (.t (.t (.t (.t .h)))))))).pk (.t (.t (.t (.t (.t (.t (.t .h)))))))).pk (.t (.t (.t (.t (.t (.t (.t .h)))))))).pk (.t (.t (.t (.t (.t (.t (.t .h)))))))
         refine W_lp (m_l06_MacRings_l3 s_0 s_12 s_13 s_14 i0 x_4 r_28 b1 r_39 r_40) (fun s L wr => ∃ (l0 : List (List UInt8)) (j0 : Int), (l0, j0) = s ∧ L = [(2, sl A_script script.length c_script), (7, pt g0 0), (9, pt g2 0), (11, I i0), (12, pt g3 0), (13, sl A13 r_28.length c17), (14, sl A13 b1.length c17), (15, sl A17 r_39.1.length c21), (16, sl A18 r_40.length c22), (17, I j0)] ∧ Cx F O w wr [Bx 58 g0 [I r_39.2.1, I r_39.2.2.1, .v (.map (some b0))], MR e8 b0 r_39.2.2.2.1 hd6 r_39.2.2.2.2, Bx 30 g2 [.b s_0, I s_12, I s_13, sl A11 s_14.length c13], OG (eP eS eH) (SP SQ (SH e8)) A11 s_14.length c13 ys6 s_14, Bx 35 g3 [I x_4.1, .s x_4.2.1, sl B0 x_4.2.2.1.length c15, sl B2 x_4.2.2.2.length c16], Ow e8 A13 r_28.length c17 r_28, Ow eS A17 r_39.1.length c21 l0, Ow eS A18 r_40.length c22 r_40]) (r_39.1, (0 : Int)) y0 hm ⟨r_39.1, (0 : Int), rfl, rfl, k_125⟩ (by kernel_rfl) ?_
         intro s1_ L_ w_51 y1 hrel hstep hr1
         obtain ⟨l0, j0, rfl, rfl, k_124⟩ := hrel
         have hm := hstep; simp only [m_l06_MacRings_l3] at hm
         clear hstep
         refine W_seq <| Wz (.n 151 (.b (decide (j0 < (r_40.length : Int)))) .a) ?_
         refine W_pz (j0 < (r_40.length : Int)) (fun hc29 => ?_) fun hc29 => ?_
         · rw [if_pos hc29] at hm
           refine W_skip <| At_go <| W_seq <| W_block <| W_seq <| W_seq ?_
           obtain ⟨x_5, zh5, hm⟩ := ob hm
           obtain ⟨x_6, zh6, hm⟩ := ob hm
           refine W_d mr_mixed (by kernel_rfl) (.n 162 (.b (decide (x_5 ≠ x_6))) (.s .a)) (fun m => qW ((k_124.drew m).rd 6 rfl) zh5 (k_124.len 6 rfl) (.s x_5) rfl <| qW ((k_124.drew m).rd 7 rfl) zh6 (k_124.len 7 rfl) (.s x_6) rfl <| qe) (by kernel_rfl) (fun m_0 => ?_)
           have k_126 := k_124.drew m_0
           refine At_go <| W_pz (x_5 ≠ x_6) (fun hc30 => ?_) fun hc30 => ?_
           · rw [if_pos hc30] at hm
             refine Wz (.n 6 (.b false) .z) ?_
             refine W_ret (At_tr (At_ir (At_tr (At_tr (At_ir (At_ir (At_tr (At_ir (At_tr (At_tr (At_ir (At_tr ?_))))))))))))
             have hm := exit_of hm hr1
             have hm := exit_of hm hr0
             obtain rfl := si hm
             refine At_rz [.b false] qe ?_
             have k_127 := k_126.sel .z
             exact ⟨rfl, k_127⟩
           rw [if_neg hc30] at hm
           refine W_skip <| At_go <| W_reg ?_
           obtain ⟨x_7, zh7, hm⟩ := ob hm
           refine Wl 3 (.n 165 (.v (.pointer (ixA A17 j0 1))) (.s .a)) (qJ (k_126.rd 6 rfl) zh7 (k_126.len 6 rfl) <| qe) ?_
           refine WL_op <| Op_ost (E := eS) (kk := 0) (sv := .s ([63] : List UInt8)) (svs := [.s ([63] : List UInt8)]) [] 6 ([63] : List UInt8) (by kernel_rfl) (Pt.ix1 A17 j0 1) k_126 rfl (geti_some zh7).2 (E_ix (E := eS) (k_126.rd 6 rfl) (by decide) (geti_lt zh7).1 (geti_some zh7).2) rfl (Nat.le_of_ble_eq_true (by kernel_rfl)) ?_
           intro w_52 k_128
           refine WL_nil <| At_in <| At_go <| W_q [] (.n 17 (I (w64 (j0 + 1))) (.s (.kkkk (.kkkk (.k .z))))) qe (by kernel_rfl) ?_
           exact At_rd (l0.set (Int.toNat j0) ([63] : List UInt8), w64 (j0 + 1)) (Option.some.inj hm).symm ⟨l0.set (Int.toNat j0) ([63] : List UInt8), w64 (j0 + 1), rfl, rfl, k_128⟩ (by kernel_rfl)
         rw [if_neg hc29] at hm
         refine W_exit (At_te (At_te (At_ie ?_)))
         have hm := exit_of hm hr1
         refine At_in ?_
         have k_129 := k_124.sel (.kkkk (.kk .z))
         exact At_cz ⟨r_39.2.1, r_39.2.2.1, r_39.2.2.2.1, r_39.2.2.2.2, s_0, s_12, s_13, s_14, hd6, A11, s_14.length, c13, ys6, hm, rfl, k_129.oglen 3 rfl, k_129⟩
       rw [if_neg hc27] at hm
       refine Wz (.n 166 (.b (decide (x_4.1 = 3))) (.ss .a)) ?_
       refine W_pz (x_4.1 = 3) (fun hc31 => ?_) fun hc31 => ?_
       · rw [if_pos hc31] at hm
         refine W_seq <| W_reg <| Wl 5 (.n 169 (pt g0 0) (.n 171 (.s x_4.2.1) (.n 173 (sl B2 x_4.2.2.2.length c16) (.s .a)))) (qs g3 0 <| qB k_91 4 rfl 1 (.s x_4.2.1) (by kernel_rfl) <| qs g3 0 <| qB k_91 4 rfl 3 (sl B2 x_4.2.2.2.length c16) (by kernel_rfl) <| qe) ?_
         refine WL_op ?_
         obtain ⟨r_41, h_r_41, hm⟩ := ob hm
         obtain ⟨F18, O18, kin8, hO8, hre8, hF8, hb8⟩ := k_91.go (.i (.i (.r (.r (.r (.r .e))))))
         refine Op_cz 174 mr_go13 (c_mac_Ring_Tag_m (F := F18) (O := O18) _ _ _ _ _ _ _ _ _ _ _ _ (Ro.of_old hro2 k_91 hF8) rfl hle2 kin8 _ h_r_41) ?_
         rintro e_ w_53 ⟨A19, _, c23, hd7, rfl, rfl, k_130⟩
         have k_131 := hb8 w_53 _ _ k_130 (.c (.c (.c .n)))
         refine ⟨.tup [sl A19 r_41.1.length c23, I r_41.2.1], rfl, ?_⟩
         refine We 5 (.n 18 (sl A19 r_41.1.length c23) (.n 19 (I r_41.2.1) (.ssss .a))) ?_
         refine Wn <| W_seq <| W_reg <| Wl 5 (.n 178 (.agg [.b s_0, I s_12, I s_13, sl A11 s_14.length c13]) (.n 180 (.s x_4.2.1) (.n 182 (sl B2 x_4.2.2.2.length c16) .a))) (qT k_131 3 rfl 0 4 [.b s_0, I s_12, I s_13, sl A11 s_14.length c13] (by kernel_rfl) (by decide) <| qs g3 0 <| qB k_131 5 rfl 1 (.s x_4.2.1) (by kernel_rfl) <| qs g3 0 <| qB k_131 5 rfl 3 (sl B2 x_4.2.2.2.length c16) (by kernel_rfl) <| qe) ?_
         refine WL_op ?_
         have k_132 := k_131.sel (.kkkk (.kk (.k .e)))
         obtain ⟨r_42, h_r_42, hm⟩ := ob hm
         refine Op_cz 183 mr_go14 (c_r06_Tag (F := N0) (O := N0) _ _ _ _ _ _ _ _ _ _ _ _ _ (RoG.of_cx k_132 4 rfl (fun R_ y_ x_ hR_ q_ => ⟨(And.left q_), (SH.rh (And.right q_) hR_)⟩)) (k_132.oglen 4 rfl) (k_132.oglec 4 rfl) (Ro.n0 (hro2.cx k_132)) rfl hle2 (Cx.refl _) _ h_r_42) ?_
         rintro e_ w_54 ⟨A20, _, c24, rfl, rfl, k_133⟩
         have k_134 := k_132.call k_133
         refine ⟨.tup [sl A20 r_42.1.length c24, I r_42.2], rfl, ?_⟩
         refine We 5 (.n 20 (sl A20 r_42.1.length c24) (.n 21 (I r_42.2) (.ssss .a))) ?_
         refine Wn <| W_seq <| W_seq <| W_reg <| We 4 (.n 189 (.b (decide (r_41.2.1 ≠ r_42.2))) (.k (.s (.k (.s .a))))) ?_
         refine WL_sp 189 (decide (r_41.2.1 ≠ r_42.2)) (.s .a) (by kernel_rfl) (fun hg2 => ?_) (fun hg2 => ?_)
         · rw [if_pos (of_decide_eq_true hg2)] at hm
           refine WLs 5 [189] (.n 194 (.b true) (.ss .a)) qe (by kernel_rfl) ?_
           refine Wn <| W_cond true (by kernel_rfl) (fun _ => ?_) (fun h => by cases h)
           refine Wz (.n 6 (.b false) .z) ?_
           refine W_ret (At_tr (At_ir (At_tr (At_ir (At_tr (At_tr (At_ir (At_tr ?_))))))))
           have hm := exit_of hm hr0
           obtain rfl := si hm
           refine At_rz [.b false] qe ?_
           have k_135 := k_134.sel .z
           exact ⟨rfl, k_135⟩
         · rw [if_neg (of_decide_eq_false hg2)] at hm
           refine WLs 2 [189] (.n 190 (sl A19 r_41.1.length c23) (.n 191 (sl A20 r_42.1.length c24) (.k (.s .a)))) qe (by kernel_rfl) ?_
           refine WL_op ?_
           obtain ⟨r_43, h_r_43, hm⟩ := ob hm
           refine Op_call [189] 192 _ mr_go15 (by kernel_rfl) (c_l06_same (F := N0) (O := N0) _ _ _ _ _ _ _ _ (Ro.n0 (k_134.rd 0 rfl)) (k_134.len 0 rfl) (k_134.lec 0 rfl) (Ro.n0 (k_134.rd 7 rfl)) (k_134.len 7 rfl) (k_134.lec 7 rfl) (Cx.refl _) _ h_r_43) ?_
           rintro e_ w_55 ⟨rfl, k_136⟩
           have k_137 := k_134.call k_136
           refine ⟨.b r_43, rfl, ?_⟩
           have k_138 := k_137.sel (.kkkk (.kk (.k .z)))
           refine WLs 2 [189] (.n 194 (.b (!r_43)) (.ssss .a)) qe (by kernel_rfl) ?_
           refine Wn <| W_cz (!r_43) (fun hc32 => ?_) fun hc32 => ?_
           · rw [if_pos hc32] at hm
             refine Wz (.n 6 (.b false) .z) ?_
             refine W_ret (At_tr (At_ir (At_tr (At_ir (At_tr (At_tr (At_ir (At_tr ?_))))))))
             have hm := exit_of hm hr0
             obtain rfl := si hm
             refine At_rz [.b false] qe ?_
             have k_139 := k_138.sel .z
             exact ⟨rfl, k_139⟩
           rw [if_neg (by rw [hc32]; decide)] at hm
           refine W_skip <| At_go <| W_reg <| We 1 (.n 195 (sl A19 r_41.1.length c23) (.ss .a)) ?_
           refine WL_op ?_
           obtain ⟨r_44, h_r_44, hm⟩ := ob hm
           obtain ⟨F19, O19, kin9, hO9, hre9, hF9, hb9⟩ := k_138.go (.i (.r (.r (.r (.r (.r (.r .e)))))))
           refine Op_cz 196 mr_go16 (c_l06_spoil (F := F19) (O := O19) _ _ _ _ kin9 _ h_r_44) ?_
           rintro e_ w_56 ⟨rfl, k_140⟩
           have k_141 := hb9 w_56 _ _ k_140 .n
           refine ⟨.tup [], rfl, ?_⟩
           refine WL_nil <| At_in ?_
           exact At_cz ⟨r_41.2.2.1, r_41.2.2.2.1, r_41.2.2.2.2.1, r_41.2.2.2.2.2, s_0, s_12, s_13, s_14, hd7, A11, s_14.length, c13, ys6, hm, rfl, k_141.oglen 3 rfl, k_141⟩
       rw [if_neg hc31] at hm
       refine W_seq <| W_reg <| Wl 4 (.n 71 (pt g0 0) (.n 72 (sl A13 b1.length c17) (.n 74 (sl B2 x_4.2.2.2.length c16) (.s .a)))) (qs g3 0 <| qB k_91 4 rfl 3 (sl B2 x_4.2.2.2.length c16) (by kernel_rfl) <| qe) ?_
       refine WL_op ?_
       obtain ⟨r_45, h_r_45, hm⟩ := ob hm
       obtain ⟨F110, O110, kin10, hO10, hre10, hF10, hb10⟩ := k_91.go (.i (.i (.r (.r (.r (.r .e))))))
       refine Op_cz 75 mr_go17 (c_mac_Ring_Who_m (F := F110) (O := O110) _ _ _ _ _ _ _ _ _ _ _ _ _ _ _ (Ro.pre (Ro.of_rest hre10 3 rfl) h_b1 rfl) rfl hc20 (Ro.of_old hro2 k_91 hF10) rfl hle2 kin10 _ h_r_45) ?_
       rintro e_ w_57 ⟨hd8, rfl, k_142⟩
       have k_143 := hb10 w_57 _ _ k_142 (.c (.c .n))
       refine ⟨.tup [.s r_45.1, .b r_45.2.1, I r_45.2.2.1], rfl, ?_⟩
       refine We 7 (.n 22 (.s r_45.1) (.n 23 (.b r_45.2.1) (.n 24 (I r_45.2.2.1) (.ssss .a)))) ?_
       refine Wn <| W_seq <| W_reg <| Wl 5 (.n 80 (.agg [.b s_0, I s_12, I s_13, sl A11 s_14.length c13]) (.n 82 (sl B0 x_4.2.2.1.length c15) (.n 84 (sl B2 x_4.2.2.2.length c16) .a))) (qT k_143 2 rfl 0 4 [.b s_0, I s_12, I s_13, sl A11 s_14.length c13] (by kernel_rfl) (by decide) <| qs g3 0 <| qB k_143 4 rfl 2 (sl B0 x_4.2.2.1.length c15) (by kernel_rfl) <| qs g3 0 <| qB k_143 4 rfl 3 (sl B2 x_4.2.2.2.length c16) (by kernel_rfl) <| qe) ?_
       refine WL_op ?_
       have k_144 := k_143.sel (.kkkk (.kk .e))
       obtain ⟨r_46, h_r_46, hm⟩ := ob hm
       refine Op_cz 85 mr_go18 (c_r06_Who (F := N0) (O := N0) _ _ _ _ _ _ _ _ _ _ _ _ _ _ _ _ (RoG.of_cx k_144 3 rfl (fun R_ y_ x_ hR_ q_ => ⟨(And.left q_), (SH.rh (And.right q_) hR_)⟩)) (k_144.oglen 3 rfl) (k_144.oglec 3 rfl) (Ro.n0 (hro0.cx k_144)) rfl hle0 (Ro.n0 (hro2.cx k_144)) rfl hle2 (Cx.refl _) _ h_r_46) ?_
       rintro e_ w_58 ⟨rfl, k_145⟩
       have k_146 := k_144.call k_145
       refine ⟨.tup [.s r_46.1, .b r_46.2.1, I r_46.2.2], rfl, ?_⟩
       refine We 7 (.n 25 (.s r_46.1) (.n 26 (.b r_46.2.1) (.n 27 (I r_46.2.2) (.ssss .a)))) ?_
       refine Wn <| Wz (.n 101 (.b (((decide (r_45.2.2.1 ≠ r_46.2.2)) || (decide (r_45.1 ≠ r_46.1))) || (decide (r_45.2.1 ≠ r_46.2.1)))) (.ssss (.ss .a))) ?_
       refine W_cz (((decide (r_45.2.2.1 ≠ r_46.2.2)) || (decide (r_45.1 ≠ r_46.1))) || (decide (r_45.2.1 ≠ r_46.2.1))) (fun hc33 => ?_) fun hc33 => ?_
       · rw [if_pos hc33] at hm
         refine Wz (.n 6 (.b false) .z) ?_
         refine W_ret (At_ir (At_tr (At_ir (At_tr (At_tr (At_ir (At_tr ?_)))))))
         have hm := exit_of hm hr0
         obtain rfl := si hm
         refine At_rz [.b false] qe ?_
         have k_147 := k_146.sel .z
         exact ⟨rfl, k_147⟩
       rw [if_neg (by rw [hc33]; decide)] at hm
       refine W_skip <| At_in ?_
       exact At_cz ⟨r_45.2.2.2.1, r_45.2.2.2.2.1, r_45.2.2.2.2.2.1, r_45.2.2.2.2.2.2, s_0, s_12, s_13, s_14, hd8, A11, s_14.length, c13, ys6, hm, rfl, k_146.oglen 3 rfl, k_146⟩
      rintro L_ w_59 ⟨r_29, r_30, ks2, xs2, s_19, s_20, s_21, s_22, hd3, A14, _, c18, ys8, hm, rfl, rfl, k_148⟩
      simp only [m_l06_MacRings_j3] at hm
      refine W_seq <| W_seq <| W_reg <| Wl 3 (.n 197 (sl A13 r_28.length c17) (.n 199 (sl B0 x_4.2.2.1.length c15) (.kkkk (.ss .a)))) (qs g3 0 <| qB k_148 4 rfl 2 (sl B0 x_4.2.2.1.length c15) (by kernel_rfl) <| qe) ?_
      refine WL_op ?_
      obtain ⟨r_47, h_r_47, hm⟩ := ob hm
      refine Op_cz 200 mr_go19 (c_l06_kept (F := N0) (O := N0) _ _ _ _ _ _ _ _ (Ro.n0 (k_148.rd 5 rfl)) (k_148.len 5 rfl) (k_148.lec 5 rfl) (Ro.n0 (hro0.cx k_148)) rfl hle0 (Cx.refl _) _ h_r_47) ?_
      rintro e_ w_60 ⟨rfl, k_149⟩
      have k_150 := k_148.call k_149
      refine ⟨.b r_47, rfl, ?_⟩
      have k_151 := k_150.sel (.kkkk (.s (.k .e)))
      refine We 1 (.n 201 (.b (!r_47)) (.sss .a)) ?_
      refine Wn <| W_cz (!r_47) (fun hc34 => ?_) fun hc34 => ?_
      · rw [if_pos hc34] at hm
        refine Wz (.n 6 (.b false) .z) ?_
        refine W_ret (At_tr (At_ir (At_tr (At_tr (At_ir (At_tr ?_))))))
        have hm := exit_of hm hr0
        obtain rfl := si hm
        refine At_rz [.b false] qe ?_
        have k_152 := k_151.sel .z
        exact ⟨rfl, k_152⟩
      rw [if_neg (by rw [hc34]; decide)] at hm
      refine W_skip <| At_go <| W_reg <| We 1 (.n 202 (sl A13 b1.length c17) (.s (.kkkk .z))) ?_
      refine WL_op ?_
      have k_153 := k_151.pre 4 rfl b1.length c17 b1 (by omega) (by omega) (by omega) (slc_pre h_b1 rfl)
      obtain ⟨r_48, h_r_48, hm⟩ := ob hm
      obtain ⟨F111, O111, kin11, hO11, hre11, hF11, hb11⟩ := k_153.go (.r (.r (.r (.r (.i .e)))))
      refine Op_cz 203 mr_go16 (c_l06_spoil (F := F111) (O := O111) _ _ _ _ kin11 _ h_r_48) ?_
      rintro e_ w_61 ⟨rfl, k_154⟩
      have k_155 := hb11 w_61 _ _ k_154 .n
      refine ⟨.tup [], rfl, ?_⟩
      refine WL_nil <| At_in ?_
      exact At_cz ⟨r_29, r_30, ks2, xs2, s_19, s_20, s_21, s_22, hd3, A14, s_22.length, c18, ys8, hm, rfl, k_155.oglen 3 rfl, k_155⟩
     rintro L_ w_62 ⟨r_26, r_27, ks1, xs1, s_15, s_16, s_17, s_18, hd2, A12, _, c14, ys7, hm, rfl, rfl, k_156⟩
     simp only [m_l06_MacRings_j2] at hm
     refine W_q [] (.n 11 (I (w64 (i0 + 1))) (.kkk .z)) qe (by kernel_rfl) ?_
     exact At_rd (r_26, r_27, ks1, xs1, s_15, s_16, s_17, s_18, w64 (i0 + 1)) (Option.some.inj hm).symm ⟨r_26, r_27, ks1, xs1, s_15, s_16, s_17, s_18, w64 (i0 + 1), hd2, A12, s_18.length, c14, ys7, rfl, rfl, k_156.oglen 3 rfl, k_156⟩ (by kernel_rfl)
   rw [if_neg hc18] at hm
   refine W_exit (At_te (At_te (At_ie ?_)))
   have hm := exit_of hm hr0
   refine At_go <| Wz (.n 6 (.b true) .z) ?_
   refine W_ret ?_
   obtain rfl := si hm
   refine At_rz [.b true] qe ?_
   have k_157 := k_86.sel .z
   exact ⟨rfl, k_157⟩
end Go.Sx

