import Derived.Test.YteioojhohpnlkaaGreatW2
namespace Go.Sx
open Go.RowKit Go.Proofs
set_option linter.unusedVariables false
set_option linter.unusedSimpArgs false
set_option maxRecDepth 20000

-- (*quern/depot.Depot).Get
theorem c_depot_Depot_Get_s1 {F O : Nat → Prop} {w : World} (d_size : Int) (snap : List UInt8) (name : List UInt8) (g_d : Nat) (k : Cx F O w w [Bx 55 g_d [I d_size, .v (.map none), .v (.map none)]]) (r : (List UInt8 × Int)) (hm : m_depot_Depot_Get_s1 d_size snap name = some r) :
    Calls Tryz.prog 19 (vals [pt g_d 0, .s snap, .s name]) w (fun e w' => ∃ A n c, r.1.length = n ∧ e = .returned (SV.val (.tup [sl A n c, I 7])) ∧ Cx F O w w' [Ow e8 A n c r.1, Bx 55 g_d [I r.2, .v (.map none), .v (.map none)]]) := by
 unfold m_depot_Depot_Get_s1 at hm
 refine calls [pt g_d 0, .s snap, .s name] Tryz.func19 rfl (of_decide_eq_true (by kernel_rfl)) ?_
 refine W_seq <| W_q [] .a qe (by kernel_rfl) ?_
 refine At_go <| W_seq <| W_seq <| W_reg <| WLs 1 [] (.n 16 (pt g_d 0) .a) qe (by kernel_rfl) ?_
 refine WL_op ?_
 obtain ⟨r_, h_r_, hm⟩ := ob hm
 obtain ⟨F1, O1, kin, hO, hre, hF, hb⟩ := k.go (.i .e)
 refine Op_call [] 17 _ yz_go49 (by kernel_rfl) (c_depot_Depot_none_s1 (F := F1) (O := O1) _ _ kin _ h_r_) ?_
 rintro e_ w_ ⟨rfl, k_⟩
 have k_1 := hb w_ _ _ k_ (.c .n)
 refine ⟨.b true, rfl, ?_⟩
 refine WL_nil <| At_go <| W_cond true (by kernel_rfl) (fun _ => ?_) (fun h => by cases h)
 refine W_seq <| W_q [] (.n 6 (sl none 0 0) (.n 7 (I 7) .z)) qe (by kernel_rfl) ?_
 refine At_go <| W_ret (At_tr ?_)
 have k_2 := k_1.nil e8
 obtain rfl := Option.some.inj hm
 refine At_rt [sl none 0 0, I 7] qe (by kernel_rfl) ?_
 have k_3 := (k_2.pk .h).pk (.t .h)
 exact ⟨none, 0, 0, k_3.len 0 rfl, rfl, k_3⟩

-- (*quern/depot.Depot).List
theorem c_depot_Depot_List_s1 {F O : Nat → Prop} {w : World} (d_size : Int) (snap : List UInt8) (g_d : Nat) (k : Cx F O w w [Bx 55 g_d [I d_size, .v (.map none), .v (.map none)]]) (r : Int) (hm : m_depot_Depot_List_s1 d_size snap = some r) :
    Calls Tryz.prog 20 (vals [pt g_d 0, .s snap]) w (fun e w' => e = .returned (SV.val (.tup [sl none 0 0, I 7])) ∧ Cx F O w w' [Bx 55 g_d [I r, .v (.map none), .v (.map none)]]) := by
 unfold m_depot_Depot_List_s1 at hm
 refine calls [pt g_d 0, .s snap] Tryz.func20 rfl (of_decide_eq_true (by kernel_rfl)) ?_
 refine W_seq <| W_q [] .a qe (by kernel_rfl) ?_
 refine At_go <| W_seq <| W_seq <| W_reg <| WLs 1 [] (.n 14 (pt g_d 0) .a) qe (by kernel_rfl) ?_
 refine WL_op ?_
 obtain ⟨r_, h_r_, hm⟩ := ob hm
 obtain ⟨F1, O1, kin, hO, hre, hF, hb⟩ := k.go (.i .e)
 refine Op_call [] 15 _ yz_go49 (by kernel_rfl) (c_depot_Depot_none_s1 (F := F1) (O := O1) _ _ kin _ h_r_) ?_
 rintro e_ w_ ⟨rfl, k_⟩
 have k_1 := hb w_ _ _ k_ (.c .n)
 refine ⟨.b true, rfl, ?_⟩
 refine WL_nil <| At_go <| W_cond true (by kernel_rfl) (fun _ => ?_) (fun h => by cases h)
 refine W_seq <| W_q [] (.n 4 (sl none 0 0) (.n 5 (I 7) .z)) qe (by kernel_rfl) ?_
 refine At_go <| W_ret (At_tr ?_)
 obtain rfl := Option.some.inj hm
 refine At_rt [sl none 0 0, I 7] qe (by kernel_rfl) ?_
 exact ⟨rfl, k_1⟩

-- (*quern/depot.Depot).Turned
theorem c_depot_Depot_Turned_s1 {F O : Nat → Prop} {w : World} (d_size : Int) (from_ : List UInt8) (to : List UInt8) (g_d : Nat) (k : Cx F O w w [Bx 55 g_d [I d_size, .v (.map none), .v (.map none)]]) (r : (List (List UInt8) × Int)) (hm : m_depot_Depot_Turned_s1 d_size from_ to = some r) :
    Calls Tryz.prog 21 (vals [pt g_d 0, .s from_, .s to]) w (fun e w' => ∃ A n c, r.1.length = n ∧ e = .returned (SV.val (.tup [sl A n c, I 7])) ∧ Cx F O w w' [Ow eS A n c r.1, Bx 55 g_d [I r.2, .v (.map none), .v (.map none)]]) := by
 unfold m_depot_Depot_Turned_s1 at hm
 refine calls [pt g_d 0, .s from_, .s to] Tryz.func21 rfl (of_decide_eq_true (by kernel_rfl)) ?_
 refine W_seq <| W_q [] .a qe (by kernel_rfl) ?_
 refine At_go <| W_seq <| W_seq <| W_reg <| WLs 1 [] (.n 18 (pt g_d 0) .a) qe (by kernel_rfl) ?_
 refine WL_op ?_
 obtain ⟨r_, h_r_, hm⟩ := ob hm
 obtain ⟨F1, O1, kin, hO, hre, hF, hb⟩ := k.go (.i .e)
 refine Op_call [] 19 _ yz_go49 (by kernel_rfl) (c_depot_Depot_none_s1 (F := F1) (O := O1) _ _ kin _ h_r_) ?_
 rintro e_ w_ ⟨rfl, k_⟩
 have k_1 := hb w_ _ _ k_ (.c .n)
 refine ⟨.b true, rfl, ?_⟩
 refine WL_nil <| At_go <| W_cond true (by kernel_rfl) (fun _ => ?_) (fun h => by cases h)
 refine W_seq <| W_q [] (.n 6 (sl none 0 0) (.n 7 (I 7) .z)) qe (by kernel_rfl) ?_
 refine At_go <| W_ret (At_tr ?_)
 have k_2 := k_1.nil eS
 obtain rfl := Option.some.inj hm
 refine At_rt [sl none 0 0, I 7] qe (by kernel_rfl) ?_
 have k_3 := (k_2.pk .h).pk (.t .h)
 exact ⟨none, 0, 0, k_3.len 0 rfl, rfl, k_3⟩

-- (*quern/depot.Depot).Put
theorem c_depot_Depot_Put_s1 {F O : Nat → Prop} {w : World} (d_size : Int) (snap : List UInt8) (g_d : Nat) (k : Cx F O w w [Bx 55 g_d [I d_size, .v (.map none), .v (.map none)]]) (r : Int) (hm : m_depot_Depot_Put_s1 d_size snap = some r) :
    Calls Tryz.prog 22 (vals [pt g_d 0, .s snap, sl none 0 0]) w (fun e w' => e = .returned (SV.val (I 7)) ∧ Cx F O w w' [Bx 55 g_d [I r, .v (.map none), .v (.map none)]]) := by
 unfold m_depot_Depot_Put_s1 at hm
 refine calls [pt g_d 0, .s snap, sl none 0 0] Tryz.func22 rfl (of_decide_eq_true (by kernel_rfl)) ?_
 refine W_seq <| W_q [] .a qe (by kernel_rfl) ?_
 refine At_go <| W_seq <| W_seq <| W_reg <| WLs 1 [] (.n 28 (pt g_d 0) .a) qe (by kernel_rfl) ?_
 refine WL_op ?_
 obtain ⟨r_, h_r_, hm⟩ := ob hm
 obtain ⟨F1, O1, kin, hO, hre, hF, hb⟩ := k.go (.i .e)
 refine Op_call [] 29 _ yz_go49 (by kernel_rfl) (c_depot_Depot_none_s1 (F := F1) (O := O1) _ _ kin _ h_r_) ?_
 rintro e_ w_ ⟨rfl, k_⟩
 have k_1 := hb w_ _ _ k_ (.c .n)
 refine ⟨.b true, rfl, ?_⟩
 refine WL_nil <| At_go <| W_cond true (by kernel_rfl) (fun _ => ?_) (fun h => by cases h)
 refine W_seq <| W_q [] (.n 6 (I 7) .z) qe (by kernel_rfl) ?_
 refine At_go <| W_ret (At_tr ?_)
 obtain rfl := Option.some.inj hm
 refine At_rt [I 7] qe (by kernel_rfl) ?_
 exact ⟨rfl, k_1⟩

-- (*quern/depot.Depot).Drop
theorem c_depot_Depot_Drop_s1 {F O : Nat → Prop} {w : World} (d_size : Int) (snap : List UInt8) (g_d : Nat) (k : Cx F O w w [Bx 55 g_d [I d_size, .v (.map none), .v (.map none)]]) (r : Int) (hm : m_depot_Depot_Drop_s1 d_size snap = some r) :
    Calls Tryz.prog 23 (vals [pt g_d 0, .s snap]) w (fun e w' => e = .returned (SV.val (I 7)) ∧ Cx F O w w' [Bx 55 g_d [I r, .v (.map none), .v (.map none)]]) := by
 unfold m_depot_Depot_Drop_s1 at hm
 refine calls [pt g_d 0, .s snap] Tryz.func23 rfl (of_decide_eq_true (by kernel_rfl)) ?_
 refine W_seq <| W_q [] .a qe (by kernel_rfl) ?_
 refine At_go <| W_seq <| W_seq <| W_reg <| WLs 1 [] (.n 7 (pt g_d 0) .a) qe (by kernel_rfl) ?_
 refine WL_op ?_
 obtain ⟨r_, h_r_, hm⟩ := ob hm
 obtain ⟨F1, O1, kin, hO, hre, hF, hb⟩ := k.go (.i .e)
 refine Op_call [] 8 _ yz_go49 (by kernel_rfl) (c_depot_Depot_none_s1 (F := F1) (O := O1) _ _ kin _ h_r_) ?_
 rintro e_ w_ ⟨rfl, k_⟩
 have k_1 := hb w_ _ _ k_ (.c .n)
 refine ⟨.b true, rfl, ?_⟩
 refine WL_nil <| At_go <| W_cond true (by kernel_rfl) (fun _ => ?_) (fun h => by cases h)
 refine W_seq <| W_q [] (.n 4 (I 7) .z) qe (by kernel_rfl) ?_
 refine At_go <| W_ret (At_tr ?_)
 obtain rfl := Option.some.inj hm
 refine At_rt [I 7] qe (by kernel_rfl) ?_
 exact ⟨rfl, k_1⟩

-- (*quern/depot.Depot).Lose
theorem c_depot_Depot_Lose_s1 {F O : Nat → Prop} {w : World} (d_size : Int) (digest : List UInt8) (g_d : Nat) (A_digest : Option Addr) (n_digest : Nat) (c_digest : Nat) (h_digest : Ro F w A_digest (e8.all digest)) (hn_digest : digest.length = n_digest) (hc_digest : n_digest ≤ c_digest) (k : Cx F O w w [Bx 55 g_d [I d_size, .v (.map none), .v (.map none)]]) (r : Int) (hm : m_depot_Depot_Lose_s1 d_size digest = some r) :
    Calls Tryz.prog 24 (vals [pt g_d 0, sl A_digest n_digest c_digest]) w (fun e w' => e = .returned (SV.val (I 7)) ∧ Cx F O w w' [Bx 55 g_d [I r, .v (.map none), .v (.map none)]]) := by
 unfold m_depot_Depot_Lose_s1 at hm
 subst hn_digest
 refine calls [pt g_d 0, sl A_digest digest.length c_digest] Tryz.func24 rfl (of_decide_eq_true (by kernel_rfl)) ?_
 refine W_seq <| W_q [] .a qe (by kernel_rfl) ?_
 refine At_go <| W_seq <| W_seq <| W_reg <| WLs 1 [] (.n 7 (pt g_d 0) .a) qe (by kernel_rfl) ?_
 refine WL_op ?_
 obtain ⟨r_, h_r_, hm⟩ := ob hm
 obtain ⟨F1, O1, kin, hO, hre, hF, hb⟩ := k.go (.i .e)
 refine Op_call [] 8 _ yz_go49 (by kernel_rfl) (c_depot_Depot_none_s1 (F := F1) (O := O1) _ _ kin _ h_r_) ?_
 rintro e_ w_ ⟨rfl, k_⟩
 have k_1 := hb w_ _ _ k_ (.c .n)
 refine ⟨.b true, rfl, ?_⟩
 refine WL_nil <| At_go <| W_cond true (by kernel_rfl) (fun _ => ?_) (fun h => by cases h)
 refine W_seq <| W_q [] (.n 4 (I 7) .z) qe (by kernel_rfl) ?_
 refine At_go <| W_ret (At_tr ?_)
 obtain rfl := Option.some.inj hm
 refine At_rt [I 7] qe (by kernel_rfl) ?_
 exact ⟨rfl, k_1⟩

-- (*quern/depot.Depot).Sweep
theorem c_depot_Depot_Sweep_s1 {F O : Nat → Prop} {w : World} (d_size : Int) (g_d : Nat) (k : Cx F O w w [Bx 55 g_d [I d_size, .v (.map none), .v (.map none)]]) (r : Int) (hm : m_depot_Depot_Sweep_s1 d_size = some r) :
    Calls Tryz.prog 25 (vals [pt g_d 0]) w (fun e w' => e = .returned (SV.val (I 0)) ∧ Cx F O w w' [Bx 55 g_d [I r, .v (.map none), .v (.map none)]]) := by
 unfold m_depot_Depot_Sweep_s1 at hm
 refine calls [pt g_d 0] Tryz.func25 rfl (of_decide_eq_true (by kernel_rfl)) ?_
 refine W_seq <| W_q [] .a qe (by kernel_rfl) ?_
 refine At_go <| W_seq <| W_seq <| W_reg <| WLs 1 [] (.n 6 (pt g_d 0) .a) qe (by kernel_rfl) ?_
 refine WL_op ?_
 obtain ⟨r_, h_r_, hm⟩ := ob hm
 obtain ⟨F1, O1, kin, hO, hre, hF, hb⟩ := k.go (.i .e)
 refine Op_call [] 7 _ yz_go49 (by kernel_rfl) (c_depot_Depot_none_s1 (F := F1) (O := O1) _ _ kin _ h_r_) ?_
 rintro e_ w_ ⟨rfl, k_⟩
 have k_1 := hb w_ _ _ k_ (.c .n)
 refine ⟨.b true, rfl, ?_⟩
 refine WL_nil <| At_go <| W_cond true (by kernel_rfl) (fun _ => ?_) (fun h => by cases h)
 refine W_seq <| W_q [] (.n 2 (I 0) .z) qe (by kernel_rfl) ?_
 refine At_go <| W_ret (At_tr ?_)
 obtain rfl := Option.some.inj hm
 refine At_rt [I 0] qe (by kernel_rfl) ?_
 exact ⟨rfl, k_1⟩

-- (*quern/depot.Depot).Snaps
theorem c_depot_Depot_Snaps_s1 {F O : Nat → Prop} {w : World} (d_size : Int) (g_d : Nat) (k : Cx F O w w [Bx 55 g_d [I d_size, .v (.map none), .v (.map none)]]) (r : (List (List UInt8) × Int)) (hm : m_depot_Depot_Snaps_s1 d_size = some r) :
    Calls Tryz.prog 26 (vals [pt g_d 0]) w (fun e w' => ∃ A n c, r.1.length = n ∧ e = .returned (SV.val (sl A n c)) ∧ Cx F O w w' [Ow eS A n c r.1, Bx 55 g_d [I r.2, .v (.map none), .v (.map none)]]) := by
 unfold m_depot_Depot_Snaps_s1 at hm
 refine calls [pt g_d 0] Tryz.func26 rfl (of_decide_eq_true (by kernel_rfl)) ?_
 refine W_seq <| W_q [] .a qe (by kernel_rfl) ?_
 refine At_go <| W_seq <| W_seq <| W_reg <| WLs 1 [] (.n 3 (pt g_d 0) .a) qe (by kernel_rfl) ?_
 refine WL_op ?_
 obtain ⟨r_, h_r_, hm⟩ := ob hm
 obtain ⟨F1, O1, kin, hO, hre, hF, hb⟩ := k.go (.i .e)
 refine Op_call [] 4 _ yz_go49 (by kernel_rfl) (c_depot_Depot_none_s1 (F := F1) (O := O1) _ _ kin _ h_r_) ?_
 rintro e_ w_ ⟨rfl, k_⟩
 have k_1 := hb w_ _ _ k_ (.c .n)
 refine ⟨.b true, rfl, ?_⟩
 refine WL_nil <| At_go <| W_cond true (by kernel_rfl) (fun _ => ?_) (fun h => by cases h)
 refine W_seq <| W_q [] (.n 2 (sl none 0 0) .z) qe (by kernel_rfl) ?_
 refine At_go <| W_ret (At_tr ?_)
 have k_2 := k_1.nil eS
 obtain rfl := Option.some.inj hm
 refine At_rt [sl none 0 0] qe (by kernel_rfl) ?_
 have k_3 := (k_2.pk .h).pk (.t .h)
 exact ⟨none, 0, 0, k_3.len 0 rfl, rfl, k_3⟩

-- (*quern/depot.Depot).Missing
theorem c_depot_Depot_Missing_s1 {F O : Nat → Prop} {w : World} (d_size : Int) (g_d : Nat) (k : Cx F O w w [Bx 55 g_d [I d_size, .v (.map none), .v (.map none)]]) (r : (List (List UInt8) × Int)) (hm : m_depot_Depot_Missing_s1 d_size = some r) :
    Calls Tryz.prog 27 (vals [pt g_d 0]) w (fun e w' => ∃ A n c hd, r.1.length = n ∧ e = .returned (SV.val (sl A n c)) ∧ Cx F O w w' [O2 e8 A n c hd r.1, Bx 55 g_d [I r.2, .v (.map none), .v (.map none)]]) := by
 unfold m_depot_Depot_Missing_s1 at hm
 refine calls [pt g_d 0] Tryz.func27 rfl (of_decide_eq_true (by kernel_rfl)) ?_
 refine W_seq <| W_q [] .a qe (by kernel_rfl) ?_
 refine At_go <| W_seq <| W_seq <| W_reg <| WLs 1 [] (.n 8 (pt g_d 0) .a) qe (by kernel_rfl) ?_
 refine WL_op ?_
 obtain ⟨r_, h_r_, hm⟩ := ob hm
 obtain ⟨F1, O1, kin, hO, hre, hF, hb⟩ := k.go (.i .e)
 refine Op_call [] 9 _ yz_go49 (by kernel_rfl) (c_depot_Depot_none_s1 (F := F1) (O := O1) _ _ kin _ h_r_) ?_
 rintro e_ w_ ⟨rfl, k_⟩
 have k_1 := hb w_ _ _ k_ (.c .n)
 refine ⟨.b true, rfl, ?_⟩
 refine WL_nil <| At_go <| W_cond true (by kernel_rfl) (fun _ => ?_) (fun h => by cases h)
 refine W_seq <| W_q [] (.n 2 (sl none 0 0) .z) qe (by kernel_rfl) ?_
 refine At_go <| W_ret (At_tr ?_)
 have k_2 := k_1.nil2 e8
 obtain rfl := Option.some.inj hm
 refine At_rt [sl none 0 0] qe (by kernel_rfl) ?_
 have k_3 := (k_2.pk .h).pk (.t .h)
 exact ⟨none, 0, 0, ([] : List Hd), k_3.len2 0 rfl, rfl, k_3⟩

-- (*quern/depot.Depot).Save
theorem c_depot_Depot_Save_s1 {F O : Nat → Prop} {w : World} (d_size : Int) (g_d : Nat) (k : Cx F O w w [Bx 55 g_d [I d_size, .v (.map none), .v (.map none)]]) (r : (List UInt8 × Int)) (hm : m_depot_Depot_Save_s1 d_size = some r) :
    Calls Tryz.prog 28 (vals [pt g_d 0]) w (fun e w' => ∃ A n c, r.1.length = n ∧ e = .returned (SV.val (sl A n c)) ∧ Cx F O w w' [Ow e8 A n c r.1, Bx 55 g_d [I r.2, .v (.map none), .v (.map none)]]) := by
 unfold m_depot_Depot_Save_s1 at hm
 refine calls [pt g_d 0] Tryz.func28 rfl (of_decide_eq_true (by kernel_rfl)) ?_
 refine W_seq <| W_q [] .a qe (by kernel_rfl) ?_
 refine At_go <| W_seq <| W_seq <| W_reg <| WLs 1 [] (.n 12 (pt g_d 0) .a) qe (by kernel_rfl) ?_
 refine WL_op ?_
 obtain ⟨r_, h_r_, hm⟩ := ob hm
 obtain ⟨F1, O1, kin, hO, hre, hF, hb⟩ := k.go (.i .e)
 refine Op_call [] 13 _ yz_go49 (by kernel_rfl) (c_depot_Depot_none_s1 (F := F1) (O := O1) _ _ kin _ h_r_) ?_
 rintro e_ w_ ⟨rfl, k_⟩
 have k_1 := hb w_ _ _ k_ (.c .n)
 refine ⟨.b true, rfl, ?_⟩
 refine WL_nil <| At_go <| W_cond true (by kernel_rfl) (fun _ => ?_) (fun h => by cases h)
 refine W_seq <| W_q [] (.n 2 (sl none 0 0) .z) qe (by kernel_rfl) ?_
 refine At_go <| W_ret (At_tr ?_)
 have k_2 := k_1.nil e8
 obtain rfl := Option.some.inj hm
 refine At_rt [sl none 0 0] qe (by kernel_rfl) ?_
 have k_3 := (k_2.pk .h).pk (.t .h)
 exact ⟨none, 0, 0, k_3.len 0 rfl, rfl, k_3⟩

-- (*quern/depot.Depot).Rates
theorem c_depot_Depot_Rates_s1 {F O : Nat → Prop} {w : World} (d_size : Int) (g_d : Nat) (k : Cx F O w w [Bx 55 g_d [I d_size, .v (.map none), .v (.map none)]]) (r : Int) (hm : m_depot_Depot_Rates_s1 d_size = some r) :
    Calls Tryz.prog 30 (vals [pt g_d 0]) w (fun e w' => e = .returned (SV.val (.agg [I 0, I 0, I 0, .v (.float .f64 0), .v (.float .f64 0), .v (.float .f64 0)])) ∧ Cx F O w w' [Bx 55 g_d [I r, .v (.map none), .v (.map none)]]) := by
 unfold m_depot_Depot_Rates_s1 at hm
 refine calls [pt g_d 0] Tryz.func30 rfl (of_decide_eq_true (by kernel_rfl)) ?_
 refine W_seq <| W_reg <| WL_op <| Op_alloc [] 2 [I 0, I 0, I 0, .v (.float .f64 0), .v (.float .f64 0), .v (.float .f64 0)] (by kernel_rfl) k ?_
 intro g w_ k_
 refine WL_nil <| At_go <| W_seq <| W_reg <| WL_op <| Op_alloc [] 3 [I 0, I 0, I 0, .v (.float .f64 0), .v (.float .f64 0), .v (.float .f64 0)] (by kernel_rfl) k_ ?_
 intro g1 w_1 k_1
 refine WL_nil <| At_go <| W_seq <| W_seq <| W_reg <| WLs 1 [] (.n 14 (pt g_d 0) .a) qe (by kernel_rfl) ?_
 refine WL_op ?_
 obtain ⟨r_, h_r_, hm⟩ := ob hm
 obtain ⟨F1, O1, kin, hO, hre, hF, hb⟩ := k_1.go (.i (.r (.r .e)))
 refine Op_call [] 15 _ yz_go49 (by kernel_rfl) (c_depot_Depot_none_s1 (F := F1) (O := O1) _ _ kin _ h_r_) ?_
 rintro e_ w_2 ⟨rfl, k_2⟩
 have k_3 := hb w_2 _ _ k_2 (.c .n)
 refine ⟨.b true, rfl, ?_⟩
 refine WL_nil <| At_go <| W_cond true (by kernel_rfl) (fun _ => ?_) (fun h => by cases h)
 refine W_seq <| W_reg <| WLs 1 [] (.n 16 (.agg [I 0, I 0, I 0, .v (.float .f64 0), .v (.float .f64 0), .v (.float .f64 0)]) (.sss (.k .z))) (qT k_3 2 rfl 0 6 [I 0, I 0, I 0, .v (.float .f64 0), .v (.float .f64 0), .v (.float .f64 0)] (by kernel_rfl) (by decide) <| qe) (by kernel_rfl) ?_
 refine WL_op <| Op_b [] 1 (.agg [I 0, I 0, I 0, .v (.float .f64 0), .v (.float .f64 0), .v (.float .f64 0)]) [I 0, I 0, I 0, .v (.float .f64 0), .v (.float .f64 0), .v (.float .f64 0)] (Pt.at g 0) k_3 rfl .all (by kernel_rfl) (by kernel_rfl) ?_
 intro w_3 k_4
 have k_5 := k_4.sel (.kk .z)
 refine WL_nil <| At_go <| W_ret (At_tr ?_)
 obtain rfl := Option.some.inj hm
 refine At_rt [.agg [I 0, I 0, I 0, .v (.float .f64 0), .v (.float .f64 0), .v (.float .f64 0)]] (qo (.agg [I 0, I 0, I 0, .v (.float .f64 0), .v (.float .f64 0), .v (.float .f64 0)]) <| qc (fun w => Rd w (some ⟨g, 0, none⟩) (SV.cl [I 0, I 0, I 0, .v (.float .f64 0), .v (.float .f64 0), .v (.float .f64 0)])) (k_5.brd 1 rfl) <| qe) (by kernel_rfl) ?_
 have k_6 := k_5.sel (.k .z)
 exact ⟨rfl, k_6⟩

-- quern/quernlaw27.DepotNil
theorem c_l27_DepotNil {F O : Nat → Prop} {w : World} (snap : List UInt8) (name : List UInt8) (digest : List UInt8) (A_digest : Option Addr) (n_digest : Nat) (c_digest : Nat) (h_digest : Ro F w A_digest (e8.all digest)) (hn_digest : digest.length = n_digest) (hc_digest : n_digest ≤ c_digest) (k : Cx F O w w []) (r : Bool) (hm : m_l27_DepotNil snap name digest = some r) :
    Calls Tryz.prog 4 (vals [.s snap, .s name, sl A_digest n_digest c_digest]) w (fun e w' => e = .returned (SV.val (.b r)) ∧ Cx F O w w' []) := by
 unfold m_l27_DepotNil at hm
 subst hn_digest
 refine calls [.s snap, .s name, sl A_digest digest.length c_digest] Tryz.func4 rfl (of_decide_eq_true (by kernel_rfl)) ?_
 refine W_seq <| W_q [] .a qe (by kernel_rfl) ?_
 refine At_go <| W_seq <| W_seq <| W_reg <| WL_op ?_
 obtain ⟨r_, h_r_, hm⟩ := ob hm
 refine Op_call [] 16 _ yz_go18 (by kernel_rfl) (c_l27_awake (F := N0) (O := N0)  (Cx.refl _) _ h_r_) ?_
 rintro e_ w_ ⟨rfl, k_⟩
 have k_1 := k.call k_
 refine ⟨.b r_, rfl, ?_⟩
 refine WLs 1 [] (.n 17 (.b (!r_)) (.s .a)) qe (by kernel_rfl) ?_
 refine WL_nil <| At_go <| W_cond (!r_) (by kernel_rfl) (fun hc => ?_) (fun hc => ?_)
 · rw [if_pos hc] at hm
   refine W_seq <| W_q [] (.n 6 (.b false) .z) qe (by kernel_rfl) ?_
   refine At_go <| W_ret (At_tr ?_)
   obtain rfl := Option.some.inj hm
   refine At_rt [.b false] qe (by kernel_rfl) ?_
   exact ⟨rfl, k_1⟩
 rw [if_neg (by rw [hc]; decide)] at hm
 refine W_skip <| At_go <| W_seq <| W_reg <| WLs 1 [] (.n 18 (.agg [I 0, .v (.map none), .v (.map none)]) (.s .a)) qe (by kernel_rfl) ?_
 refine WL_op <| Op_box [] 19 (.agg [I 0, .v (.map none), .v (.map none)]) [I 0, .v (.map none), .v (.map none)] (by kernel_rfl) k_1 ?_
 intro g w_1 k_2
 refine WL_op <| Op_mk yz_tf56 eQ [] 20 ([(Option.none : Option Addr), (some ⟨g, 0, Option.none⟩ : Option Addr)] : List (Option Addr)) [(0, .v (.pointer none)), (1, pt g 0)] [.v (.pointer none), pt g 0] (by kernel_rfl) (by kernel_rfl) (by kernel_rfl) k_2 ?_
 intro A w_2 k_3
 refine WLs 1 [] (.n 7 (sl A 2 2) (.sss .a)) qe (by kernel_rfl) ?_
 refine WL_nil <| At_go <| W_seq <| W_seq <| W_q [] (.n 21 (sl A 2 2) (.n 22 (I 2) (.n 23 (I 0) (.s .a)))) qe (by kernel_rfl) ?_
 refine At_go <| W_block <| W_un ?_
 refine W_seq <| W_q [] (.n 24 (.b true) .a) qe (by kernel_rfl) ?_
 refine At_go <| W_seq <| W_cond true (by kernel_rfl) (fun _ => ?_) (fun h => by cases h)
 refine W_skip <| At_go <| W_seq <| W_block <| W_seq ?_
 have h : geti ([(Option.none : Option Addr), (some ⟨g, 0, Option.none⟩ : Option Addr)] : List (Option Addr)) (0 : Int) = some (Option.none : Option Addr) := rfl
 refine W_q [] (.n 9 (.v (.pointer none)) (.s .a)) (qJ (E := eQ) (k_3.rd 1 rfl) h (k_3.len 1 rfl) <| qC (.v (.pointer none)) (Rd.el (E := eQ) (k := 0) (k_3.rd 1 rfl) h (Pt.ix1 A (0 : Int) 1) rfl) <| qe) (by kernel_rfl) ?_
 refine At_go <| W_seq <| W_reg <| WLs 3 [] (.n 28 (.v (.pointer none)) (.n 29 (.s snap) (.n 30 (.s name) .a))) qe (by kernel_rfl) ?_
 refine WL_op ?_
 obtain ⟨r_1, h_r_1, hm⟩ := ob hm
 refine Op_call [] 31 _ yz_go19 (by kernel_rfl) (c_depot_Depot_Get (F := N0) (O := N0) _ _ (Cx.refl _) _ h_r_1) ?_
 rintro e_ w_3 ⟨A1, _, c, rfl, rfl, k_4⟩
 have k_5 := k_3.call k_4
 refine ⟨.tup [sl A1 r_1.length c, I 7], rfl, ?_⟩
 refine WLs 5 [] (.n 10 (sl A1 r_1.length c) (.n 11 (I 7) (.ssss .a))) qe (by kernel_rfl) ?_
 refine WL_nil <| At_go <| W_seq <| W_reg <| WLs 2 [] (.n 35 (.v (.pointer none)) (.n 36 (.s snap) .a)) qe (by kernel_rfl) ?_
 refine WL_op ?_
 have k_6 := k_5.sel (.kk (.k .e))
 obtain ⟨r_2, h_r_2, hm⟩ := ob hm
 refine Op_call [] 37 _ yz_go20 (by kernel_rfl) (c_depot_Depot_List (F := N0) (O := N0) _ (Cx.refl _) _ h_r_2) ?_
 rintro e_ w_4 ⟨rfl, k_7⟩
 have k_8 := k_6.call k_7
 refine ⟨.tup [sl none 0 0, I 7], rfl, ?_⟩
 refine WLs 5 [] (.n 12 (sl none 0 0) (.n 13 (I 7) (.sss .a))) qe (by kernel_rfl) ?_
 refine WL_nil <| At_go <| W_seq <| W_reg <| WLs 3 [] (.n 41 (.v (.pointer none)) (.n 42 (.s snap) (.n 43 (.s name) .a))) qe (by kernel_rfl) ?_
 refine WL_op ?_
 obtain ⟨r_3, h_r_3, hm⟩ := ob hm
 refine Op_call [] 44 _ yz_go21 (by kernel_rfl) (c_depot_Depot_Turned (F := N0) (O := N0) _ _ (Cx.refl _) _ h_r_3) ?_
 rintro e_ w_5 ⟨A2, _, c1, rfl, rfl, k_9⟩
 have k_10 := k_8.call k_9
 refine ⟨.tup [sl A2 r_3.length c1, I 7], rfl, ?_⟩
 refine WLs 5 [] (.n 14 (sl A2 r_3.length c1) (.n 15 (I 7) (.ssss .a))) qe (by kernel_rfl) ?_
 refine WL_nil <| At_go <| W_seq <| W_seq <| W_q [] (.n 71 (.b ((((((decide (((r_1.length : Nat) : Int) ≠ 0)) || false) || false) || false) || (decide (((r_3.length : Nat) : Int) ≠ 0))) || false)) (.ssss (.ss .a))) qe (by kernel_rfl) ?_
 refine At_go <| W_cond ((((((decide (((r_1.length : Nat) : Int) ≠ 0)) || false) || false) || false) || (decide (((r_3.length : Nat) : Int) ≠ 0))) || false) (by kernel_rfl) (fun hc1 => ?_) (fun hc1 => ?_)
 · rw [if_pos hc1] at hm
   refine W_seq <| W_q [] (.n 6 (.b false) .z) qe (by kernel_rfl) ?_
   refine At_go <| W_ret (At_tr (At_ir (At_tr (At_tr (At_ir (At_tr ?_))))))
   obtain rfl := Option.some.inj hm
   refine At_rt [.b false] qe (by kernel_rfl) ?_
   have k_11 := k_10.sel .z
   exact ⟨rfl, k_11⟩
 rw [if_neg (by rw [hc1]; decide)] at hm
 refine W_skip <| At_go <| W_seq <| W_seq <| W_reg <| WLs 2 [] (.n 72 (.v (.pointer none)) (.n 73 (.s snap) (.s .a))) qe (by kernel_rfl) ?_
 refine WL_op ?_
 obtain ⟨r_4, h_r_4, hm⟩ := ob hm
 refine Op_call [] 74 _ yz_go22 (by kernel_rfl) (c_depot_Depot_Put (F := N0) (O := N0) _ (Cx.refl _) _ h_r_4) ?_
 rintro e_ w_6 ⟨rfl, k_12⟩
 have k_13 := k_10.call k_12
 refine ⟨I 7, rfl, ?_⟩
 have k_14 := k_13.sel (.kk .z)
 refine WLs 2 [] (.n 76 (.b false) (.sss .a)) qe (by kernel_rfl) ?_
 refine WLs 2 [76] (.n 77 (.v (.pointer none)) (.n 78 (.s snap) .a)) qe (by kernel_rfl) ?_
 refine WL_op ?_
 obtain ⟨r_5, h_r_5, hm⟩ := ob hm
 refine Op_call [76] 79 _ yz_go23 (by kernel_rfl) (c_depot_Depot_Drop (F := N0) (O := N0) _ (Cx.refl _) _ h_r_5) ?_
 rintro e_ w_7 ⟨rfl, k_15⟩
 have k_16 := k_14.call k_15
 refine ⟨I 7, rfl, ?_⟩
 refine WLs 3 [76] (.n 82 (.b false) (.ssss .a)) qe (by kernel_rfl) ?_
 refine WLs 2 [82] (.n 83 (.v (.pointer none)) (.n 84 (sl A_digest digest.length c_digest) .a)) qe (by kernel_rfl) ?_
 refine WL_op ?_
 have k_17 := k_16.sel (.kk .e)
 obtain ⟨r_6, h_r_6, hm⟩ := ob hm
 refine Op_call [82] 85 _ yz_go24 (by kernel_rfl) (c_depot_Depot_Lose (F := N0) (O := N0) _ _ _ _ (Ro.n0 (h_digest.cx k_17)) rfl hc_digest (Cx.refl _) _ h_r_6) ?_
 rintro e_ w_8 ⟨rfl, k_18⟩
 have k_19 := k_17.call k_18
 refine ⟨I 7, rfl, ?_⟩
 refine WLs 3 [82] (.n 88 (.b false) (.ssss .a)) qe (by kernel_rfl) ?_
 refine WLs 1 [88] (.n 89 (.v (.pointer none)) .a) qe (by kernel_rfl) ?_
 refine WL_op ?_
 obtain ⟨r_7, h_r_7, hm⟩ := ob hm
 refine Op_call [88] 90 _ yz_go25 (by kernel_rfl) (c_depot_Depot_Sweep (F := N0) (O := N0)  (Cx.refl _) _ h_r_7) ?_
 rintro e_ w_9 ⟨rfl, k_20⟩
 have k_21 := k_19.call k_20
 refine ⟨I 0, rfl, ?_⟩
 refine WLs 3 [88] (.n 93 (.b false) (.sss .a)) qe (by kernel_rfl) ?_
 refine WLs 1 [93] (.n 94 (.v (.pointer none)) .a) qe (by kernel_rfl) ?_
 refine WL_op ?_
 obtain ⟨r_8, h_r_8, hm⟩ := ob hm
 refine Op_call [93] 95 _ yz_go26 (by kernel_rfl) (c_depot_Depot_Snaps (F := N0) (O := N0)  (Cx.refl _) _ h_r_8) ?_
 rintro e_ w_10 ⟨A3, _, c2, rfl, rfl, k_22⟩
 have k_23 := k_21.call k_22
 refine ⟨sl A3 r_8.length c2, rfl, ?_⟩
 refine WLs 4 [93] (.n 99 (.b (decide (((r_8.length : Nat) : Int) ≠ 0))) (.sss .a)) qe (by kernel_rfl) ?_
 refine WL_sp 99 (decide (((r_8.length : Nat) : Int) ≠ 0)) (.s .a) (by kernel_rfl) (fun hg => ?_) (fun hg => ?_)
 · rw [if_pos (of_decide_eq_true hg)] at hm
   refine WLs 6 [99] (.n 105 (.b true) (.s .a)) qe (by kernel_rfl) ?_
   refine WLs 5 [105] (.n 110 (.b true) (.s .a)) qe (by kernel_rfl) ?_
   refine WL_nil <| At_go <| W_cond true (by kernel_rfl) (fun _ => ?_) (fun h => by cases h)
   refine W_seq <| W_q [] (.n 6 (.b false) .z) qe (by kernel_rfl) ?_
   refine At_go <| W_ret (At_tr (At_ir (At_tr (At_tr (At_ir (At_tr ?_))))))
   obtain rfl := Option.some.inj hm
   refine At_rt [.b false] qe (by kernel_rfl) ?_
   have k_24 := k_23.sel .z
   exact ⟨rfl, k_24⟩
 · rw [if_neg (of_decide_eq_false hg)] at hm
   refine WLs 1 [99] (.n 100 (.v (.pointer none)) .a) qe (by kernel_rfl) ?_
   refine WL_op ?_
   obtain ⟨r_9, h_r_9, hm⟩ := ob hm
   refine Op_call [99] 101 _ yz_go27 (by kernel_rfl) (c_depot_Depot_Missing (F := N0) (O := N0)  (Cx.refl _) _ h_r_9) ?_
   rintro e_ w_11 ⟨A4, _, c3, hd, rfl, rfl, k_25⟩
   have k_26 := k_23.call k_25
   refine ⟨sl A4 r_9.length c3, rfl, ?_⟩
   have k_27 := k_26.sel (.kk (.s (.k .e)))
   refine WLs 4 [99] (.n 105 (.b (decide (((r_9.length : Nat) : Int) ≠ 0))) (.sss .a)) qe (by kernel_rfl) ?_
   refine WL_sp 105 (decide (((r_9.length : Nat) : Int) ≠ 0)) (.s .a) (by kernel_rfl) (fun hg1 => ?_) (fun hg1 => ?_)
   · rw [if_pos (of_decide_eq_true hg1)] at hm
     refine WLs 5 [105] (.n 110 (.b true) (.s .a)) qe (by kernel_rfl) ?_
     refine WL_nil <| At_go <| W_cond true (by kernel_rfl) (fun _ => ?_) (fun h => by cases h)
     refine W_seq <| W_q [] (.n 6 (.b false) .z) qe (by kernel_rfl) ?_
     refine At_go <| W_ret (At_tr (At_ir (At_tr (At_tr (At_ir (At_tr ?_))))))
     obtain rfl := Option.some.inj hm
     refine At_rt [.b false] qe (by kernel_rfl) ?_
     have k_28 := k_27.sel .z
     exact ⟨rfl, k_28⟩
   · rw [if_neg (of_decide_eq_false hg1)] at hm
     refine WLs 1 [105] (.n 106 (.v (.pointer none)) .a) qe (by kernel_rfl) ?_
     refine WL_op ?_
     have k_29 := k_27.sel (.kk (.k .e))
     obtain ⟨r_10, h_r_10, hm⟩ := ob hm
     refine Op_call [105] 107 _ yz_go28 (by kernel_rfl) (c_depot_Depot_Save (F := N0) (O := N0)  (Cx.refl _) _ h_r_10) ?_
     rintro e_ w_12 ⟨A5, _, c4, rfl, rfl, k_30⟩
     have k_31 := k_29.call k_30
     refine ⟨sl A5 r_10.length c4, rfl, ?_⟩
     have k_32 := k_31.sel (.kk (.s (.k .e)))
     refine WLs 3 [105] (.n 110 (.b (decide (((r_10.length : Nat) : Int) ≠ 0))) (.sss .a)) qe (by kernel_rfl) ?_
     refine WL_nil <| At_go <| W_condp (((r_10.length : Nat) : Int) ≠ 0) (by kernel_rfl) (fun hc2 => ?_) (fun hc2 => ?_)
     · rw [if_pos hc2] at hm
       refine W_seq <| W_q [] (.n 6 (.b false) .z) qe (by kernel_rfl) ?_
       refine At_go <| W_ret (At_tr (At_ir (At_tr (At_tr (At_ir (At_tr ?_))))))
       obtain rfl := Option.some.inj hm
       refine At_rt [.b false] qe (by kernel_rfl) ?_
       have k_33 := k_32.sel .z
       exact ⟨rfl, k_33⟩
     rw [if_neg hc2] at hm
     refine W_skip <| At_go <| W_seq <| W_reg <| WLs 1 [] (.n 111 (.v (.pointer none)) (.ss .a)) qe (by kernel_rfl) ?_
     refine WL_op ?_
     obtain ⟨r_11, h_r_11, hm⟩ := ob hm
     refine Op_call [] 112 _ yz_go30 (by kernel_rfl) (c_depot_Depot_Rates (F := N0) (O := N0)  (Cx.refl _) _ h_r_11) ?_
     rintro e_ w_13 ⟨rfl, k_34⟩
     have k_35 := k_32.call k_34
     refine ⟨.agg [I 0, I 0, I 0, .v (.float .f64 0), .v (.float .f64 0), .v (.float .f64 0)], rfl, ?_⟩
     have k_36 := k_35.sel (.kk .z)
     refine WLs 1 [] (.n 113 (.agg [I 0, I 0, I 0, .v (.float .f64 0), .v (.float .f64 0), .v (.float .f64 0)]) (.k (.s .a))) qe (by kernel_rfl) ?_
     refine WL_op ?_
     obtain ⟨r_12, h_r_12, hm⟩ := ob hm
     refine Op_call [] 114 _ yz_go29 (by kernel_rfl) (c_l27_rates (F := N0) (O := N0) _ _ _ _ _ _ (Cx.refl _) _ h_r_12) ?_
     rintro e_ w_14 ⟨rfl, k_37⟩
     have k_38 := k_36.call k_37
     refine ⟨.b r_12, rfl, ?_⟩
     refine WLs 1 [] (.n 115 (.b (!r_12)) (.sss .a)) qe (by kernel_rfl) ?_
     refine WL_nil <| At_go <| W_cond (!r_12) (by kernel_rfl) (fun hc3 => ?_) (fun hc3 => ?_)
     · rw [if_pos hc3] at hm
       refine W_seq <| W_q [] (.n 6 (.b false) .z) qe (by kernel_rfl) ?_
       refine At_go <| W_ret (At_ir (At_tr (At_tr (At_ir (At_tr ?_)))))
       obtain rfl := Option.some.inj hm
       refine At_rt [.b false] qe (by kernel_rfl) ?_
       have k_39 := k_38.sel .z
       exact ⟨rfl, k_39⟩
     rw [if_neg (by rw [hc3]; decide)] at hm
     refine W_skip <| At_in <| At_go <| W_q [] (.n 23 (I 1) (.s (.kk (.s .a)))) qe (by kernel_rfl) ?_
     refine At_un ?_
     refine W_seq <| W_q [] (.n 24 (.b true) .a) qe (by kernel_rfl) ?_
     refine At_go <| W_seq <| W_cond true (by kernel_rfl) (fun _ => ?_) (fun h => by cases h)
     refine W_skip <| At_go <| W_seq <| W_block <| W_seq ?_
     have h1 : geti ([(Option.none : Option Addr), (some ⟨g, 0, Option.none⟩ : Option Addr)] : List (Option Addr)) (1 : Int) = some (some ⟨g, 0, Option.none⟩ : Option Addr) := rfl
     refine W_q [] (.n 9 (pt g 0) (.s .a)) (qJ (E := eQ) (k_38.rd 1 rfl) h1 (k_38.len 1 rfl) <| qC (pt g 0) (Rd.el (E := eQ) (k := 0) (k_38.rd 1 rfl) h1 (Pt.ix1 A (1 : Int) 1) rfl) <| qe) (by kernel_rfl) ?_
     refine At_go <| W_seq <| W_reg <| WLs 3 [] (.n 28 (pt g 0) (.n 29 (.s snap) (.n 30 (.s name) .a))) qe (by kernel_rfl) ?_
     refine WL_op ?_
     obtain ⟨r_13, h_r_13, hm⟩ := ob hm
     obtain ⟨F1, O1, kin, hO, hre, hF, hb⟩ := k_38.go (.i (.r .e))
     refine Op_call [] 31 _ yz_go19 (by kernel_rfl) (c_depot_Depot_Get_s1 (F := F1) (O := O1) _ _ _ _ kin _ h_r_13) ?_
     rintro e_ w_15 ⟨A6, _, c5, rfl, rfl, k_40⟩
     have k_41 := hb w_15 _ _ k_40 (.c (.c .n))
     refine ⟨.tup [sl A6 r_13.1.length c5, I 7], rfl, ?_⟩
     refine WLs 5 [] (.n 10 (sl A6 r_13.1.length c5) (.n 11 (I 7) (.ssss .a))) qe (by kernel_rfl) ?_
     refine WL_nil <| At_go <| W_seq <| W_reg <| WLs 2 [] (.n 35 (pt g 0) (.n 36 (.s snap) .a)) qe (by kernel_rfl) ?_
     refine WL_op ?_
     have k_42 := k_41.sel (.kk (.k .e))
     obtain ⟨r_14, h_r_14, hm⟩ := ob hm
     obtain ⟨F11, O11, kin1, hO1, hre1, hF1, hb1⟩ := k_42.go (.r (.i (.r .e)))
     refine Op_call [] 37 _ yz_go20 (by kernel_rfl) (c_depot_Depot_List_s1 (F := F11) (O := O11) _ _ _ kin1 _ h_r_14) ?_
     rintro e_ w_16 ⟨rfl, k_43⟩
     have k_44 := hb1 w_16 _ _ k_43 (.c .n)
     refine ⟨.tup [sl none 0 0, I 7], rfl, ?_⟩
     refine WLs 5 [] (.n 12 (sl none 0 0) (.n 13 (I 7) (.sss .a))) qe (by kernel_rfl) ?_
     refine WL_nil <| At_go <| W_seq <| W_reg <| WLs 3 [] (.n 41 (pt g 0) (.n 42 (.s snap) (.n 43 (.s name) .a))) qe (by kernel_rfl) ?_
     refine WL_op ?_
     obtain ⟨r_15, h_r_15, hm⟩ := ob hm
     obtain ⟨F12, O12, kin2, hO2, hre2, hF2, hb2⟩ := k_44.go (.i (.r (.r .e)))
     refine Op_call [] 44 _ yz_go21 (by kernel_rfl) (c_depot_Depot_Turned_s1 (F := F12) (O := O12) _ _ _ _ kin2 _ h_r_15) ?_
     rintro e_ w_17 ⟨A7, _, c6, rfl, rfl, k_45⟩
     have k_46 := hb2 w_17 _ _ k_45 (.c (.c .n))
     refine ⟨.tup [sl A7 r_15.1.length c6, I 7], rfl, ?_⟩
     refine WLs 5 [] (.n 14 (sl A7 r_15.1.length c6) (.n 15 (I 7) (.ssss .a))) qe (by kernel_rfl) ?_
     refine WL_nil <| At_go <| W_seq <| W_seq <| W_q [] (.n 71 (.b ((((((decide (((r_13.1.length : Nat) : Int) ≠ 0)) || false) || false) || false) || (decide (((r_15.1.length : Nat) : Int) ≠ 0))) || false)) (.ssss (.ss .a))) qe (by kernel_rfl) ?_
     refine At_go <| W_cond ((((((decide (((r_13.1.length : Nat) : Int) ≠ 0)) || false) || false) || false) || (decide (((r_15.1.length : Nat) : Int) ≠ 0))) || false) (by kernel_rfl) (fun hc4 => ?_) (fun hc4 => ?_)
     · rw [if_pos hc4] at hm
       refine W_seq <| W_q [] (.n 6 (.b false) .z) qe (by kernel_rfl) ?_
       refine At_go <| W_ret (At_tr (At_ir (At_tr (At_tr (At_ir (At_tr ?_))))))
       obtain rfl := Option.some.inj hm
       refine At_rt [.b false] qe (by kernel_rfl) ?_
       have k_47 := k_46.sel .z
       exact ⟨rfl, k_47⟩
     rw [if_neg (by rw [hc4]; decide)] at hm
     refine W_skip <| At_go <| W_seq <| W_seq <| W_reg <| WLs 2 [] (.n 72 (pt g 0) (.n 73 (.s snap) (.s .a))) qe (by kernel_rfl) ?_
     refine WL_op ?_
     obtain ⟨r_16, h_r_16, hm⟩ := ob hm
     obtain ⟨F13, O13, kin3, hO3, hre3, hF3, hb3⟩ := k_46.go (.r (.i (.r (.r .e))))
     refine Op_call [] 74 _ yz_go22 (by kernel_rfl) (c_depot_Depot_Put_s1 (F := F13) (O := O13) _ _ _ kin3 _ h_r_16) ?_
     rintro e_ w_18 ⟨rfl, k_48⟩
     have k_49 := hb3 w_18 _ _ k_48 (.c .n)
     refine ⟨I 7, rfl, ?_⟩
     have k_50 := k_49.sel (.k (.ss (.k .e)))
     refine WLs 2 [] (.n 76 (.b false) (.sss .a)) qe (by kernel_rfl) ?_
     refine WLs 2 [76] (.n 77 (pt g 0) (.n 78 (.s snap) .a)) qe (by kernel_rfl) ?_
     refine WL_op ?_
     obtain ⟨r_17, h_r_17, hm⟩ := ob hm
     obtain ⟨F14, O14, kin4, hO4, hre4, hF4, hb4⟩ := k_50.go (.i (.r .e))
     refine Op_call [76] 79 _ yz_go23 (by kernel_rfl) (c_depot_Depot_Drop_s1 (F := F14) (O := O14) _ _ _ kin4 _ h_r_17) ?_
     rintro e_ w_19 ⟨rfl, k_51⟩
     have k_52 := hb4 w_19 _ _ k_51 (.c .n)
     refine ⟨I 7, rfl, ?_⟩
     refine WLs 3 [76] (.n 82 (.b false) (.ssss .a)) qe (by kernel_rfl) ?_
     refine WLs 2 [82] (.n 83 (pt g 0) (.n 84 (sl A_digest digest.length c_digest) .a)) qe (by kernel_rfl) ?_
     refine WL_op ?_
     have k_53 := k_52.sel (.kk .e)
     obtain ⟨r_18, h_r_18, hm⟩ := ob hm
     obtain ⟨F15, O15, kin5, hO5, hre5, hF5, hb5⟩ := k_53.go (.i (.r .e))
     refine Op_call [82] 85 _ yz_go24 (by kernel_rfl) (c_depot_Depot_Lose_s1 (F := F15) (O := O15) _ _ _ _ _ _ (Ro.of_old h_digest k_53 hF5) rfl hc_digest kin5 _ h_r_18) ?_
     rintro e_ w_20 ⟨rfl, k_54⟩
     have k_55 := hb5 w_20 _ _ k_54 (.c .n)
     refine ⟨I 7, rfl, ?_⟩
     refine WLs 3 [82] (.n 88 (.b false) (.ssss .a)) qe (by kernel_rfl) ?_
     refine WLs 1 [88] (.n 89 (pt g 0) .a) qe (by kernel_rfl) ?_
     refine WL_op ?_
     obtain ⟨r_19, h_r_19, hm⟩ := ob hm
     obtain ⟨F16, O16, kin6, hO6, hre6, hF6, hb6⟩ := k_55.go (.i (.r .e))
     refine Op_call [88] 90 _ yz_go25 (by kernel_rfl) (c_depot_Depot_Sweep_s1 (F := F16) (O := O16) _ _ kin6 _ h_r_19) ?_
     rintro e_ w_21 ⟨rfl, k_56⟩
     have k_57 := hb6 w_21 _ _ k_56 (.c .n)
     refine ⟨I 0, rfl, ?_⟩
     refine WLs 3 [88] (.n 93 (.b false) (.sss .a)) qe (by kernel_rfl) ?_
     refine WLs 1 [93] (.n 94 (pt g 0) .a) qe (by kernel_rfl) ?_
     refine WL_op ?_
     obtain ⟨r_20, h_r_20, hm⟩ := ob hm
     obtain ⟨F17, O17, kin7, hO7, hre7, hF7, hb7⟩ := k_57.go (.i (.r .e))
     refine Op_call [93] 95 _ yz_go26 (by kernel_rfl) (c_depot_Depot_Snaps_s1 (F := F17) (O := O17) _ _ kin7 _ h_r_20) ?_
     rintro e_ w_22 ⟨A8, _, c7, rfl, rfl, k_58⟩
     have k_59 := hb7 w_22 _ _ k_58 (.c (.c .n))
     refine ⟨sl A8 r_20.1.length c7, rfl, ?_⟩
     refine WLs 4 [93] (.n 99 (.b (decide (((r_20.1.length : Nat) : Int) ≠ 0))) (.sss .a)) qe (by kernel_rfl) ?_
     refine WL_sp 99 (decide (((r_20.1.length : Nat) : Int) ≠ 0)) (.s .a) (by kernel_rfl) (fun hg2 => ?_) (fun hg2 => ?_)
     · rw [if_pos (of_decide_eq_true hg2)] at hm
       refine WLs 6 [99] (.n 105 (.b true) (.s .a)) qe (by kernel_rfl) ?_
       refine WLs 5 [105] (.n 110 (.b true) (.s .a)) qe (by kernel_rfl) ?_
       refine WL_nil <| At_go <| W_cond true (by kernel_rfl) (fun _ => ?_) (fun h => by cases h)
       refine W_seq <| W_q [] (.n 6 (.b false) .z) qe (by kernel_rfl) ?_
       refine At_go <| W_ret (At_tr (At_ir (At_tr (At_tr (At_ir (At_tr ?_))))))
       obtain rfl := Option.some.inj hm
       refine At_rt [.b false] qe (by kernel_rfl) ?_
       have k_60 := k_59.sel .z
       exact ⟨rfl, k_60⟩
     · rw [if_neg (of_decide_eq_false hg2)] at hm
       refine WLs 1 [99] (.n 100 (pt g 0) .a) qe (by kernel_rfl) ?_
       refine WL_op ?_
       obtain ⟨r_21, h_r_21, hm⟩ := ob hm
       obtain ⟨F18, O18, kin8, hO8, hre8, hF8, hb8⟩ := k_59.go (.r (.i (.r .e)))
       refine Op_call [99] 101 _ yz_go27 (by kernel_rfl) (c_depot_Depot_Missing_s1 (F := F18) (O := O18) _ _ kin8 _ h_r_21) ?_
       rintro e_ w_23 ⟨A9, _, c8, hd1, rfl, rfl, k_61⟩
       have k_62 := hb8 w_23 _ _ k_61 (.c (.c .n))
       refine ⟨sl A9 r_21.1.length c8, rfl, ?_⟩
       have k_63 := k_62.sel (.kk (.s (.k .e)))
       refine WLs 4 [99] (.n 105 (.b (decide (((r_21.1.length : Nat) : Int) ≠ 0))) (.sss .a)) qe (by kernel_rfl) ?_
       refine WL_sp 105 (decide (((r_21.1.length : Nat) : Int) ≠ 0)) (.s .a) (by kernel_rfl) (fun hg3 => ?_) (fun hg3 => ?_)
       · rw [if_pos (of_decide_eq_true hg3)] at hm
         refine WLs 5 [105] (.n 110 (.b true) (.s .a)) qe (by kernel_rfl) ?_
         refine WL_nil <| At_go <| W_cond true (by kernel_rfl) (fun _ => ?_) (fun h => by cases h)
         refine W_seq <| W_q [] (.n 6 (.b false) .z) qe (by kernel_rfl) ?_
         refine At_go <| W_ret (At_tr (At_ir (At_tr (At_tr (At_ir (At_tr ?_))))))
         obtain rfl := Option.some.inj hm
         refine At_rt [.b false] qe (by kernel_rfl) ?_
         have k_64 := k_63.sel .z
         exact ⟨rfl, k_64⟩
       · rw [if_neg (of_decide_eq_false hg3)] at hm
         refine WLs 1 [105] (.n 106 (pt g 0) .a) qe (by kernel_rfl) ?_
         refine WL_op ?_
         have k_65 := k_63.sel (.kk (.k .e))
         obtain ⟨r_22, h_r_22, hm⟩ := ob hm
         obtain ⟨F19, O19, kin9, hO9, hre9, hF9, hb9⟩ := k_65.go (.r (.i (.r .e)))
         refine Op_call [105] 107 _ yz_go28 (by kernel_rfl) (c_depot_Depot_Save_s1 (F := F19) (O := O19) _ _ kin9 _ h_r_22) ?_
         rintro e_ w_24 ⟨A10, _, c9, rfl, rfl, k_66⟩
         have k_67 := hb9 w_24 _ _ k_66 (.c (.c .n))
         refine ⟨sl A10 r_22.1.length c9, rfl, ?_⟩
         have k_68 := k_67.sel (.kk (.s (.k .e)))
         refine WLs 3 [105] (.n 110 (.b (decide (((r_22.1.length : Nat) : Int) ≠ 0))) (.sss .a)) qe (by kernel_rfl) ?_
         refine WL_nil <| At_go <| W_condp (((r_22.1.length : Nat) : Int) ≠ 0) (by kernel_rfl) (fun hc5 => ?_) (fun hc5 => ?_)
         · rw [if_pos hc5] at hm
           refine W_seq <| W_q [] (.n 6 (.b false) .z) qe (by kernel_rfl) ?_
           refine At_go <| W_ret (At_tr (At_ir (At_tr (At_tr (At_ir (At_tr ?_))))))
           obtain rfl := Option.some.inj hm
           refine At_rt [.b false] qe (by kernel_rfl) ?_
           have k_69 := k_68.sel .z
           exact ⟨rfl, k_69⟩
         rw [if_neg hc5] at hm
         refine W_skip <| At_go <| W_seq <| W_reg <| WLs 1 [] (.n 111 (pt g 0) (.ss .a)) qe (by kernel_rfl) ?_
         refine WL_op ?_
         obtain ⟨r_23, h_r_23, hm⟩ := ob hm
         obtain ⟨F110, O110, kin10, hO10, hre10, hF10, hb10⟩ := k_68.go (.r (.i (.r .e)))
         refine Op_call [] 112 _ yz_go30 (by kernel_rfl) (c_depot_Depot_Rates_s1 (F := F110) (O := O110) _ _ kin10 _ h_r_23) ?_
         rintro e_ w_25 ⟨rfl, k_70⟩
         have k_71 := hb10 w_25 _ _ k_70 (.c .n)
         refine ⟨.agg [I 0, I 0, I 0, .v (.float .f64 0), .v (.float .f64 0), .v (.float .f64 0)], rfl, ?_⟩
         have k_72 := k_71.sel (.k (.s (.k .e)))
         refine WLs 1 [] (.n 113 (.agg [I 0, I 0, I 0, .v (.float .f64 0), .v (.float .f64 0), .v (.float .f64 0)]) (.k (.s .a))) qe (by kernel_rfl) ?_
         refine WL_op ?_
         obtain ⟨r_24, h_r_24, hm⟩ := ob hm
         refine Op_call [] 114 _ yz_go29 (by kernel_rfl) (c_l27_rates (F := N0) (O := N0) _ _ _ _ _ _ (Cx.refl _) _ h_r_24) ?_
         rintro e_ w_26 ⟨rfl, k_73⟩
         have k_74 := k_72.call k_73
         refine ⟨.b r_24, rfl, ?_⟩
         refine WLs 1 [] (.n 115 (.b (!r_24)) (.sss .a)) qe (by kernel_rfl) ?_
         refine WL_nil <| At_go <| W_cond (!r_24) (by kernel_rfl) (fun hc6 => ?_) (fun hc6 => ?_)
         · rw [if_pos hc6] at hm
           refine W_seq <| W_q [] (.n 6 (.b false) .z) qe (by kernel_rfl) ?_
           refine At_go <| W_ret (At_ir (At_tr (At_tr (At_ir (At_tr ?_)))))
           obtain rfl := Option.some.inj hm
           refine At_rt [.b false] qe (by kernel_rfl) ?_
           have k_75 := k_74.sel .z
           exact ⟨rfl, k_75⟩
         rw [if_neg (by rw [hc6]; decide)] at hm
         refine W_skip <| At_in <| At_go <| W_q [] (.n 23 (I 2) (.ss .a)) qe (by kernel_rfl) ?_
         refine At_un ?_
         refine W_seq <| W_q [] (.n 24 (.b false) .a) qe (by kernel_rfl) ?_
         refine At_go <| W_seq <| W_cond false (by kernel_rfl) (fun h => by cases h) (fun _ => ?_)
         refine W_exit (At_te (At_te (At_ie ?_)))
         refine At_go <| W_seq <| W_q [] (.n 6 (.b true) .z) qe (by kernel_rfl) ?_
         refine At_go <| W_ret ?_
         obtain rfl := Option.some.inj hm
         refine At_rt [.b true] qe (by kernel_rfl) ?_
         have k_76 := k_74.sel .z
         exact ⟨rfl, k_76⟩
end Go.Sx
