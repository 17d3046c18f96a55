import Derived.Test.YtmknbdnofogmdaaMM
import Derived.Test.YtmknbdnofogmdaaSyR
import Derived.Test.YtmknbdnofogmdaaProg
namespace Go.Sx
open Go.RowKit Go.Proofs
set_option linter.unusedVariables false
set_option linter.unusedSimpArgs false
set_option maxRecDepth 20000
theorem yt_go26 : IsGo Try.prog 26 := ⟨⟨Try.f26, _, Try.func26, rfl, by kernel_rfl⟩⟩
theorem yt_go27 : IsGo Try.prog 27 := ⟨⟨Try.f27, _, Try.func27, rfl, by kernel_rfl⟩⟩
theorem yt_go28 : IsGo Try.prog 28 := ⟨⟨Try.f28, _, Try.func28, rfl, by kernel_rfl⟩⟩
theorem yt_go29 : IsGo Try.prog 29 := ⟨⟨Try.f29, _, Try.func29, rfl, by kernel_rfl⟩⟩
theorem yt_go30 : IsGo Try.prog 30 := ⟨⟨Try.f30, _, Try.func30, rfl, by kernel_rfl⟩⟩
theorem yt_go45 : IsGo Try.prog 45 := ⟨⟨Try.f45, _, Try.func45, rfl, by kernel_rfl⟩⟩
theorem yt_mixed : Try.prog.follows .mixedOrders = true := by kernel_rfl

-- (*quern/mac.Ring).none
theorem c_mac_Ring_none {F O : Nat → Prop} {w : World} (k : Cx F O w w []) (r : Unit) (hm : m_mac_Ring_none = some r) :
    Calls Try.prog 45 (vals [.v (.pointer none)]) w (fun e w' => e = .returned (SV.val (.b true)) ∧ Cx F O w w' []) := by
 unfold m_mac_Ring_none at hm
 refine calls [.v (.pointer none)] Try.func45 rfl (of_decide_eq_true (by kernel_rfl)) ?_
 refine W_seq <| W_q [] .a qe (by kernel_rfl) ?_
 refine At_go <| W_seq <| W_q [5] (.n 2 (.b true) .z) qe (by kernel_rfl) ?_
 refine At_go <| W_ret ?_
 obtain rfl := Option.some.inj hm
 refine At_rt [.b true] qe (by kernel_rfl) ?_
 exact ⟨rfl, k⟩

-- (*quern/mac.Ring).Tag
theorem c_mac_Ring_Tag {F O : Nat → Prop} {w : World} (name : List UInt8) (data : List UInt8) (A_data : Option Addr) (n_data : Nat) (c_data : Nat) (h_data : Ro F w A_data (e8.all data)) (hn_data : data.length = n_data) (hc_data : n_data ≤ c_data) (k : Cx F O w w []) (r : (List UInt8)) (hm : m_mac_Ring_Tag name data = some r) :
    Calls Try.prog 26 (vals [.v (.pointer none), .s name, sl A_data n_data c_data]) w (fun e w' => ∃ A n c, r.length = n ∧ e = .returned (SV.val (.tup [sl A n c, I 7])) ∧ Cx F O w w' [Ow e8 A n c r]) := by
 unfold m_mac_Ring_Tag at hm
 subst hn_data
 refine calls [.v (.pointer none), .s name, sl A_data data.length c_data] Try.func26 rfl (of_decide_eq_true (by kernel_rfl)) ?_
 refine W_seq <| W_q [] .a qe (by kernel_rfl) ?_
 refine At_go <| W_seq <| W_seq <| W_reg <| WLs 1 [] (.n 10 (.v (.pointer none)) .a) qe (by kernel_rfl) ?_
 refine WL_op ?_
 obtain ⟨r_, h_r_, hm⟩ := ob hm
 refine Op_call [] 11 _ yt_go45 (by kernel_rfl) (c_mac_Ring_none (F := N0) (O := N0)  (Cx.refl _) _ h_r_) ?_
 rintro e_ w_ ⟨rfl, k_⟩
 have k_1 := k.call k_
 refine ⟨.b true, rfl, ?_⟩
 refine WL_nil <| At_go <| W_cond true (by kernel_rfl) (fun _ => ?_) (fun h => by cases h)
 refine W_seq <| W_q [] (.n 6 (sl none 0 0) (.n 7 (I 7) .z)) qe (by kernel_rfl) ?_
 refine At_go <| W_ret (At_tr ?_)
 have k_2 := k_1.nil e8
 obtain rfl := Option.some.inj hm
 refine At_rt [sl none 0 0, I 7] qe (by kernel_rfl) ?_
 exact ⟨none, 0, 0, k_2.len 0 rfl, rfl, k_2⟩

-- (*quern/mac.Ring).none
theorem c_mac_Ring_none_s1 {F O : Nat → Prop} {w : World} (r_k : Int) (r_n : Int) (g_r : Nat) (k : Cx F O w w [Bx 60 g_r [I r_k, I r_n, .v (.map none)]]) (r : (Int × Int)) (hm : m_mac_Ring_none_s1 r_k r_n = some r) :
    Calls Try.prog 45 (vals [pt g_r 0]) w (fun e w' => e = .returned (SV.val (.b true)) ∧ Cx F O w w' [Bx 60 g_r [I r.1, I r.2, .v (.map none)]]) := by
 unfold m_mac_Ring_none_s1 at hm
 refine calls [pt g_r 0] Try.func45 rfl (of_decide_eq_true (by kernel_rfl)) ?_
 refine W_seq <| W_q [] .a qe (by kernel_rfl) ?_
 refine At_go <| W_seq <| W_q [5] (.n 2 (.b true) .z) (qs g_r 0 <| qs g_r 0 <| qB k 0 rfl 2 (.v (.map none)) (by kernel_rfl) <| qe) (by kernel_rfl) ?_
 refine At_go <| W_ret ?_
 obtain rfl := Option.some.inj hm
 refine At_rt [.b true] qe (by kernel_rfl) ?_
 exact ⟨rfl, k⟩

-- (*quern/mac.Ring).Tag
theorem c_mac_Ring_Tag_s1 {F O : Nat → Prop} {w : World} (r_k : Int) (r_n : Int) (name : List UInt8) (data : List UInt8) (g_r : Nat) (A_data : Option Addr) (n_data : Nat) (c_data : Nat) (h_data : Ro F w A_data (e8.all data)) (hn_data : data.length = n_data) (hc_data : n_data ≤ c_data) (k : Cx F O w w [Bx 60 g_r [I r_k, I r_n, .v (.map none)]]) (r : (List UInt8 × Int × Int)) (hm : m_mac_Ring_Tag_s1 r_k r_n name data = some r) :
    Calls Try.prog 26 (vals [pt g_r 0, .s name, sl A_data n_data c_data]) w (fun e w' => ∃ A n c, r.1.length = n ∧ e = .returned (SV.val (.tup [sl A n c, I 7])) ∧ Cx F O w w' [Ow e8 A n c r.1, Bx 60 g_r [I r.2.1, I r.2.2, .v (.map none)]]) := by
 unfold m_mac_Ring_Tag_s1 at hm
 subst hn_data
 refine calls [pt g_r 0, .s name, sl A_data data.length c_data] Try.func26 rfl (of_decide_eq_true (by kernel_rfl)) ?_
 refine W_seq <| W_q [] .a qe (by kernel_rfl) ?_
 refine At_go <| W_seq <| W_seq <| W_reg <| WLs 1 [] (.n 10 (pt g_r 0) .a) qe (by kernel_rfl) ?_
 refine WL_op ?_
 obtain ⟨r_, h_r_, hm⟩ := ob hm
 obtain ⟨F1, O1, kin, hO, hre, hF, hb⟩ := k.go (.i .e)
 refine Op_call [] 11 _ yt_go45 (by kernel_rfl) (c_mac_Ring_none_s1 (F := F1) (O := O1) _ _ _ kin _ h_r_) ?_
 rintro e_ w_ ⟨rfl, k_⟩
 have k_1 := hb w_ _ _ k_ (.c .n)
 refine ⟨.b true, rfl, ?_⟩
 refine WL_nil <| At_go <| W_cond true (by kernel_rfl) (fun _ => ?_) (fun h => by cases h)
 refine W_seq <| W_q [] (.n 6 (sl none 0 0) (.n 7 (I 7) .z)) qe (by kernel_rfl) ?_
 refine At_go <| W_ret (At_tr ?_)
 have k_2 := k_1.nil e8
 obtain rfl := Option.some.inj hm
 refine At_rt [sl none 0 0, I 7] qe (by kernel_rfl) ?_
 have k_3 := (k_2.pk .h).pk (.t .h)
 exact ⟨none, 0, 0, k_3.len 0 rfl, rfl, k_3⟩

-- (*quern/mac.Ring).Who
theorem c_mac_Ring_Who {F O : Nat → Prop} {w : World} (tag : List UInt8) (data : List UInt8) (A_tag : Option Addr) (n_tag : Nat) (c_tag : Nat) (A_data : Option Addr) (n_data : Nat) (c_data : Nat) (h_tag : Ro F w A_tag (e8.all tag)) (hn_tag : tag.length = n_tag) (hc_tag : n_tag ≤ c_tag) (h_data : Ro F w A_data (e8.all data)) (hn_data : data.length = n_data) (hc_data : n_data ≤ c_data) (k : Cx F O w w []) (r : Unit) (hm : m_mac_Ring_Who tag data = some r) :
    Calls Try.prog 27 (vals [.v (.pointer none), sl A_tag n_tag c_tag, sl A_data n_data c_data]) w (fun e w' => e = .returned (SV.val (.tup [.s ([] : List UInt8), .b false, I 7])) ∧ Cx F O w w' []) := by
 unfold m_mac_Ring_Who at hm
 subst hn_tag
 subst hn_data
 refine calls [.v (.pointer none), sl A_tag tag.length c_tag, sl A_data data.length c_data] Try.func27 rfl (of_decide_eq_true (by kernel_rfl)) ?_
 refine W_seq <| W_q [] .a qe (by kernel_rfl) ?_
 refine At_go <| W_seq <| W_seq <| W_reg <| WLs 1 [] (.n 13 (.v (.pointer none)) .a) qe (by kernel_rfl) ?_
 refine WL_op ?_
 obtain ⟨r_, h_r_, hm⟩ := ob hm
 refine Op_call [] 14 _ yt_go45 (by kernel_rfl) (c_mac_Ring_none (F := N0) (O := N0)  (Cx.refl _) _ h_r_) ?_
 rintro e_ w_ ⟨rfl, k_⟩
 have k_1 := k.call k_
 refine ⟨.b true, rfl, ?_⟩
 refine WL_nil <| At_go <| W_cond true (by kernel_rfl) (fun _ => ?_) (fun h => by cases h)
 refine W_seq <| W_q [] (.n 6 (.s ([] : List UInt8)) (.n 7 (.b false) (.n 8 (I 7) .z))) qe (by kernel_rfl) ?_
 refine At_go <| W_ret (At_tr ?_)
 obtain rfl := Option.some.inj hm
 refine At_rt [.s ([] : List UInt8), .b false, I 7] qe (by kernel_rfl) ?_
 exact ⟨rfl, k_1⟩

-- (*quern/mac.Ring).Who
theorem c_mac_Ring_Who_s1 {F O : Nat → Prop} {w : World} (r_k : Int) (r_n : Int) (tag : List UInt8) (data : List UInt8) (g_r : Nat) (A_tag : Option Addr) (n_tag : Nat) (c_tag : Nat) (A_data : Option Addr) (n_data : Nat) (c_data : Nat) (h_tag : Ro F w A_tag (e8.all tag)) (hn_tag : tag.length = n_tag) (hc_tag : n_tag ≤ c_tag) (h_data : Ro F w A_data (e8.all data)) (hn_data : data.length = n_data) (hc_data : n_data ≤ c_data) (k : Cx F O w w [Bx 60 g_r [I r_k, I r_n, .v (.map none)]]) (r : (Int × Int)) (hm : m_mac_Ring_Who_s1 r_k r_n tag data = some r) :
    Calls Try.prog 27 (vals [pt g_r 0, sl A_tag n_tag c_tag, sl A_data n_data c_data]) w (fun e w' => e = .returned (SV.val (.tup [.s ([] : List UInt8), .b false, I 7])) ∧ Cx F O w w' [Bx 60 g_r [I r.1, I r.2, .v (.map none)]]) := by
 unfold m_mac_Ring_Who_s1 at hm
 subst hn_tag
 subst hn_data
 refine calls [pt g_r 0, sl A_tag tag.length c_tag, sl A_data data.length c_data] Try.func27 rfl (of_decide_eq_true (by kernel_rfl)) ?_
 refine W_seq <| W_q [] .a qe (by kernel_rfl) ?_
 refine At_go <| W_seq <| W_seq <| W_reg <| WLs 1 [] (.n 13 (pt g_r 0) .a) qe (by kernel_rfl) ?_
 refine WL_op ?_
 obtain ⟨r_, h_r_, hm⟩ := ob hm
 obtain ⟨F1, O1, kin, hO, hre, hF, hb⟩ := k.go (.i .e)
 refine Op_call [] 14 _ yt_go45 (by kernel_rfl) (c_mac_Ring_none_s1 (F := F1) (O := O1) _ _ _ kin _ h_r_) ?_
 rintro e_ w_ ⟨rfl, k_⟩
 have k_1 := hb w_ _ _ k_ (.c .n)
 refine ⟨.b true, rfl, ?_⟩
 refine WL_nil <| At_go <| W_cond true (by kernel_rfl) (fun _ => ?_) (fun h => by cases h)
 refine W_seq <| W_q [] (.n 6 (.s ([] : List UInt8)) (.n 7 (.b false) (.n 8 (I 7) .z))) qe (by kernel_rfl) ?_
 refine At_go <| W_ret (At_tr ?_)
 obtain rfl := Option.some.inj hm
 refine At_rt [.s ([] : List UInt8), .b false, I 7] qe (by kernel_rfl) ?_
 exact ⟨rfl, k_1⟩

-- (*quern/mac.Ring).Add
theorem c_mac_Ring_Add {F O : Nat → Prop} {w : World} (name : List UInt8) (key : List UInt8) (A_key : Option Addr) (n_key : Nat) (c_key : Nat) (h_key : Ro F w A_key (e8.all key)) (hn_key : key.length = n_key) (hc_key : n_key ≤ c_key) (k : Cx F O w w []) (r : Unit) (hm : m_mac_Ring_Add name key = some r) :
    Calls Try.prog 28 (vals [.v (.pointer none), .s name, sl A_key n_key c_key]) w (fun e w' => e = .returned (SV.val (I 7)) ∧ Cx F O w w' []) := by
 unfold m_mac_Ring_Add at hm
 subst hn_key
 refine calls [.v (.pointer none), .s name, sl A_key key.length c_key] Try.func28 rfl (of_decide_eq_true (by kernel_rfl)) ?_
 refine W_seq <| W_q [] .a qe (by kernel_rfl) ?_
 refine At_go <| W_seq <| W_seq <| W_reg <| WLs 1 [] (.n 9 (.v (.pointer none)) .a) qe (by kernel_rfl) ?_
 refine WL_op ?_
 obtain ⟨r_, h_r_, hm⟩ := ob hm
 refine Op_call [] 10 _ yt_go45 (by kernel_rfl) (c_mac_Ring_none (F := N0) (O := N0)  (Cx.refl _) _ h_r_) ?_
 rintro e_ w_ ⟨rfl, k_⟩
 have k_1 := k.call k_
 refine ⟨.b true, rfl, ?_⟩
 refine WL_nil <| At_go <| W_cond true (by kernel_rfl) (fun _ => ?_) (fun h => by cases h)
 refine W_seq <| W_q [] (.n 6 (I 7) .z) qe (by kernel_rfl) ?_
 refine At_go <| W_ret (At_tr ?_)
 obtain rfl := Option.some.inj hm
 refine At_rt [I 7] qe (by kernel_rfl) ?_
 exact ⟨rfl, k_1⟩

-- (*quern/mac.Ring).Add
theorem c_mac_Ring_Add_s1 {F O : Nat → Prop} {w : World} (r_k : Int) (r_n : Int) (name : List UInt8) (key : List UInt8) (g_r : Nat) (A_key : Option Addr) (n_key : Nat) (c_key : Nat) (h_key : Ro F w A_key (e8.all key)) (hn_key : key.length = n_key) (hc_key : n_key ≤ c_key) (k : Cx F O w w [Bx 60 g_r [I r_k, I r_n, .v (.map none)]]) (r : (Int × Int)) (hm : m_mac_Ring_Add_s1 r_k r_n name key = some r) :
    Calls Try.prog 28 (vals [pt g_r 0, .s name, sl A_key n_key c_key]) w (fun e w' => e = .returned (SV.val (I 7)) ∧ Cx F O w w' [Bx 60 g_r [I r.1, I r.2, .v (.map none)]]) := by
 unfold m_mac_Ring_Add_s1 at hm
 subst hn_key
 refine calls [pt g_r 0, .s name, sl A_key key.length c_key] Try.func28 rfl (of_decide_eq_true (by kernel_rfl)) ?_
 refine W_seq <| W_q [] .a qe (by kernel_rfl) ?_
 refine At_go <| W_seq <| W_seq <| W_reg <| WLs 1 [] (.n 9 (pt g_r 0) .a) qe (by kernel_rfl) ?_
 refine WL_op ?_
 obtain ⟨r_, h_r_, hm⟩ := ob hm
 obtain ⟨F1, O1, kin, hO, hre, hF, hb⟩ := k.go (.i .e)
 refine Op_call [] 10 _ yt_go45 (by kernel_rfl) (c_mac_Ring_none_s1 (F := F1) (O := O1) _ _ _ kin _ h_r_) ?_
 rintro e_ w_ ⟨rfl, k_⟩
 have k_1 := hb w_ _ _ k_ (.c .n)
 refine ⟨.b true, rfl, ?_⟩
 refine WL_nil <| At_go <| W_cond true (by kernel_rfl) (fun _ => ?_) (fun h => by cases h)
 refine W_seq <| W_q [] (.n 6 (I 7) .z) qe (by kernel_rfl) ?_
 refine At_go <| W_ret (At_tr ?_)
 obtain rfl := Option.some.inj hm
 refine At_rt [I 7] qe (by kernel_rfl) ?_
 exact ⟨rfl, k_1⟩

-- (*quern/mac.Ring).Drop
theorem c_mac_Ring_Drop {F O : Nat → Prop} {w : World} (name : List UInt8) (k : Cx F O w w []) (r : Unit) (hm : m_mac_Ring_Drop name = some r) :
    Calls Try.prog 29 (vals [.v (.pointer none), .s name]) w (fun e w' => e = .returned (SV.val (I 7)) ∧ Cx F O w w' []) := by
 unfold m_mac_Ring_Drop at hm
 refine calls [.v (.pointer none), .s name] Try.func29 rfl (of_decide_eq_true (by kernel_rfl)) ?_
 refine W_seq <| W_q [] .a qe (by kernel_rfl) ?_
 refine At_go <| W_seq <| W_seq <| W_reg <| WLs 1 [] (.n 7 (.v (.pointer none)) .a) qe (by kernel_rfl) ?_
 refine WL_op ?_
 obtain ⟨r_, h_r_, hm⟩ := ob hm
 refine Op_call [] 8 _ yt_go45 (by kernel_rfl) (c_mac_Ring_none (F := N0) (O := N0)  (Cx.refl _) _ h_r_) ?_
 rintro e_ w_ ⟨rfl, k_⟩
 have k_1 := k.call k_
 refine ⟨.b true, rfl, ?_⟩
 refine WL_nil <| At_go <| W_cond true (by kernel_rfl) (fun _ => ?_) (fun h => by cases h)
 refine W_seq <| W_q [] (.n 4 (I 7) .z) qe (by kernel_rfl) ?_
 refine At_go <| W_ret (At_tr ?_)
 obtain rfl := Option.some.inj hm
 refine At_rt [I 7] qe (by kernel_rfl) ?_
 exact ⟨rfl, k_1⟩

-- (*quern/mac.Ring).Drop
theorem c_mac_Ring_Drop_s1 {F O : Nat → Prop} {w : World} (r_k : Int) (r_n : Int) (name : List UInt8) (g_r : Nat) (k : Cx F O w w [Bx 60 g_r [I r_k, I r_n, .v (.map none)]]) (r : (Int × Int)) (hm : m_mac_Ring_Drop_s1 r_k r_n name = some r) :
    Calls Try.prog 29 (vals [pt g_r 0, .s name]) w (fun e w' => e = .returned (SV.val (I 7)) ∧ Cx F O w w' [Bx 60 g_r [I r.1, I r.2, .v (.map none)]]) := by
 unfold m_mac_Ring_Drop_s1 at hm
 refine calls [pt g_r 0, .s name] Try.func29 rfl (of_decide_eq_true (by kernel_rfl)) ?_
 refine W_seq <| W_q [] .a qe (by kernel_rfl) ?_
 refine At_go <| W_seq <| W_seq <| W_reg <| WLs 1 [] (.n 7 (pt g_r 0) .a) qe (by kernel_rfl) ?_
 refine WL_op ?_
 obtain ⟨r_, h_r_, hm⟩ := ob hm
 obtain ⟨F1, O1, kin, hO, hre, hF, hb⟩ := k.go (.i .e)
 refine Op_call [] 8 _ yt_go45 (by kernel_rfl) (c_mac_Ring_none_s1 (F := F1) (O := O1) _ _ _ kin _ h_r_) ?_
 rintro e_ w_ ⟨rfl, k_⟩
 have k_1 := hb w_ _ _ k_ (.c .n)
 refine ⟨.b true, rfl, ?_⟩
 refine WL_nil <| At_go <| W_cond true (by kernel_rfl) (fun _ => ?_) (fun h => by cases h)
 refine W_seq <| W_q [] (.n 4 (I 7) .z) qe (by kernel_rfl) ?_
 refine At_go <| W_ret (At_tr ?_)
 obtain rfl := Option.some.inj hm
 refine At_rt [I 7] qe (by kernel_rfl) ?_
 exact ⟨rfl, k_1⟩

-- (*quern/mac.Ring).Names
theorem c_mac_Ring_Names {F O : Nat → Prop} {w : World} (k : Cx F O w w []) (r : (List (List UInt8))) (hm : m_mac_Ring_Names = some r) :
    Calls Try.prog 30 (vals [.v (.pointer none)]) w (fun e w' => ∃ A n c, r.length = n ∧ e = .returned (SV.val (sl A n c)) ∧ Cx F O w w' [Ow eS A n c r]) := by
 unfold m_mac_Ring_Names at hm
 refine calls [.v (.pointer none)] Try.func30 rfl (of_decide_eq_true (by kernel_rfl)) ?_
 refine W_seq <| W_q [] .a qe (by kernel_rfl) ?_
 refine At_go <| W_seq <| W_seq <| W_reg <| WLs 1 [] (.n 5 (.v (.pointer none)) .a) qe (by kernel_rfl) ?_
 refine WL_op ?_
 obtain ⟨r_, h_r_, hm⟩ := ob hm
 refine Op_call [] 6 _ yt_go45 (by kernel_rfl) (c_mac_Ring_none (F := N0) (O := N0)  (Cx.refl _) _ h_r_) ?_
 rintro e_ w_ ⟨rfl, k_⟩
 have k_1 := k.call k_
 refine ⟨.b true, rfl, ?_⟩
 refine WL_nil <| At_go <| W_cond true (by kernel_rfl) (fun _ => ?_) (fun h => by cases h)
 refine W_seq <| W_q [] (.n 2 (sl none 0 0) .z) qe (by kernel_rfl) ?_
 refine At_go <| W_ret (At_tr ?_)
 have k_2 := k_1.nil eS
 obtain rfl := Option.some.inj hm
 refine At_rt [sl none 0 0] qe (by kernel_rfl) ?_
 exact ⟨none, 0, 0, k_2.len 0 rfl, rfl, k_2⟩

-- (*quern/mac.Ring).Names
theorem c_mac_Ring_Names_s1 {F O : Nat → Prop} {w : World} (r_k : Int) (r_n : Int) (g_r : Nat) (k : Cx F O w w [Bx 60 g_r [I r_k, I r_n, .v (.map none)]]) (r : (List (List UInt8) × Int × Int)) (hm : m_mac_Ring_Names_s1 r_k r_n = some r) :
    Calls Try.prog 30 (vals [pt g_r 0]) w (fun e w' => ∃ A n c, r.1.length = n ∧ e = .returned (SV.val (sl A n c)) ∧ Cx F O w w' [Ow eS A n c r.1, Bx 60 g_r [I r.2.1, I r.2.2, .v (.map none)]]) := by
 unfold m_mac_Ring_Names_s1 at hm
 refine calls [pt g_r 0] Try.func30 rfl (of_decide_eq_true (by kernel_rfl)) ?_
 refine W_seq <| W_q [] .a qe (by kernel_rfl) ?_
 refine At_go <| W_seq <| W_seq <| W_reg <| WLs 1 [] (.n 5 (pt g_r 0) .a) qe (by kernel_rfl) ?_
 refine WL_op ?_
 obtain ⟨r_, h_r_, hm⟩ := ob hm
 obtain ⟨F1, O1, kin, hO, hre, hF, hb⟩ := k.go (.i .e)
 refine Op_call [] 6 _ yt_go45 (by kernel_rfl) (c_mac_Ring_none_s1 (F := F1) (O := O1) _ _ _ kin _ h_r_) ?_
 rintro e_ w_ ⟨rfl, k_⟩
 have k_1 := hb w_ _ _ k_ (.c .n)
 refine ⟨.b true, rfl, ?_⟩
 refine WL_nil <| At_go <| W_cond true (by kernel_rfl) (fun _ => ?_) (fun h => by cases h)
 refine W_seq <| W_q [] (.n 2 (sl none 0 0) .z) qe (by kernel_rfl) ?_
 refine At_go <| W_ret (At_tr ?_)
 have k_2 := k_1.nil eS
 obtain rfl := Option.some.inj hm
 refine At_rt [sl none 0 0] qe (by kernel_rfl) ?_
 have k_3 := (k_2.pk .h).pk (.t .h)
 exact ⟨none, 0, 0, k_3.len 0 rfl, rfl, k_3⟩

-- quern/quernlaw06.MacZero
theorem c_l06_MacZero {F O : Nat → Prop} {w : World} (o_What : Int) (o_Name : List UInt8) (o_Key : List UInt8) (o_Data : List UInt8) (A_o_Key : Option Addr) (n_o_Key : Nat) (c_o_Key : Nat) (A_o_Data : Option Addr) (n_o_Data : Nat) (c_o_Data : Nat) (h_o_Key : Ro F w A_o_Key (e8.all o_Key)) (hn_o_Key : o_Key.length = n_o_Key) (hc_o_Key : n_o_Key ≤ c_o_Key) (h_o_Data : Ro F w A_o_Data (e8.all o_Data)) (hn_o_Data : o_Data.length = n_o_Data) (hc_o_Data : n_o_Data ≤ c_o_Data) (k : Cx F O w w []) (r : Bool) (hm : m_l06_MacZero o_What o_Name o_Key o_Data = some r) :
    Calls Try.prog 8 (vals [.agg [I o_What, .s o_Name, sl A_o_Key n_o_Key c_o_Key, sl A_o_Data n_o_Data c_o_Data]]) w (fun e w' => e = .returned (SV.val (.b r)) ∧ Cx F O w w' []) := by
 unfold m_l06_MacZero at hm
 subst hn_o_Key
 subst hn_o_Data
 refine calls [.agg [I o_What, .s o_Name, sl A_o_Key o_Key.length c_o_Key, sl A_o_Data o_Data.length c_o_Data]] Try.func8 rfl (of_decide_eq_true (by kernel_rfl)) ?_
 refine W_seq <| W_reg <| WL_op <| Op_box [] 1 (.agg [I o_What, .s o_Name, sl A_o_Key o_Key.length c_o_Key, sl A_o_Data o_Data.length c_o_Data]) [I o_What, .s o_Name, sl A_o_Key o_Key.length c_o_Key, sl A_o_Data o_Data.length c_o_Data] (by kernel_rfl) k ?_
 intro g w_ k_
 refine WLs 1 [] (.k .z) qe (by kernel_rfl) ?_
 refine WL_nil <| At_go <| W_seq <| W_q [] (.n 3 (.v (.pointer none)) .a) qe (by kernel_rfl) ?_
 refine At_go <| W_seq <| W_reg <| WL_op <| Op_alloc [] 4 [I 0, I 0, .v (.map none)] (by kernel_rfl) k_ ?_
 intro g1 w_1 k_1
 refine WL_nil <| At_go <| W_seq <| W_reg <| WLs 5 [] (.n 16 (.v (.pointer none)) (.n 18 (.s o_Name) (.n 20 (sl A_o_Data o_Data.length c_o_Data) .a))) (qs g 0 <| qB k_1 0 rfl 1 (.s o_Name) (by kernel_rfl) <| qs g 0 <| qB k_1 0 rfl 3 (sl A_o_Data o_Data.length c_o_Data) (by kernel_rfl) <| qe) (by kernel_rfl) ?_
 refine WL_op ?_
 obtain ⟨r_, h_r_, hm⟩ := ob hm
 refine Op_call [] 21 _ yt_go26 (by kernel_rfl) (c_mac_Ring_Tag (F := N0) (O := N0) _ _ _ _ _ (Ro.n0 (h_o_Data.cx k_1)) rfl hc_o_Data (Cx.refl _) _ h_r_) ?_
 rintro e_ w_2 ⟨A, _, c, rfl, rfl, k_2⟩
 have k_3 := k_1.call k_2
 refine ⟨.tup [sl A r_.length c, I 7], rfl, ?_⟩
 refine WLs 5 [] (.n 5 (sl A r_.length c) (.n 6 (I 7) (.ssss .a))) qe (by kernel_rfl) ?_
 refine WL_nil <| At_go <| W_seq <| W_reg <| WLs 4 [] (.n 26 (.s o_Name) (.n 28 (sl A_o_Data o_Data.length c_o_Data) .a)) (qs g 0 <| qB k_3 0 rfl 1 (.s o_Name) (by kernel_rfl) <| qs g 0 <| qB k_3 0 rfl 3 (sl A_o_Data o_Data.length c_o_Data) (by kernel_rfl) <| qe) (by kernel_rfl) ?_
 refine WL_op ?_
 obtain ⟨r_1, h_r_1, hm⟩ := ob hm
 obtain ⟨F1, O1, kin, hO, hre, hF, hb⟩ := k_3.go (.r (.i (.r .e)))
 refine Op_call [] 29 _ yt_go26 (by kernel_rfl) (c_mac_Ring_Tag_s1 (F := F1) (O := O1) _ _ _ _ _ _ _ _ (Ro.of_old h_o_Data k_3 hF) rfl hc_o_Data kin _ h_r_1) ?_
 rintro e_ w_3 ⟨A1, _, c1, rfl, rfl, k_4⟩
 have k_5 := hb w_3 _ _ k_4 (.c (.c .n))
 refine ⟨.tup [sl A1 r_1.1.length c1, I 7], rfl, ?_⟩
 refine WLs 5 [] (.n 7 (sl A1 r_1.1.length c1) (.n 8 (I 7) (.sss .a))) qe (by kernel_rfl) ?_
 refine WL_nil <| At_go <| W_seq <| W_reg <| WLs 5 [] (.n 33 (.v (.pointer none)) (.n 35 (sl A_o_Key o_Key.length c_o_Key) (.n 37 (sl A_o_Data o_Data.length c_o_Data) .a))) (qs g 0 <| qB k_5 2 rfl 2 (sl A_o_Key o_Key.length c_o_Key) (by kernel_rfl) <| qs g 0 <| qB k_5 2 rfl 3 (sl A_o_Data o_Data.length c_o_Data) (by kernel_rfl) <| qe) (by kernel_rfl) ?_
 refine WL_op ?_
 have k_6 := k_5.sel (.kkkk .e)
 obtain ⟨r_2, h_r_2, hm⟩ := ob hm
 refine Op_call [] 38 _ yt_go27 (by kernel_rfl) (c_mac_Ring_Who (F := N0) (O := N0) _ _ _ _ _ _ _ _ (Ro.n0 (h_o_Key.cx k_6)) rfl hc_o_Key (Ro.n0 (h_o_Data.cx k_6)) rfl hc_o_Data (Cx.refl _) _ h_r_2) ?_
 rintro e_ w_4 ⟨rfl, k_7⟩
 have k_8 := k_6.call k_7
 refine ⟨.tup [.s ([] : List UInt8), .b false, I 7], rfl, ?_⟩
 refine WLs 7 [] (.n 9 (.s ([] : List UInt8)) (.n 10 (.b false) (.n 11 (I 7) (.ssss .a)))) qe (by kernel_rfl) ?_
 refine WL_nil <| At_go <| W_seq <| W_reg <| WLs 4 [] (.n 44 (sl A_o_Key o_Key.length c_o_Key) (.n 46 (sl A_o_Data o_Data.length c_o_Data) .a)) (qs g 0 <| qB k_8 2 rfl 2 (sl A_o_Key o_Key.length c_o_Key) (by kernel_rfl) <| qs g 0 <| qB k_8 2 rfl 3 (sl A_o_Data o_Data.length c_o_Data) (by kernel_rfl) <| qe) (by kernel_rfl) ?_
 refine WL_op ?_
 obtain ⟨r_3, h_r_3, hm⟩ := ob hm
 obtain ⟨F11, O11, kin1, hO1, hre1, hF1, hb1⟩ := k_8.go (.r (.i (.r (.r .e))))
 refine Op_call [] 47 _ yt_go27 (by kernel_rfl) (c_mac_Ring_Who_s1 (F := F11) (O := O11) _ _ _ _ _ _ _ _ _ _ _ (Ro.of_old h_o_Key k_8 hF1) rfl hc_o_Key (Ro.of_old h_o_Data k_8 hF1) rfl hc_o_Data kin1 _ h_r_3) ?_
 rintro e_ w_5 ⟨rfl, k_9⟩
 have k_10 := hb1 w_5 _ _ k_9 (.c .n)
 refine ⟨.tup [.s ([] : List UInt8), .b false, I 7], rfl, ?_⟩
 refine WLs 7 [] (.n 12 (.s ([] : List UInt8)) (.n 13 (.b false) (.n 14 (I 7) (.sss .a)))) qe (by kernel_rfl) ?_
 refine WL_nil <| At_go <| W_seq <| W_seq <| W_q [] (.n 88 (.b ((((((((((decide (((r_.length : Nat) : Int) ≠ 0)) || (decide (((r_1.1.length : Nat) : Int) ≠ 0))) || (decide (([] : List UInt8) ≠ ([] : List UInt8)))) || (decide (([] : List UInt8) ≠ ([] : List UInt8)))) || false) || false) || (decide (7 ≠ 7))) || (decide (7 ≠ 7))) || (decide (7 ≠ 7))) || (decide (7 ≠ 7)))) (.ssss (.ssss (.ss .a)))) qe (by kernel_rfl) ?_
 refine At_go <| W_cond ((((((((((decide (((r_.length : Nat) : Int) ≠ 0)) || (decide (((r_1.1.length : Nat) : Int) ≠ 0))) || (decide (([] : List UInt8) ≠ ([] : List UInt8)))) || (decide (([] : List UInt8) ≠ ([] : List UInt8)))) || false) || false) || (decide (7 ≠ 7))) || (decide (7 ≠ 7))) || (decide (7 ≠ 7))) || (decide (7 ≠ 7))) (by kernel_rfl) (fun hc => ?_) (fun hc => ?_)
 · rw [if_pos hc] at hm
   refine W_seq <| W_q [] (.n 2 (.b false) .z) qe (by kernel_rfl) ?_
   refine At_go <| W_ret (At_tr ?_)
   obtain rfl := Option.some.inj hm
   refine At_rt [.b false] qe (by kernel_rfl) ?_
   have k_11 := k_10.sel .z
   exact ⟨rfl, k_11⟩
 rw [if_neg (by rw [hc]; decide)] at hm
 refine W_skip <| At_go <| W_seq <| W_reg <| WLs 5 [] (.n 89 (.v (.pointer none)) (.n 91 (.s o_Name) (.n 93 (sl A_o_Key o_Key.length c_o_Key) (.s .a)))) (qs g 0 <| qB k_10 2 rfl 1 (.s o_Name) (by kernel_rfl) <| qs g 0 <| qB k_10 2 rfl 2 (sl A_o_Key o_Key.length c_o_Key) (by kernel_rfl) <| qe) (by kernel_rfl) ?_
 refine WL_op ?_
 obtain ⟨r_4, h_r_4, hm⟩ := ob hm
 refine Op_call [] 94 _ yt_go28 (by kernel_rfl) (c_mac_Ring_Add (F := N0) (O := N0) _ _ _ _ _ (Ro.n0 (h_o_Key.cx k_10)) rfl hc_o_Key (Cx.refl _) _ h_r_4) ?_
 rintro e_ w_6 ⟨rfl, k_12⟩
 have k_13 := k_10.call k_12
 refine ⟨I 7, rfl, ?_⟩
 have k_14 := k_13.sel (.k (.s (.k .z)))
 refine WLs 2 [] (.n 96 (.b (decide (7 = 7))) (.ssss .a)) qe (by kernel_rfl) ?_
 refine WL_sp 96 (decide (7 = 7)) (.s .a) (by kernel_rfl) (fun hg => ?_) (fun hg => ?_)
 · rw [if_pos (of_decide_eq_true hg)] at hm
   refine WLs 4 [96] (.n 98 (.s o_Name) (.n 100 (sl A_o_Key o_Key.length c_o_Key) .a)) (qs g 0 <| qB k_14 1 rfl 1 (.s o_Name) (by kernel_rfl) <| qs g 0 <| qB k_14 1 rfl 2 (sl A_o_Key o_Key.length c_o_Key) (by kernel_rfl) <| qe) (by kernel_rfl) ?_
   refine WL_op ?_
   obtain ⟨r_5, h_r_5, hm⟩ := ob hm
   obtain ⟨F12, O12, kin2, hO2, hre2, hF2, hb2⟩ := k_14.go (.i (.r .e))
   refine Op_call [96] 101 _ yt_go28 (by kernel_rfl) (c_mac_Ring_Add_s1 (F := F12) (O := O12) _ _ _ _ _ _ _ _ (Ro.of_old h_o_Key k_14 hF2) rfl hc_o_Key kin2 _ h_r_5) ?_
   rintro e_ w_7 ⟨rfl, k_15⟩
   have k_16 := hb2 w_7 _ _ k_15 (.c .n)
   refine ⟨I 7, rfl, ?_⟩
   refine WLs 3 [96] (.n 104 (.b (decide (7 = 7))) (.ssss .a)) qe (by kernel_rfl) ?_
   refine WL_sp 104 (decide (7 = 7)) (.s .a) (by kernel_rfl) (fun hg1 => ?_) (fun hg1 => ?_)
   · rw [if_pos (of_decide_eq_true hg1)] at hm
     refine WLs 3 [104] (.n 105 (.v (.pointer none)) (.n 107 (.s o_Name) .a)) (qs g 0 <| qB k_16 1 rfl 1 (.s o_Name) (by kernel_rfl) <| qe) (by kernel_rfl) ?_
     refine WL_op ?_
     have k_17 := k_16.sel (.kk .e)
     obtain ⟨r_6, h_r_6, hm⟩ := ob hm
     refine Op_call [104] 108 _ yt_go29 (by kernel_rfl) (c_mac_Ring_Drop (F := N0) (O := N0) _ (Cx.refl _) _ h_r_6) ?_
     rintro e_ w_8 ⟨rfl, k_18⟩
     have k_19 := k_17.call k_18
     refine ⟨I 7, rfl, ?_⟩
     refine WLs 3 [104] (.n 111 (.b (decide (7 = 7))) (.ssss .a)) qe (by kernel_rfl) ?_
     refine WL_sp 111 (decide (7 = 7)) (.s .a) (by kernel_rfl) (fun hg2 => ?_) (fun hg2 => ?_)
     · rw [if_pos (of_decide_eq_true hg2)] at hm
       refine WLs 2 [111] (.n 113 (.s o_Name) (.kkk .z)) (qs g 0 <| qB k_19 1 rfl 1 (.s o_Name) (by kernel_rfl) <| qe) (by kernel_rfl) ?_
       refine WL_op ?_
       obtain ⟨r_7, h_r_7, hm⟩ := ob hm
       obtain ⟨F13, O13, kin3, hO3, hre3, hF3, hb3⟩ := k_19.go (.i (.r .e))
       refine Op_call [111] 114 _ yt_go29 (by kernel_rfl) (c_mac_Ring_Drop_s1 (F := F13) (O := O13) _ _ _ _ kin3 _ h_r_7) ?_
       rintro e_ w_9 ⟨rfl, k_20⟩
       have k_21 := hb3 w_9 _ _ k_20 (.c .n)
       refine ⟨I 7, rfl, ?_⟩
       have k_22 := k_21.sel (.k .z)
       refine WLs 3 [111] (.n 117 (.b (decide (7 = 7))) (.sss .a)) qe (by kernel_rfl) ?_
       refine WL_sp 117 (decide (7 = 7)) (.s .a) (by kernel_rfl) (fun hg3 => ?_) (fun hg3 => ?_)
       · rw [if_pos (of_decide_eq_true hg3)] at hm
         refine WLs 1 [117] (.n 118 (.v (.pointer none)) (.kk .z)) qe (by kernel_rfl) ?_
         refine WL_op ?_
         obtain ⟨r_8, h_r_8, hm⟩ := ob hm
         refine Op_call [117] 119 _ yt_go30 (by kernel_rfl) (c_mac_Ring_Names (F := N0) (O := N0)  (Cx.refl _) _ h_r_8) ?_
         rintro e_ w_10 ⟨A2, _, c2, rfl, rfl, k_23⟩
         have k_24 := k_22.call k_23
         refine ⟨sl A2 r_8.length c2, rfl, ?_⟩
         refine WLs 4 [117] (.n 123 (.b (decide (((r_8.length : Nat) : Int) = 0))) (.sss .a)) qe (by kernel_rfl) ?_
         refine WL_sp 123 (decide (((r_8.length : Nat) : Int) = 0)) (.s .a) (by kernel_rfl) (fun hg4 => ?_) (fun hg4 => ?_)
         · rw [if_pos (of_decide_eq_true hg4)] at hm
           refine WL_op ?_
           obtain ⟨r_9, h_r_9, hm⟩ := ob hm
           obtain ⟨F14, O14, kin4, hO4, hre4, hF4, hb4⟩ := k_24.go (.i (.r .e))
           refine Op_call [123] 124 _ yt_go30 (by kernel_rfl) (c_mac_Ring_Names_s1 (F := F14) (O := O14) _ _ _ kin4 _ h_r_9) ?_
           rintro e_ w_11 ⟨A3, _, c3, rfl, rfl, k_25⟩
           have k_26 := hb4 w_11 _ _ k_25 (.c (.c .n))
           refine ⟨sl A3 r_9.1.length c3, rfl, ?_⟩
           have k_27 := k_26.sel (.k .z)
           refine WLs 4 [123] (.n 2 (.b (decide (((r_9.1.length : Nat) : Int) = 0))) .z) qe (by kernel_rfl) ?_
           refine WL_nil <| At_go <| W_ret ?_
           obtain rfl := Option.some.inj hm
           refine At_rt [.b (decide (((r_9.1.length : Nat) : Int) = 0))] qe (by kernel_rfl) ?_
           have k_28 := k_27.sel .z
           exact ⟨rfl, k_28⟩
         · rw [if_neg (of_decide_eq_false hg4)] at hm
           refine WLs 5 [123] (.n 2 (.b false) .z) qe (by kernel_rfl) ?_
           refine WL_nil <| At_go <| W_ret ?_
           obtain rfl := Option.some.inj hm
           refine At_rt [.b false] qe (by kernel_rfl) ?_
           have k_29 := k_24.sel .z
           exact ⟨rfl, k_29⟩
       · rw [if_neg (of_decide_eq_false hg3)] at hm
         refine WLs 6 [117] (.n 123 (.b false) (.s (.k .z))) qe (by kernel_rfl) ?_
         refine WLs 5 [123] (.n 2 (.b false) .z) qe (by kernel_rfl) ?_
         refine WL_nil <| At_go <| W_ret ?_
         obtain rfl := Option.some.inj hm
         refine At_rt [.b false] qe (by kernel_rfl) ?_
         have k_30 := k_22.sel .z
         exact ⟨rfl, k_30⟩
     · rw [if_neg (of_decide_eq_false hg2)] at hm
       refine WLs 6 [111] (.n 117 (.b false) (.s (.kk .z))) qe (by kernel_rfl) ?_
       refine WLs 6 [117] (.n 123 (.b false) (.s (.k .z))) qe (by kernel_rfl) ?_
       refine WLs 5 [123] (.n 2 (.b false) .z) qe (by kernel_rfl) ?_
       refine WL_nil <| At_go <| W_ret ?_
       obtain rfl := Option.some.inj hm
       refine At_rt [.b false] qe (by kernel_rfl) ?_
       have k_31 := k_19.sel .z
       exact ⟨rfl, k_31⟩
   · rw [if_neg (of_decide_eq_false hg1)] at hm
     refine WLs 7 [104] (.n 111 (.b false) (.s .a)) qe (by kernel_rfl) ?_
     refine WLs 6 [111] (.n 117 (.b false) (.s (.kk .z))) qe (by kernel_rfl) ?_
     refine WLs 6 [117] (.n 123 (.b false) (.s (.k .z))) qe (by kernel_rfl) ?_
     refine WLs 5 [123] (.n 2 (.b false) .z) qe (by kernel_rfl) ?_
     refine WL_nil <| At_go <| W_ret ?_
     obtain rfl := Option.some.inj hm
     refine At_rt [.b false] qe (by kernel_rfl) ?_
     have k_32 := k_16.sel .z
     exact ⟨rfl, k_32⟩
 · rw [if_neg (of_decide_eq_false hg)] at hm
   refine WLs 8 [96] (.n 104 (.b false) (.s .a)) qe (by kernel_rfl) ?_
   refine WLs 7 [104] (.n 111 (.b false) (.s .a)) qe (by kernel_rfl) ?_
   refine WLs 6 [111] (.n 117 (.b false) (.s (.kk .z))) qe (by kernel_rfl) ?_
   refine WLs 6 [117] (.n 123 (.b false) (.s (.k .z))) qe (by kernel_rfl) ?_
   refine WLs 5 [123] (.n 2 (.b false) .z) qe (by kernel_rfl) ?_
   refine WL_nil <| At_go <| W_ret ?_
   obtain rfl := Option.some.inj hm
   refine At_rt [.b false] qe (by kernel_rfl) ?_
   have k_33 := k_14.sel .z
   exact ⟨rfl, k_33⟩
end Go.Sx
