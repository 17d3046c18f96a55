import Derived.Test.YtmknbdnofogmdaaGreatW13
namespace Go.Sx
open Go.RowKit Go.Proofs
set_option linter.unusedVariables false
set_option linter.unusedSimpArgs false
set_option maxRecDepth 20000

-- quern/mac.Make
noncomputable def m_mac_Make (k_ : Int) (n : Int) (key : List UInt8) (salt : List UInt8) (personal : List UInt8) (data : List UInt8) : Option (List UInt8 × Int) :=
  (m_mac_digest k_ n key salt personal data).bind fun r_ => some (r_.1, r_.2)
theorem c_mac_Make {F O : Nat → Prop} {w : World} (k_ : Int) (n : Int) (key : List UInt8) (salt : List UInt8) (personal : List UInt8) (data : List UInt8) (A_key : Option Addr) (n_key : Nat) (c_key : Nat) (A_salt : Option Addr) (n_salt : Nat) (c_salt : Nat) (A_personal : Option Addr) (n_personal : Nat) (c_personal : Nat) (A_data : Option Addr) (n_data : Nat) (c_data : Nat) (h_key : Ro F w A_key (e8.all key)) (hn_key : key.length = n_key) (hc_key : n_key ≤ c_key) (h_salt : Ro F w A_salt (e8.all salt)) (hn_salt : salt.length = n_salt) (hc_salt : n_salt ≤ c_salt) (h_personal : Ro F w A_personal (e8.all personal)) (hn_personal : personal.length = n_personal) (hc_personal : n_personal ≤ c_personal) (h_data : Ro F w A_data (e8.all data)) (hn_data : data.length = n_data) (hc_data : n_data ≤ c_data) (k : Cx F O w w []) (r : (List UInt8 × Int)) (hm : m_mac_Make k_ n key salt personal data = some r) :
    Calls Tryz.prog 11 (vals [I k_, I n, sl A_key n_key c_key, sl A_salt n_salt c_salt, sl A_personal n_personal c_personal, sl A_data n_data c_data]) w (fun e w' => ∃ A n1 c, r.1.length = n1 ∧ e = .returned (SV.val (.tup [sl A n1 c, I r.2])) ∧ Cx F O w w' [Ow e8 A n1 c r.1]) := by
 unfold m_mac_Make at hm
 subst hn_key
 subst hn_salt
 subst hn_personal
 subst hn_data
 refine calls [I k_, I n, sl A_key key.length c_key, sl A_salt salt.length c_salt, sl A_personal personal.length c_personal, sl A_data data.length c_data] Tryz.func11 rfl (of_decide_eq_true (by kernel_rfl)) ?_
 refine W_seq <| W_q [] .a qe (by kernel_rfl) ?_
 refine At_go <| W_seq <| W_reg <| WLs 6 [] (.n 14 (I k_) (.n 15 (I n) (.n 16 (sl A_key key.length c_key) (.n 17 (sl A_salt salt.length c_salt) (.n 18 (sl A_personal personal.length c_personal) (.n 19 (sl A_data data.length c_data) .z)))))) qe (by kernel_rfl) ?_
 refine WL_op ?_
 obtain ⟨r_, h_r_, hm⟩ := ob hm
 refine Op_call [] 20 _ yz_go41 (by kernel_rfl) (c_mac_digest (F := N0) (O := N0) _ _ _ _ _ _ _ _ _ _ _ _ _ _ _ _ _ _ (Ro.n0 (h_key.cx k)) rfl hc_key (Ro.n0 (h_salt.cx k)) rfl hc_salt (Ro.n0 (h_personal.cx k)) rfl hc_personal (Ro.n0 (h_data.cx k)) rfl hc_data (Cx.refl _) _ h_r_) ?_
 rintro e_ w_ ⟨A0, _, c0, rfl, rfl, k_1⟩
 have k_2 := k.call k_1
 refine ⟨.tup [sl A0 r_.1.length c0, I r_.2], rfl, ?_⟩
 refine WLs 4 [] (.n 12 (sl A0 r_.1.length c0) (.n 13 (I r_.2) .z)) qe (by kernel_rfl) ?_
 refine WL_nil <| At_go <| W_ret ?_
 obtain rfl := Option.some.inj hm
 refine At_rt [sl A0 r_.1.length c0, I r_.2] qe (by kernel_rfl) ?_
 exact ⟨A0, r_.1.length, c0, k_2.len 0 rfl, rfl, k_2⟩

-- quern/quernlaw06.MacMakes
noncomputable def m_l06_MacMakes (a_K : Int) (a_N : Int) (a_Key : List UInt8) (a_Salt : List UInt8) (a_Personal : List UInt8) (a_Data : List UInt8) (a_Tag : List UInt8) : Option Bool :=
  (m_mac_Sum a_K a_N a_Data).bind fun r_ => (m_r06_Sum a_K a_N a_Data).bind fun r_1 => if r_.2 ≠ r_1.2 then (some false) else ((m_l06_same r_.1 r_1.1).bind fun r_2 => if (!r_2) = true then (some false) else ((m_mac_Make a_K a_N a_Key a_Salt a_Personal a_Data).bind fun r_3 => (m_r06_Make a_K a_N a_Key a_Salt a_Personal a_Data).bind fun r_4 => if r_3.2 = r_4.2 then ((m_l06_same r_3.1 r_4.1).bind fun r_5 => some r_5) else (some false)))
theorem c_l06_MacMakes {F O : Nat → Prop} {w : World} (a_K : Int) (a_N : Int) (a_Key : List UInt8) (a_Salt : List UInt8) (a_Personal : List UInt8) (a_Data : List UInt8) (a_Tag : List UInt8) (A_a_Key : Option Addr) (n_a_Key : Nat) (c_a_Key : Nat) (A_a_Salt : Option Addr) (n_a_Salt : Nat) (c_a_Salt : Nat) (A_a_Personal : Option Addr) (n_a_Personal : Nat) (c_a_Personal : Nat) (A_a_Data : Option Addr) (n_a_Data : Nat) (c_a_Data : Nat) (A_a_Tag : Option Addr) (n_a_Tag : Nat) (c_a_Tag : Nat) (h_a_Key : Ro F w A_a_Key (e8.all a_Key)) (hn_a_Key : a_Key.length = n_a_Key) (hc_a_Key : n_a_Key ≤ c_a_Key) (h_a_Salt : Ro F w A_a_Salt (e8.all a_Salt)) (hn_a_Salt : a_Salt.length = n_a_Salt) (hc_a_Salt : n_a_Salt ≤ c_a_Salt) (h_a_Personal : Ro F w A_a_Personal (e8.all a_Personal)) (hn_a_Personal : a_Personal.length = n_a_Personal) (hc_a_Personal : n_a_Personal ≤ c_a_Personal) (h_a_Data : Ro F w A_a_Data (e8.all a_Data)) (hn_a_Data : a_Data.length = n_a_Data) (hc_a_Data : n_a_Data ≤ c_a_Data) (h_a_Tag : Ro F w A_a_Tag (e8.all a_Tag)) (hn_a_Tag : a_Tag.length = n_a_Tag) (hc_a_Tag : n_a_Tag ≤ c_a_Tag) (k : Cx F O w w []) (r : Bool) (hm : m_l06_MacMakes a_K a_N a_Key a_Salt a_Personal a_Data a_Tag = some r) :
    Calls Tryz.prog 3 (vals [.agg [I a_K, I a_N, sl A_a_Key n_a_Key c_a_Key, sl A_a_Salt n_a_Salt c_a_Salt, sl A_a_Personal n_a_Personal c_a_Personal, sl A_a_Data n_a_Data c_a_Data, sl A_a_Tag n_a_Tag c_a_Tag]]) w (fun e w' => e = .returned (SV.val (.b r)) ∧ Cx F O w w' []) := by
 unfold m_l06_MacMakes at hm
 subst hn_a_Key
 subst hn_a_Salt
 subst hn_a_Personal
 subst hn_a_Data
 subst hn_a_Tag
 refine calls [.agg [I a_K, I a_N, sl A_a_Key a_Key.length c_a_Key, sl A_a_Salt a_Salt.length c_a_Salt, sl A_a_Personal a_Personal.length c_a_Personal, sl A_a_Data a_Data.length c_a_Data, sl A_a_Tag a_Tag.length c_a_Tag]] Tryz.func3 rfl (of_decide_eq_true (by kernel_rfl)) ?_
 refine W_seq <| W_reg <| WL_op <| Op_box [] 1 (.agg [I a_K, I a_N, sl A_a_Key a_Key.length c_a_Key, sl A_a_Salt a_Salt.length c_a_Salt, sl A_a_Personal a_Personal.length c_a_Personal, sl A_a_Data a_Data.length c_a_Data, sl A_a_Tag a_Tag.length c_a_Tag]) [I a_K, I a_N, sl A_a_Key a_Key.length c_a_Key, sl A_a_Salt a_Salt.length c_a_Salt, sl A_a_Personal a_Personal.length c_a_Personal, sl A_a_Data a_Data.length c_a_Data, sl A_a_Tag a_Tag.length c_a_Tag] (by kernel_rfl) k ?_
 intro g w_ k_
 refine WLs 1 [] (.k .z) qe (by kernel_rfl) ?_
 refine WL_nil <| At_go <| W_seq <| W_reg <| WLs 6 [] (.n 9 (I a_K) (.n 11 (I a_N) (.n 13 (sl A_a_Data a_Data.length c_a_Data) .a))) (qs g 0 <| qB k_ 0 rfl 0 (I a_K) (by kernel_rfl) <| qs g 0 <| qB k_ 0 rfl 1 (I a_N) (by kernel_rfl) <| qs g 0 <| qB k_ 0 rfl 5 (sl A_a_Data a_Data.length c_a_Data) (by kernel_rfl) <| qe) (by kernel_rfl) ?_
 refine WL_op ?_
 obtain ⟨r_, h_r_, hm⟩ := ob hm
 refine Op_call [] 14 _ yz_go8 (by kernel_rfl) (c_mac_Sum (F := N0) (O := N0) _ _ _ _ _ _ (Ro.n0 (h_a_Data.cx k_)) rfl hc_a_Data (Cx.refl _) _ h_r_) ?_
 rintro e_ w_1 ⟨A, _, c, rfl, rfl, k_1⟩
 have k_2 := k_.call k_1
 refine ⟨.tup [sl A r_.1.length c, I r_.2], rfl, ?_⟩
 refine WLs 5 [] (.n 3 (sl A r_.1.length c) (.n 4 (I r_.2) (.ssss .a))) qe (by kernel_rfl) ?_
 refine WL_nil <| At_go <| W_seq <| W_reg <| WLs 6 [] (.n 19 (I a_K) (.n 21 (I a_N) (.n 23 (sl A_a_Data a_Data.length c_a_Data) .a))) (qs g 0 <| qB k_2 0 rfl 0 (I a_K) (by kernel_rfl) <| qs g 0 <| qB k_2 0 rfl 1 (I a_N) (by kernel_rfl) <| qs g 0 <| qB k_2 0 rfl 5 (sl A_a_Data a_Data.length c_a_Data) (by kernel_rfl) <| qe) (by kernel_rfl) ?_
 refine WL_op ?_
 obtain ⟨r_1, h_r_1, hm⟩ := ob hm
 refine Op_call [] 24 _ yz_go9 (by kernel_rfl) (c_r06_Sum (F := N0) (O := N0) _ _ _ _ _ _ (Ro.n0 (h_a_Data.cx k_2)) rfl hc_a_Data (Cx.refl _) _ h_r_1) ?_
 rintro e_ w_2 ⟨A1, _, c1, rfl, rfl, k_3⟩
 have k_4 := k_2.call k_3
 refine ⟨.tup [sl A1 r_1.1.length c1, I r_1.2], rfl, ?_⟩
 refine WLs 5 [] (.n 5 (sl A1 r_1.1.length c1) (.n 6 (I r_1.2) (.ssss .a))) qe (by kernel_rfl) ?_
 refine WL_nil <| At_go <| W_seq <| W_seq <| W_reg <| WLs 4 [] (.n 30 (.b (decide (r_.2 ≠ r_1.2))) (.k (.s (.k (.s .a))))) qe (by kernel_rfl) ?_
 refine WL_sp 30 (decide (r_.2 ≠ r_1.2)) (.s .a) (by kernel_rfl) (fun hg => ?_) (fun hg => ?_)
 · rw [if_pos (of_decide_eq_true hg)] at hm
   refine WLs 5 [30] (.n 35 (.b true) (.sss .a)) qe (by kernel_rfl) ?_
   refine WL_nil <| At_go <| W_cond true (by kernel_rfl) (fun _ => ?_) (fun h => by cases h)
   refine W_seq <| W_q [] (.n 2 (.b false) .z) qe (by kernel_rfl) ?_
   refine At_go <| W_ret (At_tr ?_)
   obtain rfl := Option.some.inj hm
   refine At_rt [.b false] qe (by kernel_rfl) ?_
   have k_5 := k_4.sel .z
   exact ⟨rfl, k_5⟩
 · rw [if_neg (of_decide_eq_false hg)] at hm
   refine WLs 2 [30] (.n 31 (sl A r_.1.length c) (.n 32 (sl A1 r_1.1.length c1) (.k (.ss .a)))) qe (by kernel_rfl) ?_
   refine WL_op ?_
   obtain ⟨r_2, h_r_2, hm⟩ := ob hm
   refine Op_call [30] 33 _ yz_go10 (by kernel_rfl) (c_l06_same (F := N0) (O := N0) _ _ _ _ _ _ _ _ (Ro.n0 (k_4.rd 1 rfl)) (k_4.len 1 rfl) (k_4.lec 1 rfl) (Ro.n0 (k_4.rd 2 rfl)) (k_4.len 2 rfl) (k_4.lec 2 rfl) (Cx.refl _) _ h_r_2) ?_
   rintro e_ w_3 ⟨rfl, k_6⟩
   have k_7 := k_4.call k_6
   refine ⟨.b r_2, rfl, ?_⟩
   have k_8 := k_7.sel (.k .z)
   refine WLs 2 [30] (.n 35 (.b (!r_2)) (.ssss .a)) qe (by kernel_rfl) ?_
   refine WL_nil <| At_go <| W_cond (!r_2) (by kernel_rfl) (fun hc => ?_) (fun hc => ?_)
   · rw [if_pos hc] at hm
     refine W_seq <| W_q [] (.n 2 (.b false) .z) qe (by kernel_rfl) ?_
     refine At_go <| W_ret (At_tr ?_)
     obtain rfl := Option.some.inj hm
     refine At_rt [.b false] qe (by kernel_rfl) ?_
     have k_9 := k_8.sel .z
     exact ⟨rfl, k_9⟩
   rw [if_neg (by rw [hc]; decide)] at hm
   refine W_skip <| At_go <| W_seq <| W_reg <| WLs 12 [] (.n 38 (I a_K) (.n 40 (I a_N) (.n 42 (sl A_a_Key a_Key.length c_a_Key) (.n 44 (sl A_a_Salt a_Salt.length c_a_Salt) (.n 46 (sl A_a_Personal a_Personal.length c_a_Personal) (.n 48 (sl A_a_Data a_Data.length c_a_Data) (.s .a))))))) (qs g 0 <| qB k_8 0 rfl 0 (I a_K) (by kernel_rfl) <| qs g 0 <| qB k_8 0 rfl 1 (I a_N) (by kernel_rfl) <| qs g 0 <| qB k_8 0 rfl 2 (sl A_a_Key a_Key.length c_a_Key) (by kernel_rfl) <| qs g 0 <| qB k_8 0 rfl 3 (sl A_a_Salt a_Salt.length c_a_Salt) (by kernel_rfl) <| qs g 0 <| qB k_8 0 rfl 4 (sl A_a_Personal a_Personal.length c_a_Personal) (by kernel_rfl) <| qs g 0 <| qB k_8 0 rfl 5 (sl A_a_Data a_Data.length c_a_Data) (by kernel_rfl) <| qe) (by kernel_rfl) ?_
   refine WL_op ?_
   have k_10 := k_8.sel (.k .e)
   obtain ⟨r_3, h_r_3, hm⟩ := ob hm
   refine Op_call [] 49 _ yz_go11 (by kernel_rfl) (c_mac_Make (F := N0) (O := N0) _ _ _ _ _ _ _ _ _ _ _ _ _ _ _ _ _ _ (Ro.n0 (h_a_Key.cx k_10)) rfl hc_a_Key (Ro.n0 (h_a_Salt.cx k_10)) rfl hc_a_Salt (Ro.n0 (h_a_Personal.cx k_10)) rfl hc_a_Personal (Ro.n0 (h_a_Data.cx k_10)) rfl hc_a_Data (Cx.refl _) _ h_r_3) ?_
   rintro e_ w_4 ⟨A2, _, c2, rfl, rfl, k_11⟩
   have k_12 := k_10.call k_11
   refine ⟨.tup [sl A2 r_3.1.length c2, I r_3.2], rfl, ?_⟩
   refine WLs 5 [] (.n 3 (sl A2 r_3.1.length c2) (.n 4 (I r_3.2) (.ssss (.sss .a)))) qe (by kernel_rfl) ?_
   refine WL_nil <| At_go <| W_seq <| W_reg <| WLs 12 [] (.n 54 (I a_K) (.n 56 (I a_N) (.n 58 (sl A_a_Key a_Key.length c_a_Key) (.n 60 (sl A_a_Salt a_Salt.length c_a_Salt) (.n 62 (sl A_a_Personal a_Personal.length c_a_Personal) (.n 64 (sl A_a_Data a_Data.length c_a_Data) (.kk .z))))))) (qs g 0 <| qB k_12 0 rfl 0 (I a_K) (by kernel_rfl) <| qs g 0 <| qB k_12 0 rfl 1 (I a_N) (by kernel_rfl) <| qs g 0 <| qB k_12 0 rfl 2 (sl A_a_Key a_Key.length c_a_Key) (by kernel_rfl) <| qs g 0 <| qB k_12 0 rfl 3 (sl A_a_Salt a_Salt.length c_a_Salt) (by kernel_rfl) <| qs g 0 <| qB k_12 0 rfl 4 (sl A_a_Personal a_Personal.length c_a_Personal) (by kernel_rfl) <| qs g 0 <| qB k_12 0 rfl 5 (sl A_a_Data a_Data.length c_a_Data) (by kernel_rfl) <| qe) (by kernel_rfl) ?_
   refine WL_op ?_
   obtain ⟨r_4, h_r_4, hm⟩ := ob hm
   refine Op_call [] 65 _ yz_go12 (by kernel_rfl) (c_r06_Make (F := N0) (O := N0) _ _ _ _ _ _ _ _ _ _ _ _ _ _ _ _ _ _ (Ro.n0 (h_a_Key.cx k_12)) rfl hc_a_Key (Ro.n0 (h_a_Salt.cx k_12)) rfl hc_a_Salt (Ro.n0 (h_a_Personal.cx k_12)) rfl hc_a_Personal (Ro.n0 (h_a_Data.cx k_12)) rfl hc_a_Data (Cx.refl _) _ h_r_4) ?_
   rintro e_ w_5 ⟨A3, _, c3, rfl, rfl, k_13⟩
   have k_14 := k_12.call k_13
   refine ⟨.tup [sl A3 r_4.1.length c3, I r_4.2], rfl, ?_⟩
   have k_15 := k_14.sel (.s (.kk .e))
   refine WLs 5 [] (.n 5 (sl A3 r_4.1.length c3) (.n 6 (I r_4.2) (.ssss (.sss .a)))) qe (by kernel_rfl) ?_
   refine WL_nil <| At_go <| W_seq <| W_reg <| WLs 4 [] (.n 71 (.b (decide (r_3.2 = r_4.2))) (.k (.s (.k .z)))) qe (by kernel_rfl) ?_
   refine WL_sp 71 (decide (r_3.2 = r_4.2)) (.s .a) (by kernel_rfl) (fun hg1 => ?_) (fun hg1 => ?_)
   · rw [if_pos (of_decide_eq_true hg1)] at hm
     refine WLs 2 [71] (.n 72 (sl A2 r_3.1.length c2) (.n 73 (sl A3 r_4.1.length c3) (.k .z))) qe (by kernel_rfl) ?_
     refine WL_op ?_
     obtain ⟨r_5, h_r_5, hm⟩ := ob hm
     refine Op_call [71] 74 _ yz_go10 (by kernel_rfl) (c_l06_same (F := N0) (O := N0) _ _ _ _ _ _ _ _ (Ro.n0 (k_15.rd 0 rfl)) (k_15.len 0 rfl) (k_15.lec 0 rfl) (Ro.n0 (k_15.rd 1 rfl)) (k_15.len 1 rfl) (k_15.lec 1 rfl) (Cx.refl _) _ h_r_5) ?_
     rintro e_ w_6 ⟨rfl, k_16⟩
     have k_17 := k_15.call k_16
     refine ⟨.b r_5, rfl, ?_⟩
     have k_18 := k_17.sel .z
     refine WLs 2 [71] (.n 2 (.b r_5) .z) qe (by kernel_rfl) ?_
     refine WL_nil <| At_go <| W_ret ?_
     obtain rfl := Option.some.inj hm
     refine At_rt [.b r_5] qe (by kernel_rfl) ?_
     exact ⟨rfl, k_18⟩
   · rw [if_neg (of_decide_eq_false hg1)] at hm
     refine WLs 5 [71] (.n 2 (.b false) .z) qe (by kernel_rfl) ?_
     refine WL_nil <| At_go <| W_ret ?_
     obtain rfl := Option.some.inj hm
     refine At_rt [.b false] qe (by kernel_rfl) ?_
     have k_19 := k_15.sel .z
     exact ⟨rfl, k_19⟩
end Go.Sx
