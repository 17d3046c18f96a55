import Derived.Test.YtlekdnlojpnlmaaW3
namespace Go.Sx
open Go.RowKit Go.Proofs
set_option linter.unusedVariables false
set_option linter.unusedSimpArgs false
set_option maxRecDepth 20000
variable {F O : Nat → Prop} {w : World}
theorem c_top_WholeStreams (kind : UInt8) (length : UInt16) (key : List UInt8) (data : List UInt8) (sizes : List UInt8) (A_key : Option Addr) (n_key : Nat) (c_key : Nat) (A_data : Option Addr) (n_data : Nat) (c_data : Nat) (A_sizes : Option Addr) (n_sizes : Nat) (c_sizes : Nat) (h_key : Ro F w A_key (e8.all key)) (hn_key : key.length = n_key) (hc_key : n_key ≤ c_key) (h_data : Ro F w A_data (e8.all data)) (hn_data : data.length = n_data) (hc_data : n_data ≤ c_data) (h_sizes : Ro F w A_sizes (e8.all sizes)) (hn_sizes : sizes.length = n_sizes) (hc_sizes : n_sizes ≤ c_sizes) (k : Cx F O w w []) (r : Bool) (hm : m_top_WholeStreams kind length key data sizes = some r) :
    Calls Try.prog 3 (vals [.u8 kind, .u16 length, sl A_key n_key c_key, sl A_data n_data c_data, sl A_sizes n_sizes c_sizes]) w (fun e w' => e = .returned (SV.val (.b r)) ∧ Cx F O w w' []) := by
 unfold m_top_WholeStreams at hm
 subst hn_key
 subst hn_data
 subst hn_sizes
 refine calz [.u8 kind, .u16 length, sl A_key key.length c_key, sl A_data data.length c_data, sl A_sizes sizes.length c_sizes] Try.func3 rfl ?_
 refine W_seq <| Wq .a ?_
 refine W_seq <| Wa (.n 11 (I (((1 : UInt8) + (kind % 2)).toNat : Int)) (.s .a)) (qp ((2 : UInt8) ≠ 0) (by show (2 : UInt8) ≠ 0; decide) <| qe) ?_
 refine W_seq <| Wa (.n 12 (I (w64 (1 + (Int.tmod (length.toNat : Int) 3000)))) (.k (.s .a))) (qp ((3000 : Int) ≠ (0 : Int)) (by omega) <| qe) ?_
 refine W_seq <| Wq (.n 13 (.s ([98, 108, 97, 107, 101, 50, 120, 98] : List UInt8)) .a) ?_
 refine W_cut (fun L wr => ∃ (name : List UInt8), m_top_WholeStreams_j0 kind length key data sizes name = some r ∧ L = [(2, sl A_key key.length c_key), (3, sl A_data data.length c_data), (4, sl A_sizes sizes.length c_sizes), (11, I (((1 : UInt8) + (kind % 2)).toNat : Int)), (12, I (w64 (1 + (Int.tmod (length.toNat : Int) 3000)))), (13, .s name)] ∧ Cx F O w wr []) ?_ ?_
 ·
  refine W_seq <| Wq (.n 34 (.b (decide ((((1 : UInt8) + (kind % 2)).toNat : Int) = 2))) .a) ?_
  refine W_pz ((((1 : UInt8) + (kind % 2)).toNat : Int) = 2) (fun hc => ?_) fun hc => ?_
  · rw [if_pos hc] at hm
    refine W_q [] (.n 13 (.s ([98, 108, 97, 107, 101, 50, 120, 115] : List UInt8)) (.ss .a)) qe (by kernel_rfl) ?_
    exact At_cz ⟨([98, 108, 97, 107, 101, 50, 120, 115] : List UInt8), hm, rfl, k⟩
  rw [if_neg hc] at hm
  refine W_skip ?_
  exact At_cz ⟨([98, 108, 97, 107, 101, 50, 120, 98] : List UInt8), hm, rfl, k⟩
 rintro L_ w_ ⟨name, hm, rfl, k_⟩
 simp only [m_top_WholeStreams_j0] at hm
 refine W_seq <| W_reg <| We 4 (.n 36 (.s name) (.n 37 (I (w64 (1 + (Int.tmod (length.toNat : Int) 3000)))) (.n 38 (sl A_key key.length c_key) (.n 39 (sl A_data data.length c_data) (.kkkk (.k .z)))))) ?_
 refine WL_op ?_
 obtain ⟨r_, h_r_, hm⟩ := ob hm
 refine Op_cz 40 ws_go4 (c_crew_Named (F := N0) (O := N0) _ _ _ _ _ _ _ _ _ _ (Ro.n0 (h_key.cx k_)) rfl hc_key (Ro.n0 (h_data.cx k_)) rfl hc_data (Cx.refl _) _ h_r_) ?_
 rintro e_ w_1 ⟨A, _, c, rfl, rfl, k_1⟩
 have k_2 := k_.call k_1
 refine ⟨.tup [sl A r_.1.length c, I r_.2], rfl, ?_⟩
 refine We 5 (.n 14 (sl A r_.1.length c) (.n 15 (I r_.2) (.ssss (.s .a)))) ?_
 refine Wn <| W_seq <| W_reg <| We 3 (.n 44 (I (((1 : UInt8) + (kind % 2)).toNat : Int)) (.n 45 (I (w64 (1 + (Int.tmod (length.toNat : Int) 3000)))) (.n 46 (sl A_key key.length c_key) .a))) ?_
 refine WL_op ?_
 obtain ⟨r_1, h_r_1, hm⟩ := ob hm
 refine Op_cz 47 ws_go5 (c_xof_New_w (F := N0) (O := N0) _ _ _ _ _ _ _ _ _ _ _ _ _ _ (Ro.n0 (h_key.cx k_2)) rfl hc_key (Ro.nilE e8) rfl (Nat.le_refl 0) (Ro.nilE e8) rfl (Nat.le_refl 0) (Cx.refl _) _ h_r_1) ?_
 rcases r_1 with r_2 | r_3 | r_4
 · simp only [Sum.elim_inl, Sum.elim_inr] at hm
   rintro e_ w_2 ⟨rfl, k_3⟩
   have k_4 := k_2.call k_3
   refine ⟨.tup [.v (.pointer none), I r_2], rfl, ?_⟩
   refine We 5 (.n 16 (.v (.pointer none)) (.n 17 (I r_2) (.ssss .a))) ?_
   refine Wn <| W_seq <| W_seq ?_
   obtain ⟨u, h_u, hm⟩ := ob hm
   refine Wa (.n 54 (.b (decide ((w64 (Int.tdiv 64 (((1 : UInt8) + (kind % 2)).toNat : Int))) < (key.length : Int)))) .a) (qp ((((1 : UInt8) + (kind % 2)).toNat : Int) ≠ 0) (need_some h_u) <| qe) ?_
   refine W_pz ((w64 (Int.tdiv 64 (((1 : UInt8) + (kind % 2)).toNat : Int))) < (key.length : Int)) (fun hc1 => ?_) fun hc1 => ?_
   · rw [if_pos hc1] at hm
     refine W_seq <| Wq (.n 10 (.b (((decide (r_.2 = 8)) && (decide (r_2 = 8))) && true)) .z) ?_
     refine W_ret (At_tr ?_)
     obtain rfl := si hm
     refine At_rz [.b (((decide (r_.2 = 8)) && (decide (r_2 = 8))) && true)] qe ?_
     have k_5 := k_4.sel .z
     exact ⟨rfl, k_5⟩
   rw [if_neg hc1] at hm
   refine W_skip <| At_go <| W_seq <| W_seq <| W_reg <| We 11 (.n 75 (.b (((decide (r_.2 ≠ 0)) || (decide (r_2 ≠ 0))) || true)) (.s (.k (.s (.k (.s .a)))))) ?_
   refine WL_sp 75 (((decide (r_.2 ≠ 0)) || (decide (r_2 ≠ 0))) || true) (.s .a) (by kernel_rfl) (fun hg => ?_) (fun hg => ?_)
   · rw [if_pos hg] at hm
     refine WLs 11 [75, 81] (.n 86 (.b true) (.s .a)) qe (by kernel_rfl) ?_
     refine Wn <| W_cond true (by kernel_rfl) (fun _ => ?_) (fun h => by cases h)
     refine W_seq <| Wq (.n 10 (.b false) .z) ?_
     refine W_ret (At_tr ?_)
     obtain rfl := si hm
     refine At_rz [.b false] qe ?_
     have k_6 := k_4.sel .z
     exact ⟨rfl, k_6⟩
   · rw [if_neg (by rw [hg]; decide)] at hm
     refine WLs 2 [75] (.n 76 (.v (.pointer none)) (.n 77 (sl A_data data.length c_data) .a)) qe (by kernel_rfl) ?_
     refine WL_op ?_
     obtain ⟨r_5, h_r_5, hm⟩ := ob hm
     refine Op_call [75] 78 _ ws_go6 (by kernel_rfl) (c_xof_Stream_Write_s2 (F := N0) (O := N0) _ _ _ _ (Ro.n0 (h_data.cx k_4)) rfl hc_data (Cx.refl _) _ h_r_5) ?_
     rintro e_ w_3 ⟨rfl, k_7⟩
     have k_8 := k_4.call k_7
     refine ⟨I 7, rfl, ?_⟩
     refine WLs 8 [75, 81] (.n 86 (.b true) (.ssss .a)) qe (by kernel_rfl) ?_
     refine Wn <| W_cond true (by kernel_rfl) (fun _ => ?_) (fun h => by cases h)
     refine W_seq <| Wq (.n 10 (.b false) .z) ?_
     refine W_ret (At_tr ?_)
     obtain rfl := si hm
     refine At_rz [.b false] qe ?_
     have k_9 := k_8.sel .z
     exact ⟨rfl, k_9⟩
 · simp only [Sum.elim_inl, Sum.elim_inr] at hm
   rintro e_ w_4 ⟨g, A1, _, c1, A2, _, c2, A3, _, c3, g1, A4, _, c4, A5, _, c5, g2, A6, _, c6, rfl, rfl, rfl, rfl, rfl, rfl, rfl, k_10⟩
   have k_11 := k_2.call k_10
   refine ⟨.tup [pt g 0, I 0], rfl, ?_⟩
   refine We 5 (.n 16 (pt g 0) (.n 17 (I 0) (.ssss .a))) ?_
   refine Wn <| W_seq <| W_seq ?_
   obtain ⟨u0, h_u0, hm⟩ := ob hm
   refine Wa (.n 54 (.b (decide ((w64 (Int.tdiv 64 (((1 : UInt8) + (kind % 2)).toNat : Int))) < (key.length : Int)))) .a) (qp ((((1 : UInt8) + (kind % 2)).toNat : Int) ≠ 0) (need_some h_u0) <| qe) ?_
   refine W_pz ((w64 (Int.tdiv 64 (((1 : UInt8) + (kind % 2)).toNat : Int))) < (key.length : Int)) (fun hc2 => ?_) fun hc2 => ?_
   · rw [if_pos hc2] at hm
     refine W_seq <| Wq (.n 10 (.b (((decide (r_.2 = 8)) && false) && false)) .z) ?_
     refine W_ret (At_tr ?_)
     obtain rfl := si hm
     refine At_rz [.b (((decide (r_.2 = 8)) && false) && false)] qe ?_
     have k_12 := k_11.sel .z
     exact ⟨rfl, k_12⟩
   rw [if_neg hc2] at hm
   refine W_skip <| At_go <| W_seq <| W_seq <| W_reg <| We 11 (.n 75 (.b (((decide (r_.2 ≠ 0)) || false) || false)) (.s (.k (.s (.k (.s .a)))))) ?_
   refine WL_sp 75 (((decide (r_.2 ≠ 0)) || false) || false) (.s .a) (by kernel_rfl) (fun hg0 => ?_) (fun hg0 => ?_)
   · rw [if_pos hg0] at hm
     refine WLs 11 [75, 81] (.n 86 (.b true) (.s .a)) qe (by kernel_rfl) ?_
     refine Wn <| W_cond true (by kernel_rfl) (fun _ => ?_) (fun h => by cases h)
     refine W_seq <| Wq (.n 10 (.b false) .z) ?_
     refine W_ret (At_tr ?_)
     obtain rfl := si hm
     refine At_rz [.b false] qe ?_
     have k_13 := k_11.sel .z
     exact ⟨rfl, k_13⟩
   · rw [if_neg (by rw [hg0]; decide)] at hm
     refine WLs 2 [75] (.n 76 (pt g 0) (.n 77 (sl A_data data.length c_data) .a)) qe (by kernel_rfl) ?_
     refine WL_op ?_
     obtain ⟨r_6, h_r_6, hm⟩ := ob hm
     obtain ⟨F1, O1, kin, hO, hre, hF, hb⟩ := k_11.go (.r (.i (.i (.i (.i (.i (.i (.i (.i (.i .e))))))))))
     refine Op_call [75] 78 _ ws_go6 (by kernel_rfl) (c_xof_Stream_Write (F := F1) (O := O1) _ _ _ _ _ _ _ _ _ _ _ _ _ _ _ _ _ _ _ _ _ _ _ _ _ _ _ _ _ _ _ _ _ _ _ _ _ _ _ _ _ _ _ _ _ _ _ (Ro.of_old h_data k_11 hF) rfl hc_data kin _ h_r_6) ?_
     rintro e_ w_5 ⟨A7, _, c7, A8, _, c8, A9, _, c9, A10, _, c10, A11, _, c11, A12, _, c12, rfl, rfl, rfl, rfl, rfl, rfl, rfl, k_14⟩
     have k_15 := hb w_5 _ _ k_14 (.c (.c (.c (.c (.c (.c (.c (.c (.c .n)))))))))
     refine ⟨I 0, rfl, ?_⟩
     refine WLs 8 [75, 81] (.n 86 (.b (decide ((r_.1.length : Int) ≠ (w64 (1 + (Int.tmod (length.toNat : Int) 3000)))))) (.ssss .a)) qe (by kernel_rfl) ?_
     refine Wn <| W_pz ((r_.1.length : Int) ≠ (w64 (1 + (Int.tmod (length.toNat : Int) 3000)))) (fun hc3 => ?_) fun hc3 => ?_
     · rw [if_pos hc3] at hm
       refine W_seq <| Wq (.n 10 (.b false) .z) ?_
       refine W_ret (At_tr ?_)
       obtain rfl := si hm
       refine At_rz [.b false] qe ?_
       have k_16 := k_15.sel .z
       exact ⟨rfl, k_16⟩
     rw [if_neg hc3] at hm
     refine W_skip <| At_go <| W_seq <| Wq (.n 18 (I 0) (.s .a)) ?_
     refine W_seq <| W_seq <| Wq (.n 87 (sl A_sizes sizes.length c_sizes) (.n 88 (I (sizes.length : Int)) (.n 89 (I 0) (.kkkk (.k (.s .a)))))) ?_
     refine W_block <| W_un ?_
     refine W_seq <| Wq (.n 90 (.b (decide (0 < (sizes.length : Int)))) .a) ?_
     refine W_seq <| W_pz (0 < (sizes.length : Int)) (fun hc4 => ?_) fun hc4 => ?_
     · rw [if_pos hc4] at hm
       refine W_skip <| At_go <| W_seq <| W_block <| W_seq ?_
       obtain ⟨x_0, zh0, hm⟩ := ob hm
       refine Wa (.n 20 (.u8 x_0) (.s .a)) (qW (h_sizes.cx k_15) zh0 rfl (.u8 x_0) rfl <| qe) ?_
       refine W_seq <| W_reg <| We 3 (.n 94 (pt g 0) (.n 96 (I (x_0.toNat : Int)) .a)) ?_
       refine WL_op ?_
       obtain ⟨r_7, h_r_7, hm⟩ := ob hm
       have k_17 := (((((((((k_15.pk (.t (.t (.t (.t (.t (.t (.t (.t (.t .h)))))))))).pk (.t (.t .h))).pk (.t (.t .h))).pk (.t (.t (.t (.t (.t .h)))))).pk (.t (.t (.t (.t (.t .h)))))).pk (.t (.t (.t (.t (.t .h)))))).pk (.t (.t (.t (.t (.t (.t (.t (.t (.t .h)))))))))).pk (.t (.t (.t (.t (.t (.t (.t (.t (.t .h)))))))))).pk (.t (.t (.t (.t (.t (.t (.t (.t (.t .h)))))))))).pk (.t (.t (.t (.t (.t (.t (.t (.t (.t .h)))))))))
       obtain ⟨F11, O11, kin1, hO1, hre1, hF1, hb1⟩ := k_17.go (.i (.i (.i (.i (.i (.i (.i (.i (.i (.r .e))))))))))
       refine Op_cz 97 ws_go7 (c_xof_Stream_Read_s2 (F := F11) (O := O11) _ _ _ _ _ _ _ _ _ _ _ _ _ _ _ _ _ _ _ _ _ _ _ _ _ _ _ _ _ _ _ _ _ _ _ _ _ _ _ _ _ _ _ _ kin1 _ h_r_7) ?_
       rintro e_ w_6 ⟨A13, _, c13, A14, _, c14, A15, _, c15, A16, _, c16, A17, _, c17, A18, _, c18, A19, _, c19, g3, _, c20, rfl, rfl, rfl, rfl, rfl, rfl, rfl, rfl, rfl, k_18⟩
       have k_19 := hb1 w_6 _ _ k_18 (.c (.c (.c (.c (.c (.c (.c (.c (.c (.c (.c .n)))))))))))
       refine ⟨.tup [sl A13 r_7.1.length c13, I r_7.2.1], rfl, ?_⟩
       refine We 5 (.n 21 (sl A13 r_7.1.length c13) (.n 22 (I r_7.2.1) (.sss .a))) ?_
       refine Wn <| W_seq <| W_seq <| W_reg <| We 20 (.n 119 (.b (((decide (r_7.2.1 ≠ 0)) && ((decide (0 < (w64 (1 + (Int.tmod (length.toNat : Int) 3000))))) || (decide (x_0 = 0)))) || (decide ((w64 (1 + (Int.tmod (length.toNat : Int) 3000))) < (w64 (0 + (r_7.1.length : Int))))))) (.k (.s .a))) ?_
       refine WL_sp 119 (((decide (r_7.2.1 ≠ 0)) && ((decide (0 < (w64 (1 + (Int.tmod (length.toNat : Int) 3000))))) || (decide (x_0 = 0)))) || (decide ((w64 (1 + (Int.tmod (length.toNat : Int) 3000))) < (w64 (0 + (r_7.1.length : Int)))))) (.s .a) (by kernel_rfl) (fun hg1 => ?_) (fun hg1 => ?_)
       · rw [if_pos hg1] at hm
         refine WLs 22 [119, 131] (.n 141 (.b true) (.s (.k (.s .a)))) qe (by kernel_rfl) ?_
         refine Wn <| W_cond true (by kernel_rfl) (fun _ => ?_) (fun h => by cases h)
         refine W_seq <| Wq (.n 10 (.b false) .z) ?_
         refine W_ret (At_tr (At_ir (At_tr (At_tr (At_ir (At_tr ?_))))))
         obtain rfl := si hm
         refine At_rz [.b false] qe ?_
         have k_20 := k_19.sel .z
         exact ⟨rfl, k_20⟩
       · rw [if_neg (by rw [hg1]; decide)] at hm
         obtain ⟨b, h_b, hm⟩ := ob hm
         have hs := slc_some h_b
         have hl := slc_len h_b
         have hn : r_.1.length = r_.1.length := (k_19.len 11 rfl)
         have hc5 : r_.1.length ≤ c := (k_19.lec 11 rfl)
         obtain ⟨A20, c21, e_, hc6, hA, hc7⟩ := slx A (Int.toNat (0 : Int)) c 1 (Int.toNat (w64 (0 + (r_7.1.length : Int))) - Int.toNat (0 : Int)) b.length (by omega) (by omega)
         refine WLs 8 [119] (.n 120 (sl A13 r_7.1.length c13) (.n 127 (sl A20 b.length c21) .a)) (qp (0 ≤ w64 (0 + (r_7.1.length : Int)) ∧ w64 (0 + (r_7.1.length : Int)) ≤ (c : Int)) (by omega) <| qp (0 ≤ (0 : Int) ∧ (0 : Int) ≤ ((Int.toNat (w64 (0 + (r_7.1.length : Int))) : Nat) : Int)) (by omega) <| qo (.v (.slice A20 b.length c21)) <| qp (Value.slice (slA A (Int.toNat (0 : Int)) c 1) (Int.toNat (w64 (0 + (r_7.1.length : Int))) - Int.toNat (0 : Int)) (c - Int.toNat (0 : Int)) = .slice A20 b.length c21) e_ <| qe) (by kernel_rfl) ?_
         refine WL_op ?_
         have k_21 := k_19.sel (.kkkk (.kkkk (.kkkk .e)))
         obtain ⟨r_8, h_r_8, hm⟩ := ob hm
         refine Op_call [119] 128 _ ws_go8 (by kernel_rfl) (c_top_same (F := N0) (O := N0) _ _ _ _ _ _ _ _ (Ro.n0 (k_21.rd 0 rfl)) (k_21.len 0 rfl) (k_21.lec 0 rfl) (Ro.n0 (Rd.cut (k_21.rd 11 rfl) h_b rfl (by rfl) hA (by omega))) rfl hc6 (Cx.refl _) _ h_r_8) ?_
         rintro e_ w_7 ⟨rfl, k_22⟩
         have k_23 := k_21.call k_22
         refine ⟨.b r_8, rfl, ?_⟩
         refine WLs 13 [119] (.n 141 (.b ((!r_8) || (decide ((r_7.1.length : Int) ≠ (if w64 ((w64 (1 + (Int.tmod (length.toNat : Int) 3000))) - 0) < (x_0.toNat : Int) then w64 ((w64 (1 + (Int.tmod (length.toNat : Int) 3000))) - 0) else (x_0.toNat : Int)))))) (.ssss (.k (.s .a)))) qe (by kernel_rfl) ?_
         refine Wn <| W_cz ((!r_8) || (decide ((r_7.1.length : Int) ≠ (if w64 ((w64 (1 + (Int.tmod (length.toNat : Int) 3000))) - 0) < (x_0.toNat : Int) then w64 ((w64 (1 + (Int.tmod (length.toNat : Int) 3000))) - 0) else (x_0.toNat : Int))))) (fun hc8 => ?_) fun hc8 => ?_
         · rw [if_pos hc8] at hm
           refine W_seq <| Wq (.n 10 (.b false) .z) ?_
           refine W_ret (At_tr (At_ir (At_tr (At_tr (At_ir (At_tr ?_))))))
           obtain rfl := si hm
           refine At_rz [.b false] qe ?_
           have k_24 := k_23.sel .z
           exact ⟨rfl, k_24⟩
         rw [if_neg (by rw [hc8]; decide)] at hm
         refine W_skip <| At_go <| W_seq <| W_reg <| We 8 (.n 143 (I (((1 : UInt8) + (kind % 2)).toNat : Int)) (.n 144 (I (w64 (1 + (Int.tmod (length.toNat : Int) 3000)))) (.n 145 (sl A_key key.length c_key) (.n 146 (sl A_data data.length c_data) (.n 148 (.u64 0) (.n 150 (I (r_7.1.length : Int)) (.s .a))))))) ?_
         refine WL_op ?_
         obtain ⟨r_9, h_r_9, hm⟩ := ob hm
         refine Op_cz 151 ws_go9 (c_xof_Take (F := N0) (O := N0) _ _ _ _ _ _ _ _ _ _ _ _ (Ro.n0 (h_key.cx k_23)) rfl hc_key (Ro.n0 (h_data.cx k_23)) rfl hc_data (Cx.refl _) _ h_r_9) ?_
         rintro e_ w_8 ⟨A21, _, c22, rfl, rfl, k_25⟩
         have k_26 := k_23.call k_25
         refine ⟨.tup [sl A21 r_9.1.length c22, I r_9.2], rfl, ?_⟩
         refine We 5 (.n 23 (sl A21 r_9.1.length c22) (.n 24 (I r_9.2) (.ssss (.sss .a)))) ?_
         refine Wn <| W_seq <| W_seq <| W_reg <| We 3 (.n 156 (.b (decide (r_9.2 ≠ 0))) (.k (.s .a))) ?_
         refine WL_sp 156 (decide (r_9.2 ≠ 0)) (.s .a) (by kernel_rfl) (fun hg2 => ?_) (fun hg2 => ?_)
         · rw [if_pos (of_decide_eq_true hg2)] at hm
           refine WLs 5 [156] (.n 161 (.b true) (.ss .a)) qe (by kernel_rfl) ?_
           refine Wn <| W_cond true (by kernel_rfl) (fun _ => ?_) (fun h => by cases h)
           refine W_seq <| Wq (.n 10 (.b false) .z) ?_
           refine W_ret (At_tr (At_ir (At_tr (At_tr (At_ir (At_tr ?_))))))
           obtain rfl := si hm
           refine At_rz [.b false] qe ?_
           have k_27 := k_26.sel .z
           exact ⟨rfl, k_27⟩
         · rw [if_neg (of_decide_eq_false hg2)] at hm
           refine WLs 2 [156] (.n 157 (sl A21 r_9.1.length c22) (.n 158 (sl A13 r_7.1.length c13) (.k (.s .a)))) qe (by kernel_rfl) ?_
           refine WL_op ?_
           obtain ⟨r_10, h_r_10, hm⟩ := ob hm
           refine Op_call [156] 159 _ ws_go8 (by kernel_rfl) (c_top_same (F := N0) (O := N0) _ _ _ _ _ _ _ _ (Ro.n0 (k_26.rd 12 rfl)) (k_26.len 12 rfl) (k_26.lec 12 rfl) (Ro.n0 (k_26.rd 0 rfl)) (k_26.len 0 rfl) (k_26.lec 0 rfl) (Cx.refl _) _ h_r_10) ?_
           rintro e_ w_9 ⟨rfl, k_28⟩
           have k_29 := k_26.call k_28
           refine ⟨.b r_10, rfl, ?_⟩
           have k_30 := k_29.sel (.kkkk (.kkkk (.kkkk .z)))
           refine WLs 2 [156] (.n 161 (.b (!r_10)) (.ssss .a)) qe (by kernel_rfl) ?_
           refine Wn <| W_cz (!r_10) (fun hc9 => ?_) fun hc9 => ?_
           · rw [if_pos hc9] at hm
             refine W_seq <| Wq (.n 10 (.b false) .z) ?_
             refine W_ret (At_tr (At_ir (At_tr (At_tr (At_ir (At_tr ?_))))))
             obtain rfl := si hm
             refine At_rz [.b false] qe ?_
             have k_31 := k_30.sel .z
             exact ⟨rfl, k_31⟩
           rw [if_neg (by rw [hc9]; decide)] at hm
           refine W_skip <| At_go <| W_q [] (.n 18 (I (w64 (0 + (r_7.1.length : Int)))) (.ss (.kkk (.s .a)))) qe (by kernel_rfl) ?_
           refine At_in <| At_go <| W_q [] (.n 89 (I 1) (.kkk (.s .a))) qe (by kernel_rfl) ?_
           have k_33 := (((((((((((k_30.pk (.t (.t (.t (.t (.t (.t (.t (.t (.t (.t .h))))))))))).pk (.t (.t (.t .h)))).pk (.t (.t (.t .h)))).pk (.t (.t (.t (.t (.t (.t .h))))))).pk (.t (.t (.t (.t (.t (.t .h))))))).pk (.t (.t (.t (.t (.t (.t .h))))))).pk (.t (.t (.t (.t (.t (.t (.t (.t (.t (.t .h))))))))))).pk (.t (.t (.t (.t (.t (.t (.t (.t (.t (.t .h))))))))))).pk (.t (.t (.t (.t (.t (.t (.t (.t (.t (.t .h))))))))))).pk (.t (.t (.t (.t (.t (.t (.t (.t (.t (.t .h))))))))))).pk (.t (.t (.t (.t (.t (.t (.t (.t (.t (.t (.t .h)))))))))))).sel (.kkkk (.kkkk (.kk (.k .z))))
           refine At_lp (m_top_WholeStreams_l0 kind length key data sizes r_ r_7) (fun s L wr => ∃ (s_ : Int) (s_1 : Int) (s_2 : UInt32) (s_3 : UInt64) (s_4 : Bool) (s_5 : List UInt8) (s_6 : List UInt8) (s_7 : List UInt8) (s_8 : Int) (s_9 : Int) (s_10 : List UInt8) (s_11 : List UInt8) (s_12 : Bool) (s_13 : UInt64) (s_14 : Vec UInt64 8) (s_15 : UInt64) (s_16 : UInt64) (s_17 : List UInt8) (s_18 : Int) (s_19 : UInt64) (s_20 : Vec UInt8 64) (s_21 : Int) (at_ : Int) (x_1 : Int) (A22 : Option Addr) (n : Nat) (c23 : Nat) (A23 : Option Addr) (n1 : Nat) (c24 : Nat) (A24 : Option Addr) (n2 : Nat) (c25 : Nat) (A25 : Option Addr) (n3 : Nat) (c26 : Nat) (A26 : Option Addr) (n4 : Nat) (c27 : Nat) (A27 : Option Addr) (n5 : Nat) (c28 : Nat), (s_, s_1, s_2, s_3, s_4, s_5, s_6, s_7, s_8, s_9, s_10, s_11, s_12, s_13, s_14, s_15, s_16, s_17, s_18, s_19, s_20, s_21, at_, x_1) = s ∧ L = [(2, sl A_key key.length c_key), (3, sl A_data data.length c_data), (11, I (((1 : UInt8) + (kind % 2)).toNat : Int)), (12, I (w64 (1 + (Int.tmod (length.toNat : Int) 3000)))), (14, sl A r_.1.length c), (16, pt g 0), (18, I at_), (87, sl A_sizes sizes.length c_sizes), (88, I (sizes.length : Int)), (89, I x_1)] ∧ s_5.length = n ∧ s_6.length = n1 ∧ s_7.length = n2 ∧ s_10.length = n3 ∧ s_11.length = n4 ∧ s_17.length = n5 ∧ Cx F O w wr [Ow e8 A r_.1.length c r_.1, Bx 52 g [I s_, I s_1, .u32 s_2, .u64 s_3, .b s_4, sl A22 n c23, sl A23 n1 c24, sl A24 n2 c25, pt g1 0, sl (some ⟨g3, 0, none⟩) r_7.2.2.2.2.2.2.2.2.2.2.2.2.2.2.2.2.2.2.2.2.2.1.length c20, .u64 s_19, .ar e8 s_20, I s_21, .v (.func (.func 30) ⟨SV.vals [pt g 0]⟩ ⟨SV.vals []⟩)], Ow e8 A22 n c23 s_5, Ow e8 A23 n1 c24 s_6, Ow e8 A24 n2 c25 s_7, Bx 77 g1 [I s_8, I s_9, sl A25 n3 c26, sl A26 n4 c27, .b s_12, .u64 s_13, .v (.iface 114 (SV.val (pt g2 0)))], Ow e8 A25 n3 c26 s_10, Ow e8 A26 n4 c27 s_11, Bx 120 g2 [.ar e64 s_14, .u64 s_15, .u64 s_16, sl A27 n5 c28, I s_18, .v (.func (.func 62) ⟨SV.vals []⟩ ⟨SV.vals []⟩), .v (.func (.func 63) ⟨SV.vals []⟩ ⟨SV.vals []⟩)], Ow e8 A27 n5 c28 s_17, Sh (SH e8) [((some ⟨g3, 0, none⟩), r_7.2.2.2.2.2.2.2.2.2.2.2.2.2.2.2.2.2.2.2.2.2.1.length, c20)] [r_7.2.2.2.2.2.2.2.2.2.2.2.2.2.2.2.2.2.2.2.2.2.1]]) (r_7.2.2.2.2.2.2.2.2.2.2.2.2.2.1, r_7.2.2.2.2.2.2.2.2.2.2.2.2.2.2.1, r_7.2.2.2.2.2.2.2.2.2.2.2.2.2.2.2.1, r_7.2.2.2.2.2.2.2.2.2.2.2.2.2.2.2.2.1, r_7.2.2.2.2.2.2.2.2.2.2.2.2.2.2.2.2.2.1, r_7.2.2.2.2.2.2.2.2.2.2.2.2.2.2.2.2.2.2.1, r_7.2.2.2.2.2.2.2.2.2.2.2.2.2.2.2.2.2.2.2.1, r_7.2.2.2.2.2.2.2.2.2.2.2.2.2.2.2.2.2.2.2.2.1, r_7.2.2.2.2.2.2.2.1, r_7.2.2.2.2.2.2.2.2.1, r_7.2.2.2.2.2.2.2.2.2.1, r_7.2.2.2.2.2.2.2.2.2.2.1, r_7.2.2.2.2.2.2.2.2.2.2.2.1, r_7.2.2.2.2.2.2.2.2.2.2.2.2.1, r_7.2.2.1, r_7.2.2.2.1, r_7.2.2.2.2.1, r_7.2.2.2.2.2.1, r_7.2.2.2.2.2.2.1, r_7.2.2.2.2.2.2.2.2.2.2.2.2.2.2.2.2.2.2.2.2.2.2.1, r_7.2.2.2.2.2.2.2.2.2.2.2.2.2.2.2.2.2.2.2.2.2.2.2.1, r_7.2.2.2.2.2.2.2.2.2.2.2.2.2.2.2.2.2.2.2.2.2.2.2.2, w64 (0 + (r_7.1.length : Int)), (1 : Int)) r hm ⟨r_7.2.2.2.2.2.2.2.2.2.2.2.2.2.1, r_7.2.2.2.2.2.2.2.2.2.2.2.2.2.2.1, r_7.2.2.2.2.2.2.2.2.2.2.2.2.2.2.2.1, r_7.2.2.2.2.2.2.2.2.2.2.2.2.2.2.2.2.1, r_7.2.2.2.2.2.2.2.2.2.2.2.2.2.2.2.2.2.1, r_7.2.2.2.2.2.2.2.2.2.2.2.2.2.2.2.2.2.2.1, r_7.2.2.2.2.2.2.2.2.2.2.2.2.2.2.2.2.2.2.2.1, r_7.2.2.2.2.2.2.2.2.2.2.2.2.2.2.2.2.2.2.2.2.1, r_7.2.2.2.2.2.2.2.1, r_7.2.2.2.2.2.2.2.2.1, r_7.2.2.2.2.2.2.2.2.2.1, r_7.2.2.2.2.2.2.2.2.2.2.1, r_7.2.2.2.2.2.2.2.2.2.2.2.1, r_7.2.2.2.2.2.2.2.2.2.2.2.2.1, r_7.2.2.1, r_7.2.2.2.1, r_7.2.2.2.2.1, r_7.2.2.2.2.2.1, r_7.2.2.2.2.2.2.1, r_7.2.2.2.2.2.2.2.2.2.2.2.2.2.2.2.2.2.2.2.2.2.2.1, r_7.2.2.2.2.2.2.2.2.2.2.2.2.2.2.2.2.2.2.2.2.2.2.2.1, r_7.2.2.2.2.2.2.2.2.2.2.2.2.2.2.2.2.2.2.2.2.2.2.2.2, w64 (0 + (r_7.1.length : Int)), (1 : Int), A17, r_7.2.2.2.2.2.2.2.2.2.2.2.2.2.2.2.2.2.2.1.length, c17, A18, r_7.2.2.2.2.2.2.2.2.2.2.2.2.2.2.2.2.2.2.2.1.length, c18, A19, r_7.2.2.2.2.2.2.2.2.2.2.2.2.2.2.2.2.2.2.2.2.1.length, c19, A15, r_7.2.2.2.2.2.2.2.2.2.1.length, c15, A16, r_7.2.2.2.2.2.2.2.2.2.2.1.length, c16, A14, r_7.2.2.2.2.2.1.length, c14, rfl, rfl, k_33.len 2 rfl, k_33.len 3 rfl, k_33.len 4 rfl, k_33.len 6 rfl, k_33.len 7 rfl, k_33.len 9 rfl, k_33⟩ (by kernel_rfl) ?_
           intro s0_ L_ w_10 y0 hrel hstep hr0
           obtain ⟨s_, s_1, s_2, s_3, s_4, s_5, s_6, s_7, s_8, s_9, s_10, s_11, s_12, s_13, s_14, s_15, s_16, s_17, s_18, s_19, s_20, s_21, at_, x_1, A22, _, c23, A23, _, c24, A24, _, c25, A25, _, c26, A26, _, c27, A27, _, c28, rfl, rfl, rfl, rfl, rfl, rfl, rfl, rfl, k_32⟩ := hrel
           have hm := hstep; simp only [m_top_WholeStreams_l0] at hm
           clear hstep
           refine W_seq <| Wq (.n 90 (.b (decide (x_1 < (sizes.length : Int)))) .a) ?_
           refine W_seq <| W_pz (x_1 < (sizes.length : Int)) (fun hc10 => ?_) fun hc10 => ?_
           · rw [if_pos hc10] at hm
             refine W_skip <| At_go <| W_seq <| W_block <| W_seq ?_
             obtain ⟨x_2, zh2, hm⟩ := ob hm
             refine Wa (.n 20 (.u8 x_2) (.s .a)) (qW (h_sizes.cx k_32) zh2 rfl (.u8 x_2) rfl <| qe) ?_
             refine W_seq <| W_reg <| We 3 (.n 94 (pt g 0) (.n 96 (I (x_2.toNat : Int)) .a)) ?_
             refine WL_op ?_
             obtain ⟨r_11, h_r_11, hm⟩ := ob hm
             obtain ⟨F12, O12, kin2, hO2, hre2, hF2, hb2⟩ := k_32.go (.r (.i (.i (.i (.i (.i (.i (.i (.i (.i (.r .e)))))))))))
             refine Op_cz 97 ws_go7 (c_xof_Stream_Read (F := F12) (O := O12) _ _ _ _ _ _ _ _ _ _ _ _ _ _ _ _ _ _ _ _ _ _ _ _ _ _ _ _ _ _ _ _ _ _ _ _ _ _ _ _ _ _ _ _ _ _ _ _ (Ro.of_sh kin2.off hre2 1 rfl) (k_32.shlen 10 rfl) (k_32.shlec 10 rfl) kin2 _ h_r_11) ?_
             rintro e_ w_11 ⟨A28, _, c29, A29, _, c30, A30, _, c31, A31, _, c32, A32, _, c33, A33, _, c34, A34, _, c35, rfl, rfl, rfl, rfl, rfl, rfl, rfl, rfl, k_34⟩
             have k_35 := hb2 w_11 _ _ k_34 (.c (.c (.c (.c (.c (.c (.c (.c (.c (.c .n))))))))))
             refine ⟨.tup [sl A28 r_11.1.length c29, I r_11.2.1], rfl, ?_⟩
             refine We 5 (.n 21 (sl A28 r_11.1.length c29) (.n 22 (I r_11.2.1) (.sss .a))) ?_
             refine Wn <| W_seq <| W_seq <| W_reg <| We 20 (.n 119 (.b (((decide (r_11.2.1 ≠ 0)) && ((decide (at_ < (w64 (1 + (Int.tmod (length.toNat : Int) 3000))))) || (decide (x_2 = 0)))) || (decide ((w64 (1 + (Int.tmod (length.toNat : Int) 3000))) < (w64 (at_ + (r_11.1.length : Int))))))) (.k (.s .a))) ?_
             refine WL_sp 119 (((decide (r_11.2.1 ≠ 0)) && ((decide (at_ < (w64 (1 + (Int.tmod (length.toNat : Int) 3000))))) || (decide (x_2 = 0)))) || (decide ((w64 (1 + (Int.tmod (length.toNat : Int) 3000))) < (w64 (at_ + (r_11.1.length : Int)))))) (.s .a) (by kernel_rfl) (fun hg3 => ?_) (fun hg3 => ?_)
             · rw [if_pos hg3] at hm
               refine WLs 22 [119, 131] (.n 141 (.b true) (.s (.k (.s .a)))) qe (by kernel_rfl) ?_
               refine Wn <| W_cond true (by kernel_rfl) (fun _ => ?_) (fun h => by cases h)
               refine W_seq <| Wq (.n 10 (.b false) .z) ?_
               refine W_ret (At_tr (At_ir (At_tr (At_tr (At_ir (At_tr ?_))))))
               have hm := exit_of hm hr0
               obtain rfl := si hm
               refine At_rz [.b false] qe ?_
               have k_36 := k_35.sel .z
               exact ⟨rfl, k_36⟩
             · rw [if_neg (by rw [hg3]; decide)] at hm
               obtain ⟨b1, h_b1, hm⟩ := ob hm
               have hs1 := slc_some h_b1
               have hl1 := slc_len h_b1
               have hn1 : r_.1.length = r_.1.length := (k_35.len 10 rfl)
               have hc11 : r_.1.length ≤ c := (k_35.lec 10 rfl)
               obtain ⟨A35, c36, e_1, hc12, hA1, hc13⟩ := slx A (Int.toNat at_) c 1 (Int.toNat (w64 (at_ + (r_11.1.length : Int))) - Int.toNat at_) b1.length (by omega) (by omega)
               refine WLs 8 [119] (.n 120 (sl A28 r_11.1.length c29) (.n 127 (sl A35 b1.length c36) .a)) (qp (0 ≤ w64 (at_ + (r_11.1.length : Int)) ∧ w64 (at_ + (r_11.1.length : Int)) ≤ (c : Int)) (by omega) <| qp (0 ≤ at_ ∧ at_ ≤ ((Int.toNat (w64 (at_ + (r_11.1.length : Int))) : Nat) : Int)) (by omega) <| qo (.v (.slice A35 b1.length c36)) <| qp (Value.slice (slA A (Int.toNat at_) c 1) (Int.toNat (w64 (at_ + (r_11.1.length : Int))) - Int.toNat at_) (c - Int.toNat at_) = .slice A35 b1.length c36) e_1 <| qe) (by kernel_rfl) ?_
               refine WL_op ?_
               obtain ⟨r_12, h_r_12, hm⟩ := ob hm
               refine Op_call [119] 128 _ ws_go8 (by kernel_rfl) (c_top_same (F := N0) (O := N0) _ _ _ _ _ _ _ _ (Ro.n0 (k_35.rd 0 rfl)) (k_35.len 0 rfl) (k_35.lec 0 rfl) (Ro.n0 (Rd.cut (k_35.rd 10 rfl) h_b1 rfl (by rfl) hA1 (by omega))) rfl hc12 (Cx.refl _) _ h_r_12) ?_
               rintro e_ w_12 ⟨rfl, k_37⟩
               have k_38 := k_35.call k_37
               refine ⟨.b r_12, rfl, ?_⟩
               refine WLs 13 [119] (.n 141 (.b ((!r_12) || (decide ((r_11.1.length : Int) ≠ (if w64 ((w64 (1 + (Int.tmod (length.toNat : Int) 3000))) - at_) < (x_2.toNat : Int) then w64 ((w64 (1 + (Int.tmod (length.toNat : Int) 3000))) - at_) else (x_2.toNat : Int)))))) (.ssss (.k (.s .a)))) qe (by kernel_rfl) ?_
               refine Wn <| W_cz ((!r_12) || (decide ((r_11.1.length : Int) ≠ (if w64 ((w64 (1 + (Int.tmod (length.toNat : Int) 3000))) - at_) < (x_2.toNat : Int) then w64 ((w64 (1 + (Int.tmod (length.toNat : Int) 3000))) - at_) else (x_2.toNat : Int))))) (fun hc14 => ?_) fun hc14 => ?_
               · rw [if_pos hc14] at hm
                 refine W_seq <| Wq (.n 10 (.b false) .z) ?_
                 refine W_ret (At_tr (At_ir (At_tr (At_tr (At_ir (At_tr ?_))))))
                 have hm := exit_of hm hr0
                 obtain rfl := si hm
                 refine At_rz [.b false] qe ?_
                 have k_39 := k_38.sel .z
                 exact ⟨rfl, k_39⟩
               rw [if_neg (by rw [hc14]; decide)] at hm
               refine W_skip <| At_go <| W_seq <| W_reg <| We 8 (.n 143 (I (((1 : UInt8) + (kind % 2)).toNat : Int)) (.n 144 (I (w64 (1 + (Int.tmod (length.toNat : Int) 3000)))) (.n 145 (sl A_key key.length c_key) (.n 146 (sl A_data data.length c_data) (.n 148 (.u64 (UInt64.ofInt at_)) (.n 150 (I (r_11.1.length : Int)) (.s .a))))))) ?_
               refine WL_op ?_
               obtain ⟨r_13, h_r_13, hm⟩ := ob hm
               refine Op_cz 151 ws_go9 (c_xof_Take (F := N0) (O := N0) _ _ _ _ _ _ _ _ _ _ _ _ (Ro.n0 (h_key.cx k_38)) rfl hc_key (Ro.n0 (h_data.cx k_38)) rfl hc_data (Cx.refl _) _ h_r_13) ?_
               rintro e_ w_13 ⟨A36, _, c37, rfl, rfl, k_40⟩
               have k_41 := k_38.call k_40
               refine ⟨.tup [sl A36 r_13.1.length c37, I r_13.2], rfl, ?_⟩
               refine We 5 (.n 23 (sl A36 r_13.1.length c37) (.n 24 (I r_13.2) (.ssss (.sss .a)))) ?_
               refine Wn <| W_seq <| W_seq <| W_reg <| We 3 (.n 156 (.b (decide (r_13.2 ≠ 0))) (.k (.s .a))) ?_
               refine WL_sp 156 (decide (r_13.2 ≠ 0)) (.s .a) (by kernel_rfl) (fun hg4 => ?_) (fun hg4 => ?_)
               · rw [if_pos (of_decide_eq_true hg4)] at hm
                 refine WLs 5 [156] (.n 161 (.b true) (.ss .a)) qe (by kernel_rfl) ?_
                 refine Wn <| W_cond true (by kernel_rfl) (fun _ => ?_) (fun h => by cases h)
                 refine W_seq <| Wq (.n 10 (.b false) .z) ?_
                 refine W_ret (At_tr (At_ir (At_tr (At_tr (At_ir (At_tr ?_))))))
                 have hm := exit_of hm hr0
                 obtain rfl := si hm
                 refine At_rz [.b false] qe ?_
                 have k_42 := k_41.sel .z
                 exact ⟨rfl, k_42⟩
               · rw [if_neg (of_decide_eq_false hg4)] at hm
                 refine WLs 2 [156] (.n 157 (sl A36 r_13.1.length c37) (.n 158 (sl A28 r_11.1.length c29) (.k (.s .a)))) qe (by kernel_rfl) ?_
                 refine WL_op ?_
                 obtain ⟨r_14, h_r_14, hm⟩ := ob hm
                 refine Op_call [156] 159 _ ws_go8 (by kernel_rfl) (c_top_same (F := N0) (O := N0) _ _ _ _ _ _ _ _ (Ro.n0 (k_41.rd 12 rfl)) (k_41.len 12 rfl) (k_41.lec 12 rfl) (Ro.n0 (k_41.rd 0 rfl)) (k_41.len 0 rfl) (k_41.lec 0 rfl) (Cx.refl _) _ h_r_14) ?_
                 rintro e_ w_14 ⟨rfl, k_43⟩
                 have k_44 := k_41.call k_43
                 refine ⟨.b r_14, rfl, ?_⟩
                 have k_45 := k_44.sel (.kkkk (.kkkk (.kkkk .z)))
                 refine WLs 2 [156] (.n 161 (.b (!r_14)) (.ssss .a)) qe (by kernel_rfl) ?_
                 refine Wn <| W_cz (!r_14) (fun hc15 => ?_) fun hc15 => ?_
                 · rw [if_pos hc15] at hm
                   refine W_seq <| Wq (.n 10 (.b false) .z) ?_
                   refine W_ret (At_tr (At_ir (At_tr (At_tr (At_ir (At_tr ?_))))))
                   have hm := exit_of hm hr0
                   obtain rfl := si hm
                   refine At_rz [.b false] qe ?_
                   have k_46 := k_45.sel .z
                   exact ⟨rfl, k_46⟩
                 rw [if_neg (by rw [hc15]; decide)] at hm
                 refine W_skip <| At_go <| W_q [] (.n 18 (I (w64 (at_ + (r_11.1.length : Int)))) (.ss (.kkkk (.kk (.s .a))))) qe (by kernel_rfl) ?_
                 refine At_in <| At_go <| W_q [] (.n 89 (I (w64 (x_1 + 1))) (.kkkk (.kkkk (.k .z)))) qe (by kernel_rfl) ?_
                 have k_47 := (((((((((((k_45.pk (.t (.t (.t (.t (.t (.t (.t (.t (.t (.t (.t .h)))))))))))).pk (.t (.t (.t .h)))).pk (.t (.t (.t .h)))).pk (.t (.t (.t (.t (.t (.t .h))))))).pk (.t (.t (.t (.t (.t (.t .h))))))).pk (.t (.t (.t (.t (.t (.t .h))))))).pk (.t (.t (.t (.t (.t (.t (.t (.t (.t (.t .h))))))))))).pk (.t (.t (.t (.t (.t (.t (.t (.t (.t (.t .h))))))))))).pk (.t (.t (.t (.t (.t (.t (.t (.t (.t (.t .h))))))))))).pk (.t (.t (.t (.t (.t (.t (.t (.t (.t (.t .h))))))))))).pk (.t (.t (.t (.t (.t (.t (.t (.t (.t (.t (.t .h)))))))))))).sel (.kkkk (.kkkk (.kk (.k .z))))
                 exact At_rd (r_11.2.2.2.2.2.2.2.2.2.2.2.2.2.1, r_11.2.2.2.2.2.2.2.2.2.2.2.2.2.2.1, r_11.2.2.2.2.2.2.2.2.2.2.2.2.2.2.2.1, r_11.2.2.2.2.2.2.2.2.2.2.2.2.2.2.2.2.1, r_11.2.2.2.2.2.2.2.2.2.2.2.2.2.2.2.2.2.1, r_11.2.2.2.2.2.2.2.2.2.2.2.2.2.2.2.2.2.2.1, r_11.2.2.2.2.2.2.2.2.2.2.2.2.2.2.2.2.2.2.2.1, r_11.2.2.2.2.2.2.2.2.2.2.2.2.2.2.2.2.2.2.2.2.1, r_11.2.2.2.2.2.2.2.1, r_11.2.2.2.2.2.2.2.2.1, r_11.2.2.2.2.2.2.2.2.2.1, r_11.2.2.2.2.2.2.2.2.2.2.1, r_11.2.2.2.2.2.2.2.2.2.2.2.1, r_11.2.2.2.2.2.2.2.2.2.2.2.2.1, r_11.2.2.1, r_11.2.2.2.1, r_11.2.2.2.2.1, r_11.2.2.2.2.2.1, r_11.2.2.2.2.2.2.1, r_11.2.2.2.2.2.2.2.2.2.2.2.2.2.2.2.2.2.2.2.2.2.1, r_11.2.2.2.2.2.2.2.2.2.2.2.2.2.2.2.2.2.2.2.2.2.2.1, r_11.2.2.2.2.2.2.2.2.2.2.2.2.2.2.2.2.2.2.2.2.2.2.2, w64 (at_ + (r_11.1.length : Int)), w64 (x_1 + 1)) (Option.some.inj hm).symm ⟨r_11.2.2.2.2.2.2.2.2.2.2.2.2.2.1, r_11.2.2.2.2.2.2.2.2.2.2.2.2.2.2.1, r_11.2.2.2.2.2.2.2.2.2.2.2.2.2.2.2.1, r_11.2.2.2.2.2.2.2.2.2.2.2.2.2.2.2.2.1, r_11.2.2.2.2.2.2.2.2.2.2.2.2.2.2.2.2.2.1, r_11.2.2.2.2.2.2.2.2.2.2.2.2.2.2.2.2.2.2.1, r_11.2.2.2.2.2.2.2.2.2.2.2.2.2.2.2.2.2.2.2.1, r_11.2.2.2.2.2.2.2.2.2.2.2.2.2.2.2.2.2.2.2.2.1, r_11.2.2.2.2.2.2.2.1, r_11.2.2.2.2.2.2.2.2.1, r_11.2.2.2.2.2.2.2.2.2.1, r_11.2.2.2.2.2.2.2.2.2.2.1, r_11.2.2.2.2.2.2.2.2.2.2.2.1, r_11.2.2.2.2.2.2.2.2.2.2.2.2.1, r_11.2.2.1, r_11.2.2.2.1, r_11.2.2.2.2.1, r_11.2.2.2.2.2.1, r_11.2.2.2.2.2.2.1, r_11.2.2.2.2.2.2.2.2.2.2.2.2.2.2.2.2.2.2.2.2.2.1, r_11.2.2.2.2.2.2.2.2.2.2.2.2.2.2.2.2.2.2.2.2.2.2.1, r_11.2.2.2.2.2.2.2.2.2.2.2.2.2.2.2.2.2.2.2.2.2.2.2, w64 (at_ + (r_11.1.length : Int)), w64 (x_1 + 1), A32, r_11.2.2.2.2.2.2.2.2.2.2.2.2.2.2.2.2.2.2.1.length, c33, A33, r_11.2.2.2.2.2.2.2.2.2.2.2.2.2.2.2.2.2.2.2.1.length, c34, A34, r_11.2.2.2.2.2.2.2.2.2.2.2.2.2.2.2.2.2.2.2.2.1.length, c35, A30, r_11.2.2.2.2.2.2.2.2.2.1.length, c31, A31, r_11.2.2.2.2.2.2.2.2.2.2.1.length, c32, A29, r_11.2.2.2.2.2.1.length, c30, rfl, rfl, k_47.len 2 rfl, k_47.len 3 rfl, k_47.len 4 rfl, k_47.len 6 rfl, k_47.len 7 rfl, k_47.len 9 rfl, k_47⟩ (by kernel_rfl)
           rw [if_neg hc10] at hm
           refine W_exit (At_te (At_te (At_ie ?_)))
           have hm := exit_of hm hr0
           refine At_go <| W_seq <| W_reg <| We 1 (.n 167 (pt g 0) (.ssss (.k (.s (.kk .z))))) ?_
           refine WL_op ?_
           obtain ⟨r_15, h_r_15, hm⟩ := ob hm
           obtain ⟨F13, O13, kin3, hO3, hre3, hF3, hb3⟩ := k_32.go (.r (.i (.i (.i (.i (.i (.i (.i (.i (.i (.r .e)))))))))))
           refine Op_cz 168 ws_go10 (c_xof_Stream_At (F := F13) (O := O13) _ _ _ _ _ _ _ _ _ _ _ _ _ _ _ _ _ _ _ _ _ _ _ _ _ _ _ _ _ _ _ _ _ _ _ _ _ _ _ _ _ _ _ _ _ _ _ (Ro.of_sh kin3.off hre3 1 rfl) (k_32.shlen 10 rfl) (k_32.shlec 10 rfl) kin3 _ h_r_15) ?_
           rintro e_ w_15 ⟨A37, _, c38, A38, _, c39, A39, _, c40, A40, _, c41, A41, _, c42, A42, _, c43, rfl, rfl, rfl, rfl, rfl, rfl, rfl, k_48⟩
           have k_49 := hb3 w_15 _ _ k_48 (.c (.c (.c (.c (.c (.c (.c (.c (.c .n)))))))))
           refine ⟨.u64 r_15.1, rfl, ?_⟩
           have k_50 := k_49.sel (.kkkk (.kkkk (.k (.s (.k .e)))))
           refine We 4 (.n 172 (.b (decide ((w64 r_15.1.toNat) = at_))) (.ss .a)) ?_
           refine WL_sp 172 (decide ((w64 r_15.1.toNat) = at_)) (.s .a) (by kernel_rfl) (fun hg5 => ?_) (fun hg5 => ?_)
           · rw [if_pos (of_decide_eq_true hg5)] at hm
             refine WLs 1 [172] (.n 173 (pt g 0) (.kk (.s .a))) qe (by kernel_rfl) ?_
             refine WL_op ?_
             obtain ⟨r_16, h_r_16, hm⟩ := ob hm
             have k_51 := (((((((((k_50.pk (.t (.t (.t (.t (.t (.t (.t (.t (.t .h)))))))))).pk (.t (.t .h))).pk (.t (.t .h))).pk (.t (.t (.t (.t (.t .h)))))).pk (.t (.t (.t (.t (.t .h)))))).pk (.t (.t (.t (.t (.t .h)))))).pk (.t (.t (.t (.t (.t (.t (.t (.t (.t .h)))))))))).pk (.t (.t (.t (.t (.t (.t (.t (.t (.t .h)))))))))).pk (.t (.t (.t (.t (.t (.t (.t (.t (.t .h)))))))))).pk (.t (.t (.t (.t (.t (.t (.t (.t (.t .h)))))))))
             obtain ⟨F14, O14, kin4, hO4, hre4, hF4, hb4⟩ := k_51.go (.i (.i (.i (.i (.i (.i (.i (.i (.i (.r .e))))))))))
             refine Op_call [172] 174 _ ws_go11 (by kernel_rfl) (c_xof_Stream_Left (F := F14) (O := O14) _ _ _ _ _ _ _ _ _ _ _ _ _ _ _ _ _ _ _ _ _ _ _ _ _ _ _ _ _ _ _ _ _ _ _ _ _ _ _ _ _ _ _ _ _ _ _ (Ro.of_sh kin4.off hre4 0 rfl) (k_51.shlen 9 rfl) (k_51.shlec 9 rfl) kin4 _ h_r_16) ?_
             rintro e_ w_16 ⟨A43, _, c44, A44, _, c45, A45, _, c46, A46, _, c47, A47, _, c48, A48, _, c49, rfl, rfl, rfl, rfl, rfl, rfl, rfl, k_52⟩
             have k_53 := hb4 w_16 _ _ k_52 (.c (.c (.c (.c (.c (.c (.c (.c (.c .n)))))))))
             refine ⟨.u64 r_16.1, rfl, ?_⟩
             have k_54 := k_53.sel .z
             refine WLs 7 [172] (.n 10 (.b (decide ((w64 r_16.1.toNat) = (w64 ((w64 (1 + (Int.tmod (length.toNat : Int) 3000))) - at_))))) .z) qe (by kernel_rfl) ?_
             refine Wn <| W_ret ?_
             obtain rfl := si hm
             refine At_rz [.b (decide ((w64 r_16.1.toNat) = (w64 ((w64 (1 + (Int.tmod (length.toNat : Int) 3000))) - at_))))] qe ?_
             exact ⟨rfl, k_54⟩
           · rw [if_neg (of_decide_eq_false hg5)] at hm
             refine WLs 9 [172] (.n 10 (.b false) .z) qe (by kernel_rfl) ?_
             refine Wn <| W_ret ?_
             obtain rfl := si hm
             refine At_rz [.b false] qe ?_
             have k_55 := k_50.sel .z
             exact ⟨rfl, k_55⟩
     rw [if_neg hc4] at hm
     refine W_exit (At_te (At_te (At_ie ?_)))
     refine At_go <| W_seq <| W_reg <| We 1 (.n 167 (pt g 0) (.ssss (.kk (.ssss .a)))) ?_
     refine WL_op ?_
     obtain ⟨r_17, h_r_17, hm⟩ := ob hm
     have k_56 := (((((((((k_15.pk (.t (.t (.t (.t (.t (.t (.t (.t (.t .h)))))))))).pk (.t (.t .h))).pk (.t (.t .h))).pk (.t (.t (.t (.t (.t .h)))))).pk (.t (.t (.t (.t (.t .h)))))).pk (.t (.t (.t (.t (.t .h)))))).pk (.t (.t (.t (.t (.t (.t (.t (.t (.t .h)))))))))).pk (.t (.t (.t (.t (.t (.t (.t (.t (.t .h)))))))))).pk (.t (.t (.t (.t (.t (.t (.t (.t (.t .h)))))))))).pk (.t (.t (.t (.t (.t (.t (.t (.t (.t .h)))))))))
     obtain ⟨F15, O15, kin5, hO5, hre5, hF5, hb5⟩ := k_56.go (.i (.i (.i (.i (.i (.i (.i (.i (.i (.r .e))))))))))
     refine Op_cz 168 ws_go10 (c_xof_Stream_At_s1 (F := F15) (O := O15) _ _ _ _ _ _ _ _ _ _ _ _ _ _ _ _ _ _ _ _ _ _ _ _ _ _ _ _ _ _ _ _ _ _ _ _ _ _ _ _ _ _ _ kin5 _ h_r_17) ?_
     rintro e_ w_17 ⟨A49, _, c50, A50, _, c51, A51, _, c52, A52, _, c53, A53, _, c54, A54, _, c55, rfl, rfl, rfl, rfl, rfl, rfl, rfl, k_57⟩
     have k_58 := hb5 w_17 _ _ k_57 (.c (.c (.c (.c (.c (.c (.c (.c (.c .n)))))))))
     refine ⟨.u64 r_17.1, rfl, ?_⟩
     have k_59 := k_58.sel (.kkkk (.kkkk (.k .z)))
     refine We 4 (.n 172 (.b (decide ((w64 r_17.1.toNat) = 0))) (.ss .a)) ?_
     refine WL_sp 172 (decide ((w64 r_17.1.toNat) = 0)) (.s .a) (by kernel_rfl) (fun hg6 => ?_) (fun hg6 => ?_)
     · rw [if_pos (of_decide_eq_true hg6)] at hm
       refine WLs 1 [172] (.n 173 (pt g 0) (.kk (.s .a))) qe (by kernel_rfl) ?_
       refine WL_op ?_
       have k_60 := k_59.sel (.kkkk (.kkkk (.k .e)))
       obtain ⟨r_18, h_r_18, hm⟩ := ob hm
       have k_61 := ((((((((k_60.pk (.t .h)).pk (.t .h)).pk (.t (.t (.t (.t .h))))).pk (.t (.t (.t (.t .h))))).pk (.t (.t (.t (.t .h))))).pk (.t (.t (.t (.t (.t (.t (.t (.t .h))))))))).pk (.t (.t (.t (.t (.t (.t (.t (.t .h))))))))).pk (.t (.t (.t (.t (.t (.t (.t (.t .h))))))))).pk (.t (.t (.t (.t (.t (.t (.t (.t .h))))))))
       obtain ⟨F16, O16, kin6, hO6, hre6, hF6, hb6⟩ := k_61.go (.i (.i (.i (.i (.i (.i (.i (.i (.i .e)))))))))
       refine Op_call [172] 174 _ ws_go11 (by kernel_rfl) (c_xof_Stream_Left_s1 (F := F16) (O := O16) _ _ _ _ _ _ _ _ _ _ _ _ _ _ _ _ _ _ _ _ _ _ _ _ _ _ _ _ _ _ _ _ _ _ _ _ _ _ _ _ _ _ _ kin6 _ h_r_18) ?_
       rintro e_ w_18 ⟨A55, _, c56, A56, _, c57, A57, _, c58, A58, _, c59, A59, _, c60, A60, _, c61, rfl, rfl, rfl, rfl, rfl, rfl, rfl, k_62⟩
       have k_63 := hb6 w_18 _ _ k_62 (.c (.c (.c (.c (.c (.c (.c (.c (.c .n)))))))))
       refine ⟨.u64 r_18.1, rfl, ?_⟩
       have k_64 := k_63.sel .z
       refine WLs 7 [172] (.n 10 (.b (decide ((w64 r_18.1.toNat) = (w64 ((w64 (1 + (Int.tmod (length.toNat : Int) 3000))) - 0))))) .z) qe (by kernel_rfl) ?_
       refine Wn <| W_ret ?_
       obtain rfl := si hm
       refine At_rz [.b (decide ((w64 r_18.1.toNat) = (w64 ((w64 (1 + (Int.tmod (length.toNat : Int) 3000))) - 0))))] qe ?_
       exact ⟨rfl, k_64⟩
     · rw [if_neg (of_decide_eq_false hg6)] at hm
       refine WLs 9 [172] (.n 10 (.b false) .z) qe (by kernel_rfl) ?_
       refine Wn <| W_ret ?_
       obtain rfl := si hm
       refine At_rz [.b false] qe ?_
       have k_65 := k_59.sel .z
       exact ⟨rfl, k_65⟩
 · simp only [Sum.elim_inl, Sum.elim_inr] at hm
   rintro e_ w_19 ⟨g0, A61, _, c62, A62, _, c63, A63, _, c64, g4, A64, _, c65, A65, _, c66, g5, A66, _, c67, rfl, rfl, rfl, rfl, rfl, rfl, rfl, k_66⟩
   have k_67 := k_2.call k_66
   refine ⟨.tup [pt g0 0, I 0], rfl, ?_⟩
   refine We 5 (.n 16 (pt g0 0) (.n 17 (I 0) (.ssss .a))) ?_
   refine Wn <| W_seq <| W_seq ?_
   obtain ⟨u1, h_u1, hm⟩ := ob hm
   refine Wa (.n 54 (.b (decide ((w64 (Int.tdiv 64 (((1 : UInt8) + (kind % 2)).toNat : Int))) < (key.length : Int)))) .a) (qp ((((1 : UInt8) + (kind % 2)).toNat : Int) ≠ 0) (need_some h_u1) <| qe) ?_
   refine W_pz ((w64 (Int.tdiv 64 (((1 : UInt8) + (kind % 2)).toNat : Int))) < (key.length : Int)) (fun hc16 => ?_) fun hc16 => ?_
   · rw [if_pos hc16] at hm
     refine W_seq <| Wq (.n 10 (.b (((decide (r_.2 = 8)) && false) && false)) .z) ?_
     refine W_ret (At_tr ?_)
     obtain rfl := si hm
     refine At_rz [.b (((decide (r_.2 = 8)) && false) && false)] qe ?_
     have k_68 := k_67.sel .z
     exact ⟨rfl, k_68⟩
   rw [if_neg hc16] at hm
   refine W_skip <| At_go <| W_seq <| W_seq <| W_reg <| We 11 (.n 75 (.b (((decide (r_.2 ≠ 0)) || false) || false)) (.s (.k (.s (.k (.s .a)))))) ?_
   refine WL_sp 75 (((decide (r_.2 ≠ 0)) || false) || false) (.s .a) (by kernel_rfl) (fun hg7 => ?_) (fun hg7 => ?_)
   · rw [if_pos hg7] at hm
     refine WLs 11 [75, 81] (.n 86 (.b true) (.s .a)) qe (by kernel_rfl) ?_
     refine Wn <| W_cond true (by kernel_rfl) (fun _ => ?_) (fun h => by cases h)
     refine W_seq <| Wq (.n 10 (.b false) .z) ?_
     refine W_ret (At_tr ?_)
     obtain rfl := si hm
     refine At_rz [.b false] qe ?_
     have k_69 := k_67.sel .z
     exact ⟨rfl, k_69⟩
   · rw [if_neg (by rw [hg7]; decide)] at hm
     refine WLs 2 [75] (.n 76 (pt g0 0) (.n 77 (sl A_data data.length c_data) .a)) qe (by kernel_rfl) ?_
     refine WL_op ?_
     obtain ⟨r_19, h_r_19, hm⟩ := ob hm
     obtain ⟨F10, O10, kin0, hO0, hre0, hF0, hb0⟩ := k_67.go (.r (.i (.i (.i (.i (.i (.i (.i (.i (.i .e))))))))))
     refine Op_call [75] 78 _ ws_go6 (by kernel_rfl) (c_xof_Stream_Write_s1 (F := F10) (O := O10) _ _ _ _ _ _ _ _ _ _ _ _ _ _ _ _ _ _ _ _ _ _ _ _ _ _ _ _ _ _ _ _ _ _ _ _ _ _ _ _ _ _ _ _ _ _ _ (Ro.of_old h_data k_67 hF0) rfl hc_data kin0 _ h_r_19) ?_
     rintro e_ w_20 ⟨A67, _, c68, A68, _, c69, A69, _, c70, A70, _, c71, A71, _, c72, A72, _, c73, rfl, rfl, rfl, rfl, rfl, rfl, rfl, k_70⟩
     have k_71 := hb0 w_20 _ _ k_70 (.c (.c (.c (.c (.c (.c (.c (.c (.c .n)))))))))
     refine ⟨I 0, rfl, ?_⟩
     refine WLs 8 [75, 81] (.n 86 (.b (decide ((r_.1.length : Int) ≠ (w64 (1 + (Int.tmod (length.toNat : Int) 3000)))))) (.ssss .a)) qe (by kernel_rfl) ?_
     refine Wn <| W_pz ((r_.1.length : Int) ≠ (w64 (1 + (Int.tmod (length.toNat : Int) 3000)))) (fun hc17 => ?_) fun hc17 => ?_
     · rw [if_pos hc17] at hm
       refine W_seq <| Wq (.n 10 (.b false) .z) ?_
       refine W_ret (At_tr ?_)
       obtain rfl := si hm
       refine At_rz [.b false] qe ?_
       have k_72 := k_71.sel .z
       exact ⟨rfl, k_72⟩
     rw [if_neg hc17] at hm
     refine W_skip <| At_go <| W_seq <| Wq (.n 18 (I 0) (.s .a)) ?_
     refine W_seq <| W_seq <| Wq (.n 87 (sl A_sizes sizes.length c_sizes) (.n 88 (I (sizes.length : Int)) (.n 89 (I 0) (.kkkk (.k (.s .a)))))) ?_
     refine W_block <| W_un ?_
     refine W_seq <| Wq (.n 90 (.b (decide (0 < (sizes.length : Int)))) .a) ?_
     refine W_seq <| W_pz (0 < (sizes.length : Int)) (fun hc18 => ?_) fun hc18 => ?_
     · rw [if_pos hc18] at hm
       refine W_skip <| At_go <| W_seq <| W_block <| W_seq ?_
       obtain ⟨x_3, zh3, hm⟩ := ob hm
       refine Wa (.n 20 (.u8 x_3) (.s .a)) (qW (h_sizes.cx k_71) zh3 rfl (.u8 x_3) rfl <| qe) ?_
       refine W_seq <| W_reg <| We 3 (.n 94 (pt g0 0) (.n 96 (I (x_3.toNat : Int)) .a)) ?_
       refine WL_op ?_
       obtain ⟨r_20, h_r_20, hm⟩ := ob hm
       have k_73 := (((((((((k_71.pk (.t (.t (.t (.t (.t (.t (.t (.t (.t .h)))))))))).pk (.t (.t .h))).pk (.t (.t .h))).pk (.t (.t (.t (.t (.t .h)))))).pk (.t (.t (.t (.t (.t .h)))))).pk (.t (.t (.t (.t (.t .h)))))).pk (.t (.t (.t (.t (.t (.t (.t (.t (.t .h)))))))))).pk (.t (.t (.t (.t (.t (.t (.t (.t (.t .h)))))))))).pk (.t (.t (.t (.t (.t (.t (.t (.t (.t .h)))))))))).pk (.t (.t (.t (.t (.t (.t (.t (.t (.t .h)))))))))
       obtain ⟨F17, O17, kin7, hO7, hre7, hF7, hb7⟩ := k_73.go (.i (.i (.i (.i (.i (.i (.i (.i (.i (.r .e))))))))))
       refine Op_cz 97 ws_go7 (c_xof_Stream_Read_s3 (F := F17) (O := O17) _ _ _ _ _ _ _ _ _ _ _ _ _ _ _ _ _ _ _ _ _ _ _ _ _ _ _ _ _ _ _ _ _ _ _ _ _ _ _ _ _ _ _ _ kin7 _ h_r_20) ?_
       rintro e_ w_21 ⟨A73, _, c74, A74, _, c75, A75, _, c76, A76, _, c77, A77, _, c78, A78, _, c79, A79, _, c80, g6, _, c81, rfl, rfl, rfl, rfl, rfl, rfl, rfl, rfl, rfl, k_74⟩
       have k_75 := hb7 w_21 _ _ k_74 (.c (.c (.c (.c (.c (.c (.c (.c (.c (.c (.c .n)))))))))))
       refine ⟨.tup [sl A73 r_20.1.length c74, I r_20.2.1], rfl, ?_⟩
       refine We 5 (.n 21 (sl A73 r_20.1.length c74) (.n 22 (I r_20.2.1) (.sss .a))) ?_
       refine Wn <| W_seq <| W_seq <| W_reg <| We 20 (.n 119 (.b (((decide (r_20.2.1 ≠ 0)) && ((decide (0 < (w64 (1 + (Int.tmod (length.toNat : Int) 3000))))) || (decide (x_3 = 0)))) || (decide ((w64 (1 + (Int.tmod (length.toNat : Int) 3000))) < (w64 (0 + (r_20.1.length : Int))))))) (.k (.s .a))) ?_
       refine WL_sp 119 (((decide (r_20.2.1 ≠ 0)) && ((decide (0 < (w64 (1 + (Int.tmod (length.toNat : Int) 3000))))) || (decide (x_3 = 0)))) || (decide ((w64 (1 + (Int.tmod (length.toNat : Int) 3000))) < (w64 (0 + (r_20.1.length : Int)))))) (.s .a) (by kernel_rfl) (fun hg8 => ?_) (fun hg8 => ?_)
       · rw [if_pos hg8] at hm
         refine WLs 22 [119, 131] (.n 141 (.b true) (.s (.k (.s .a)))) qe (by kernel_rfl) ?_
         refine Wn <| W_cond true (by kernel_rfl) (fun _ => ?_) (fun h => by cases h)
         refine W_seq <| Wq (.n 10 (.b false) .z) ?_
         refine W_ret (At_tr (At_ir (At_tr (At_tr (At_ir (At_tr ?_))))))
         obtain rfl := si hm
         refine At_rz [.b false] qe ?_
         have k_76 := k_75.sel .z
         exact ⟨rfl, k_76⟩
       · rw [if_neg (by rw [hg8]; decide)] at hm
         obtain ⟨b0, h_b0, hm⟩ := ob hm
         have hs0 := slc_some h_b0
         have hl0 := slc_len h_b0
         have hn0 : r_.1.length = r_.1.length := (k_75.len 11 rfl)
         have hc19 : r_.1.length ≤ c := (k_75.lec 11 rfl)
         obtain ⟨A80, c82, e_0, hc20, hA0, hc21⟩ := slx A (Int.toNat (0 : Int)) c 1 (Int.toNat (w64 (0 + (r_20.1.length : Int))) - Int.toNat (0 : Int)) b0.length (by omega) (by omega)
         refine WLs 8 [119] (.n 120 (sl A73 r_20.1.length c74) (.n 127 (sl A80 b0.length c82) .a)) (qp (0 ≤ w64 (0 + (r_20.1.length : Int)) ∧ w64 (0 + (r_20.1.length : Int)) ≤ (c : Int)) (by omega) <| qp (0 ≤ (0 : Int) ∧ (0 : Int) ≤ ((Int.toNat (w64 (0 + (r_20.1.length : Int))) : Nat) : Int)) (by omega) <| qo (.v (.slice A80 b0.length c82)) <| qp (Value.slice (slA A (Int.toNat (0 : Int)) c 1) (Int.toNat (w64 (0 + (r_20.1.length : Int))) - Int.toNat (0 : Int)) (c - Int.toNat (0 : Int)) = .slice A80 b0.length c82) e_0 <| qe) (by kernel_rfl) ?_
         refine WL_op ?_
         have k_77 := k_75.sel (.kkkk (.kkkk (.kkkk .e)))
         obtain ⟨r_21, h_r_21, hm⟩ := ob hm
         refine Op_call [119] 128 _ ws_go8 (by kernel_rfl) (c_top_same (F := N0) (O := N0) _ _ _ _ _ _ _ _ (Ro.n0 (k_77.rd 0 rfl)) (k_77.len 0 rfl) (k_77.lec 0 rfl) (Ro.n0 (Rd.cut (k_77.rd 11 rfl) h_b0 rfl (by rfl) hA0 (by omega))) rfl hc20 (Cx.refl _) _ h_r_21) ?_
         rintro e_ w_22 ⟨rfl, k_78⟩
         have k_79 := k_77.call k_78
         refine ⟨.b r_21, rfl, ?_⟩
         refine WLs 13 [119] (.n 141 (.b ((!r_21) || (decide ((r_20.1.length : Int) ≠ (if w64 ((w64 (1 + (Int.tmod (length.toNat : Int) 3000))) - 0) < (x_3.toNat : Int) then w64 ((w64 (1 + (Int.tmod (length.toNat : Int) 3000))) - 0) else (x_3.toNat : Int)))))) (.ssss (.k (.s .a)))) qe (by kernel_rfl) ?_
         refine Wn <| W_cz ((!r_21) || (decide ((r_20.1.length : Int) ≠ (if w64 ((w64 (1 + (Int.tmod (length.toNat : Int) 3000))) - 0) < (x_3.toNat : Int) then w64 ((w64 (1 + (Int.tmod (length.toNat : Int) 3000))) - 0) else (x_3.toNat : Int))))) (fun hc22 => ?_) fun hc22 => ?_
         · rw [if_pos hc22] at hm
           refine W_seq <| Wq (.n 10 (.b false) .z) ?_
           refine W_ret (At_tr (At_ir (At_tr (At_tr (At_ir (At_tr ?_))))))
           obtain rfl := si hm
           refine At_rz [.b false] qe ?_
           have k_80 := k_79.sel .z
           exact ⟨rfl, k_80⟩
         rw [if_neg (by rw [hc22]; decide)] at hm
         refine W_skip <| At_go <| W_seq <| W_reg <| We 8 (.n 143 (I (((1 : UInt8) + (kind % 2)).toNat : Int)) (.n 144 (I (w64 (1 + (Int.tmod (length.toNat : Int) 3000)))) (.n 145 (sl A_key key.length c_key) (.n 146 (sl A_data data.length c_data) (.n 148 (.u64 0) (.n 150 (I (r_20.1.length : Int)) (.s .a))))))) ?_
         refine WL_op ?_
         obtain ⟨r_22, h_r_22, hm⟩ := ob hm
         refine Op_cz 151 ws_go9 (c_xof_Take (F := N0) (O := N0) _ _ _ _ _ _ _ _ _ _ _ _ (Ro.n0 (h_key.cx k_79)) rfl hc_key (Ro.n0 (h_data.cx k_79)) rfl hc_data (Cx.refl _) _ h_r_22) ?_
         rintro e_ w_23 ⟨A81, _, c83, rfl, rfl, k_81⟩
         have k_82 := k_79.call k_81
         refine ⟨.tup [sl A81 r_22.1.length c83, I r_22.2], rfl, ?_⟩
         refine We 5 (.n 23 (sl A81 r_22.1.length c83) (.n 24 (I r_22.2) (.ssss (.sss .a)))) ?_
         refine Wn <| W_seq <| W_seq <| W_reg <| We 3 (.n 156 (.b (decide (r_22.2 ≠ 0))) (.k (.s .a))) ?_
         refine WL_sp 156 (decide (r_22.2 ≠ 0)) (.s .a) (by kernel_rfl) (fun hg9 => ?_) (fun hg9 => ?_)
         · rw [if_pos (of_decide_eq_true hg9)] at hm
           refine WLs 5 [156] (.n 161 (.b true) (.ss .a)) qe (by kernel_rfl) ?_
           refine Wn <| W_cond true (by kernel_rfl) (fun _ => ?_) (fun h => by cases h)
           refine W_seq <| Wq (.n 10 (.b false) .z) ?_
           refine W_ret (At_tr (At_ir (At_tr (At_tr (At_ir (At_tr ?_))))))
           obtain rfl := si hm
           refine At_rz [.b false] qe ?_
           have k_83 := k_82.sel .z
           exact ⟨rfl, k_83⟩
         · rw [if_neg (of_decide_eq_false hg9)] at hm
           refine WLs 2 [156] (.n 157 (sl A81 r_22.1.length c83) (.n 158 (sl A73 r_20.1.length c74) (.k (.s .a)))) qe (by kernel_rfl) ?_
           refine WL_op ?_
           obtain ⟨r_23, h_r_23, hm⟩ := ob hm
           refine Op_call [156] 159 _ ws_go8 (by kernel_rfl) (c_top_same (F := N0) (O := N0) _ _ _ _ _ _ _ _ (Ro.n0 (k_82.rd 12 rfl)) (k_82.len 12 rfl) (k_82.lec 12 rfl) (Ro.n0 (k_82.rd 0 rfl)) (k_82.len 0 rfl) (k_82.lec 0 rfl) (Cx.refl _) _ h_r_23) ?_
           rintro e_ w_24 ⟨rfl, k_84⟩
           have k_85 := k_82.call k_84
           refine ⟨.b r_23, rfl, ?_⟩
           have k_86 := k_85.sel (.kkkk (.kkkk (.kkkk .z)))
           refine WLs 2 [156] (.n 161 (.b (!r_23)) (.ssss .a)) qe (by kernel_rfl) ?_
           refine Wn <| W_cz (!r_23) (fun hc23 => ?_) fun hc23 => ?_
           · rw [if_pos hc23] at hm
             refine W_seq <| Wq (.n 10 (.b false) .z) ?_
             refine W_ret (At_tr (At_ir (At_tr (At_tr (At_ir (At_tr ?_))))))
             obtain rfl := si hm
             refine At_rz [.b false] qe ?_
             have k_87 := k_86.sel .z
             exact ⟨rfl, k_87⟩
           rw [if_neg (by rw [hc23]; decide)] at hm
           refine W_skip <| At_go <| W_q [] (.n 18 (I (w64 (0 + (r_20.1.length : Int)))) (.ss (.kkk (.s .a)))) qe (by kernel_rfl) ?_
           refine At_in <| At_go <| W_q [] (.n 89 (I 1) (.kkk (.s .a))) qe (by kernel_rfl) ?_
           have k_89 := (((((((((((k_86.pk (.t (.t (.t (.t (.t (.t (.t (.t (.t (.t .h))))))))))).pk (.t (.t (.t .h)))).pk (.t (.t (.t .h)))).pk (.t (.t (.t (.t (.t (.t .h))))))).pk (.t (.t (.t (.t (.t (.t .h))))))).pk (.t (.t (.t (.t (.t (.t .h))))))).pk (.t (.t (.t (.t (.t (.t (.t (.t (.t (.t .h))))))))))).pk (.t (.t (.t (.t (.t (.t (.t (.t (.t (.t .h))))))))))).pk (.t (.t (.t (.t (.t (.t (.t (.t (.t (.t .h))))))))))).pk (.t (.t (.t (.t (.t (.t (.t (.t (.t (.t .h))))))))))).pk (.t (.t (.t (.t (.t (.t (.t (.t (.t (.t (.t .h)))))))))))).sel (.kkkk (.kkkk (.kk (.k .z))))
           refine At_lp (m_top_WholeStreams_l1 kind length key data sizes r_ r_20) (fun s L wr => ∃ (s_0 : Int) (s_22 : Int) (s_23 : UInt32) (s_24 : UInt64) (s_25 : Bool) (s_26 : List UInt8) (s_27 : List UInt8) (s_28 : List UInt8) (s_29 : Int) (s_30 : Int) (s_31 : List UInt8) (s_32 : List UInt8) (s_33 : Bool) (s_34 : UInt64) (s_35 : Vec UInt32 8) (s_36 : UInt64) (s_37 : UInt64) (s_38 : List UInt8) (s_39 : Int) (s_40 : UInt64) (s_41 : Vec UInt8 64) (s_42 : Int) (at_0 : Int) (x_4 : Int) (A82 : Option Addr) (n0 : Nat) (c84 : Nat) (A83 : Option Addr) (n6 : Nat) (c85 : Nat) (A84 : Option Addr) (n7 : Nat) (c86 : Nat) (A85 : Option Addr) (n8 : Nat) (c87 : Nat) (A86 : Option Addr) (n9 : Nat) (c88 : Nat) (A87 : Option Addr) (n10 : Nat) (c89 : Nat), (s_0, s_22, s_23, s_24, s_25, s_26, s_27, s_28, s_29, s_30, s_31, s_32, s_33, s_34, s_35, s_36, s_37, s_38, s_39, s_40, s_41, s_42, at_0, x_4) = s ∧ L = [(2, sl A_key key.length c_key), (3, sl A_data data.length c_data), (11, I (((1 : UInt8) + (kind % 2)).toNat : Int)), (12, I (w64 (1 + (Int.tmod (length.toNat : Int) 3000)))), (14, sl A r_.1.length c), (16, pt g0 0), (18, I at_0), (87, sl A_sizes sizes.length c_sizes), (88, I (sizes.length : Int)), (89, I x_4)] ∧ s_26.length = n0 ∧ s_27.length = n6 ∧ s_28.length = n7 ∧ s_31.length = n8 ∧ s_32.length = n9 ∧ s_38.length = n10 ∧ Cx F O w wr [Ow e8 A r_.1.length c r_.1, Bx 52 g0 [I s_0, I s_22, .u32 s_23, .u64 s_24, .b s_25, sl A82 n0 c84, sl A83 n6 c85, sl A84 n7 c86, pt g4 0, sl (some ⟨g6, 0, none⟩) r_20.2.2.2.2.2.2.2.2.2.2.2.2.2.2.2.2.2.2.2.2.2.1.length c81, .u64 s_40, .ar e8 s_41, I s_42, .v (.func (.func 30) ⟨SV.vals [pt g0 0]⟩ ⟨SV.vals []⟩)], Ow e8 A82 n0 c84 s_26, Ow e8 A83 n6 c85 s_27, Ow e8 A84 n7 c86 s_28, Bx 77 g4 [I s_29, I s_30, sl A85 n8 c87, sl A86 n9 c88, .b s_33, .u64 s_34, .v (.iface 124 (SV.val (pt g5 0)))], Ow e8 A85 n8 c87 s_31, Ow e8 A86 n9 c88 s_32, Bx 128 g5 [.ar e32 s_35, .u64 s_36, .u64 s_37, sl A87 n10 c89, I s_39, .v (.func (.func 65) ⟨SV.vals []⟩ ⟨SV.vals []⟩), .v (.func (.func 66) ⟨SV.vals []⟩ ⟨SV.vals []⟩)], Ow e8 A87 n10 c89 s_38, Sh (SH e8) [((some ⟨g6, 0, none⟩), r_20.2.2.2.2.2.2.2.2.2.2.2.2.2.2.2.2.2.2.2.2.2.1.length, c81)] [r_20.2.2.2.2.2.2.2.2.2.2.2.2.2.2.2.2.2.2.2.2.2.1]]) (r_20.2.2.2.2.2.2.2.2.2.2.2.2.2.1, r_20.2.2.2.2.2.2.2.2.2.2.2.2.2.2.1, r_20.2.2.2.2.2.2.2.2.2.2.2.2.2.2.2.1, r_20.2.2.2.2.2.2.2.2.2.2.2.2.2.2.2.2.1, r_20.2.2.2.2.2.2.2.2.2.2.2.2.2.2.2.2.2.1, r_20.2.2.2.2.2.2.2.2.2.2.2.2.2.2.2.2.2.2.1, r_20.2.2.2.2.2.2.2.2.2.2.2.2.2.2.2.2.2.2.2.1, r_20.2.2.2.2.2.2.2.2.2.2.2.2.2.2.2.2.2.2.2.2.1, r_20.2.2.2.2.2.2.2.1, r_20.2.2.2.2.2.2.2.2.1, r_20.2.2.2.2.2.2.2.2.2.1, r_20.2.2.2.2.2.2.2.2.2.2.1, r_20.2.2.2.2.2.2.2.2.2.2.2.1, r_20.2.2.2.2.2.2.2.2.2.2.2.2.1, r_20.2.2.1, r_20.2.2.2.1, r_20.2.2.2.2.1, r_20.2.2.2.2.2.1, r_20.2.2.2.2.2.2.1, r_20.2.2.2.2.2.2.2.2.2.2.2.2.2.2.2.2.2.2.2.2.2.2.1, r_20.2.2.2.2.2.2.2.2.2.2.2.2.2.2.2.2.2.2.2.2.2.2.2.1, r_20.2.2.2.2.2.2.2.2.2.2.2.2.2.2.2.2.2.2.2.2.2.2.2.2, w64 (0 + (r_20.1.length : Int)), (1 : Int)) r hm ⟨r_20.2.2.2.2.2.2.2.2.2.2.2.2.2.1, r_20.2.2.2.2.2.2.2.2.2.2.2.2.2.2.1, r_20.2.2.2.2.2.2.2.2.2.2.2.2.2.2.2.1, r_20.2.2.2.2.2.2.2.2.2.2.2.2.2.2.2.2.1, r_20.2.2.2.2.2.2.2.2.2.2.2.2.2.2.2.2.2.1, r_20.2.2.2.2.2.2.2.2.2.2.2.2.2.2.2.2.2.2.1, r_20.2.2.2.2.2.2.2.2.2.2.2.2.2.2.2.2.2.2.2.1, r_20.2.2.2.2.2.2.2.2.2.2.2.2.2.2.2.2.2.2.2.2.1, r_20.2.2.2.2.2.2.2.1, r_20.2.2.2.2.2.2.2.2.1, r_20.2.2.2.2.2.2.2.2.2.1, r_20.2.2.2.2.2.2.2.2.2.2.1, r_20.2.2.2.2.2.2.2.2.2.2.2.1, r_20.2.2.2.2.2.2.2.2.2.2.2.2.1, r_20.2.2.1, r_20.2.2.2.1, r_20.2.2.2.2.1, r_20.2.2.2.2.2.1, r_20.2.2.2.2.2.2.1, r_20.2.2.2.2.2.2.2.2.2.2.2.2.2.2.2.2.2.2.2.2.2.2.1, r_20.2.2.2.2.2.2.2.2.2.2.2.2.2.2.2.2.2.2.2.2.2.2.2.1, r_20.2.2.2.2.2.2.2.2.2.2.2.2.2.2.2.2.2.2.2.2.2.2.2.2, w64 (0 + (r_20.1.length : Int)), (1 : Int), A77, r_20.2.2.2.2.2.2.2.2.2.2.2.2.2.2.2.2.2.2.1.length, c78, A78, r_20.2.2.2.2.2.2.2.2.2.2.2.2.2.2.2.2.2.2.2.1.length, c79, A79, r_20.2.2.2.2.2.2.2.2.2.2.2.2.2.2.2.2.2.2.2.2.1.length, c80, A75, r_20.2.2.2.2.2.2.2.2.2.1.length, c76, A76, r_20.2.2.2.2.2.2.2.2.2.2.1.length, c77, A74, r_20.2.2.2.2.2.1.length, c75, rfl, rfl, k_89.len 2 rfl, k_89.len 3 rfl, k_89.len 4 rfl, k_89.len 6 rfl, k_89.len 7 rfl, k_89.len 9 rfl, k_89⟩ (by kernel_rfl) ?_
           intro s0_ L_ w_25 y0 hrel hstep hr0
           obtain ⟨s_0, s_22, s_23, s_24, s_25, s_26, s_27, s_28, s_29, s_30, s_31, s_32, s_33, s_34, s_35, s_36, s_37, s_38, s_39, s_40, s_41, s_42, at_0, x_4, A82, _, c84, A83, _, c85, A84, _, c86, A85, _, c87, A86, _, c88, A87, _, c89, rfl, rfl, rfl, rfl, rfl, rfl, rfl, rfl, k_88⟩ := hrel
           have hm := hstep; simp only [m_top_WholeStreams_l1] at hm
           clear hstep
           refine W_seq <| Wq (.n 90 (.b (decide (x_4 < (sizes.length : Int)))) .a) ?_
           refine W_seq <| W_pz (x_4 < (sizes.length : Int)) (fun hc24 => ?_) fun hc24 => ?_
           · rw [if_pos hc24] at hm
             refine W_skip <| At_go <| W_seq <| W_block <| W_seq ?_
             obtain ⟨x_5, zh5, hm⟩ := ob hm
             refine Wa (.n 20 (.u8 x_5) (.s .a)) (qW (h_sizes.cx k_88) zh5 rfl (.u8 x_5) rfl <| qe) ?_
             refine W_seq <| W_reg <| We 3 (.n 94 (pt g0 0) (.n 96 (I (x_5.toNat : Int)) .a)) ?_
             refine WL_op ?_
             obtain ⟨r_24, h_r_24, hm⟩ := ob hm
             obtain ⟨F18, O18, kin8, hO8, hre8, hF8, hb8⟩ := k_88.go (.r (.i (.i (.i (.i (.i (.i (.i (.i (.i (.r .e)))))))))))
             refine Op_cz 97 ws_go7 (c_xof_Stream_Read_s1 (F := F18) (O := O18) _ _ _ _ _ _ _ _ _ _ _ _ _ _ _ _ _ _ _ _ _ _ _ _ _ _ _ _ _ _ _ _ _ _ _ _ _ _ _ _ _ _ _ _ _ _ _ _ (Ro.of_sh kin8.off hre8 1 rfl) (k_88.shlen 10 rfl) (k_88.shlec 10 rfl) kin8 _ h_r_24) ?_
             rintro e_ w_26 ⟨A88, _, c90, A89, _, c91, A90, _, c92, A91, _, c93, A92, _, c94, A93, _, c95, A94, _, c96, rfl, rfl, rfl, rfl, rfl, rfl, rfl, rfl, k_90⟩
             have k_91 := hb8 w_26 _ _ k_90 (.c (.c (.c (.c (.c (.c (.c (.c (.c (.c .n))))))))))
             refine ⟨.tup [sl A88 r_24.1.length c90, I r_24.2.1], rfl, ?_⟩
             refine We 5 (.n 21 (sl A88 r_24.1.length c90) (.n 22 (I r_24.2.1) (.sss .a))) ?_
             refine Wn <| W_seq <| W_seq <| W_reg <| We 20 (.n 119 (.b (((decide (r_24.2.1 ≠ 0)) && ((decide (at_0 < (w64 (1 + (Int.tmod (length.toNat : Int) 3000))))) || (decide (x_5 = 0)))) || (decide ((w64 (1 + (Int.tmod (length.toNat : Int) 3000))) < (w64 (at_0 + (r_24.1.length : Int))))))) (.k (.s .a))) ?_
             refine WL_sp 119 (((decide (r_24.2.1 ≠ 0)) && ((decide (at_0 < (w64 (1 + (Int.tmod (length.toNat : Int) 3000))))) || (decide (x_5 = 0)))) || (decide ((w64 (1 + (Int.tmod (length.toNat : Int) 3000))) < (w64 (at_0 + (r_24.1.length : Int)))))) (.s .a) (by kernel_rfl) (fun hg10 => ?_) (fun hg10 => ?_)
             · rw [if_pos hg10] at hm
               refine WLs 22 [119, 131] (.n 141 (.b true) (.s (.k (.s .a)))) qe (by kernel_rfl) ?_
               refine Wn <| W_cond true (by kernel_rfl) (fun _ => ?_) (fun h => by cases h)
               refine W_seq <| Wq (.n 10 (.b false) .z) ?_
               refine W_ret (At_tr (At_ir (At_tr (At_tr (At_ir (At_tr ?_))))))
               have hm := exit_of hm hr0
               obtain rfl := si hm
               refine At_rz [.b false] qe ?_
               have k_92 := k_91.sel .z
               exact ⟨rfl, k_92⟩
             · rw [if_neg (by rw [hg10]; decide)] at hm
               obtain ⟨b2, h_b2, hm⟩ := ob hm
               have hs2 := slc_some h_b2
               have hl2 := slc_len h_b2
               have hn2 : r_.1.length = r_.1.length := (k_91.len 10 rfl)
               have hc25 : r_.1.length ≤ c := (k_91.lec 10 rfl)
               obtain ⟨A95, c97, e_2, hc26, hA2, hc27⟩ := slx A (Int.toNat at_0) c 1 (Int.toNat (w64 (at_0 + (r_24.1.length : Int))) - Int.toNat at_0) b2.length (by omega) (by omega)
               refine WLs 8 [119] (.n 120 (sl A88 r_24.1.length c90) (.n 127 (sl A95 b2.length c97) .a)) (qp (0 ≤ w64 (at_0 + (r_24.1.length : Int)) ∧ w64 (at_0 + (r_24.1.length : Int)) ≤ (c : Int)) (by omega) <| qp (0 ≤ at_0 ∧ at_0 ≤ ((Int.toNat (w64 (at_0 + (r_24.1.length : Int))) : Nat) : Int)) (by omega) <| qo (.v (.slice A95 b2.length c97)) <| qp (Value.slice (slA A (Int.toNat at_0) c 1) (Int.toNat (w64 (at_0 + (r_24.1.length : Int))) - Int.toNat at_0) (c - Int.toNat at_0) = .slice A95 b2.length c97) e_2 <| qe) (by kernel_rfl) ?_
               refine WL_op ?_
               obtain ⟨r_25, h_r_25, hm⟩ := ob hm
               refine Op_call [119] 128 _ ws_go8 (by kernel_rfl) (c_top_same (F := N0) (O := N0) _ _ _ _ _ _ _ _ (Ro.n0 (k_91.rd 0 rfl)) (k_91.len 0 rfl) (k_91.lec 0 rfl) (Ro.n0 (Rd.cut (k_91.rd 10 rfl) h_b2 rfl (by rfl) hA2 (by omega))) rfl hc26 (Cx.refl _) _ h_r_25) ?_
               rintro e_ w_27 ⟨rfl, k_93⟩
               have k_94 := k_91.call k_93
               refine ⟨.b r_25, rfl, ?_⟩
               refine WLs 13 [119] (.n 141 (.b ((!r_25) || (decide ((r_24.1.length : Int) ≠ (if w64 ((w64 (1 + (Int.tmod (length.toNat : Int) 3000))) - at_0) < (x_5.toNat : Int) then w64 ((w64 (1 + (Int.tmod (length.toNat : Int) 3000))) - at_0) else (x_5.toNat : Int)))))) (.ssss (.k (.s .a)))) qe (by kernel_rfl) ?_
               refine Wn <| W_cz ((!r_25) || (decide ((r_24.1.length : Int) ≠ (if w64 ((w64 (1 + (Int.tmod (length.toNat : Int) 3000))) - at_0) < (x_5.toNat : Int) then w64 ((w64 (1 + (Int.tmod (length.toNat : Int) 3000))) - at_0) else (x_5.toNat : Int))))) (fun hc28 => ?_) fun hc28 => ?_
               · rw [if_pos hc28] at hm
                 refine W_seq <| Wq (.n 10 (.b false) .z) ?_
                 refine W_ret (At_tr (At_ir (At_tr (At_tr (At_ir (At_tr ?_))))))
                 have hm := exit_of hm hr0
                 obtain rfl := si hm
                 refine At_rz [.b false] qe ?_
                 have k_95 := k_94.sel .z
                 exact ⟨rfl, k_95⟩
               rw [if_neg (by rw [hc28]; decide)] at hm
               refine W_skip <| At_go <| W_seq <| W_reg <| We 8 (.n 143 (I (((1 : UInt8) + (kind % 2)).toNat : Int)) (.n 144 (I (w64 (1 + (Int.tmod (length.toNat : Int) 3000)))) (.n 145 (sl A_key key.length c_key) (.n 146 (sl A_data data.length c_data) (.n 148 (.u64 (UInt64.ofInt at_0)) (.n 150 (I (r_24.1.length : Int)) (.s .a))))))) ?_
               refine WL_op ?_
               obtain ⟨r_26, h_r_26, hm⟩ := ob hm
               refine Op_cz 151 ws_go9 (c_xof_Take (F := N0) (O := N0) _ _ _ _ _ _ _ _ _ _ _ _ (Ro.n0 (h_key.cx k_94)) rfl hc_key (Ro.n0 (h_data.cx k_94)) rfl hc_data (Cx.refl _) _ h_r_26) ?_
               rintro e_ w_28 ⟨A96, _, c98, rfl, rfl, k_96⟩
               have k_97 := k_94.call k_96
               refine ⟨.tup [sl A96 r_26.1.length c98, I r_26.2], rfl, ?_⟩
               refine We 5 (.n 23 (sl A96 r_26.1.length c98) (.n 24 (I r_26.2) (.ssss (.sss .a)))) ?_
               refine Wn <| W_seq <| W_seq <| W_reg <| We 3 (.n 156 (.b (decide (r_26.2 ≠ 0))) (.k (.s .a))) ?_
               refine WL_sp 156 (decide (r_26.2 ≠ 0)) (.s .a) (by kernel_rfl) (fun hg11 => ?_) (fun hg11 => ?_)
               · rw [if_pos (of_decide_eq_true hg11)] at hm
                 refine WLs 5 [156] (.n 161 (.b true) (.ss .a)) qe (by kernel_rfl) ?_
                 refine Wn <| W_cond true (by kernel_rfl) (fun _ => ?_) (fun h => by cases h)
                 refine W_seq <| Wq (.n 10 (.b false) .z) ?_
                 refine W_ret (At_tr (At_ir (At_tr (At_tr (At_ir (At_tr ?_))))))
                 have hm := exit_of hm hr0
                 obtain rfl := si hm
                 refine At_rz [.b false] qe ?_
                 have k_98 := k_97.sel .z
                 exact ⟨rfl, k_98⟩
               · rw [if_neg (of_decide_eq_false hg11)] at hm
                 refine WLs 2 [156] (.n 157 (sl A96 r_26.1.length c98) (.n 158 (sl A88 r_24.1.length c90) (.k (.s .a)))) qe (by kernel_rfl) ?_
                 refine WL_op ?_
                 obtain ⟨r_27, h_r_27, hm⟩ := ob hm
                 refine Op_call [156] 159 _ ws_go8 (by kernel_rfl) (c_top_same (F := N0) (O := N0) _ _ _ _ _ _ _ _ (Ro.n0 (k_97.rd 12 rfl)) (k_97.len 12 rfl) (k_97.lec 12 rfl) (Ro.n0 (k_97.rd 0 rfl)) (k_97.len 0 rfl) (k_97.lec 0 rfl) (Cx.refl _) _ h_r_27) ?_
                 rintro e_ w_29 ⟨rfl, k_99⟩
                 have k_100 := k_97.call k_99
                 refine ⟨.b r_27, rfl, ?_⟩
                 have k_101 := k_100.sel (.kkkk (.kkkk (.kkkk .z)))
                 refine WLs 2 [156] (.n 161 (.b (!r_27)) (.ssss .a)) qe (by kernel_rfl) ?_
                 refine Wn <| W_cz (!r_27) (fun hc29 => ?_) fun hc29 => ?_
                 · rw [if_pos hc29] at hm
                   refine W_seq <| Wq (.n 10 (.b false) .z) ?_
                   refine W_ret (At_tr (At_ir (At_tr (At_tr (At_ir (At_tr ?_))))))
                   have hm := exit_of hm hr0
                   obtain rfl := si hm
                   refine At_rz [.b false] qe ?_
                   have k_102 := k_101.sel .z
                   exact ⟨rfl, k_102⟩
                 rw [if_neg (by rw [hc29]; decide)] at hm
                 refine W_skip <| At_go <| W_q [] (.n 18 (I (w64 (at_0 + (r_24.1.length : Int)))) (.ss (.kkkk (.kk (.s .a))))) qe (by kernel_rfl) ?_
                 refine At_in <| At_go <| W_q [] (.n 89 (I (w64 (x_4 + 1))) (.kkkk (.kkkk (.k .z)))) qe (by kernel_rfl) ?_
                 have k_103 := (((((((((((k_101.pk (.t (.t (.t (.t (.t (.t (.t (.t (.t (.t (.t .h)))))))))))).pk (.t (.t (.t .h)))).pk (.t (.t (.t .h)))).pk (.t (.t (.t (.t (.t (.t .h))))))).pk (.t (.t (.t (.t (.t (.t .h))))))).pk (.t (.t (.t (.t (.t (.t .h))))))).pk (.t (.t (.t (.t (.t (.t (.t (.t (.t (.t .h))))))))))).pk (.t (.t (.t (.t (.t (.t (.t (.t (.t (.t .h))))))))))).pk (.t (.t (.t (.t (.t (.t (.t (.t (.t (.t .h))))))))))).pk (.t (.t (.t (.t (.t (.t (.t (.t (.t (.t .h))))))))))).pk (.t (.t (.t (.t (.t (.t (.t (.t (.t (.t (.t .h)))))))))))).sel (.kkkk (.kkkk (.kk (.k .z))))
                 exact At_rd (r_24.2.2.2.2.2.2.2.2.2.2.2.2.2.1, r_24.2.2.2.2.2.2.2.2.2.2.2.2.2.2.1, r_24.2.2.2.2.2.2.2.2.2.2.2.2.2.2.2.1, r_24.2.2.2.2.2.2.2.2.2.2.2.2.2.2.2.2.1, r_24.2.2.2.2.2.2.2.2.2.2.2.2.2.2.2.2.2.1, r_24.2.2.2.2.2.2.2.2.2.2.2.2.2.2.2.2.2.2.1, r_24.2.2.2.2.2.2.2.2.2.2.2.2.2.2.2.2.2.2.2.1, r_24.2.2.2.2.2.2.2.2.2.2.2.2.2.2.2.2.2.2.2.2.1, r_24.2.2.2.2.2.2.2.1, r_24.2.2.2.2.2.2.2.2.1, r_24.2.2.2.2.2.2.2.2.2.1, r_24.2.2.2.2.2.2.2.2.2.2.1, r_24.2.2.2.2.2.2.2.2.2.2.2.1, r_24.2.2.2.2.2.2.2.2.2.2.2.2.1, r_24.2.2.1, r_24.2.2.2.1, r_24.2.2.2.2.1, r_24.2.2.2.2.2.1, r_24.2.2.2.2.2.2.1, r_24.2.2.2.2.2.2.2.2.2.2.2.2.2.2.2.2.2.2.2.2.2.1, r_24.2.2.2.2.2.2.2.2.2.2.2.2.2.2.2.2.2.2.2.2.2.2.1, r_24.2.2.2.2.2.2.2.2.2.2.2.2.2.2.2.2.2.2.2.2.2.2.2, w64 (at_0 + (r_24.1.length : Int)), w64 (x_4 + 1)) (Option.some.inj hm).symm ⟨r_24.2.2.2.2.2.2.2.2.2.2.2.2.2.1, r_24.2.2.2.2.2.2.2.2.2.2.2.2.2.2.1, r_24.2.2.2.2.2.2.2.2.2.2.2.2.2.2.2.1, r_24.2.2.2.2.2.2.2.2.2.2.2.2.2.2.2.2.1, r_24.2.2.2.2.2.2.2.2.2.2.2.2.2.2.2.2.2.1, r_24.2.2.2.2.2.2.2.2.2.2.2.2.2.2.2.2.2.2.1, r_24.2.2.2.2.2.2.2.2.2.2.2.2.2.2.2.2.2.2.2.1, r_24.2.2.2.2.2.2.2.2.2.2.2.2.2.2.2.2.2.2.2.2.1, r_24.2.2.2.2.2.2.2.1, r_24.2.2.2.2.2.2.2.2.1, r_24.2.2.2.2.2.2.2.2.2.1, r_24.2.2.2.2.2.2.2.2.2.2.1, r_24.2.2.2.2.2.2.2.2.2.2.2.1, r_24.2.2.2.2.2.2.2.2.2.2.2.2.1, r_24.2.2.1, r_24.2.2.2.1, r_24.2.2.2.2.1, r_24.2.2.2.2.2.1, r_24.2.2.2.2.2.2.1, r_24.2.2.2.2.2.2.2.2.2.2.2.2.2.2.2.2.2.2.2.2.2.1, r_24.2.2.2.2.2.2.2.2.2.2.2.2.2.2.2.2.2.2.2.2.2.2.1, r_24.2.2.2.2.2.2.2.2.2.2.2.2.2.2.2.2.2.2.2.2.2.2.2, w64 (at_0 + (r_24.1.length : Int)), w64 (x_4 + 1), A92, r_24.2.2.2.2.2.2.2.2.2.2.2.2.2.2.2.2.2.2.1.length, c94, A93, r_24.2.2.2.2.2.2.2.2.2.2.2.2.2.2.2.2.2.2.2.1.length, c95, A94, r_24.2.2.2.2.2.2.2.2.2.2.2.2.2.2.2.2.2.2.2.2.1.length, c96, A90, r_24.2.2.2.2.2.2.2.2.2.1.length, c92, A91, r_24.2.2.2.2.2.2.2.2.2.2.1.length, c93, A89, r_24.2.2.2.2.2.1.length, c91, rfl, rfl, k_103.len 2 rfl, k_103.len 3 rfl, k_103.len 4 rfl, k_103.len 6 rfl, k_103.len 7 rfl, k_103.len 9 rfl, k_103⟩ (by kernel_rfl)
           rw [if_neg hc24] at hm
           refine W_exit (At_te (At_te (At_ie ?_)))
           have hm := exit_of hm hr0
           refine At_go <| W_seq <| W_reg <| We 1 (.n 167 (pt g0 0) (.ssss (.k (.s (.kk .z))))) ?_
           refine WL_op ?_
           obtain ⟨r_28, h_r_28, hm⟩ := ob hm
           obtain ⟨F19, O19, kin9, hO9, hre9, hF9, hb9⟩ := k_88.go (.r (.i (.i (.i (.i (.i (.i (.i (.i (.i (.r .e)))))))))))
           refine Op_cz 168 ws_go10 (c_xof_Stream_At_s2 (F := F19) (O := O19) _ _ _ _ _ _ _ _ _ _ _ _ _ _ _ _ _ _ _ _ _ _ _ _ _ _ _ _ _ _ _ _ _ _ _ _ _ _ _ _ _ _ _ _ _ _ _ (Ro.of_sh kin9.off hre9 1 rfl) (k_88.shlen 10 rfl) (k_88.shlec 10 rfl) kin9 _ h_r_28) ?_
           rintro e_ w_30 ⟨A97, _, c99, A98, _, c100, A99, _, c101, A100, _, c102, A101, _, c103, A102, _, c104, rfl, rfl, rfl, rfl, rfl, rfl, rfl, k_104⟩
           have k_105 := hb9 w_30 _ _ k_104 (.c (.c (.c (.c (.c (.c (.c (.c (.c .n)))))))))
           refine ⟨.u64 r_28.1, rfl, ?_⟩
           have k_106 := k_105.sel (.kkkk (.kkkk (.k (.s (.k .e)))))
           refine We 4 (.n 172 (.b (decide ((w64 r_28.1.toNat) = at_0))) (.ss .a)) ?_
           refine WL_sp 172 (decide ((w64 r_28.1.toNat) = at_0)) (.s .a) (by kernel_rfl) (fun hg12 => ?_) (fun hg12 => ?_)
           · rw [if_pos (of_decide_eq_true hg12)] at hm
             refine WLs 1 [172] (.n 173 (pt g0 0) (.kk (.s .a))) qe (by kernel_rfl) ?_
             refine WL_op ?_
             obtain ⟨r_29, h_r_29, hm⟩ := ob hm
             have k_107 := (((((((((k_106.pk (.t (.t (.t (.t (.t (.t (.t (.t (.t .h)))))))))).pk (.t (.t .h))).pk (.t (.t .h))).pk (.t (.t (.t (.t (.t .h)))))).pk (.t (.t (.t (.t (.t .h)))))).pk (.t (.t (.t (.t (.t .h)))))).pk (.t (.t (.t (.t (.t (.t (.t (.t (.t .h)))))))))).pk (.t (.t (.t (.t (.t (.t (.t (.t (.t .h)))))))))).pk (.t (.t (.t (.t (.t (.t (.t (.t (.t .h)))))))))).pk (.t (.t (.t (.t (.t (.t (.t (.t (.t .h)))))))))
             obtain ⟨F110, O110, kin10, hO10, hre10, hF10, hb10⟩ := k_107.go (.i (.i (.i (.i (.i (.i (.i (.i (.i (.r .e))))))))))
             refine Op_call [172] 174 _ ws_go11 (by kernel_rfl) (c_xof_Stream_Left_s2 (F := F110) (O := O110) _ _ _ _ _ _ _ _ _ _ _ _ _ _ _ _ _ _ _ _ _ _ _ _ _ _ _ _ _ _ _ _ _ _ _ _ _ _ _ _ _ _ _ _ _ _ _ (Ro.of_sh kin10.off hre10 0 rfl) (k_107.shlen 9 rfl) (k_107.shlec 9 rfl) kin10 _ h_r_29) ?_
             rintro e_ w_31 ⟨A103, _, c105, A104, _, c106, A105, _, c107, A106, _, c108, A107, _, c109, A108, _, c110, rfl, rfl, rfl, rfl, rfl, rfl, rfl, k_108⟩
             have k_109 := hb10 w_31 _ _ k_108 (.c (.c (.c (.c (.c (.c (.c (.c (.c .n)))))))))
             refine ⟨.u64 r_29.1, rfl, ?_⟩
             have k_110 := k_109.sel .z
             refine WLs 7 [172] (.n 10 (.b (decide ((w64 r_29.1.toNat) = (w64 ((w64 (1 + (Int.tmod (length.toNat : Int) 3000))) - at_0))))) .z) qe (by kernel_rfl) ?_
             refine Wn <| W_ret ?_
             obtain rfl := si hm
             refine At_rz [.b (decide ((w64 r_29.1.toNat) = (w64 ((w64 (1 + (Int.tmod (length.toNat : Int) 3000))) - at_0))))] qe ?_
             exact ⟨rfl, k_110⟩
           · rw [if_neg (of_decide_eq_false hg12)] at hm
             refine WLs 9 [172] (.n 10 (.b false) .z) qe (by kernel_rfl) ?_
             refine Wn <| W_ret ?_
             obtain rfl := si hm
             refine At_rz [.b false] qe ?_
             have k_111 := k_106.sel .z
             exact ⟨rfl, k_111⟩
     rw [if_neg hc18] at hm
     refine W_exit (At_te (At_te (At_ie ?_)))
     refine At_go <| W_seq <| W_reg <| We 1 (.n 167 (pt g0 0) (.ssss (.kk (.ssss .a)))) ?_
     refine WL_op ?_
     obtain ⟨r_30, h_r_30, hm⟩ := ob hm
     have k_112 := (((((((((k_71.pk (.t (.t (.t (.t (.t (.t (.t (.t (.t .h)))))))))).pk (.t (.t .h))).pk (.t (.t .h))).pk (.t (.t (.t (.t (.t .h)))))).pk (.t (.t (.t (.t (.t .h)))))).pk (.t (.t (.t (.t (.t .h)))))).pk (.t (.t (.t (.t (.t (.t (.t (.t (.t .h)))))))))).pk (.t (.t (.t (.t (.t (.t (.t (.t (.t .h)))))))))).pk (.t (.t (.t (.t (.t (.t (.t (.t (.t .h)))))))))).pk (.t (.t (.t (.t (.t (.t (.t (.t (.t .h)))))))))
     obtain ⟨F111, O111, kin11, hO11, hre11, hF11, hb11⟩ := k_112.go (.i (.i (.i (.i (.i (.i (.i (.i (.i (.r .e))))))))))
     refine Op_cz 168 ws_go10 (c_xof_Stream_At_s3 (F := F111) (O := O111) _ _ _ _ _ _ _ _ _ _ _ _ _ _ _ _ _ _ _ _ _ _ _ _ _ _ _ _ _ _ _ _ _ _ _ _ _ _ _ _ _ _ _ kin11 _ h_r_30) ?_
     rintro e_ w_32 ⟨A109, _, c111, A110, _, c112, A111, _, c113, A112, _, c114, A113, _, c115, A114, _, c116, rfl, rfl, rfl, rfl, rfl, rfl, rfl, k_113⟩
     have k_114 := hb11 w_32 _ _ k_113 (.c (.c (.c (.c (.c (.c (.c (.c (.c .n)))))))))
     refine ⟨.u64 r_30.1, rfl, ?_⟩
     have k_115 := k_114.sel (.kkkk (.kkkk (.k .z)))
     refine We 4 (.n 172 (.b (decide ((w64 r_30.1.toNat) = 0))) (.ss .a)) ?_
     refine WL_sp 172 (decide ((w64 r_30.1.toNat) = 0)) (.s .a) (by kernel_rfl) (fun hg13 => ?_) (fun hg13 => ?_)
     · rw [if_pos (of_decide_eq_true hg13)] at hm
       refine WLs 1 [172] (.n 173 (pt g0 0) (.kk (.s .a))) qe (by kernel_rfl) ?_
       refine WL_op ?_
       have k_116 := k_115.sel (.kkkk (.kkkk (.k .e)))
       obtain ⟨r_31, h_r_31, hm⟩ := ob hm
       have k_117 := ((((((((k_116.pk (.t .h)).pk (.t .h)).pk (.t (.t (.t (.t .h))))).pk (.t (.t (.t (.t .h))))).pk (.t (.t (.t (.t .h))))).pk (.t (.t (.t (.t (.t (.t (.t (.t .h))))))))).pk (.t (.t (.t (.t (.t (.t (.t (.t .h))))))))).pk (.t (.t (.t (.t (.t (.t (.t (.t .h))))))))).pk (.t (.t (.t (.t (.t (.t (.t (.t .h))))))))
       obtain ⟨F112, O112, kin12, hO12, hre12, hF12, hb12⟩ := k_117.go (.i (.i (.i (.i (.i (.i (.i (.i (.i .e)))))))))
       refine Op_call [172] 174 _ ws_go11 (by kernel_rfl) (c_xof_Stream_Left_s3 (F := F112) (O := O112) _ _ _ _ _ _ _ _ _ _ _ _ _ _ _ _ _ _ _ _ _ _ _ _ _ _ _ _ _ _ _ _ _ _ _ _ _ _ _ _ _ _ _ kin12 _ h_r_31) ?_
       rintro e_ w_33 ⟨A115, _, c117, A116, _, c118, A117, _, c119, A118, _, c120, A119, _, c121, A120, _, c122, rfl, rfl, rfl, rfl, rfl, rfl, rfl, k_118⟩
       have k_119 := hb12 w_33 _ _ k_118 (.c (.c (.c (.c (.c (.c (.c (.c (.c .n)))))))))
       refine ⟨.u64 r_31.1, rfl, ?_⟩
       have k_120 := k_119.sel .z
       refine WLs 7 [172] (.n 10 (.b (decide ((w64 r_31.1.toNat) = (w64 ((w64 (1 + (Int.tmod (length.toNat : Int) 3000))) - 0))))) .z) qe (by kernel_rfl) ?_
       refine Wn <| W_ret ?_
       obtain rfl := si hm
       refine At_rz [.b (decide ((w64 r_31.1.toNat) = (w64 ((w64 (1 + (Int.tmod (length.toNat : Int) 3000))) - 0))))] qe ?_
       exact ⟨rfl, k_120⟩
     · rw [if_neg (of_decide_eq_false hg13)] at hm
       refine WLs 9 [172] (.n 10 (.b false) .z) qe (by kernel_rfl) ?_
       refine Wn <| W_ret ?_
       obtain rfl := si hm
       refine At_rz [.b false] qe ?_
       have k_121 := k_115.sel .z
       exact ⟨rfl, k_121⟩
end Go.Sx

