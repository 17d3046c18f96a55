import Derived.Test.YtapbicobghgmlaaW3
namespace Go.Sx
open Go.RowKit Go.Proofs
set_option linter.unusedVariables false
set_option linter.unusedSimpArgs false
set_option maxRecDepth 20000

theorem c_l25_DiceSkips_k {F O : Nat → Prop} {w : World} (seed : List UInt8) (by_ : UInt8) (far : UInt64) (A_seed : Option Addr) (n_seed : Nat) (c_seed : Nat) (h_seed : Ro F w A_seed (e8.all seed)) (hn_seed : seed.length = n_seed) (hc_seed : n_seed ≤ c_seed) (k : Cx F O w w []) (r : Bool) (hm : m_l25_DiceSkips_k seed by_ far = some r) :
    Calls Try.prog 3 (vals [sl A_seed n_seed c_seed, .u8 by_, .u64 far]) w (fun e w' => e = .returned (SV.val (.b r)) ∧ Cx F O w w' []) := by
 unfold m_l25_DiceSkips_k at hm
 subst hn_seed
 refine calls [sl A_seed seed.length c_seed, .u8 by_, .u64 far] Try.func3 rfl (of_decide_eq_true (by kernel_rfl)) ?_
 refine W_seq <| W_q [] .a qe (by kernel_rfl) ?_
 refine At_go <| W_seq <| W_seq <| W_reg <| WL_op ?_
 obtain ⟨r_, h_r_, hm⟩ := ob hm
 refine Op_call [] 18 _ ds_go4 (by kernel_rfl) (c_l25_awake_k (F := N0) (O := N0)  (Cx.refl _) _ h_r_) ?_
 rintro e_ w_ ⟨rfl, k_⟩
 have k_1 := k.call k_
 refine ⟨.b r_, rfl, ?_⟩
 refine WLs 1 [] (.n 19 (.b (!r_)) (.s .a)) qe (by kernel_rfl) ?_
 refine WL_nil <| At_go <| W_cond (!r_) (by kernel_rfl) (fun hc => ?_) (fun hc => ?_)
 · rw [if_pos hc] at hm
   refine W_seq <| W_q [] (.n 6 (.b false) .z) qe (by kernel_rfl) ?_
   refine At_go <| W_ret (At_tr ?_)
   obtain rfl := Option.some.inj hm
   refine At_rt [.b false] qe (by kernel_rfl) ?_
   exact ⟨rfl, k_1⟩
 rw [if_neg (by rw [hc]; decide)] at hm
 refine W_skip <| At_go <| W_seq <| W_reg <| WLs 1 [] (.n 21 (sl A_seed seed.length c_seed) (.s .a)) qe (by kernel_rfl) ?_
 refine WL_op ?_
 obtain ⟨r_1, h_r_1, hm⟩ := ob hm
 refine Op_call [] 22 _ ds_go5 (by kernel_rfl) (c_dice_New_k (F := N0) (O := N0) _ _ _ _ (Ro.n0 (h_seed.cx k_1)) rfl hc_seed (Cx.refl _) _ h_r_1) ?_
 rcases r_1 with r_2 | r_3
 · simp only [Sum.elim_inl, Sum.elim_inr] at hm
   rintro e_ w_1 ⟨rfl, k_2⟩
   have k_3 := k_1.call k_2
   refine ⟨.tup [.v (.pointer none), I r_2], rfl, ?_⟩
   refine WLs 5 [] (.n 7 (.v (.pointer none)) (.n 8 (I r_2) (.ss .a))) qe (by kernel_rfl) ?_
   refine WL_nil <| At_go <| W_seq <| W_reg <| WL_op <| Op_mk ds_tf22 e8 [] 26 ([] : List UInt8) [] [] (by kernel_rfl) (by kernel_rfl) (by kernel_rfl) k_3 ?_
   intro A w_2 k_4
   refine WLs 1 [] (.n 27 (sl A_seed seed.length c_seed) .a) qe (by kernel_rfl) ?_
   refine WL_op ?_
   obtain ⟨b, h_b, hm⟩ := ob hm
   obtain ⟨hz, hl⟩ := app_some h_b
   refine Op_append (E := e8) (v := sl A_seed seed.length c_seed) (ys := seed) ds_tf22 [] 28 0 (by kernel_rfl) k_4 rfl (Src.sl (h_seed.cx k_4) rfl (by rfl)) rfl (by have := k_4.len 0 rfl; have := hm; omega) ?_
   intro A1 c w_3 k_5
   rw [← hl] at k_5
   refine WL_op ?_
   have k_6 := k_5.sel (.k .e)
   obtain ⟨r_4, h_r_4, hm⟩ := ob hm
   refine Op_call [] 29 _ ds_go5 (by kernel_rfl) (c_dice_New_k (F := N0) (O := N0) _ _ _ _ (Ro.n0 (k_6.rd 0 rfl)) (k_6.len 0 rfl) (k_6.lec 0 rfl) (Cx.refl _) _ h_r_4) ?_
   rcases r_4 with r_5 | r_6
   · simp only [Sum.elim_inl, Sum.elim_inr] at hm
     rintro e_ w_4 ⟨rfl, k_7⟩
     have k_8 := k_6.call k_7
     refine ⟨.tup [.v (.pointer none), I r_5], rfl, ?_⟩
     have k_9 := k_8.sel .z
     refine WLs 5 [] (.n 9 (.v (.pointer none)) (.n 10 (I r_5) (.ssss .a))) qe (by kernel_rfl) ?_
     refine WL_nil <| At_go <| W_seq <| W_seq <| W_q [] (.n 34 (.b (decide (64 < ((seed.length : Nat) : Int)))) (.kkkk (.s .a))) qe (by kernel_rfl) ?_
     refine At_go <| W_condp (64 < ((seed.length : Nat) : Int)) (by kernel_rfl) (fun hc1 => ?_) (fun hc1 => ?_)
     · rw [if_pos hc1] at hm
       refine W_seq <| W_q [37, 41] (.n 6 (.b ((decide (r_2 = 8)) && (decide (r_5 = 8)))) .z) qe (by kernel_rfl) ?_
       refine At_go <| W_ret (At_tr ?_)
       obtain rfl := Option.some.inj hm
       refine At_rt [.b ((decide (r_2 = 8)) && (decide (r_5 = 8)))] qe (by kernel_rfl) ?_
       exact ⟨rfl, k_9⟩
     rw [if_neg hc1] at hm
     refine W_skip <| At_go <| W_seq <| W_seq <| W_q [51] (.n 54 (.b true) (.s (.k (.s (.k (.s .a)))))) qe (by kernel_rfl) ?_
     refine At_go <| W_cond true (by kernel_rfl) (fun _ => ?_) (fun h => by cases h)
     refine W_seq <| W_q [] (.n 6 (.b false) .z) qe (by kernel_rfl) ?_
     refine At_go <| W_ret (At_tr ?_)
     obtain rfl := Option.some.inj hm
     refine At_rt [.b false] qe (by kernel_rfl) ?_
     exact ⟨rfl, k_9⟩
   · simp only [Sum.elim_inl, Sum.elim_inr] at hm
     rintro e_ w_5 ⟨g, A2, _, c1, g1, A3, _, c2, A4, _, c3, A5, _, c4, g2, A6, _, c5, A7, _, c6, g3, A8, _, c7, rfl, rfl, rfl, rfl, rfl, rfl, rfl, rfl, k_10⟩
     have k_11 := k_6.call k_10
     refine ⟨.tup [pt g 0, I 0], rfl, ?_⟩
     have k_12 := k_11.sel (.s (.kkkk (.kkkk (.kk (.k .e)))))
     refine WLs 5 [] (.n 9 (pt g 0) (.n 10 (I 0) (.ssss .a))) qe (by kernel_rfl) ?_
     refine WL_nil <| At_go <| W_seq <| W_seq <| W_q [] (.n 34 (.b (decide (64 < ((seed.length : Nat) : Int)))) (.kkkk (.s .a))) qe (by kernel_rfl) ?_
     refine At_go <| W_condp (64 < ((seed.length : Nat) : Int)) (by kernel_rfl) (fun hc2 => ?_) (fun hc2 => ?_)
     · rw [if_pos hc2] at hm
       refine W_seq <| W_q [37, 41, 45] (.n 6 (.b false) .z) qe (by kernel_rfl) ?_
       refine At_go <| W_ret (At_tr ?_)
       obtain rfl := Option.some.inj hm
       refine At_rt [.b false] qe (by kernel_rfl) ?_
       have k_13 := k_12.sel .z
       exact ⟨rfl, k_13⟩
     rw [if_neg hc2] at hm
     refine W_skip <| At_go <| W_seq <| W_seq <| W_q [51] (.n 54 (.b true) (.s (.k (.s (.k (.s .a)))))) qe (by kernel_rfl) ?_
     refine At_go <| W_cond true (by kernel_rfl) (fun _ => ?_) (fun h => by cases h)
     refine W_seq <| W_q [] (.n 6 (.b false) .z) qe (by kernel_rfl) ?_
     refine At_go <| W_ret (At_tr ?_)
     obtain rfl := Option.some.inj hm
     refine At_rt [.b false] qe (by kernel_rfl) ?_
     have k_14 := k_12.sel .z
     exact ⟨rfl, k_14⟩
 · simp only [Sum.elim_inl, Sum.elim_inr] at hm
   rintro e_ w_6 ⟨g0, A0, _, c0, g4, A9, _, c8, A10, _, c9, A11, _, c10, g5, A12, _, c11, A13, _, c12, g6, A14, _, c13, rfl, rfl, rfl, rfl, rfl, rfl, rfl, rfl, k_15⟩
   have k_16 := k_1.call k_15
   refine ⟨.tup [pt g0 0, I 0], rfl, ?_⟩
   refine WLs 5 [] (.n 7 (pt g0 0) (.n 8 (I 0) (.ss .a))) qe (by kernel_rfl) ?_
   refine WL_nil <| At_go <| W_seq <| W_reg <| WL_op <| Op_mk ds_tf22 e8 [] 26 ([] : List UInt8) [] [] (by kernel_rfl) (by kernel_rfl) (by kernel_rfl) k_16 ?_
   intro A15 w_7 k_17
   refine WLs 1 [] (.n 27 (sl A_seed seed.length c_seed) .a) qe (by kernel_rfl) ?_
   refine WL_op ?_
   obtain ⟨b0, h_b0, hm⟩ := ob hm
   obtain ⟨hz0, hl0⟩ := app_some h_b0
   refine Op_append (E := e8) (v := sl A_seed seed.length c_seed) (ys := seed) ds_tf22 [] 28 11 (by kernel_rfl) k_17 rfl (Src.sl (h_seed.cx k_17) rfl (by rfl)) rfl (by have := k_17.len 11 rfl; have := hm; omega) ?_
   intro A16 c14 w_8 k_18
   rw [← hl0] at k_18
   refine WL_op ?_
   have k_19 := k_18.sel (.kkkk (.kkkk (.kkkk .e)))
   obtain ⟨r_7, h_r_7, hm⟩ := ob hm
   refine Op_call [] 29 _ ds_go5 (by kernel_rfl) (c_dice_New_k (F := N0) (O := N0) _ _ _ _ (Ro.n0 (k_19.rd 11 rfl)) (k_19.len 11 rfl) (k_19.lec 11 rfl) (Cx.refl _) _ h_r_7) ?_
   rcases r_7 with r_8 | r_9
   · simp only [Sum.elim_inl, Sum.elim_inr] at hm
     rintro e_ w_9 ⟨rfl, k_20⟩
     have k_21 := k_19.call k_20
     refine ⟨.tup [.v (.pointer none), I r_8], rfl, ?_⟩
     have k_22 := k_21.sel (.kkkk (.kkkk (.kk (.k .z))))
     refine WLs 5 [] (.n 9 (.v (.pointer none)) (.n 10 (I r_8) (.ssss .a))) qe (by kernel_rfl) ?_
     refine WL_nil <| At_go <| W_seq <| W_seq <| W_q [] (.n 34 (.b (decide (64 < ((seed.length : Nat) : Int)))) (.kkkk (.s .a))) qe (by kernel_rfl) ?_
     refine At_go <| W_condp (64 < ((seed.length : Nat) : Int)) (by kernel_rfl) (fun hc3 => ?_) (fun hc3 => ?_)
     · rw [if_pos hc3] at hm
       refine W_seq <| W_q [37, 41, 45] (.n 6 (.b false) .z) qe (by kernel_rfl) ?_
       refine At_go <| W_ret (At_tr ?_)
       obtain rfl := Option.some.inj hm
       refine At_rt [.b false] qe (by kernel_rfl) ?_
       have k_23 := k_22.sel .z
       exact ⟨rfl, k_23⟩
     rw [if_neg hc3] at hm
     refine W_skip <| At_go <| W_seq <| W_seq <| W_q [51] (.n 54 (.b true) (.s (.k (.s (.k (.s .a)))))) qe (by kernel_rfl) ?_
     refine At_go <| W_cond true (by kernel_rfl) (fun _ => ?_) (fun h => by cases h)
     refine W_seq <| W_q [] (.n 6 (.b false) .z) qe (by kernel_rfl) ?_
     refine At_go <| W_ret (At_tr ?_)
     obtain rfl := Option.some.inj hm
     refine At_rt [.b false] qe (by kernel_rfl) ?_
     have k_24 := k_22.sel .z
     exact ⟨rfl, k_24⟩
   · simp only [Sum.elim_inl, Sum.elim_inr] at hm
     rintro e_ w_10 ⟨g7, A17, _, c15, g8, A18, _, c16, A19, _, c17, A20, _, c18, g9, A21, _, c19, A22, _, c20, g10, A23, _, c21, rfl, rfl, rfl, rfl, rfl, rfl, rfl, rfl, k_25⟩
     have k_26 := k_19.call k_25
     refine ⟨.tup [pt g7 0, I 0], rfl, ?_⟩
     have k_27 := k_26.sel (.kkkk (.kkkk (.kk (.k (.s (.kkkk (.kkkk (.kk (.k .e)))))))))
     refine WLs 5 [] (.n 9 (pt g7 0) (.n 10 (I 0) (.ssss .a))) qe (by kernel_rfl) ?_
     refine WL_nil <| At_go <| W_seq <| W_seq <| W_q [] (.n 34 (.b (decide (64 < ((seed.length : Nat) : Int)))) (.kkkk (.s .a))) qe (by kernel_rfl) ?_
     refine At_go <| W_condp (64 < ((seed.length : Nat) : Int)) (by kernel_rfl) (fun hc4 => ?_) (fun hc4 => ?_)
     · rw [if_pos hc4] at hm
       refine W_seq <| W_q [37, 41, 45] (.n 6 (.b false) .z) qe (by kernel_rfl) ?_
       refine At_go <| W_ret (At_tr ?_)
       obtain rfl := Option.some.inj hm
       refine At_rt [.b false] qe (by kernel_rfl) ?_
       have k_28 := k_27.sel .z
       exact ⟨rfl, k_28⟩
     rw [if_neg hc4] at hm
     refine W_skip <| At_go <| W_seq <| W_seq <| W_q [51] (.n 54 (.b false) (.s (.k (.s (.k (.s .a)))))) qe (by kernel_rfl) ?_
     refine At_go <| W_cond false (by kernel_rfl) (fun h => by cases h) (fun _ => ?_)
     refine W_skip <| At_go <| W_seq <| W_seq <| W_reg <| WLs 3 [] (.n 55 (pt g0 0) (.n 57 (.u64 (UInt64.ofNat by_.toNat)) (.s .a))) qe (by kernel_rfl) ?_
     refine WL_op ?_
     obtain ⟨r_10, h_r_10, hm⟩ := ob hm
     obtain ⟨F1, O1, kin, hO, hre, hF, hb⟩ := k_27.go (.i (.r (.i (.r (.r (.r (.i (.i (.i (.i (.i (.r (.r (.r (.r (.r (.r (.r (.r (.r (.r (.r .e))))))))))))))))))))))
     refine Op_call [] 58 _ ds_go6 (by kernel_rfl) (c_dice_Dice_Skip_k (F := F1) (O := O1) _ _ _ _ _ _ _ _ _ _ _ _ _ _ _ _ _ _ _ _ _ _ _ _ _ _ _ _ _ _ _ _ _ _ _ _ _ _ _ _ _ _ _ _ (Ro.of_sh kin.off hre 0 rfl) (k_27.shlen 1 rfl) (k_27.shlec 1 rfl) (Ro.of_sh kin.off hre 1 rfl) (k_27.shlen 3 rfl) (k_27.shlec 3 rfl) (Ro.of_sh kin.off hre 2 rfl) (k_27.shlen 4 rfl) (k_27.shlec 4 rfl) (Ro.of_sh kin.off hre 3 rfl) (k_27.shlen 5 rfl) (k_27.shlec 5 rfl) kin _ h_r_10) ?_
     rcases r_10 with r_11 | r_12
     · simp only [Sum.elim_inl, Sum.elim_inr] at hm
       rintro e_ w_11 ⟨A24, _, c22, A25, _, c23, A26, _, c24, rfl, rfl, rfl, rfl, k_29⟩
       have k_30 := hb w_11 _ _ k_29 (.c (.c (.c (.c (.c (.c (.c .n)))))))
       refine ⟨I 1, rfl, ?_⟩
       refine WLs 1 [] (.n 59 (.b true) (.sss .a)) qe (by kernel_rfl) ?_
       refine WL_nil <| At_go <| W_cond true (by kernel_rfl) (fun _ => ?_) (fun h => by cases h)
       refine W_seq <| W_q [] (.n 6 (.b false) .z) qe (by kernel_rfl) ?_
       refine At_go <| W_ret (At_tr ?_)
       obtain rfl := Option.some.inj hm
       refine At_rt [.b false] qe (by kernel_rfl) ?_
       have k_31 := k_30.sel .z
       exact ⟨rfl, k_31⟩
     · simp only [Sum.elim_inl, Sum.elim_inr] at hm
       rintro e_ w_12 ⟨A27, _, c25, A28, _, c26, A29, _, c27, g11, _, c28, rfl, rfl, rfl, rfl, rfl, k_32⟩
       have k_33 := hb w_12 _ _ k_32 (.c (.c (.c (.c (.c (.c (.c (.c .n))))))))
       refine ⟨I 0, rfl, ?_⟩
       refine WLs 1 [] (.n 59 (.b false) (.sss .a)) qe (by kernel_rfl) ?_
       refine WL_nil <| At_go <| W_cond false (by kernel_rfl) (fun h => by cases h) (fun _ => ?_)
       refine W_skip <| At_go <| W_seq <| W_seq <| W_q [] (.n 11 (I 0) (.s .a)) qe (by kernel_rfl) ?_
       refine At_go <| W_block <| W_un ?_
       refine W_seq <| W_seq <| W_q [] (.n 63 (.b (decide (0 < (by_.toNat : Int)))) .a) qe (by kernel_rfl) ?_
       refine At_go <| W_condp (0 < (by_.toNat : Int)) (by kernel_rfl) (fun hc5 => ?_) (fun hc5 => ?_)
       · rw [if_pos hc5] at hm
         refine W_skip <| At_go <| W_seq <| W_block <| W_seq <| W_reg <| WLs 1 [] (.n 67 (pt g7 0) (.s .a)) qe (by kernel_rfl) ?_
         refine WL_op ?_
         obtain ⟨r_13, h_r_13, hm⟩ := ob hm
         obtain ⟨F11, O11, kin1, hO1, hre1, hF1, hb1⟩ := k_33.go (.r (.r (.r (.r (.r (.r (.r (.r (.r (.r (.r (.r (.i (.r (.i (.r (.r (.r (.i (.i (.i (.i (.i .e)))))))))))))))))))))))
         refine Op_call [] 68 _ ds_go7 (by kernel_rfl) (c_dice_Dice_Word_k (F := F11) (O := O11) _ _ _ _ _ _ _ _ _ _ _ _ _ _ _ _ _ _ _ _ _ _ _ _ _ _ _ _ _ _ _ _ _ _ _ _ _ _ _ _ _ _ _ (Ro.of_sh kin1.off hre1 12 rfl) (k_33.shlen 13 rfl) (k_33.shlec 13 rfl) (Ro.of_sh kin1.off hre1 13 rfl) (k_33.shlen 15 rfl) (k_33.shlec 15 rfl) (Ro.of_sh kin1.off hre1 14 rfl) (k_33.shlen 16 rfl) (k_33.shlec 16 rfl) (Ro.of_sh kin1.off hre1 15 rfl) (k_33.shlen 17 rfl) (k_33.shlec 17 rfl) kin1 _ h_r_13) ?_
         rintro e_ w_13 ⟨A30, _, c29, A31, _, c30, A32, _, c31, g12, _, c32, rfl, rfl, rfl, rfl, rfl, k_34⟩
         have k_35 := hb1 w_13 _ _ k_34 (.c (.c (.c (.c (.c (.c (.c (.c .n))))))))
         refine ⟨.tup [.u64 r_13.1, I r_13.2.1], rfl, ?_⟩
         refine WLs 5 [] (.n 13 (I r_13.2.1) (.ss .a)) qe (by kernel_rfl) ?_
         refine WL_nil <| At_go <| W_seq <| W_q [] (.n 72 (.b (decide (r_13.2.1 ≠ 0))) (.s .a)) qe (by kernel_rfl) ?_
         refine At_go <| W_condp (r_13.2.1 ≠ 0) (by kernel_rfl) (fun hc6 => ?_) (fun hc6 => ?_)
         · rw [if_pos hc6] at hm
           refine W_seq <| W_q [] (.n 6 (.b false) .z) qe (by kernel_rfl) ?_
           refine At_go <| W_ret (At_ir (At_tr (At_tr (At_ir (At_tr ?_)))))
           obtain rfl := Option.some.inj hm
           refine At_rt [.b false] qe (by kernel_rfl) ?_
           have k_36 := k_35.sel .z
           exact ⟨rfl, k_36⟩
         rw [if_neg hc6] at hm
         refine W_skip <| At_in <| At_go <| W_q [] (.n 11 (I 1) (.ss .a)) qe (by kernel_rfl) ?_
         have k_38 := (((((((((((((((((((((((k_35.pk (.t (.t (.t (.t (.t (.t .h))))))).pk (.t (.t .h))).pk (.t (.t .h))).pk (.t (.t (.t (.t (.t .h)))))).pk (.t (.t (.t (.t (.t .h)))))).pk (.t (.t (.t (.t (.t .h)))))).pk (.t (.t (.t (.t (.t (.t (.t (.t (.t (.t (.t (.t (.t (.t (.t (.t (.t (.t (.t (.t (.t (.t (.t .h)))))))))))))))))))))))).pk (.t (.t (.t (.t (.t (.t (.t (.t (.t (.t (.t (.t (.t (.t (.t (.t (.t (.t (.t (.t (.t (.t (.t .h)))))))))))))))))))))))).pk (.t (.t (.t (.t (.t (.t (.t (.t (.t (.t (.t (.t (.t (.t (.t (.t (.t (.t (.t (.t (.t (.t (.t .h)))))))))))))))))))))))).pk (.t (.t (.t (.t (.t (.t (.t (.t (.t .h)))))))))).pk (.t (.t (.t (.t (.t (.t (.t (.t (.t (.t (.t (.t (.t (.t (.t (.t (.t (.t (.t (.t (.t (.t (.t .h)))))))))))))))))))))))).pk (.t (.t (.t (.t (.t (.t (.t (.t (.t (.t (.t .h)))))))))))).pk (.t (.t (.t (.t (.t (.t (.t (.t (.t (.t (.t (.t (.t (.t (.t (.t (.t (.t .h))))))))))))))))))).pk (.t (.t (.t (.t (.t (.t (.t (.t (.t (.t (.t (.t (.t (.t .h))))))))))))))).pk (.t (.t (.t (.t (.t (.t (.t (.t (.t (.t (.t (.t (.t (.t .h))))))))))))))).pk (.t (.t (.t (.t (.t (.t (.t (.t (.t (.t (.t (.t (.t (.t (.t (.t (.t .h)))))))))))))))))).pk (.t (.t (.t (.t (.t (.t (.t (.t (.t (.t (.t (.t (.t (.t (.t (.t (.t .h)))))))))))))))))).pk (.t (.t (.t (.t (.t (.t (.t (.t (.t (.t (.t (.t (.t (.t (.t (.t (.t .h)))))))))))))))))).pk (.t (.t (.t (.t (.t (.t (.t (.t (.t (.t (.t (.t (.t (.t (.t (.t (.t (.t (.t (.t (.t (.t (.t .h)))))))))))))))))))))))).pk (.t (.t (.t (.t (.t (.t (.t (.t (.t (.t (.t (.t (.t (.t (.t (.t (.t (.t (.t (.t (.t (.t (.t .h)))))))))))))))))))))))).pk (.t (.t (.t (.t (.t (.t (.t (.t (.t (.t (.t (.t (.t (.t (.t (.t (.t (.t (.t (.t (.t (.t (.t .h)))))))))))))))))))))))).pk (.t (.t (.t (.t (.t (.t (.t (.t (.t (.t (.t (.t (.t (.t (.t (.t (.t (.t (.t (.t (.t .h)))))))))))))))))))))).pk (.t (.t (.t (.t (.t (.t (.t (.t (.t (.t (.t (.t (.t (.t (.t (.t (.t (.t (.t (.t (.t (.t (.t .h)))))))))))))))))))))))).pk (.t (.t (.t (.t (.t (.t (.t (.t (.t (.t (.t (.t (.t (.t (.t (.t (.t (.t (.t (.t (.t (.t (.t .h)))))))))))))))))))))))
         refine At_lp (m_l25_DiceSkips_k_l0 by_ far r_3 r_9 r_12 r_13) (fun s L wr => ∃ (b1 : Int) (b2 : Int) (b3 : List UInt8) (b4 : List UInt8) (b5 : Bool) (b6 : UInt64) (b7 : Vec UInt64 8) (b8 : UInt64) (b9 : UInt64) (b10 : List UInt8) (b11 : Int) (b12 : UInt64) (b13 : Vec UInt8 64) (b14 : Int) (i : Int) (A33 : Option Addr) (n : Nat) (c33 : Nat) (A34 : Option Addr) (n1 : Nat) (c34 : Nat) (A35 : Option Addr) (n2 : Nat) (c35 : Nat), (b1, b2, b3, b4, b5, b6, b7, b8, b9, b10, b11, b12, b13, b14, i) = s ∧ L = [(1, .u8 by_), (2, .u64 far), (7, pt g0 0), (9, pt g7 0), (11, I i)] ∧ b3.length = n ∧ b4.length = n1 ∧ b10.length = n2 ∧ Cx F O w wr [Bx 41 g0 [sl A0 r_3.1.length c0, pt g4 0], Sh (SH e8) [(A0, r_3.1.length, c0)] [r_3.1], Bx 62 g4 [I 1, I 64, .u32 4294967295, .u64 274877906944, .b false, sl A9 r_3.2.1.length c8, sl A10 r_3.2.2.1.length c9, sl A11 r_3.2.2.2.1.length c10, pt g5 0, sl (some ⟨g11, 0, none⟩) r_12.2.2.2.2.2.2.2.2.2.2.2.1.length c28, .u64 r_12.2.2.2.2.2.2.2.2.2.2.2.2.1, .ar e8 r_12.2.2.2.2.2.2.2.2.2.2.2.2.2.1, I r_12.2.2.2.2.2.2.2.2.2.2.2.2.2.2, .v (.func (.func 38) ⟨SV.vals [pt g4 0]⟩ ⟨SV.vals []⟩)], Sh (SH e8) [(A9, r_3.2.1.length, c8)] [r_3.2.1], Sh (SH e8) [(A10, r_3.2.2.1.length, c9)] [r_3.2.2.1], Sh (SH e8) [(A11, r_3.2.2.2.1.length, c10)] [r_3.2.2.2.1], Bx 95 g5 [I r_12.2.2.2.2.2.1, I r_12.2.2.2.2.2.2.1, sl A28 r_12.2.2.2.2.2.2.2.1.length c26, sl A29 r_12.2.2.2.2.2.2.2.2.1.length c27, .b r_12.2.2.2.2.2.2.2.2.2.1, .u64 r_12.2.2.2.2.2.2.2.2.2.2.1, .v (.iface 115 (SV.val (pt g6 0)))], Ow e8 A28 r_12.2.2.2.2.2.2.2.1.length c26 r_12.2.2.2.2.2.2.2.1, Ow e8 A29 r_12.2.2.2.2.2.2.2.2.1.length c27 r_12.2.2.2.2.2.2.2.2.1, Bx 121 g6 [.ar e64 r_12.1, .u64 r_12.2.1, .u64 r_12.2.2.1, sl A27 r_12.2.2.2.1.length c25, I r_12.2.2.2.2.1, .v (.func (.func 64) ⟨SV.vals []⟩ ⟨SV.vals []⟩), .v (.func (.func 65) ⟨SV.vals []⟩ ⟨SV.vals []⟩)], Ow e8 A27 r_12.2.2.2.1.length c25 r_12.2.2.2.1, Sh (SH e8) [((some ⟨g11, 0, none⟩), r_12.2.2.2.2.2.2.2.2.2.2.2.1.length, c28)] [r_12.2.2.2.2.2.2.2.2.2.2.2.1], Bx 41 g7 [sl A17 r_9.1.length c15, pt g8 0], Sh (SH e8) [(A17, r_9.1.length, c15)] [r_9.1], Bx 62 g8 [I 1, I 64, .u32 4294967295, .u64 274877906944, .b false, sl A18 r_9.2.1.length c16, sl A19 r_9.2.2.1.length c17, sl A20 r_9.2.2.2.1.length c18, pt g9 0, sl (some ⟨g12, 0, none⟩) r_13.2.2.2.2.2.2.2.2.2.2.2.2.2.1.length c32, .u64 b12, .ar e8 b13, I b14, .v (.func (.func 38) ⟨SV.vals [pt g8 0]⟩ ⟨SV.vals []⟩)], Sh (SH e8) [(A18, r_9.2.1.length, c16)] [r_9.2.1], Sh (SH e8) [(A19, r_9.2.2.1.length, c17)] [r_9.2.2.1], Sh (SH e8) [(A20, r_9.2.2.2.1.length, c18)] [r_9.2.2.2.1], Bx 95 g9 [I b1, I b2, sl A33 n c33, sl A34 n1 c34, .b b5, .u64 b6, .v (.iface 115 (SV.val (pt g10 0)))], Ow e8 A33 n c33 b3, Ow e8 A34 n1 c34 b4, Bx 121 g10 [.ar e64 b7, .u64 b8, .u64 b9, sl A35 n2 c35, I b11, .v (.func (.func 64) ⟨SV.vals []⟩ ⟨SV.vals []⟩), .v (.func (.func 65) ⟨SV.vals []⟩ ⟨SV.vals []⟩)], Ow e8 A35 n2 c35 b10, Sh (SH e8) [((some ⟨g12, 0, none⟩), r_13.2.2.2.2.2.2.2.2.2.2.2.2.2.1.length, c32)] [r_13.2.2.2.2.2.2.2.2.2.2.2.2.2.1]]) (r_13.2.2.2.2.2.2.2.1, r_13.2.2.2.2.2.2.2.2.1, r_13.2.2.2.2.2.2.2.2.2.1, r_13.2.2.2.2.2.2.2.2.2.2.1, r_13.2.2.2.2.2.2.2.2.2.2.2.1, r_13.2.2.2.2.2.2.2.2.2.2.2.2.1, r_13.2.2.1, r_13.2.2.2.1, r_13.2.2.2.2.1, r_13.2.2.2.2.2.1, r_13.2.2.2.2.2.2.1, r_13.2.2.2.2.2.2.2.2.2.2.2.2.2.2.1, r_13.2.2.2.2.2.2.2.2.2.2.2.2.2.2.2.1, r_13.2.2.2.2.2.2.2.2.2.2.2.2.2.2.2.2, (1 : Int)) r hm ⟨r_13.2.2.2.2.2.2.2.1, r_13.2.2.2.2.2.2.2.2.1, r_13.2.2.2.2.2.2.2.2.2.1, r_13.2.2.2.2.2.2.2.2.2.2.1, r_13.2.2.2.2.2.2.2.2.2.2.2.1, r_13.2.2.2.2.2.2.2.2.2.2.2.2.1, r_13.2.2.1, r_13.2.2.2.1, r_13.2.2.2.2.1, r_13.2.2.2.2.2.1, r_13.2.2.2.2.2.2.1, r_13.2.2.2.2.2.2.2.2.2.2.2.2.2.2.1, r_13.2.2.2.2.2.2.2.2.2.2.2.2.2.2.2.1, r_13.2.2.2.2.2.2.2.2.2.2.2.2.2.2.2.2, (1 : Int), A31, r_13.2.2.2.2.2.2.2.2.2.1.length, c30, A32, r_13.2.2.2.2.2.2.2.2.2.2.1.length, c31, A30, r_13.2.2.2.2.2.1.length, c29, rfl, rfl, k_38.len 19 rfl, k_38.len 20 rfl, k_38.len 22 rfl, k_38⟩ (by kernel_rfl) ?_
         intro s0_ L_ w_14 y0 hrel hstep hr0
         obtain ⟨b1, b2, b3, b4, b5, b6, b7, b8, b9, b10, b11, b12, b13, b14, i, A33, _, c33, A34, _, c34, A35, _, c35, rfl, rfl, rfl, rfl, rfl, k_37⟩ := hrel
         have hm := hstep; simp only [m_l25_DiceSkips_k_l0] at hm
         clear hstep
         refine W_seq <| W_seq <| W_q [] (.n 63 (.b (decide (i < (by_.toNat : Int)))) .a) qe (by kernel_rfl) ?_
         refine At_go <| W_condp (i < (by_.toNat : Int)) (by kernel_rfl) (fun hc7 => ?_) (fun hc7 => ?_)
         · rw [if_pos hc7] at hm
           refine W_skip <| At_go <| W_seq <| W_block <| W_seq <| W_reg <| WLs 1 [] (.n 67 (pt g7 0) (.s .a)) qe (by kernel_rfl) ?_
           refine WL_op ?_
           obtain ⟨r_14, h_r_14, hm⟩ := ob hm
           obtain ⟨F12, O12, kin2, hO2, hre2, hF2, hb2⟩ := k_37.go (.r (.r (.r (.r (.r (.r (.r (.r (.r (.r (.r (.r (.i (.r (.i (.r (.r (.r (.i (.i (.i (.i (.i (.r .e))))))))))))))))))))))))
           refine Op_call [] 68 _ ds_go7 (by kernel_rfl) (c_dice_Dice_Word_k_s1 (F := F12) (O := O12) _ _ _ _ _ _ _ _ _ _ _ _ _ _ _ _ _ _ _ _ _ _ _ _ _ _ _ _ _ _ _ _ _ _ _ _ _ _ _ _ _ _ _ _ _ _ _ (Ro.of_sh kin2.off hre2 12 rfl) (k_37.shlen 13 rfl) (k_37.shlec 13 rfl) (Ro.of_sh kin2.off hre2 13 rfl) (k_37.shlen 15 rfl) (k_37.shlec 15 rfl) (Ro.of_sh kin2.off hre2 14 rfl) (k_37.shlen 16 rfl) (k_37.shlec 16 rfl) (Ro.of_sh kin2.off hre2 15 rfl) (k_37.shlen 17 rfl) (k_37.shlec 17 rfl) (Ro.of_sh kin2.off hre2 16 rfl) (k_37.shlen 23 rfl) (k_37.shlec 23 rfl) kin2 _ h_r_14) ?_
           rintro e_ w_15 ⟨A36, _, c36, A37, _, c37, A38, _, c38, rfl, rfl, rfl, rfl, k_39⟩
           have k_40 := hb2 w_15 _ _ k_39 (.c (.c (.c (.c (.c (.c (.c .n)))))))
           refine ⟨.tup [.u64 r_14.1, I r_14.2.1], rfl, ?_⟩
           refine WLs 5 [] (.n 13 (I r_14.2.1) (.ss .a)) qe (by kernel_rfl) ?_
           refine WL_nil <| At_go <| W_seq <| W_q [] (.n 72 (.b (decide (r_14.2.1 ≠ 0))) (.s .a)) qe (by kernel_rfl) ?_
           refine At_go <| W_condp (r_14.2.1 ≠ 0) (by kernel_rfl) (fun hc8 => ?_) (fun hc8 => ?_)
           · rw [if_pos hc8] at hm
             refine W_seq <| W_q [] (.n 6 (.b false) .z) qe (by kernel_rfl) ?_
             refine At_go <| W_ret (At_ir (At_tr (At_tr (At_ir (At_tr ?_)))))
             have hm := exit_of hm hr0
             obtain rfl := Option.some.inj hm
             refine At_rt [.b false] qe (by kernel_rfl) ?_
             have k_41 := k_40.sel .z
             exact ⟨rfl, k_41⟩
           rw [if_neg hc8] at hm
           refine W_skip <| At_in <| At_go <| W_q [] (.n 11 (I (w64 (i + 1))) (.s (.kkkk .z))) qe (by kernel_rfl) ?_
           have k_42 := (((((((((((((((((((((((k_40.pk (.t (.t (.t (.t (.t (.t (.t (.t (.t (.t (.t (.t (.t (.t (.t (.t (.t (.t (.t (.t (.t (.t (.t .h)))))))))))))))))))))))).pk (.t (.t .h))).pk (.t (.t .h))).pk (.t (.t (.t (.t (.t .h)))))).pk (.t (.t (.t (.t (.t .h)))))).pk (.t (.t (.t (.t (.t .h)))))).pk (.t (.t (.t (.t (.t (.t (.t (.t (.t (.t (.t (.t (.t (.t (.t (.t (.t (.t (.t (.t (.t (.t (.t .h)))))))))))))))))))))))).pk (.t (.t (.t (.t (.t (.t (.t (.t (.t (.t (.t (.t (.t (.t (.t (.t (.t (.t (.t (.t (.t (.t (.t .h)))))))))))))))))))))))).pk (.t (.t (.t (.t (.t (.t (.t (.t (.t (.t (.t (.t (.t (.t (.t (.t (.t (.t (.t (.t (.t (.t (.t .h)))))))))))))))))))))))).pk (.t (.t (.t (.t (.t (.t (.t (.t (.t .h)))))))))).pk (.t (.t (.t (.t (.t (.t (.t (.t (.t (.t (.t (.t (.t (.t (.t (.t (.t (.t (.t (.t (.t (.t (.t .h)))))))))))))))))))))))).pk (.t (.t (.t (.t (.t (.t (.t (.t (.t (.t (.t .h)))))))))))).pk (.t (.t (.t (.t (.t (.t (.t (.t (.t (.t (.t (.t (.t (.t (.t (.t (.t (.t (.t (.t (.t (.t (.t .h)))))))))))))))))))))))).pk (.t (.t (.t (.t (.t (.t (.t (.t (.t (.t (.t (.t (.t (.t (.t (.t (.t (.t (.t (.t (.t (.t (.t .h)))))))))))))))))))))))).pk (.t (.t (.t (.t (.t (.t (.t (.t (.t (.t (.t (.t (.t (.t (.t (.t (.t (.t (.t (.t (.t (.t (.t .h)))))))))))))))))))))))).pk (.t (.t (.t (.t (.t (.t (.t (.t (.t (.t (.t (.t (.t (.t (.t (.t (.t (.t (.t (.t (.t (.t (.t .h)))))))))))))))))))))))).pk (.t (.t (.t (.t (.t (.t (.t (.t (.t (.t (.t (.t (.t (.t (.t (.t (.t (.t (.t (.t (.t (.t (.t .h)))))))))))))))))))))))).pk (.t (.t (.t (.t (.t (.t (.t (.t (.t (.t (.t (.t (.t (.t (.t (.t (.t (.t (.t (.t (.t (.t (.t .h)))))))))))))))))))))))).pk (.t (.t (.t (.t (.t (.t (.t (.t (.t (.t (.t (.t (.t (.t (.t (.t (.t (.t (.t (.t (.t (.t (.t .h)))))))))))))))))))))))).pk (.t (.t (.t (.t (.t (.t (.t (.t (.t (.t (.t (.t (.t (.t (.t (.t (.t (.t (.t (.t (.t (.t (.t .h)))))))))))))))))))))))).pk (.t (.t (.t (.t (.t (.t (.t (.t (.t (.t (.t (.t (.t (.t (.t (.t (.t (.t (.t (.t (.t (.t (.t .h)))))))))))))))))))))))).pk (.t (.t (.t (.t (.t (.t (.t (.t (.t (.t (.t (.t (.t (.t (.t (.t (.t (.t (.t (.t (.t (.t (.t .h)))))))))))))))))))))))).pk (.t (.t (.t (.t (.t (.t (.t (.t (.t (.t (.t (.t (.t (.t (.t (.t (.t (.t (.t (.t (.t (.t (.t .h)))))))))))))))))))))))).pk (.t (.t (.t (.t (.t (.t (.t (.t (.t (.t (.t (.t (.t (.t (.t (.t (.t (.t (.t (.t (.t (.t (.t .h)))))))))))))))))))))))
           exact At_rd (r_14.2.2.2.2.2.2.2.1, r_14.2.2.2.2.2.2.2.2.1, r_14.2.2.2.2.2.2.2.2.2.1, r_14.2.2.2.2.2.2.2.2.2.2.1, r_14.2.2.2.2.2.2.2.2.2.2.2.1, r_14.2.2.2.2.2.2.2.2.2.2.2.2.1, r_14.2.2.1, r_14.2.2.2.1, r_14.2.2.2.2.1, r_14.2.2.2.2.2.1, r_14.2.2.2.2.2.2.1, r_14.2.2.2.2.2.2.2.2.2.2.2.2.2.1, r_14.2.2.2.2.2.2.2.2.2.2.2.2.2.2.1, r_14.2.2.2.2.2.2.2.2.2.2.2.2.2.2.2, w64 (i + 1)) (Option.some.inj hm).symm ⟨r_14.2.2.2.2.2.2.2.1, r_14.2.2.2.2.2.2.2.2.1, r_14.2.2.2.2.2.2.2.2.2.1, r_14.2.2.2.2.2.2.2.2.2.2.1, r_14.2.2.2.2.2.2.2.2.2.2.2.1, r_14.2.2.2.2.2.2.2.2.2.2.2.2.1, r_14.2.2.1, r_14.2.2.2.1, r_14.2.2.2.2.1, r_14.2.2.2.2.2.1, r_14.2.2.2.2.2.2.1, r_14.2.2.2.2.2.2.2.2.2.2.2.2.2.1, r_14.2.2.2.2.2.2.2.2.2.2.2.2.2.2.1, r_14.2.2.2.2.2.2.2.2.2.2.2.2.2.2.2, w64 (i + 1), A37, r_14.2.2.2.2.2.2.2.2.2.1.length, c37, A38, r_14.2.2.2.2.2.2.2.2.2.2.1.length, c38, A36, r_14.2.2.2.2.2.1.length, c36, rfl, rfl, k_42.len 19 rfl, k_42.len 20 rfl, k_42.len 22 rfl, k_42⟩ (by kernel_rfl)
         rw [if_neg hc7] at hm
         refine W_exit (At_te (At_te (At_ie ?_)))
         have hm := exit_of hm hr0
         refine At_go <| W_seq <| W_q [] (.n 2 (.u64 (far % 34359738112)) (.s (.k (.s (.kk .z))))) (qp ((34359738112 : UInt64) ≠ 0) (by show (34359738112 : UInt64) ≠ 0; decide) <| qe) (by kernel_rfl) ?_
         refine At_go <| W_seq <| W_seq <| W_reg <| WLs 2 [] (.n 75 (pt g0 0) (.n 76 (.u64 (far % 34359738112)) .a)) qe (by kernel_rfl) ?_
         refine WL_op ?_
         obtain ⟨r_15, h_r_15, hm⟩ := ob hm
         obtain ⟨F13, O13, kin3, hO3, hre3, hF3, hb3⟩ := k_37.go (.i (.r (.i (.r (.r (.r (.i (.i (.i (.i (.i (.r (.r (.r (.r (.r (.r (.r (.r (.r (.r (.r (.r (.r .e))))))))))))))))))))))))
         refine Op_call [] 77 _ ds_go6 (by kernel_rfl) (c_dice_Dice_Skip_k_s1 (F := F13) (O := O13) _ _ _ _ _ _ _ _ _ _ _ _ _ _ _ _ _ _ _ _ _ _ _ _ _ _ _ _ _ _ _ _ _ _ _ _ _ _ _ _ _ _ _ _ _ _ _ _ (Ro.of_sh kin3.off hre3 0 rfl) (k_37.shlen 1 rfl) (k_37.shlec 1 rfl) (Ro.of_sh kin3.off hre3 1 rfl) (k_37.shlen 3 rfl) (k_37.shlec 3 rfl) (Ro.of_sh kin3.off hre3 2 rfl) (k_37.shlen 4 rfl) (k_37.shlec 4 rfl) (Ro.of_sh kin3.off hre3 3 rfl) (k_37.shlen 5 rfl) (k_37.shlec 5 rfl) (Ro.of_sh kin3.off hre3 4 rfl) (k_37.shlen 11 rfl) (k_37.shlec 11 rfl) kin3 _ h_r_15) ?_
         rintro e_ w_16 ⟨A39, _, c39, A40, _, c40, A41, _, c41, rfl, rfl, rfl, rfl, k_43⟩
         have k_44 := hb3 w_16 _ _ k_43 (.c (.c (.c (.c (.c (.c (.c .n)))))))
         refine ⟨I r_15.1, rfl, ?_⟩
         refine WLs 2 [] (.n 79 (.b (decide (r_15.1 ≠ 0))) (.sss .a)) qe (by kernel_rfl) ?_
         refine WL_sp 79 (decide (r_15.1 ≠ 0)) (.s .a) (by kernel_rfl) (fun hg => ?_) (fun hg => ?_)
         · rw [if_pos (of_decide_eq_true hg)] at hm
           refine WLs 6 [79] (.n 85 (.b true) (.s .a)) qe (by kernel_rfl) ?_
           refine WLs 7 [85] (.n 92 (.b true) (.s .a)) qe (by kernel_rfl) ?_
           refine WLs 8 [92] (.n 100 (.b true) (.sss .a)) qe (by kernel_rfl) ?_
           refine WL_nil <| At_go <| W_cond true (by kernel_rfl) (fun _ => ?_) (fun h => by cases h)
           refine W_seq <| W_q [] (.n 6 (.b false) .z) qe (by kernel_rfl) ?_
           refine At_go <| W_ret (At_tr ?_)
           obtain rfl := Option.some.inj hm
           refine At_rt [.b false] qe (by kernel_rfl) ?_
           have k_45 := k_44.sel .z
           exact ⟨rfl, k_45⟩
         · rw [if_neg (of_decide_eq_false hg)] at hm
           refine WLs 2 [79] (.n 80 (pt g7 0) (.n 81 (.u64 (far % 34359738112)) .a)) qe (by kernel_rfl) ?_
           refine WL_op ?_
           obtain ⟨r_16, h_r_16, hm⟩ := ob hm
           obtain ⟨F14, O14, kin4, hO4, hre4, hF4, hb4⟩ := k_44.go (.r (.r (.r (.r (.r (.r (.r (.r (.r (.r (.r (.r (.i (.r (.i (.r (.r (.r (.i (.i (.i (.i (.i (.r .e))))))))))))))))))))))))
           refine Op_call [79] 82 _ ds_go6 (by kernel_rfl) (c_dice_Dice_Skip_k_s1 (F := F14) (O := O14) _ _ _ _ _ _ _ _ _ _ _ _ _ _ _ _ _ _ _ _ _ _ _ _ _ _ _ _ _ _ _ _ _ _ _ _ _ _ _ _ _ _ _ _ _ _ _ _ (Ro.of_sh kin4.off hre4 12 rfl) (k_44.shlen 13 rfl) (k_44.shlec 13 rfl) (Ro.of_sh kin4.off hre4 13 rfl) (k_44.shlen 15 rfl) (k_44.shlec 15 rfl) (Ro.of_sh kin4.off hre4 14 rfl) (k_44.shlen 16 rfl) (k_44.shlec 16 rfl) (Ro.of_sh kin4.off hre4 15 rfl) (k_44.shlen 17 rfl) (k_44.shlec 17 rfl) (Ro.of_sh kin4.off hre4 16 rfl) (k_44.shlen 23 rfl) (k_44.shlec 23 rfl) kin4 _ h_r_16) ?_
           rintro e_ w_17 ⟨A42, _, c42, A43, _, c43, A44, _, c44, rfl, rfl, rfl, rfl, k_46⟩
           have k_47 := hb4 w_17 _ _ k_46 (.c (.c (.c (.c (.c (.c (.c .n)))))))
           refine ⟨I r_16.1, rfl, ?_⟩
           refine WLs 3 [79] (.n 85 (.b (decide (r_16.1 ≠ 0))) (.ssss .a)) qe (by kernel_rfl) ?_
           refine WL_sp 85 (decide (r_16.1 ≠ 0)) (.s .a) (by kernel_rfl) (fun hg1 => ?_) (fun hg1 => ?_)
           · rw [if_pos (of_decide_eq_true hg1)] at hm
             refine WLs 7 [85] (.n 92 (.b true) (.s .a)) qe (by kernel_rfl) ?_
             refine WLs 8 [92] (.n 100 (.b true) (.sss .a)) qe (by kernel_rfl) ?_
             refine WL_nil <| At_go <| W_cond true (by kernel_rfl) (fun _ => ?_) (fun h => by cases h)
             refine W_seq <| W_q [] (.n 6 (.b false) .z) qe (by kernel_rfl) ?_
             refine At_go <| W_ret (At_tr ?_)
             obtain rfl := Option.some.inj hm
             refine At_rt [.b false] qe (by kernel_rfl) ?_
             have k_48 := k_47.sel .z
             exact ⟨rfl, k_48⟩
           · rw [if_neg (of_decide_eq_false hg1)] at hm
             refine WLs 1 [85] (.n 86 (pt g0 0) .a) qe (by kernel_rfl) ?_
             refine WL_op ?_
             obtain ⟨r_17, h_r_17, hm⟩ := ob hm
             have k_49 := (((((((((((((((((((((((k_47.pk (.t (.t (.t (.t (.t (.t (.t (.t (.t (.t (.t (.t (.t (.t (.t (.t (.t (.t (.t (.t (.t (.t (.t .h)))))))))))))))))))))))).pk (.t (.t (.t (.t (.t (.t (.t (.t (.t (.t (.t (.t (.t (.t (.t (.t (.t (.t (.t (.t (.t (.t (.t .h)))))))))))))))))))))))).pk (.t (.t (.t (.t (.t (.t (.t (.t (.t (.t (.t (.t (.t (.t (.t (.t (.t (.t (.t (.t (.t (.t (.t .h)))))))))))))))))))))))).pk (.t (.t (.t (.t (.t (.t (.t (.t (.t (.t (.t (.t (.t (.t (.t (.t (.t (.t (.t (.t (.t (.t (.t .h)))))))))))))))))))))))).pk (.t (.t (.t (.t (.t (.t (.t (.t (.t (.t (.t (.t (.t (.t (.t (.t (.t (.t (.t (.t (.t (.t (.t .h)))))))))))))))))))))))).pk (.t (.t (.t (.t (.t (.t (.t (.t (.t (.t (.t (.t (.t (.t (.t (.t (.t (.t (.t (.t (.t (.t (.t .h)))))))))))))))))))))))).pk (.t (.t (.t (.t (.t (.t (.t (.t (.t (.t (.t (.t (.t (.t (.t (.t (.t (.t (.t (.t (.t (.t (.t .h)))))))))))))))))))))))).pk (.t (.t (.t (.t (.t (.t (.t (.t (.t (.t (.t (.t (.t (.t (.t (.t (.t (.t (.t (.t (.t (.t (.t .h)))))))))))))))))))))))).pk (.t (.t (.t (.t (.t (.t (.t (.t (.t (.t (.t (.t (.t (.t (.t (.t (.t (.t (.t (.t (.t (.t (.t .h)))))))))))))))))))))))).pk (.t (.t (.t (.t (.t (.t (.t (.t (.t (.t (.t (.t (.t (.t (.t (.t (.t (.t (.t (.t (.t (.t (.t .h)))))))))))))))))))))))).pk (.t (.t (.t (.t (.t (.t (.t (.t (.t (.t (.t (.t (.t (.t (.t (.t .h))))))))))))))))).pk (.t (.t (.t (.t (.t (.t (.t (.t (.t (.t (.t (.t (.t (.t (.t (.t .h))))))))))))))))).pk (.t (.t (.t (.t (.t (.t (.t (.t (.t (.t (.t (.t (.t (.t (.t (.t .h))))))))))))))))).pk (.t (.t (.t (.t (.t (.t (.t (.t (.t (.t (.t (.t (.t (.t (.t (.t .h))))))))))))))))).pk (.t (.t (.t (.t (.t (.t (.t (.t (.t (.t (.t (.t (.t (.t (.t (.t .h))))))))))))))))).pk (.t (.t (.t (.t (.t (.t (.t (.t (.t (.t (.t (.t (.t (.t (.t (.t .h))))))))))))))))).pk (.t (.t (.t (.t (.t (.t (.t (.t (.t (.t (.t (.t (.t (.t (.t (.t .h))))))))))))))))).pk (.t (.t (.t (.t (.t (.t (.t (.t (.t (.t (.t (.t (.t (.t (.t (.t (.t (.t .h))))))))))))))))))).pk (.t (.t (.t (.t (.t (.t (.t (.t (.t (.t (.t (.t (.t (.t (.t (.t (.t (.t .h))))))))))))))))))).pk (.t (.t (.t (.t (.t (.t (.t (.t (.t (.t (.t (.t (.t (.t (.t (.t (.t (.t (.t (.t (.t .h)))))))))))))))))))))).pk (.t (.t (.t (.t (.t (.t (.t (.t (.t (.t (.t (.t (.t (.t (.t (.t (.t (.t (.t (.t (.t .h)))))))))))))))))))))).pk (.t (.t (.t (.t (.t (.t (.t (.t (.t (.t (.t (.t (.t (.t (.t (.t (.t (.t (.t (.t (.t .h)))))))))))))))))))))).pk (.t (.t (.t (.t (.t (.t (.t (.t (.t (.t (.t (.t (.t (.t (.t (.t (.t (.t (.t (.t (.t (.t .h))))))))))))))))))))))).pk (.t (.t (.t (.t (.t (.t (.t (.t (.t (.t (.t (.t (.t (.t (.t (.t (.t (.t (.t (.t (.t (.t (.t .h)))))))))))))))))))))))
             obtain ⟨F15, O15, kin5, hO5, hre5, hF5, hb5⟩ := k_49.go (.i (.i (.i (.i (.i (.i (.i (.r (.r (.r (.r (.r (.r (.r (.r (.r (.r (.r (.r (.r (.r (.r (.r (.r .e))))))))))))))))))))))))
             refine Op_call [85] 87 _ ds_go8 (by kernel_rfl) (c_dice_Dice_At_k_s1 (F := F15) (O := O15) _ _ _ _ _ _ _ _ _ _ _ _ _ _ _ _ _ _ _ _ _ _ _ _ _ _ _ _ _ _ _ _ _ _ _ _ _ _ _ _ _ _ _ _ _ _ _ (Ro.of_sh kin5.off hre5 7 rfl) (k_49.shlen 14 rfl) (k_49.shlec 14 rfl) (Ro.of_sh kin5.off hre5 8 rfl) (k_49.shlen 15 rfl) (k_49.shlec 15 rfl) (Ro.of_sh kin5.off hre5 9 rfl) (k_49.shlen 16 rfl) (k_49.shlec 16 rfl) (Ro.of_sh kin5.off hre5 10 rfl) (k_49.shlen 17 rfl) (k_49.shlec 17 rfl) (Ro.of_sh kin5.off hre5 11 rfl) (k_49.shlen 18 rfl) (k_49.shlec 18 rfl) kin5 _ h_r_17) ?_
             rintro e_ w_18 ⟨A45, _, c45, A46, _, c46, A47, _, c47, rfl, rfl, rfl, rfl, k_50⟩
             have k_51 := hb5 w_18 _ _ k_50 (.c (.c (.c (.c (.c (.c (.c .n)))))))
             refine ⟨.u64 r_17.1, rfl, ?_⟩
             refine WLs 1 [85] (.n 88 (pt g7 0) (.k (.s .a))) qe (by kernel_rfl) ?_
             refine WL_op ?_
             obtain ⟨r_18, h_r_18, hm⟩ := ob hm
             have k_52 := (((((((((((((((((((((((k_51.pk (.t (.t (.t (.t (.t (.t (.t (.t (.t (.t (.t (.t (.t (.t (.t (.t (.t (.t (.t (.t (.t (.t (.t .h)))))))))))))))))))))))).pk (.t (.t (.t (.t (.t (.t (.t (.t (.t (.t (.t (.t (.t (.t (.t (.t (.t (.t (.t (.t (.t (.t (.t .h)))))))))))))))))))))))).pk (.t (.t (.t (.t (.t (.t (.t (.t (.t (.t (.t (.t (.t (.t (.t (.t (.t (.t (.t (.t (.t (.t (.t .h)))))))))))))))))))))))).pk (.t (.t (.t (.t (.t (.t (.t (.t (.t (.t (.t (.t (.t (.t (.t (.t (.t (.t (.t (.t (.t (.t (.t .h)))))))))))))))))))))))).pk (.t (.t (.t (.t (.t (.t (.t (.t (.t (.t (.t (.t (.t (.t (.t (.t (.t (.t (.t (.t (.t (.t (.t .h)))))))))))))))))))))))).pk (.t (.t (.t (.t (.t (.t (.t (.t (.t (.t (.t (.t (.t (.t (.t (.t (.t (.t (.t (.t (.t (.t (.t .h)))))))))))))))))))))))).pk (.t (.t (.t (.t (.t (.t (.t (.t (.t (.t (.t (.t (.t (.t (.t (.t (.t (.t (.t (.t (.t (.t (.t .h)))))))))))))))))))))))).pk (.t (.t (.t (.t (.t (.t (.t (.t (.t (.t (.t (.t (.t (.t (.t (.t (.t (.t (.t (.t (.t (.t (.t .h)))))))))))))))))))))))).pk (.t (.t (.t (.t (.t (.t (.t (.t (.t (.t (.t (.t (.t (.t (.t (.t (.t (.t (.t (.t (.t (.t (.t .h)))))))))))))))))))))))).pk (.t (.t (.t (.t (.t (.t (.t (.t (.t (.t (.t (.t (.t (.t (.t (.t (.t (.t (.t (.t (.t (.t (.t .h)))))))))))))))))))))))).pk (.t (.t (.t (.t (.t (.t (.t (.t (.t (.t (.t (.t (.t (.t (.t (.t .h))))))))))))))))).pk (.t (.t (.t (.t (.t (.t (.t (.t (.t (.t (.t (.t (.t (.t (.t (.t .h))))))))))))))))).pk (.t (.t (.t (.t (.t (.t (.t (.t (.t (.t (.t (.t (.t (.t (.t (.t .h))))))))))))))))).pk (.t (.t (.t (.t (.t (.t (.t (.t (.t (.t (.t (.t (.t (.t (.t (.t .h))))))))))))))))).pk (.t (.t (.t (.t (.t (.t (.t (.t (.t (.t (.t (.t (.t (.t (.t (.t .h))))))))))))))))).pk (.t (.t (.t (.t (.t (.t (.t (.t (.t (.t (.t (.t (.t (.t (.t (.t .h))))))))))))))))).pk (.t (.t (.t (.t (.t (.t (.t (.t (.t (.t (.t (.t (.t (.t (.t (.t .h))))))))))))))))).pk (.t (.t (.t (.t (.t (.t (.t (.t (.t (.t (.t (.t (.t (.t (.t (.t (.t (.t .h))))))))))))))))))).pk (.t (.t (.t (.t (.t (.t (.t (.t (.t (.t (.t (.t (.t (.t (.t (.t (.t (.t .h))))))))))))))))))).pk (.t (.t (.t (.t (.t (.t (.t (.t (.t (.t (.t (.t (.t (.t (.t (.t (.t (.t (.t (.t (.t .h)))))))))))))))))))))).pk (.t (.t (.t (.t (.t (.t (.t (.t (.t (.t (.t (.t (.t (.t (.t (.t (.t (.t (.t (.t (.t .h)))))))))))))))))))))).pk (.t (.t (.t (.t (.t (.t (.t (.t (.t (.t (.t (.t (.t (.t (.t (.t (.t (.t (.t (.t (.t .h)))))))))))))))))))))).pk (.t (.t (.t (.t (.t (.t (.t (.t (.t (.t (.t (.t (.t (.t (.t (.t (.t (.t (.t (.t (.t (.t .h))))))))))))))))))))))).pk (.t (.t (.t (.t (.t (.t (.t (.t (.t (.t (.t (.t (.t (.t (.t (.t (.t (.t (.t (.t (.t (.t (.t .h)))))))))))))))))))))))
             obtain ⟨F16, O16, kin6, hO6, hre6, hF6, hb6⟩ := k_52.go (.i (.i (.i (.i (.i (.i (.i (.r (.r (.r (.r (.r (.r (.r (.r (.r (.r (.r (.r (.r (.r (.r (.r (.r .e))))))))))))))))))))))))
             refine Op_call [85] 89 _ ds_go8 (by kernel_rfl) (c_dice_Dice_At_k_s1 (F := F16) (O := O16) _ _ _ _ _ _ _ _ _ _ _ _ _ _ _ _ _ _ _ _ _ _ _ _ _ _ _ _ _ _ _ _ _ _ _ _ _ _ _ _ _ _ _ _ _ _ _ (Ro.of_sh kin6.off hre6 12 rfl) (k_52.shlen 19 rfl) (k_52.shlec 19 rfl) (Ro.of_sh kin6.off hre6 13 rfl) (k_52.shlen 20 rfl) (k_52.shlec 20 rfl) (Ro.of_sh kin6.off hre6 14 rfl) (k_52.shlen 21 rfl) (k_52.shlec 21 rfl) (Ro.of_sh kin6.off hre6 15 rfl) (k_52.shlen 22 rfl) (k_52.shlec 22 rfl) (Ro.of_sh kin6.off hre6 16 rfl) (k_52.shlen 23 rfl) (k_52.shlec 23 rfl) kin6 _ h_r_18) ?_
             rintro e_ w_19 ⟨A48, _, c48, A49, _, c49, A50, _, c50, rfl, rfl, rfl, rfl, k_53⟩
             have k_54 := hb6 w_19 _ _ k_53 (.c (.c (.c (.c (.c (.c (.c .n)))))))
             refine ⟨.u64 r_18.1, rfl, ?_⟩
             refine WLs 3 [85] (.n 92 (.b (decide (r_17.1 ≠ r_18.1))) (.ssss .a)) qe (by kernel_rfl) ?_
             refine WL_sp 92 (decide (r_17.1 ≠ r_18.1)) (.s .a) (by kernel_rfl) (fun hg2 => ?_) (fun hg2 => ?_)
             · rw [if_pos (of_decide_eq_true hg2)] at hm
               refine WLs 8 [92] (.n 100 (.b true) (.sss .a)) qe (by kernel_rfl) ?_
               refine WL_nil <| At_go <| W_cond true (by kernel_rfl) (fun _ => ?_) (fun h => by cases h)
               refine W_seq <| W_q [] (.n 6 (.b false) .z) qe (by kernel_rfl) ?_
               refine At_go <| W_ret (At_tr ?_)
               obtain rfl := Option.some.inj hm
               refine At_rt [.b false] qe (by kernel_rfl) ?_
               have k_55 := k_54.sel .z
               exact ⟨rfl, k_55⟩
             · rw [if_neg (of_decide_eq_false hg2)] at hm
               refine WLs 1 [92] (.n 93 (pt g0 0) .a) qe (by kernel_rfl) ?_
               refine WL_op ?_
               have k_56 := k_54.sel (.kkkk (.kkkk (.kkkk (.kkkk (.kkkk (.kkkk .e))))))
               obtain ⟨r_19, h_r_19, hm⟩ := ob hm
               have k_57 := (((((((((((((((((((((((k_56.pk (.t (.t (.t (.t (.t (.t (.t (.t (.t (.t (.t (.t (.t (.t (.t (.t (.t (.t (.t (.t (.t (.t (.t .h)))))))))))))))))))))))).pk (.t (.t (.t (.t (.t (.t (.t (.t (.t (.t (.t (.t (.t (.t (.t (.t (.t (.t (.t (.t (.t (.t (.t .h)))))))))))))))))))))))).pk (.t (.t (.t (.t (.t (.t (.t (.t (.t (.t (.t (.t (.t (.t (.t (.t (.t (.t (.t (.t (.t (.t (.t .h)))))))))))))))))))))))).pk (.t (.t (.t (.t (.t (.t (.t (.t (.t (.t (.t (.t (.t (.t (.t (.t (.t (.t (.t (.t (.t (.t (.t .h)))))))))))))))))))))))).pk (.t (.t (.t (.t (.t (.t (.t (.t (.t (.t (.t (.t (.t (.t (.t (.t (.t (.t (.t (.t (.t (.t (.t .h)))))))))))))))))))))))).pk (.t (.t (.t (.t (.t (.t (.t (.t (.t (.t (.t (.t (.t (.t (.t (.t (.t (.t (.t (.t (.t (.t (.t .h)))))))))))))))))))))))).pk (.t (.t (.t (.t (.t (.t (.t (.t (.t (.t (.t (.t (.t (.t (.t (.t (.t (.t (.t (.t (.t (.t (.t .h)))))))))))))))))))))))).pk (.t (.t (.t (.t (.t (.t (.t (.t (.t (.t (.t (.t (.t (.t (.t (.t (.t (.t (.t (.t (.t (.t (.t .h)))))))))))))))))))))))).pk (.t (.t (.t (.t (.t (.t (.t (.t (.t (.t (.t (.t (.t (.t (.t (.t (.t (.t (.t (.t (.t (.t (.t .h)))))))))))))))))))))))).pk (.t (.t (.t (.t (.t (.t (.t (.t (.t (.t (.t (.t (.t (.t (.t (.t (.t (.t (.t (.t (.t (.t (.t .h)))))))))))))))))))))))).pk (.t (.t (.t (.t (.t (.t (.t (.t (.t (.t (.t (.t (.t (.t (.t (.t .h))))))))))))))))).pk (.t (.t (.t (.t (.t (.t (.t (.t (.t (.t (.t (.t (.t (.t (.t (.t .h))))))))))))))))).pk (.t (.t (.t (.t (.t (.t (.t (.t (.t (.t (.t (.t (.t (.t (.t (.t .h))))))))))))))))).pk (.t (.t (.t (.t (.t (.t (.t (.t (.t (.t (.t (.t (.t (.t (.t (.t .h))))))))))))))))).pk (.t (.t (.t (.t (.t (.t (.t (.t (.t (.t (.t (.t (.t (.t (.t (.t .h))))))))))))))))).pk (.t (.t (.t (.t (.t (.t (.t (.t (.t (.t (.t (.t (.t (.t (.t (.t .h))))))))))))))))).pk (.t (.t (.t (.t (.t (.t (.t (.t (.t (.t (.t (.t (.t (.t (.t (.t .h))))))))))))))))).pk (.t (.t (.t (.t (.t (.t (.t (.t (.t (.t (.t (.t (.t (.t (.t (.t (.t (.t .h))))))))))))))))))).pk (.t (.t (.t (.t (.t (.t (.t (.t (.t (.t (.t (.t (.t (.t (.t (.t (.t (.t .h))))))))))))))))))).pk (.t (.t (.t (.t (.t (.t (.t (.t (.t (.t (.t (.t (.t (.t (.t (.t (.t (.t (.t (.t (.t .h)))))))))))))))))))))).pk (.t (.t (.t (.t (.t (.t (.t (.t (.t (.t (.t (.t (.t (.t (.t (.t (.t (.t (.t (.t (.t .h)))))))))))))))))))))).pk (.t (.t (.t (.t (.t (.t (.t (.t (.t (.t (.t (.t (.t (.t (.t (.t (.t (.t (.t (.t (.t .h)))))))))))))))))))))).pk (.t (.t (.t (.t (.t (.t (.t (.t (.t (.t (.t (.t (.t (.t (.t (.t (.t (.t (.t (.t (.t (.t .h))))))))))))))))))))))).pk (.t (.t (.t (.t (.t (.t (.t (.t (.t (.t (.t (.t (.t (.t (.t (.t (.t (.t (.t (.t (.t (.t (.t .h)))))))))))))))))))))))
               obtain ⟨F17, O17, kin7, hO7, hre7, hF7, hb7⟩ := k_57.go (.i (.i (.i (.i (.i (.i (.i (.r (.r (.r (.r (.r (.r (.r (.r (.r (.r (.r (.r (.r (.r (.r (.r (.r .e))))))))))))))))))))))))
               refine Op_call [92] 94 _ ds_go8 (by kernel_rfl) (c_dice_Dice_At_k_s1 (F := F17) (O := O17) _ _ _ _ _ _ _ _ _ _ _ _ _ _ _ _ _ _ _ _ _ _ _ _ _ _ _ _ _ _ _ _ _ _ _ _ _ _ _ _ _ _ _ _ _ _ _ (Ro.of_sh kin7.off hre7 7 rfl) (k_57.shlen 14 rfl) (k_57.shlec 14 rfl) (Ro.of_sh kin7.off hre7 8 rfl) (k_57.shlen 15 rfl) (k_57.shlec 15 rfl) (Ro.of_sh kin7.off hre7 9 rfl) (k_57.shlen 16 rfl) (k_57.shlec 16 rfl) (Ro.of_sh kin7.off hre7 10 rfl) (k_57.shlen 17 rfl) (k_57.shlec 17 rfl) (Ro.of_sh kin7.off hre7 11 rfl) (k_57.shlen 18 rfl) (k_57.shlec 18 rfl) kin7 _ h_r_19) ?_
               rintro e_ w_20 ⟨A51, _, c51, A52, _, c52, A53, _, c53, rfl, rfl, rfl, rfl, k_58⟩
               have k_59 := hb7 w_20 _ _ k_58 (.c (.c (.c (.c (.c (.c (.c .n)))))))
               refine ⟨.u64 r_19.1, rfl, ?_⟩
               refine WLs 6 [92] (.n 100 (.b (decide (r_19.1 ≠ ((far % 34359738112) + (UInt64.ofNat by_.toNat))))) (.ssss (.s .a))) qe (by kernel_rfl) ?_
               refine WL_nil <| At_go <| W_condp (r_19.1 ≠ ((far % 34359738112) + (UInt64.ofNat by_.toNat))) (by kernel_rfl) (fun hc9 => ?_) (fun hc9 => ?_)
               · rw [if_pos hc9] at hm
                 refine W_seq <| W_q [] (.n 6 (.b false) .z) qe (by kernel_rfl) ?_
                 refine At_go <| W_ret (At_tr ?_)
                 obtain rfl := Option.some.inj hm
                 refine At_rt [.b false] qe (by kernel_rfl) ?_
                 have k_60 := k_59.sel .z
                 exact ⟨rfl, k_60⟩
               rw [if_neg hc9] at hm
               refine W_skip <| At_go <| W_seq <| W_reg <| WLs 1 [] (.n 102 (pt g0 0) (.s .a)) qe (by kernel_rfl) ?_
               refine WL_op ?_
               obtain ⟨r_20, h_r_20, hm⟩ := ob hm
               have k_61 := (((((((((((((((((((((((k_59.pk (.t (.t (.t (.t (.t (.t (.t (.t (.t (.t (.t (.t (.t (.t (.t (.t (.t (.t (.t (.t (.t (.t (.t .h)))))))))))))))))))))))).pk (.t (.t (.t (.t (.t (.t (.t (.t (.t (.t (.t (.t (.t (.t (.t (.t (.t (.t (.t (.t (.t (.t (.t .h)))))))))))))))))))))))).pk (.t (.t (.t (.t (.t (.t (.t (.t (.t (.t (.t (.t (.t (.t (.t (.t (.t (.t (.t (.t (.t (.t (.t .h)))))))))))))))))))))))).pk (.t (.t (.t (.t (.t (.t (.t (.t (.t (.t (.t (.t (.t (.t (.t (.t (.t (.t (.t (.t (.t (.t (.t .h)))))))))))))))))))))))).pk (.t (.t (.t (.t (.t (.t (.t (.t (.t (.t (.t (.t (.t (.t (.t (.t (.t (.t (.t (.t (.t (.t (.t .h)))))))))))))))))))))))).pk (.t (.t (.t (.t (.t (.t (.t (.t (.t (.t (.t (.t (.t (.t (.t (.t (.t (.t (.t (.t (.t (.t (.t .h)))))))))))))))))))))))).pk (.t (.t (.t (.t (.t (.t (.t (.t (.t (.t (.t (.t (.t (.t (.t (.t (.t (.t (.t (.t (.t (.t (.t .h)))))))))))))))))))))))).pk (.t (.t (.t (.t (.t (.t (.t (.t (.t (.t (.t (.t (.t (.t (.t (.t (.t (.t (.t (.t (.t (.t (.t .h)))))))))))))))))))))))).pk (.t (.t (.t (.t (.t (.t (.t (.t (.t (.t (.t (.t (.t (.t (.t (.t (.t (.t (.t (.t (.t (.t (.t .h)))))))))))))))))))))))).pk (.t (.t (.t (.t (.t (.t (.t (.t (.t (.t (.t (.t (.t (.t (.t (.t (.t (.t (.t (.t (.t (.t (.t .h)))))))))))))))))))))))).pk (.t (.t (.t (.t (.t (.t (.t (.t (.t (.t (.t (.t (.t (.t (.t (.t (.t (.t (.t (.t (.t (.t (.t .h)))))))))))))))))))))))).pk (.t (.t (.t (.t (.t (.t (.t (.t (.t (.t (.t (.t (.t (.t (.t (.t (.t (.t (.t (.t (.t (.t (.t .h)))))))))))))))))))))))).pk (.t (.t (.t (.t (.t (.t (.t (.t (.t (.t (.t (.t (.t (.t (.t (.t (.t (.t (.t (.t (.t (.t (.t .h)))))))))))))))))))))))).pk (.t (.t (.t (.t (.t (.t (.t (.t (.t (.t (.t (.t (.t (.t (.t (.t (.t (.t (.t (.t (.t (.t (.t .h)))))))))))))))))))))))).pk (.t (.t (.t (.t (.t (.t (.t (.t (.t (.t (.t (.t (.t (.t (.t (.t (.t (.t (.t (.t (.t (.t (.t .h)))))))))))))))))))))))).pk (.t (.t (.t (.t (.t (.t (.t (.t (.t (.t (.t (.t (.t (.t (.t (.t (.t (.t (.t (.t (.t (.t (.t .h)))))))))))))))))))))))).pk (.t (.t (.t (.t (.t (.t (.t (.t (.t (.t (.t (.t (.t (.t (.t (.t (.t (.t (.t (.t (.t (.t (.t .h)))))))))))))))))))))))).pk (.t (.t (.t (.t (.t (.t (.t (.t (.t (.t (.t (.t (.t (.t (.t (.t (.t (.t .h))))))))))))))))))).pk (.t (.t (.t (.t (.t (.t (.t (.t (.t (.t (.t (.t (.t (.t (.t (.t (.t (.t .h))))))))))))))))))).pk (.t (.t (.t (.t (.t (.t (.t (.t (.t (.t (.t (.t (.t (.t (.t (.t (.t (.t (.t (.t (.t .h)))))))))))))))))))))).pk (.t (.t (.t (.t (.t (.t (.t (.t (.t (.t (.t (.t (.t (.t (.t (.t (.t (.t (.t (.t (.t .h)))))))))))))))))))))).pk (.t (.t (.t (.t (.t (.t (.t (.t (.t (.t (.t (.t (.t (.t (.t (.t (.t (.t (.t (.t (.t .h)))))))))))))))))))))).pk (.t (.t (.t (.t (.t (.t (.t (.t (.t (.t (.t (.t (.t (.t (.t (.t (.t (.t (.t (.t (.t (.t .h))))))))))))))))))))))).pk (.t (.t (.t (.t (.t (.t (.t (.t (.t (.t (.t (.t (.t (.t (.t (.t (.t (.t (.t (.t (.t (.t (.t .h)))))))))))))))))))))))
               obtain ⟨F18, O18, kin8, hO8, hre8, hF8, hb8⟩ := k_61.go (.i (.i (.i (.i (.i (.i (.i (.r (.r (.r (.r (.r (.r (.r (.r (.r (.r (.r (.r (.r (.r (.r (.r (.r .e))))))))))))))))))))))))
               refine Op_call [] 103 _ ds_go7 (by kernel_rfl) (c_dice_Dice_Word_k_s1 (F := F18) (O := O18) _ _ _ _ _ _ _ _ _ _ _ _ _ _ _ _ _ _ _ _ _ _ _ _ _ _ _ _ _ _ _ _ _ _ _ _ _ _ _ _ _ _ _ _ _ _ _ (Ro.of_sh kin8.off hre8 7 rfl) (k_61.shlen 14 rfl) (k_61.shlec 14 rfl) (Ro.of_sh kin8.off hre8 8 rfl) (k_61.shlen 15 rfl) (k_61.shlec 15 rfl) (Ro.of_sh kin8.off hre8 9 rfl) (k_61.shlen 16 rfl) (k_61.shlec 16 rfl) (Ro.of_sh kin8.off hre8 10 rfl) (k_61.shlen 17 rfl) (k_61.shlec 17 rfl) (Ro.of_sh kin8.off hre8 11 rfl) (k_61.shlen 18 rfl) (k_61.shlec 18 rfl) kin8 _ h_r_20) ?_
               rintro e_ w_21 ⟨A54, _, c54, A55, _, c55, A56, _, c56, rfl, rfl, rfl, rfl, k_62⟩
               have k_63 := hb8 w_21 _ _ k_62 (.c (.c (.c (.c (.c (.c (.c .n)))))))
               refine ⟨.tup [.u64 r_20.1, I r_20.2.1], rfl, ?_⟩
               refine WLs 5 [] (.n 14 (.u64 r_20.1) (.n 15 (I r_20.2.1) (.ss .a))) qe (by kernel_rfl) ?_
               refine WL_nil <| At_go <| W_seq <| W_reg <| WLs 1 [] (.n 107 (pt g7 0) (.kkk .z)) qe (by kernel_rfl) ?_
               refine WL_op ?_
               obtain ⟨r_21, h_r_21, hm⟩ := ob hm
               have k_64 := (((((((((((((((((((((((k_63.pk (.t (.t (.t (.t (.t (.t (.t (.t (.t (.t (.t (.t (.t (.t (.t (.t (.t (.t (.t (.t (.t (.t (.t .h)))))))))))))))))))))))).pk (.t (.t (.t (.t (.t (.t (.t (.t (.t (.t (.t (.t (.t (.t (.t (.t (.t (.t (.t (.t (.t (.t (.t .h)))))))))))))))))))))))).pk (.t (.t (.t (.t (.t (.t (.t (.t (.t (.t (.t (.t (.t (.t (.t (.t (.t (.t (.t (.t (.t (.t (.t .h)))))))))))))))))))))))).pk (.t (.t (.t (.t (.t (.t (.t (.t (.t (.t (.t (.t (.t (.t (.t (.t (.t (.t (.t (.t (.t (.t (.t .h)))))))))))))))))))))))).pk (.t (.t (.t (.t (.t (.t (.t (.t (.t (.t (.t (.t (.t (.t (.t (.t (.t (.t (.t (.t (.t (.t (.t .h)))))))))))))))))))))))).pk (.t (.t (.t (.t (.t (.t (.t (.t (.t (.t (.t (.t (.t (.t (.t (.t (.t (.t (.t (.t (.t (.t (.t .h)))))))))))))))))))))))).pk (.t (.t (.t (.t (.t (.t (.t (.t (.t (.t (.t (.t (.t (.t (.t (.t (.t (.t (.t (.t (.t (.t (.t .h)))))))))))))))))))))))).pk (.t (.t (.t (.t (.t (.t (.t (.t (.t (.t (.t (.t (.t (.t (.t (.t (.t (.t (.t (.t (.t (.t (.t .h)))))))))))))))))))))))).pk (.t (.t (.t (.t (.t (.t (.t (.t (.t (.t (.t (.t (.t (.t (.t (.t (.t (.t (.t (.t (.t (.t (.t .h)))))))))))))))))))))))).pk (.t (.t (.t (.t (.t (.t (.t (.t (.t (.t (.t (.t (.t (.t (.t (.t (.t (.t (.t (.t (.t (.t (.t .h)))))))))))))))))))))))).pk (.t (.t (.t (.t (.t (.t (.t (.t (.t (.t (.t (.t (.t (.t (.t (.t .h))))))))))))))))).pk (.t (.t (.t (.t (.t (.t (.t (.t (.t (.t (.t (.t (.t (.t (.t (.t .h))))))))))))))))).pk (.t (.t (.t (.t (.t (.t (.t (.t (.t (.t (.t (.t (.t (.t (.t (.t .h))))))))))))))))).pk (.t (.t (.t (.t (.t (.t (.t (.t (.t (.t (.t (.t (.t (.t (.t (.t .h))))))))))))))))).pk (.t (.t (.t (.t (.t (.t (.t (.t (.t (.t (.t (.t (.t (.t (.t (.t .h))))))))))))))))).pk (.t (.t (.t (.t (.t (.t (.t (.t (.t (.t (.t (.t (.t (.t (.t (.t .h))))))))))))))))).pk (.t (.t (.t (.t (.t (.t (.t (.t (.t (.t (.t (.t (.t (.t (.t (.t .h))))))))))))))))).pk (.t (.t (.t (.t (.t (.t (.t (.t (.t (.t (.t (.t (.t (.t (.t (.t (.t (.t .h))))))))))))))))))).pk (.t (.t (.t (.t (.t (.t (.t (.t (.t (.t (.t (.t (.t (.t (.t (.t (.t (.t .h))))))))))))))))))).pk (.t (.t (.t (.t (.t (.t (.t (.t (.t (.t (.t (.t (.t (.t (.t (.t (.t (.t (.t (.t (.t .h)))))))))))))))))))))).pk (.t (.t (.t (.t (.t (.t (.t (.t (.t (.t (.t (.t (.t (.t (.t (.t (.t (.t (.t (.t (.t .h)))))))))))))))))))))).pk (.t (.t (.t (.t (.t (.t (.t (.t (.t (.t (.t (.t (.t (.t (.t (.t (.t (.t (.t (.t (.t .h)))))))))))))))))))))).pk (.t (.t (.t (.t (.t (.t (.t (.t (.t (.t (.t (.t (.t (.t (.t (.t (.t (.t (.t (.t (.t (.t .h))))))))))))))))))))))).pk (.t (.t (.t (.t (.t (.t (.t (.t (.t (.t (.t (.t (.t (.t (.t (.t (.t (.t (.t (.t (.t (.t (.t .h)))))))))))))))))))))))
               obtain ⟨F19, O19, kin9, hO9, hre9, hF9, hb9⟩ := k_64.go (.i (.i (.i (.i (.i (.i (.i (.r (.r (.r (.r (.r (.r (.r (.r (.r (.r (.r (.r (.r (.r (.r (.r (.r .e))))))))))))))))))))))))
               refine Op_call [] 108 _ ds_go7 (by kernel_rfl) (c_dice_Dice_Word_k_s1 (F := F19) (O := O19) _ _ _ _ _ _ _ _ _ _ _ _ _ _ _ _ _ _ _ _ _ _ _ _ _ _ _ _ _ _ _ _ _ _ _ _ _ _ _ _ _ _ _ _ _ _ _ (Ro.of_sh kin9.off hre9 12 rfl) (k_64.shlen 19 rfl) (k_64.shlec 19 rfl) (Ro.of_sh kin9.off hre9 13 rfl) (k_64.shlen 20 rfl) (k_64.shlec 20 rfl) (Ro.of_sh kin9.off hre9 14 rfl) (k_64.shlen 21 rfl) (k_64.shlec 21 rfl) (Ro.of_sh kin9.off hre9 15 rfl) (k_64.shlen 22 rfl) (k_64.shlec 22 rfl) (Ro.of_sh kin9.off hre9 16 rfl) (k_64.shlen 23 rfl) (k_64.shlec 23 rfl) kin9 _ h_r_21) ?_
               rintro e_ w_22 ⟨A57, _, c57, A58, _, c58, A59, _, c59, rfl, rfl, rfl, rfl, k_65⟩
               have k_66 := hb9 w_22 _ _ k_65 (.c (.c (.c (.c (.c (.c (.c .n)))))))
               refine ⟨.tup [.u64 r_21.1, I r_21.2.1], rfl, ?_⟩
               have k_67 := k_66.sel (.ssss (.ss (.s (.kkkk (.kkkk (.kkkk .z))))))
               refine WLs 5 [] (.n 16 (.u64 r_21.1) (.n 17 (I r_21.2.1) (.ss .a))) qe (by kernel_rfl) ?_
               refine WL_nil <| At_go <| W_seq <| W_seq <| W_reg <| WLs 1 [] (.n 111 (pt g0 0) .a) qe (by kernel_rfl) ?_
               refine WL_op ?_
               obtain ⟨r_22, h_r_22, hm⟩ := ob hm
               have k_68 := (((((((((((k_67.pk (.t (.t (.t (.t (.t (.t (.t (.t (.t (.t (.t .h)))))))))))).pk (.t (.t (.t (.t (.t (.t (.t (.t (.t (.t (.t .h)))))))))))).pk (.t (.t (.t (.t (.t (.t (.t (.t (.t (.t (.t .h)))))))))))).pk (.t (.t (.t (.t (.t (.t (.t (.t (.t (.t (.t .h)))))))))))).pk (.t (.t (.t (.t (.t (.t (.t (.t (.t (.t (.t .h)))))))))))).pk (.t (.t (.t (.t (.t (.t .h))))))).pk (.t (.t (.t (.t (.t (.t .h))))))).pk (.t (.t (.t (.t (.t (.t (.t (.t (.t .h)))))))))).pk (.t (.t (.t (.t (.t (.t (.t (.t (.t .h)))))))))).pk (.t (.t (.t (.t (.t (.t (.t (.t (.t .h)))))))))).pk (.t (.t (.t (.t (.t (.t (.t (.t (.t (.t .h))))))))))).pk (.t (.t (.t (.t (.t (.t (.t (.t (.t (.t (.t .h)))))))))))
               obtain ⟨F110, O110, kin10, hO10, hre10, hF10, hb10⟩ := k_68.go (.i (.i (.i (.i (.i (.i (.i (.r (.r (.r (.r (.r .e))))))))))))
               refine Op_call [] 112 _ ds_go8 (by kernel_rfl) (c_dice_Dice_At_k_s1 (F := F110) (O := O110) _ _ _ _ _ _ _ _ _ _ _ _ _ _ _ _ _ _ _ _ _ _ _ _ _ _ _ _ _ _ _ _ _ _ _ _ _ _ _ _ _ _ _ _ _ _ _ (Ro.of_sh kin10.off hre10 0 rfl) (k_68.shlen 7 rfl) (k_68.shlec 7 rfl) (Ro.of_sh kin10.off hre10 1 rfl) (k_68.shlen 8 rfl) (k_68.shlec 8 rfl) (Ro.of_sh kin10.off hre10 2 rfl) (k_68.shlen 9 rfl) (k_68.shlec 9 rfl) (Ro.of_sh kin10.off hre10 3 rfl) (k_68.shlen 10 rfl) (k_68.shlec 10 rfl) (Ro.of_sh kin10.off hre10 4 rfl) (k_68.shlen 11 rfl) (k_68.shlec 11 rfl) kin10 _ h_r_22) ?_
               rintro e_ w_23 ⟨A60, _, c60, A61, _, c61, A62, _, c62, rfl, rfl, rfl, rfl, k_69⟩
               have k_70 := hb10 w_23 _ _ k_69 (.c (.c (.c (.c (.c (.c (.c .n)))))))
               refine ⟨.u64 r_22.1, rfl, ?_⟩
               refine WLs 5 [] (.n 117 (.b ((decide (r_22.1 = 34359738368)) || (decide (r_20.2.1 ≠ 0)))) (.ss .a)) qe (by kernel_rfl) ?_
               refine WL_nil <| At_go <| W_cond ((decide (r_22.1 = 34359738368)) || (decide (r_20.2.1 ≠ 0))) (by kernel_rfl) (fun hc10 => ?_) (fun hc10 => ?_)
               · rw [if_pos hc10] at hm
                 refine W_seq <| W_q [] (.n 6 (.b ((decide (r_20.2.1 = r_21.2.1)) && (decide (r_20.1 = r_21.1)))) .z) qe (by kernel_rfl) ?_
                 refine At_go <| W_ret (At_tr ?_)
                 obtain rfl := Option.some.inj hm
                 refine At_rt [.b ((decide (r_20.2.1 = r_21.2.1)) && (decide (r_20.1 = r_21.1)))] qe (by kernel_rfl) ?_
                 have k_71 := k_70.sel .z
                 exact ⟨rfl, k_71⟩
               rw [if_neg (by rw [hc10]; decide)] at hm
               refine W_skip <| At_go <| W_seq <| W_reg <| WLs 9 [] (.n 134 (.b ((decide (r_20.2.1 = r_21.2.1)) && (decide (r_20.1 = r_21.1)))) (.ssss (.s .a))) qe (by kernel_rfl) ?_
               refine WL_sp 134 ((decide (r_20.2.1 = r_21.2.1)) && (decide (r_20.1 = r_21.1))) (.s .a) (by kernel_rfl) (fun hg3 => ?_) (fun hg3 => ?_)
               · rw [if_pos hg3] at hm
                 refine WLs 1 [134] (.n 135 (pt g0 0) (.k .z)) qe (by kernel_rfl) ?_
                 refine WL_op ?_
                 have k_72 := k_70.sel (.kkkk (.kkkk (.kkkk .e)))
                 obtain ⟨r_23, h_r_23, hm⟩ := ob hm
                 have k_73 := (((((((((((k_72.pk (.t (.t (.t (.t (.t (.t (.t (.t (.t (.t (.t .h)))))))))))).pk (.t (.t (.t (.t (.t (.t (.t (.t (.t (.t (.t .h)))))))))))).pk (.t (.t (.t (.t (.t (.t (.t (.t (.t (.t (.t .h)))))))))))).pk (.t (.t (.t (.t (.t (.t (.t (.t (.t (.t (.t .h)))))))))))).pk (.t (.t (.t (.t (.t (.t (.t (.t (.t (.t (.t .h)))))))))))).pk (.t (.t (.t (.t (.t (.t .h))))))).pk (.t (.t (.t (.t (.t (.t .h))))))).pk (.t (.t (.t (.t (.t (.t (.t (.t (.t .h)))))))))).pk (.t (.t (.t (.t (.t (.t (.t (.t (.t .h)))))))))).pk (.t (.t (.t (.t (.t (.t (.t (.t (.t .h)))))))))).pk (.t (.t (.t (.t (.t (.t (.t (.t (.t (.t .h))))))))))).pk (.t (.t (.t (.t (.t (.t (.t (.t (.t (.t (.t .h)))))))))))
                 obtain ⟨F111, O111, kin11, hO11, hre11, hF11, hb11⟩ := k_73.go (.i (.i (.i (.i (.i (.i (.i (.r (.r (.r (.r (.r .e))))))))))))
                 refine Op_call [134] 136 _ ds_go6 (by kernel_rfl) (c_dice_Dice_Skip_k_s1 (F := F111) (O := O111) _ _ _ _ _ _ _ _ _ _ _ _ _ _ _ _ _ _ _ _ _ _ _ _ _ _ _ _ _ _ _ _ _ _ _ _ _ _ _ _ _ _ _ _ _ _ _ _ (Ro.of_sh kin11.off hre11 0 rfl) (k_73.shlen 7 rfl) (k_73.shlec 7 rfl) (Ro.of_sh kin11.off hre11 1 rfl) (k_73.shlen 8 rfl) (k_73.shlec 8 rfl) (Ro.of_sh kin11.off hre11 2 rfl) (k_73.shlen 9 rfl) (k_73.shlec 9 rfl) (Ro.of_sh kin11.off hre11 3 rfl) (k_73.shlen 10 rfl) (k_73.shlec 10 rfl) (Ro.of_sh kin11.off hre11 4 rfl) (k_73.shlen 11 rfl) (k_73.shlec 11 rfl) kin11 _ h_r_23) ?_
                 rintro e_ w_24 ⟨A63, _, c63, A64, _, c64, A65, _, c65, rfl, rfl, rfl, rfl, k_74⟩
                 have k_75 := hb11 w_24 _ _ k_74 (.c (.c (.c (.c (.c (.c (.c .n)))))))
                 refine ⟨I r_23.1, rfl, ?_⟩
                 have k_76 := k_75.sel .z
                 refine WLs 3 [134] (.n 6 (.b (decide (r_23.1 = 1))) .z) qe (by kernel_rfl) ?_
                 refine WL_nil <| At_go <| W_ret ?_
                 obtain rfl := Option.some.inj hm
                 refine At_rt [.b (decide (r_23.1 = 1))] qe (by kernel_rfl) ?_
                 exact ⟨rfl, k_76⟩
               · rw [if_neg (by rw [hg3]; decide)] at hm
                 refine WLs 5 [134] (.n 6 (.b false) .z) qe (by kernel_rfl) ?_
                 refine WL_nil <| At_go <| W_ret ?_
                 obtain rfl := Option.some.inj hm
                 refine At_rt [.b false] qe (by kernel_rfl) ?_
                 have k_77 := k_70.sel .z
                 exact ⟨rfl, k_77⟩
       rw [if_neg hc5] at hm
       refine W_exit (At_te (At_te (At_ie ?_)))
       refine At_go <| W_seq <| W_q [] (.n 2 (.u64 (far % 34359738112)) (.ss (.kkk .z))) (qp ((34359738112 : UInt64) ≠ 0) (by show (34359738112 : UInt64) ≠ 0; decide) <| qe) (by kernel_rfl) ?_
       refine At_go <| W_seq <| W_seq <| W_reg <| WLs 2 [] (.n 75 (pt g0 0) (.n 76 (.u64 (far % 34359738112)) .a)) qe (by kernel_rfl) ?_
       refine WL_op ?_
       obtain ⟨r_24, h_r_24, hm⟩ := ob hm
       have k_78 := ((((((((((((((((((((((k_33.pk (.t (.t (.t (.t (.t (.t (.t (.t (.t (.t (.t (.t (.t (.t (.t (.t (.t (.t (.t (.t (.t (.t .h))))))))))))))))))))))).pk (.t (.t (.t (.t (.t (.t (.t (.t (.t (.t (.t (.t (.t (.t (.t (.t (.t (.t (.t (.t (.t (.t .h))))))))))))))))))))))).pk (.t (.t (.t (.t (.t (.t (.t (.t (.t (.t (.t (.t (.t (.t (.t (.t (.t (.t (.t (.t (.t (.t .h))))))))))))))))))))))).pk (.t (.t (.t (.t (.t (.t (.t (.t (.t (.t (.t (.t (.t (.t (.t (.t (.t (.t (.t (.t (.t (.t .h))))))))))))))))))))))).pk (.t (.t (.t (.t (.t (.t (.t (.t (.t (.t (.t (.t (.t (.t (.t (.t (.t (.t (.t (.t (.t (.t .h))))))))))))))))))))))).pk (.t (.t (.t (.t (.t (.t (.t (.t (.t (.t (.t (.t (.t (.t (.t (.t (.t (.t (.t (.t (.t (.t .h))))))))))))))))))))))).pk (.t (.t (.t (.t (.t (.t (.t (.t (.t (.t (.t (.t (.t (.t (.t (.t (.t (.t (.t (.t (.t (.t .h))))))))))))))))))))))).pk (.t (.t (.t (.t (.t (.t (.t (.t (.t (.t (.t (.t (.t (.t (.t (.t (.t (.t (.t (.t (.t (.t .h))))))))))))))))))))))).pk (.t (.t (.t (.t (.t (.t (.t (.t (.t (.t (.t (.t (.t (.t (.t (.t (.t (.t (.t (.t (.t (.t .h))))))))))))))))))))))).pk (.t (.t (.t (.t (.t (.t (.t (.t (.t (.t (.t (.t (.t (.t (.t (.t (.t (.t (.t (.t (.t (.t .h))))))))))))))))))))))).pk (.t (.t (.t (.t (.t (.t (.t (.t (.t (.t (.t (.t (.t (.t (.t (.t (.t (.t (.t (.t (.t (.t .h))))))))))))))))))))))).pk (.t (.t (.t (.t (.t (.t (.t (.t (.t (.t (.t (.t (.t (.t (.t (.t (.t (.t (.t (.t (.t (.t .h))))))))))))))))))))))).pk (.t (.t (.t (.t (.t (.t (.t (.t (.t (.t (.t (.t (.t (.t (.t (.t (.t (.t (.t (.t (.t (.t .h))))))))))))))))))))))).pk (.t (.t (.t (.t (.t (.t (.t (.t (.t (.t (.t (.t (.t (.t (.t (.t (.t (.t (.t (.t (.t (.t .h))))))))))))))))))))))).pk (.t (.t (.t (.t (.t (.t (.t (.t (.t (.t (.t (.t (.t (.t (.t (.t (.t (.t (.t (.t (.t (.t .h))))))))))))))))))))))).pk (.t (.t (.t (.t (.t (.t (.t (.t (.t (.t (.t (.t (.t (.t (.t (.t (.t (.t (.t (.t (.t .h)))))))))))))))))))))).pk (.t (.t (.t (.t (.t (.t (.t (.t (.t (.t (.t (.t (.t (.t (.t (.t (.t .h)))))))))))))))))).pk (.t (.t (.t (.t (.t (.t (.t (.t (.t (.t (.t (.t (.t (.t (.t (.t (.t .h)))))))))))))))))).pk (.t (.t (.t (.t (.t (.t (.t (.t (.t (.t (.t (.t (.t (.t (.t (.t (.t (.t (.t (.t .h))))))))))))))))))))).pk (.t (.t (.t (.t (.t (.t (.t (.t (.t (.t (.t (.t (.t (.t (.t (.t (.t (.t (.t (.t .h))))))))))))))))))))).pk (.t (.t (.t (.t (.t (.t (.t (.t (.t (.t (.t (.t (.t (.t (.t (.t (.t (.t (.t (.t .h))))))))))))))))))))).pk (.t (.t (.t (.t (.t (.t (.t (.t (.t (.t (.t (.t (.t (.t (.t (.t (.t (.t (.t (.t (.t .h)))))))))))))))))))))).pk (.t (.t (.t (.t (.t (.t (.t (.t (.t (.t (.t (.t (.t (.t (.t (.t (.t (.t (.t (.t (.t (.t .h))))))))))))))))))))))
       obtain ⟨F112, O112, kin12, hO12, hre12, hF12, hb12⟩ := k_78.go (.i (.i (.i (.i (.i (.i (.i (.r (.r (.r (.r (.r (.r (.r (.r (.r (.r (.r (.r (.r (.r (.r (.r .e)))))))))))))))))))))))
       refine Op_call [] 77 _ ds_go6 (by kernel_rfl) (c_dice_Dice_Skip_k_s1 (F := F112) (O := O112) _ _ _ _ _ _ _ _ _ _ _ _ _ _ _ _ _ _ _ _ _ _ _ _ _ _ _ _ _ _ _ _ _ _ _ _ _ _ _ _ _ _ _ _ _ _ _ _ (Ro.of_sh kin12.off hre12 1 rfl) (k_78.shlen 8 rfl) (k_78.shlec 8 rfl) (Ro.of_sh kin12.off hre12 2 rfl) (k_78.shlen 9 rfl) (k_78.shlec 9 rfl) (Ro.of_sh kin12.off hre12 3 rfl) (k_78.shlen 10 rfl) (k_78.shlec 10 rfl) (Ro.of_sh kin12.off hre12 4 rfl) (k_78.shlen 11 rfl) (k_78.shlec 11 rfl) (Ro.of_sh kin12.off hre12 0 rfl) (k_78.shlen 7 rfl) (k_78.shlec 7 rfl) kin12 _ h_r_24) ?_
       rintro e_ w_25 ⟨A66, _, c66, A67, _, c67, A68, _, c68, rfl, rfl, rfl, rfl, k_79⟩
       have k_80 := hb12 w_25 _ _ k_79 (.c (.c (.c (.c (.c (.c (.c .n)))))))
       refine ⟨I r_24.1, rfl, ?_⟩
       refine WLs 2 [] (.n 79 (.b (decide (r_24.1 ≠ 0))) (.sss .a)) qe (by kernel_rfl) ?_
       refine WL_sp 79 (decide (r_24.1 ≠ 0)) (.s .a) (by kernel_rfl) (fun hg4 => ?_) (fun hg4 => ?_)
       · rw [if_pos (of_decide_eq_true hg4)] at hm
         refine WLs 6 [79] (.n 85 (.b true) (.s .a)) qe (by kernel_rfl) ?_
         refine WLs 7 [85] (.n 92 (.b true) (.s .a)) qe (by kernel_rfl) ?_
         refine WLs 8 [92] (.n 100 (.b true) (.ss (.kk .z))) qe (by kernel_rfl) ?_
         refine WL_nil <| At_go <| W_cond true (by kernel_rfl) (fun _ => ?_) (fun h => by cases h)
         refine W_seq <| W_q [] (.n 6 (.b false) .z) qe (by kernel_rfl) ?_
         refine At_go <| W_ret (At_tr ?_)
         obtain rfl := Option.some.inj hm
         refine At_rt [.b false] qe (by kernel_rfl) ?_
         have k_81 := k_80.sel .z
         exact ⟨rfl, k_81⟩
       · rw [if_neg (of_decide_eq_false hg4)] at hm
         refine WLs 2 [79] (.n 80 (pt g7 0) (.n 81 (.u64 (far % 34359738112)) .a)) qe (by kernel_rfl) ?_
         refine WL_op ?_
         obtain ⟨r_25, h_r_25, hm⟩ := ob hm
         obtain ⟨F113, O113, kin13, hO13, hre13, hF13, hb13⟩ := k_80.go (.r (.r (.r (.r (.r (.r (.r (.r (.r (.r (.r (.r (.i (.r (.i (.r (.r (.r (.i (.i (.i (.i (.i .e)))))))))))))))))))))))
         refine Op_call [79] 82 _ ds_go6 (by kernel_rfl) (c_dice_Dice_Skip_k (F := F113) (O := O113) _ _ _ _ _ _ _ _ _ _ _ _ _ _ _ _ _ _ _ _ _ _ _ _ _ _ _ _ _ _ _ _ _ _ _ _ _ _ _ _ _ _ _ _ (Ro.of_sh kin13.off hre13 12 rfl) (k_80.shlen 13 rfl) (k_80.shlec 13 rfl) (Ro.of_sh kin13.off hre13 13 rfl) (k_80.shlen 15 rfl) (k_80.shlec 15 rfl) (Ro.of_sh kin13.off hre13 14 rfl) (k_80.shlen 16 rfl) (k_80.shlec 16 rfl) (Ro.of_sh kin13.off hre13 15 rfl) (k_80.shlen 17 rfl) (k_80.shlec 17 rfl) kin13 _ h_r_25) ?_
         rcases r_25 with r_26 | r_27
         · simp only [Sum.elim_inl, Sum.elim_inr] at hm
           rintro e_ w_26 ⟨A69, _, c69, A70, _, c70, A71, _, c71, rfl, rfl, rfl, rfl, k_82⟩
           have k_83 := hb13 w_26 _ _ k_82 (.c (.c (.c (.c (.c (.c (.c .n)))))))
           refine ⟨I 1, rfl, ?_⟩
           refine WLs 3 [79] (.n 85 (.b true) (.ssss .a)) qe (by kernel_rfl) ?_
           refine WLs 7 [85] (.n 92 (.b true) (.s .a)) qe (by kernel_rfl) ?_
           refine WLs 8 [92] (.n 100 (.b true) (.ss (.kk .z))) qe (by kernel_rfl) ?_
           refine WL_nil <| At_go <| W_cond true (by kernel_rfl) (fun _ => ?_) (fun h => by cases h)
           refine W_seq <| W_q [] (.n 6 (.b false) .z) qe (by kernel_rfl) ?_
           refine At_go <| W_ret (At_tr ?_)
           obtain rfl := Option.some.inj hm
           refine At_rt [.b false] qe (by kernel_rfl) ?_
           have k_84 := k_83.sel .z
           exact ⟨rfl, k_84⟩
         · simp only [Sum.elim_inl, Sum.elim_inr] at hm
           rintro e_ w_27 ⟨A72, _, c72, A73, _, c73, A74, _, c74, g13, _, c75, rfl, rfl, rfl, rfl, rfl, k_85⟩
           have k_86 := hb13 w_27 _ _ k_85 (.c (.c (.c (.c (.c (.c (.c (.c .n))))))))
           refine ⟨I 0, rfl, ?_⟩
           refine WLs 3 [79] (.n 85 (.b false) (.ssss .a)) qe (by kernel_rfl) ?_
           refine WLs 1 [85] (.n 86 (pt g0 0) .a) qe (by kernel_rfl) ?_
           refine WL_op ?_
           have k_87 := k_86.sel (.kkkk (.kkkk (.kkkk (.kkkk (.kkkk (.kkkk .e))))))
           obtain ⟨r_28, h_r_28, hm⟩ := ob hm
           have k_88 := (((((((((((((((((((((((k_87.pk (.t (.t (.t (.t (.t (.t (.t (.t (.t (.t (.t (.t (.t (.t (.t (.t (.t (.t (.t (.t (.t (.t (.t .h)))))))))))))))))))))))).pk (.t (.t (.t (.t (.t (.t (.t (.t (.t (.t (.t (.t (.t (.t (.t (.t (.t (.t (.t (.t (.t (.t (.t .h)))))))))))))))))))))))).pk (.t (.t (.t (.t (.t (.t (.t (.t (.t (.t (.t (.t (.t (.t (.t (.t (.t (.t (.t (.t (.t (.t (.t .h)))))))))))))))))))))))).pk (.t (.t (.t (.t (.t (.t (.t (.t (.t (.t (.t (.t (.t (.t (.t (.t (.t (.t (.t (.t (.t (.t (.t .h)))))))))))))))))))))))).pk (.t (.t (.t (.t (.t (.t (.t (.t (.t (.t (.t (.t (.t (.t (.t (.t (.t (.t (.t (.t (.t (.t (.t .h)))))))))))))))))))))))).pk (.t (.t (.t (.t (.t (.t (.t (.t (.t (.t (.t (.t (.t (.t (.t (.t (.t (.t (.t (.t (.t (.t (.t .h)))))))))))))))))))))))).pk (.t (.t (.t (.t (.t (.t (.t (.t (.t (.t (.t (.t (.t (.t (.t (.t (.t (.t (.t (.t (.t (.t (.t .h)))))))))))))))))))))))).pk (.t (.t (.t (.t (.t (.t (.t (.t (.t (.t (.t (.t (.t (.t (.t (.t (.t (.t (.t (.t (.t (.t (.t .h)))))))))))))))))))))))).pk (.t (.t (.t (.t (.t (.t (.t (.t (.t (.t (.t (.t (.t (.t (.t (.t (.t (.t (.t (.t (.t (.t (.t .h)))))))))))))))))))))))).pk (.t (.t (.t (.t (.t (.t (.t (.t (.t (.t (.t (.t (.t (.t (.t (.t .h))))))))))))))))).pk (.t (.t (.t (.t (.t (.t (.t (.t (.t (.t (.t (.t (.t (.t (.t (.t .h))))))))))))))))).pk (.t (.t (.t (.t (.t (.t (.t (.t (.t (.t (.t (.t (.t (.t (.t (.t .h))))))))))))))))).pk (.t (.t (.t (.t (.t (.t (.t (.t (.t (.t (.t (.t (.t (.t (.t (.t .h))))))))))))))))).pk (.t (.t (.t (.t (.t (.t (.t (.t (.t (.t (.t (.t (.t (.t (.t (.t .h))))))))))))))))).pk (.t (.t (.t (.t (.t (.t (.t (.t (.t (.t (.t (.t (.t (.t (.t (.t .h))))))))))))))))).pk (.t (.t (.t (.t (.t (.t (.t (.t (.t (.t (.t (.t (.t (.t (.t (.t .h))))))))))))))))).pk (.t (.t (.t (.t (.t (.t (.t (.t (.t (.t (.t (.t (.t (.t (.t (.t .h))))))))))))))))).pk (.t (.t (.t (.t (.t (.t (.t (.t (.t (.t (.t (.t (.t (.t (.t (.t (.t (.t .h))))))))))))))))))).pk (.t (.t (.t (.t (.t (.t (.t (.t (.t (.t (.t (.t (.t (.t (.t (.t (.t (.t .h))))))))))))))))))).pk (.t (.t (.t (.t (.t (.t (.t (.t (.t (.t (.t (.t (.t (.t (.t (.t (.t (.t (.t (.t (.t .h)))))))))))))))))))))).pk (.t (.t (.t (.t (.t (.t (.t (.t (.t (.t (.t (.t (.t (.t (.t (.t (.t (.t (.t (.t (.t .h)))))))))))))))))))))).pk (.t (.t (.t (.t (.t (.t (.t (.t (.t (.t (.t (.t (.t (.t (.t (.t (.t (.t (.t (.t (.t .h)))))))))))))))))))))).pk (.t (.t (.t (.t (.t (.t (.t (.t (.t (.t (.t (.t (.t (.t (.t (.t (.t (.t (.t (.t (.t (.t .h))))))))))))))))))))))).pk (.t (.t (.t (.t (.t (.t (.t (.t (.t (.t (.t (.t (.t (.t (.t (.t (.t (.t (.t (.t (.t (.t (.t .h)))))))))))))))))))))))
           obtain ⟨F114, O114, kin14, hO14, hre14, hF14, hb14⟩ := k_88.go (.i (.i (.i (.i (.i (.i (.i (.r (.r (.r (.r (.r (.r (.r (.r (.r (.r (.r (.r (.r (.r (.r (.r (.r .e))))))))))))))))))))))))
           refine Op_call [85] 87 _ ds_go8 (by kernel_rfl) (c_dice_Dice_At_k_s1 (F := F114) (O := O114) _ _ _ _ _ _ _ _ _ _ _ _ _ _ _ _ _ _ _ _ _ _ _ _ _ _ _ _ _ _ _ _ _ _ _ _ _ _ _ _ _ _ _ _ _ _ _ (Ro.of_sh kin14.off hre14 9 rfl) (k_88.shlen 16 rfl) (k_88.shlec 16 rfl) (Ro.of_sh kin14.off hre14 10 rfl) (k_88.shlen 17 rfl) (k_88.shlec 17 rfl) (Ro.of_sh kin14.off hre14 11 rfl) (k_88.shlen 18 rfl) (k_88.shlec 18 rfl) (Ro.of_sh kin14.off hre14 12 rfl) (k_88.shlen 19 rfl) (k_88.shlec 19 rfl) (Ro.of_sh kin14.off hre14 8 rfl) (k_88.shlen 15 rfl) (k_88.shlec 15 rfl) kin14 _ h_r_28) ?_
           rintro e_ w_28 ⟨A75, _, c76, A76, _, c77, A77, _, c78, rfl, rfl, rfl, rfl, k_89⟩
           have k_90 := hb14 w_28 _ _ k_89 (.c (.c (.c (.c (.c (.c (.c .n)))))))
           refine ⟨.u64 r_28.1, rfl, ?_⟩
           refine WLs 1 [85] (.n 88 (pt g7 0) (.k (.s .a))) qe (by kernel_rfl) ?_
           refine WL_op ?_
           obtain ⟨r_29, h_r_29, hm⟩ := ob hm
           have k_91 := (((((((((((((((((((((((k_90.pk (.t (.t (.t (.t (.t (.t (.t (.t (.t (.t (.t (.t (.t (.t (.t (.t (.t (.t (.t (.t (.t (.t (.t .h)))))))))))))))))))))))).pk (.t (.t (.t (.t (.t (.t (.t (.t (.t (.t (.t (.t (.t (.t (.t (.t (.t (.t (.t (.t (.t (.t (.t .h)))))))))))))))))))))))).pk (.t (.t (.t (.t (.t (.t (.t (.t (.t (.t (.t (.t (.t (.t (.t (.t (.t (.t (.t (.t (.t (.t (.t .h)))))))))))))))))))))))).pk (.t (.t (.t (.t (.t (.t (.t (.t (.t (.t (.t (.t (.t (.t (.t (.t (.t (.t (.t (.t (.t (.t (.t .h)))))))))))))))))))))))).pk (.t (.t (.t (.t (.t (.t (.t (.t (.t (.t (.t (.t (.t (.t (.t (.t (.t (.t (.t (.t (.t (.t (.t .h)))))))))))))))))))))))).pk (.t (.t (.t (.t (.t (.t (.t (.t (.t (.t (.t (.t (.t (.t (.t (.t (.t (.t (.t (.t (.t (.t (.t .h)))))))))))))))))))))))).pk (.t (.t (.t (.t (.t (.t (.t (.t (.t (.t (.t (.t (.t (.t (.t (.t (.t (.t (.t (.t (.t (.t (.t .h)))))))))))))))))))))))).pk (.t (.t (.t (.t (.t (.t (.t (.t (.t (.t (.t (.t (.t (.t (.t (.t (.t (.t (.t (.t (.t (.t (.t .h)))))))))))))))))))))))).pk (.t (.t (.t (.t (.t (.t (.t (.t (.t (.t (.t (.t (.t (.t (.t (.t (.t (.t (.t (.t (.t (.t (.t .h)))))))))))))))))))))))).pk (.t (.t (.t (.t (.t (.t (.t (.t (.t (.t (.t (.t (.t (.t (.t (.t (.t (.t (.t (.t (.t (.t .h))))))))))))))))))))))).pk (.t (.t (.t (.t (.t (.t (.t (.t (.t (.t (.t (.t (.t (.t (.t (.t .h))))))))))))))))).pk (.t (.t (.t (.t (.t (.t (.t (.t (.t (.t (.t (.t (.t (.t (.t (.t .h))))))))))))))))).pk (.t (.t (.t (.t (.t (.t (.t (.t (.t (.t (.t (.t (.t (.t (.t (.t .h))))))))))))))))).pk (.t (.t (.t (.t (.t (.t (.t (.t (.t (.t (.t (.t (.t (.t (.t (.t .h))))))))))))))))).pk (.t (.t (.t (.t (.t (.t (.t (.t (.t (.t (.t (.t (.t (.t (.t (.t .h))))))))))))))))).pk (.t (.t (.t (.t (.t (.t (.t (.t (.t (.t (.t (.t (.t (.t (.t (.t .h))))))))))))))))).pk (.t (.t (.t (.t (.t (.t (.t (.t (.t (.t (.t (.t (.t (.t (.t (.t .h))))))))))))))))).pk (.t (.t (.t (.t (.t (.t (.t (.t (.t (.t (.t (.t (.t (.t (.t (.t (.t (.t .h))))))))))))))))))).pk (.t (.t (.t (.t (.t (.t (.t (.t (.t (.t (.t (.t (.t (.t (.t (.t (.t (.t .h))))))))))))))))))).pk (.t (.t (.t (.t (.t (.t (.t (.t (.t (.t (.t (.t (.t (.t (.t (.t (.t (.t (.t (.t (.t .h)))))))))))))))))))))).pk (.t (.t (.t (.t (.t (.t (.t (.t (.t (.t (.t (.t (.t (.t (.t (.t (.t (.t (.t (.t (.t .h)))))))))))))))))))))).pk (.t (.t (.t (.t (.t (.t (.t (.t (.t (.t (.t (.t (.t (.t (.t (.t (.t (.t (.t (.t (.t .h)))))))))))))))))))))).pk (.t (.t (.t (.t (.t (.t (.t (.t (.t (.t (.t (.t (.t (.t (.t (.t (.t (.t (.t (.t (.t (.t .h))))))))))))))))))))))).pk (.t (.t (.t (.t (.t (.t (.t (.t (.t (.t (.t (.t (.t (.t (.t (.t (.t (.t (.t (.t (.t (.t (.t .h)))))))))))))))))))))))
           obtain ⟨F115, O115, kin15, hO15, hre15, hF15, hb15⟩ := k_91.go (.i (.i (.i (.i (.i (.i (.i (.r (.r (.r (.r (.r (.r (.r (.r (.r (.r (.r (.r (.r (.r (.r (.r (.r .e))))))))))))))))))))))))
           refine Op_call [85] 89 _ ds_go8 (by kernel_rfl) (c_dice_Dice_At_k_s1 (F := F115) (O := O115) _ _ _ _ _ _ _ _ _ _ _ _ _ _ _ _ _ _ _ _ _ _ _ _ _ _ _ _ _ _ _ _ _ _ _ _ _ _ _ _ _ _ _ _ _ _ _ (Ro.of_sh kin15.off hre15 13 rfl) (k_91.shlen 20 rfl) (k_91.shlec 20 rfl) (Ro.of_sh kin15.off hre15 14 rfl) (k_91.shlen 21 rfl) (k_91.shlec 21 rfl) (Ro.of_sh kin15.off hre15 15 rfl) (k_91.shlen 22 rfl) (k_91.shlec 22 rfl) (Ro.of_sh kin15.off hre15 16 rfl) (k_91.shlen 23 rfl) (k_91.shlec 23 rfl) (Ro.of_sh kin15.off hre15 7 rfl) (k_91.shlen 14 rfl) (k_91.shlec 14 rfl) kin15 _ h_r_29) ?_
           rintro e_ w_29 ⟨A78, _, c79, A79, _, c80, A80, _, c81, rfl, rfl, rfl, rfl, k_92⟩
           have k_93 := hb15 w_29 _ _ k_92 (.c (.c (.c (.c (.c (.c (.c .n)))))))
           refine ⟨.u64 r_29.1, rfl, ?_⟩
           refine WLs 3 [85] (.n 92 (.b (decide (r_28.1 ≠ r_29.1))) (.ssss .a)) qe (by kernel_rfl) ?_
           refine WL_sp 92 (decide (r_28.1 ≠ r_29.1)) (.s .a) (by kernel_rfl) (fun hg5 => ?_) (fun hg5 => ?_)
           · rw [if_pos (of_decide_eq_true hg5)] at hm
             refine WLs 8 [92] (.n 100 (.b true) (.ss (.kk .z))) qe (by kernel_rfl) ?_
             refine WL_nil <| At_go <| W_cond true (by kernel_rfl) (fun _ => ?_) (fun h => by cases h)
             refine W_seq <| W_q [] (.n 6 (.b false) .z) qe (by kernel_rfl) ?_
             refine At_go <| W_ret (At_tr ?_)
             obtain rfl := Option.some.inj hm
             refine At_rt [.b false] qe (by kernel_rfl) ?_
             have k_94 := k_93.sel .z
             exact ⟨rfl, k_94⟩
           · rw [if_neg (of_decide_eq_false hg5)] at hm
             refine WLs 1 [92] (.n 93 (pt g0 0) .a) qe (by kernel_rfl) ?_
             refine WL_op ?_
             obtain ⟨r_30, h_r_30, hm⟩ := ob hm
             have k_95 := (((((((((((((((((((((((k_93.pk (.t (.t (.t (.t (.t (.t (.t (.t (.t (.t (.t (.t (.t (.t (.t (.t (.t (.t (.t (.t (.t (.t (.t .h)))))))))))))))))))))))).pk (.t (.t (.t (.t (.t (.t (.t (.t (.t (.t (.t (.t (.t (.t (.t (.t (.t (.t (.t (.t (.t (.t (.t .h)))))))))))))))))))))))).pk (.t (.t (.t (.t (.t (.t (.t (.t (.t (.t (.t (.t (.t (.t (.t (.t (.t (.t (.t (.t (.t (.t (.t .h)))))))))))))))))))))))).pk (.t (.t (.t (.t (.t (.t (.t (.t (.t (.t (.t (.t (.t (.t (.t (.t (.t (.t (.t (.t (.t (.t (.t .h)))))))))))))))))))))))).pk (.t (.t (.t (.t (.t (.t (.t (.t (.t (.t (.t (.t (.t (.t (.t (.t (.t (.t (.t (.t (.t (.t (.t .h)))))))))))))))))))))))).pk (.t (.t (.t (.t (.t (.t (.t (.t (.t (.t (.t (.t (.t (.t (.t (.t (.t (.t (.t (.t (.t (.t (.t .h)))))))))))))))))))))))).pk (.t (.t (.t (.t (.t (.t (.t (.t (.t (.t (.t (.t (.t (.t (.t (.t (.t (.t (.t (.t (.t (.t (.t .h)))))))))))))))))))))))).pk (.t (.t (.t (.t (.t (.t (.t (.t (.t (.t (.t (.t (.t (.t (.t (.t (.t (.t (.t (.t (.t (.t (.t .h)))))))))))))))))))))))).pk (.t (.t (.t (.t (.t (.t (.t (.t (.t (.t (.t (.t (.t (.t (.t (.t (.t (.t (.t (.t (.t (.t (.t .h)))))))))))))))))))))))).pk (.t (.t (.t (.t (.t (.t (.t (.t (.t (.t (.t (.t (.t (.t (.t (.t (.t (.t (.t (.t (.t (.t (.t .h)))))))))))))))))))))))).pk (.t (.t (.t (.t (.t (.t (.t (.t (.t (.t (.t (.t (.t (.t (.t (.t .h))))))))))))))))).pk (.t (.t (.t (.t (.t (.t (.t (.t (.t (.t (.t (.t (.t (.t (.t (.t .h))))))))))))))))).pk (.t (.t (.t (.t (.t (.t (.t (.t (.t (.t (.t (.t (.t (.t (.t (.t .h))))))))))))))))).pk (.t (.t (.t (.t (.t (.t (.t (.t (.t (.t (.t (.t (.t (.t (.t (.t .h))))))))))))))))).pk (.t (.t (.t (.t (.t (.t (.t (.t (.t (.t (.t (.t (.t (.t (.t (.t .h))))))))))))))))).pk (.t (.t (.t (.t (.t (.t (.t (.t (.t (.t (.t (.t (.t (.t (.t (.t .h))))))))))))))))).pk (.t (.t (.t (.t (.t (.t (.t (.t (.t (.t (.t (.t (.t (.t (.t (.t .h))))))))))))))))).pk (.t (.t (.t (.t (.t (.t (.t (.t (.t (.t (.t (.t (.t (.t (.t (.t (.t (.t .h))))))))))))))))))).pk (.t (.t (.t (.t (.t (.t (.t (.t (.t (.t (.t (.t (.t (.t (.t (.t (.t (.t .h))))))))))))))))))).pk (.t (.t (.t (.t (.t (.t (.t (.t (.t (.t (.t (.t (.t (.t (.t (.t (.t (.t (.t (.t (.t .h)))))))))))))))))))))).pk (.t (.t (.t (.t (.t (.t (.t (.t (.t (.t (.t (.t (.t (.t (.t (.t (.t (.t (.t (.t (.t .h)))))))))))))))))))))).pk (.t (.t (.t (.t (.t (.t (.t (.t (.t (.t (.t (.t (.t (.t (.t (.t (.t (.t (.t (.t (.t .h)))))))))))))))))))))).pk (.t (.t (.t (.t (.t (.t (.t (.t (.t (.t (.t (.t (.t (.t (.t (.t (.t (.t (.t (.t (.t (.t .h))))))))))))))))))))))).pk (.t (.t (.t (.t (.t (.t (.t (.t (.t (.t (.t (.t (.t (.t (.t (.t (.t (.t (.t (.t (.t (.t (.t .h)))))))))))))))))))))))
             obtain ⟨F116, O116, kin16, hO16, hre16, hF16, hb16⟩ := k_95.go (.i (.i (.i (.i (.i (.i (.i (.r (.r (.r (.r (.r (.r (.r (.r (.r (.r (.r (.r (.r (.r (.r (.r (.r .e))))))))))))))))))))))))
             refine Op_call [92] 94 _ ds_go8 (by kernel_rfl) (c_dice_Dice_At_k_s1 (F := F116) (O := O116) _ _ _ _ _ _ _ _ _ _ _ _ _ _ _ _ _ _ _ _ _ _ _ _ _ _ _ _ _ _ _ _ _ _ _ _ _ _ _ _ _ _ _ _ _ _ _ (Ro.of_sh kin16.off hre16 9 rfl) (k_95.shlen 16 rfl) (k_95.shlec 16 rfl) (Ro.of_sh kin16.off hre16 10 rfl) (k_95.shlen 17 rfl) (k_95.shlec 17 rfl) (Ro.of_sh kin16.off hre16 11 rfl) (k_95.shlen 18 rfl) (k_95.shlec 18 rfl) (Ro.of_sh kin16.off hre16 12 rfl) (k_95.shlen 19 rfl) (k_95.shlec 19 rfl) (Ro.of_sh kin16.off hre16 8 rfl) (k_95.shlen 15 rfl) (k_95.shlec 15 rfl) kin16 _ h_r_30) ?_
             rintro e_ w_30 ⟨A81, _, c82, A82, _, c83, A83, _, c84, rfl, rfl, rfl, rfl, k_96⟩
             have k_97 := hb16 w_30 _ _ k_96 (.c (.c (.c (.c (.c (.c (.c .n)))))))
             refine ⟨.u64 r_30.1, rfl, ?_⟩
             refine WLs 6 [92] (.n 100 (.b (decide (r_30.1 ≠ ((far % 34359738112) + (UInt64.ofNat by_.toNat))))) (.ssss (.kk .z))) qe (by kernel_rfl) ?_
             refine WL_nil <| At_go <| W_condp (r_30.1 ≠ ((far % 34359738112) + (UInt64.ofNat by_.toNat))) (by kernel_rfl) (fun hc11 => ?_) (fun hc11 => ?_)
             · rw [if_pos hc11] at hm
               refine W_seq <| W_q [] (.n 6 (.b false) .z) qe (by kernel_rfl) ?_
               refine At_go <| W_ret (At_tr ?_)
               obtain rfl := Option.some.inj hm
               refine At_rt [.b false] qe (by kernel_rfl) ?_
               have k_98 := k_97.sel .z
               exact ⟨rfl, k_98⟩
             rw [if_neg hc11] at hm
             refine W_skip <| At_go <| W_seq <| W_reg <| WLs 1 [] (.n 102 (pt g0 0) (.s .a)) qe (by kernel_rfl) ?_
             refine WL_op ?_
             obtain ⟨r_31, h_r_31, hm⟩ := ob hm
             have k_99 := (((((((((((((((((((((((k_97.pk (.t (.t (.t (.t (.t (.t (.t (.t (.t (.t (.t (.t (.t (.t (.t (.t (.t (.t (.t (.t (.t (.t (.t .h)))))))))))))))))))))))).pk (.t (.t (.t (.t (.t (.t (.t (.t (.t (.t (.t (.t (.t (.t (.t (.t (.t (.t (.t (.t (.t (.t (.t .h)))))))))))))))))))))))).pk (.t (.t (.t (.t (.t (.t (.t (.t (.t (.t (.t (.t (.t (.t (.t (.t (.t (.t (.t (.t (.t (.t (.t .h)))))))))))))))))))))))).pk (.t (.t (.t (.t (.t (.t (.t (.t (.t (.t (.t (.t (.t (.t (.t (.t (.t (.t (.t (.t (.t (.t (.t .h)))))))))))))))))))))))).pk (.t (.t (.t (.t (.t (.t (.t (.t (.t (.t (.t (.t (.t (.t (.t (.t (.t (.t (.t (.t (.t (.t (.t .h)))))))))))))))))))))))).pk (.t (.t (.t (.t (.t (.t (.t (.t (.t (.t (.t (.t (.t (.t (.t (.t (.t (.t (.t (.t (.t (.t (.t .h)))))))))))))))))))))))).pk (.t (.t (.t (.t (.t (.t (.t (.t (.t (.t (.t (.t (.t (.t (.t (.t (.t (.t (.t (.t (.t (.t (.t .h)))))))))))))))))))))))).pk (.t (.t (.t (.t (.t (.t (.t (.t (.t (.t (.t (.t (.t (.t (.t (.t (.t (.t (.t (.t (.t (.t (.t .h)))))))))))))))))))))))).pk (.t (.t (.t (.t (.t (.t (.t (.t (.t (.t (.t (.t (.t (.t (.t (.t (.t (.t (.t (.t (.t (.t (.t .h)))))))))))))))))))))))).pk (.t (.t (.t (.t (.t (.t (.t (.t (.t (.t (.t (.t (.t (.t (.t (.t (.t (.t (.t (.t (.t (.t (.t .h)))))))))))))))))))))))).pk (.t (.t (.t (.t (.t (.t (.t (.t (.t (.t (.t (.t (.t (.t (.t (.t (.t (.t (.t (.t (.t (.t (.t .h)))))))))))))))))))))))).pk (.t (.t (.t (.t (.t (.t (.t (.t (.t (.t (.t (.t (.t (.t (.t (.t (.t (.t (.t (.t (.t (.t (.t .h)))))))))))))))))))))))).pk (.t (.t (.t (.t (.t (.t (.t (.t (.t (.t (.t (.t (.t (.t (.t (.t (.t (.t (.t (.t (.t (.t (.t .h)))))))))))))))))))))))).pk (.t (.t (.t (.t (.t (.t (.t (.t (.t (.t (.t (.t (.t (.t (.t (.t (.t (.t (.t (.t (.t (.t (.t .h)))))))))))))))))))))))).pk (.t (.t (.t (.t (.t (.t (.t (.t (.t (.t (.t (.t (.t (.t (.t (.t (.t (.t (.t (.t (.t (.t (.t .h)))))))))))))))))))))))).pk (.t (.t (.t (.t (.t (.t (.t (.t (.t (.t (.t (.t (.t (.t (.t (.t (.t (.t (.t (.t (.t (.t (.t .h)))))))))))))))))))))))).pk (.t (.t (.t (.t (.t (.t (.t (.t (.t (.t (.t (.t (.t (.t (.t (.t (.t (.t (.t (.t (.t (.t (.t .h)))))))))))))))))))))))).pk (.t (.t (.t (.t (.t (.t (.t (.t (.t (.t (.t (.t (.t (.t (.t (.t (.t (.t .h))))))))))))))))))).pk (.t (.t (.t (.t (.t (.t (.t (.t (.t (.t (.t (.t (.t (.t (.t (.t (.t (.t .h))))))))))))))))))).pk (.t (.t (.t (.t (.t (.t (.t (.t (.t (.t (.t (.t (.t (.t (.t (.t (.t (.t (.t (.t (.t .h)))))))))))))))))))))).pk (.t (.t (.t (.t (.t (.t (.t (.t (.t (.t (.t (.t (.t (.t (.t (.t (.t (.t (.t (.t (.t .h)))))))))))))))))))))).pk (.t (.t (.t (.t (.t (.t (.t (.t (.t (.t (.t (.t (.t (.t (.t (.t (.t (.t (.t (.t (.t .h)))))))))))))))))))))).pk (.t (.t (.t (.t (.t (.t (.t (.t (.t (.t (.t (.t (.t (.t (.t (.t (.t (.t (.t (.t (.t (.t .h))))))))))))))))))))))).pk (.t (.t (.t (.t (.t (.t (.t (.t (.t (.t (.t (.t (.t (.t (.t (.t (.t (.t (.t (.t (.t (.t (.t .h)))))))))))))))))))))))
             obtain ⟨F117, O117, kin17, hO17, hre17, hF17, hb17⟩ := k_99.go (.i (.i (.i (.i (.i (.i (.i (.r (.r (.r (.r (.r (.r (.r (.r (.r (.r (.r (.r (.r (.r (.r (.r (.r .e))))))))))))))))))))))))
             refine Op_call [] 103 _ ds_go7 (by kernel_rfl) (c_dice_Dice_Word_k_s1 (F := F117) (O := O117) _ _ _ _ _ _ _ _ _ _ _ _ _ _ _ _ _ _ _ _ _ _ _ _ _ _ _ _ _ _ _ _ _ _ _ _ _ _ _ _ _ _ _ _ _ _ _ (Ro.of_sh kin17.off hre17 9 rfl) (k_99.shlen 16 rfl) (k_99.shlec 16 rfl) (Ro.of_sh kin17.off hre17 10 rfl) (k_99.shlen 17 rfl) (k_99.shlec 17 rfl) (Ro.of_sh kin17.off hre17 11 rfl) (k_99.shlen 18 rfl) (k_99.shlec 18 rfl) (Ro.of_sh kin17.off hre17 12 rfl) (k_99.shlen 19 rfl) (k_99.shlec 19 rfl) (Ro.of_sh kin17.off hre17 8 rfl) (k_99.shlen 15 rfl) (k_99.shlec 15 rfl) kin17 _ h_r_31) ?_
             rintro e_ w_31 ⟨A84, _, c85, A85, _, c86, A86, _, c87, rfl, rfl, rfl, rfl, k_100⟩
             have k_101 := hb17 w_31 _ _ k_100 (.c (.c (.c (.c (.c (.c (.c .n)))))))
             refine ⟨.tup [.u64 r_31.1, I r_31.2.1], rfl, ?_⟩
             refine WLs 5 [] (.n 14 (.u64 r_31.1) (.n 15 (I r_31.2.1) (.ss .a))) qe (by kernel_rfl) ?_
             refine WL_nil <| At_go <| W_seq <| W_reg <| WLs 1 [] (.n 107 (pt g7 0) (.kk (.s .a))) qe (by kernel_rfl) ?_
             refine WL_op ?_
             have k_102 := k_101.sel (.kkkk (.kkkk (.kkkk (.kkkk (.kkkk (.kkkk .e))))))
             obtain ⟨r_32, h_r_32, hm⟩ := ob hm
             have k_103 := (((((((((((((((((((((((k_102.pk (.t (.t (.t (.t (.t (.t (.t (.t (.t (.t (.t (.t (.t (.t (.t (.t (.t (.t (.t (.t (.t (.t (.t .h)))))))))))))))))))))))).pk (.t (.t (.t (.t (.t (.t (.t (.t (.t (.t (.t (.t (.t (.t (.t (.t (.t (.t (.t (.t (.t (.t (.t .h)))))))))))))))))))))))).pk (.t (.t (.t (.t (.t (.t (.t (.t (.t (.t (.t (.t (.t (.t (.t (.t (.t (.t (.t (.t (.t (.t (.t .h)))))))))))))))))))))))).pk (.t (.t (.t (.t (.t (.t (.t (.t (.t (.t (.t (.t (.t (.t (.t (.t (.t (.t (.t (.t (.t (.t (.t .h)))))))))))))))))))))))).pk (.t (.t (.t (.t (.t (.t (.t (.t (.t (.t (.t (.t (.t (.t (.t (.t (.t (.t (.t (.t (.t (.t (.t .h)))))))))))))))))))))))).pk (.t (.t (.t (.t (.t (.t (.t (.t (.t (.t (.t (.t (.t (.t (.t (.t (.t (.t (.t (.t (.t (.t (.t .h)))))))))))))))))))))))).pk (.t (.t (.t (.t (.t (.t (.t (.t (.t (.t (.t (.t (.t (.t (.t (.t (.t (.t (.t (.t (.t (.t (.t .h)))))))))))))))))))))))).pk (.t (.t (.t (.t (.t (.t (.t (.t (.t (.t (.t (.t (.t (.t (.t (.t (.t (.t (.t (.t (.t (.t (.t .h)))))))))))))))))))))))).pk (.t (.t (.t (.t (.t (.t (.t (.t (.t (.t (.t (.t (.t (.t (.t (.t (.t (.t (.t (.t (.t (.t (.t .h)))))))))))))))))))))))).pk (.t (.t (.t (.t (.t (.t (.t (.t (.t (.t (.t (.t (.t (.t (.t (.t (.t (.t (.t (.t (.t (.t (.t .h)))))))))))))))))))))))).pk (.t (.t (.t (.t (.t (.t (.t (.t (.t (.t (.t (.t (.t (.t (.t (.t .h))))))))))))))))).pk (.t (.t (.t (.t (.t (.t (.t (.t (.t (.t (.t (.t (.t (.t (.t (.t .h))))))))))))))))).pk (.t (.t (.t (.t (.t (.t (.t (.t (.t (.t (.t (.t (.t (.t (.t (.t .h))))))))))))))))).pk (.t (.t (.t (.t (.t (.t (.t (.t (.t (.t (.t (.t (.t (.t (.t (.t .h))))))))))))))))).pk (.t (.t (.t (.t (.t (.t (.t (.t (.t (.t (.t (.t (.t (.t (.t (.t .h))))))))))))))))).pk (.t (.t (.t (.t (.t (.t (.t (.t (.t (.t (.t (.t (.t (.t (.t (.t .h))))))))))))))))).pk (.t (.t (.t (.t (.t (.t (.t (.t (.t (.t (.t (.t (.t (.t (.t (.t .h))))))))))))))))).pk (.t (.t (.t (.t (.t (.t (.t (.t (.t (.t (.t (.t (.t (.t (.t (.t (.t (.t .h))))))))))))))))))).pk (.t (.t (.t (.t (.t (.t (.t (.t (.t (.t (.t (.t (.t (.t (.t (.t (.t (.t .h))))))))))))))))))).pk (.t (.t (.t (.t (.t (.t (.t (.t (.t (.t (.t (.t (.t (.t (.t (.t (.t (.t (.t (.t (.t .h)))))))))))))))))))))).pk (.t (.t (.t (.t (.t (.t (.t (.t (.t (.t (.t (.t (.t (.t (.t (.t (.t (.t (.t (.t (.t .h)))))))))))))))))))))).pk (.t (.t (.t (.t (.t (.t (.t (.t (.t (.t (.t (.t (.t (.t (.t (.t (.t (.t (.t (.t (.t .h)))))))))))))))))))))).pk (.t (.t (.t (.t (.t (.t (.t (.t (.t (.t (.t (.t (.t (.t (.t (.t (.t (.t (.t (.t (.t (.t .h))))))))))))))))))))))).pk (.t (.t (.t (.t (.t (.t (.t (.t (.t (.t (.t (.t (.t (.t (.t (.t (.t (.t (.t (.t (.t (.t (.t .h)))))))))))))))))))))))
             obtain ⟨F118, O118, kin18, hO18, hre18, hF18, hb18⟩ := k_103.go (.i (.i (.i (.i (.i (.i (.i (.r (.r (.r (.r (.r (.r (.r (.r (.r (.r (.r (.r (.r (.r (.r (.r (.r .e))))))))))))))))))))))))
             refine Op_call [] 108 _ ds_go7 (by kernel_rfl) (c_dice_Dice_Word_k_s1 (F := F118) (O := O118) _ _ _ _ _ _ _ _ _ _ _ _ _ _ _ _ _ _ _ _ _ _ _ _ _ _ _ _ _ _ _ _ _ _ _ _ _ _ _ _ _ _ _ _ _ _ _ (Ro.of_sh kin18.off hre18 13 rfl) (k_103.shlen 20 rfl) (k_103.shlec 20 rfl) (Ro.of_sh kin18.off hre18 14 rfl) (k_103.shlen 21 rfl) (k_103.shlec 21 rfl) (Ro.of_sh kin18.off hre18 15 rfl) (k_103.shlen 22 rfl) (k_103.shlec 22 rfl) (Ro.of_sh kin18.off hre18 16 rfl) (k_103.shlen 23 rfl) (k_103.shlec 23 rfl) (Ro.of_sh kin18.off hre18 7 rfl) (k_103.shlen 14 rfl) (k_103.shlec 14 rfl) kin18 _ h_r_32) ?_
             rintro e_ w_32 ⟨A87, _, c88, A88, _, c89, A89, _, c90, rfl, rfl, rfl, rfl, k_104⟩
             have k_105 := hb18 w_32 _ _ k_104 (.c (.c (.c (.c (.c (.c (.c .n)))))))
             refine ⟨.tup [.u64 r_32.1, I r_32.2.1], rfl, ?_⟩
             have k_106 := k_105.sel (.ssss (.ss (.s (.kkkk (.kk (.k (.s (.kkkk (.k .z)))))))))
             refine WLs 5 [] (.n 16 (.u64 r_32.1) (.n 17 (I r_32.2.1) (.ss .a))) qe (by kernel_rfl) ?_
             refine WL_nil <| At_go <| W_seq <| W_seq <| W_reg <| WLs 1 [] (.n 111 (pt g0 0) .a) qe (by kernel_rfl) ?_
             refine WL_op ?_
             obtain ⟨r_33, h_r_33, hm⟩ := ob hm
             have k_107 := (((((((((((k_106.pk (.t (.t (.t (.t (.t (.t (.t (.t (.t (.t (.t .h)))))))))))).pk (.t (.t (.t (.t (.t (.t (.t (.t (.t (.t (.t .h)))))))))))).pk (.t (.t (.t (.t (.t (.t (.t (.t (.t (.t (.t .h)))))))))))).pk (.t (.t (.t (.t (.t (.t (.t (.t (.t (.t (.t .h)))))))))))).pk (.t (.t (.t (.t (.t (.t (.t (.t (.t (.t (.t .h)))))))))))).pk (.t (.t (.t (.t (.t (.t .h))))))).pk (.t (.t (.t (.t (.t (.t .h))))))).pk (.t (.t (.t (.t (.t (.t (.t (.t (.t .h)))))))))).pk (.t (.t (.t (.t (.t (.t (.t (.t (.t .h)))))))))).pk (.t (.t (.t (.t (.t (.t (.t (.t (.t .h)))))))))).pk (.t (.t (.t (.t (.t (.t (.t (.t (.t (.t .h))))))))))).pk (.t (.t (.t (.t (.t (.t (.t (.t (.t (.t (.t .h)))))))))))
             obtain ⟨F119, O119, kin19, hO19, hre19, hF19, hb19⟩ := k_107.go (.i (.i (.i (.i (.i (.i (.i (.r (.r (.r (.r (.r .e))))))))))))
             refine Op_call [] 112 _ ds_go8 (by kernel_rfl) (c_dice_Dice_At_k_s1 (F := F119) (O := O119) _ _ _ _ _ _ _ _ _ _ _ _ _ _ _ _ _ _ _ _ _ _ _ _ _ _ _ _ _ _ _ _ _ _ _ _ _ _ _ _ _ _ _ _ _ _ _ (Ro.of_sh kin19.off hre19 1 rfl) (k_107.shlen 8 rfl) (k_107.shlec 8 rfl) (Ro.of_sh kin19.off hre19 2 rfl) (k_107.shlen 9 rfl) (k_107.shlec 9 rfl) (Ro.of_sh kin19.off hre19 3 rfl) (k_107.shlen 10 rfl) (k_107.shlec 10 rfl) (Ro.of_sh kin19.off hre19 4 rfl) (k_107.shlen 11 rfl) (k_107.shlec 11 rfl) (Ro.of_sh kin19.off hre19 0 rfl) (k_107.shlen 7 rfl) (k_107.shlec 7 rfl) kin19 _ h_r_33) ?_
             rintro e_ w_33 ⟨A90, _, c91, A91, _, c92, A92, _, c93, rfl, rfl, rfl, rfl, k_108⟩
             have k_109 := hb19 w_33 _ _ k_108 (.c (.c (.c (.c (.c (.c (.c .n)))))))
             refine ⟨.u64 r_33.1, rfl, ?_⟩
             refine WLs 5 [] (.n 117 (.b ((decide (r_33.1 = 34359738368)) || (decide (r_31.2.1 ≠ 0)))) (.ss .a)) qe (by kernel_rfl) ?_
             refine WL_nil <| At_go <| W_cond ((decide (r_33.1 = 34359738368)) || (decide (r_31.2.1 ≠ 0))) (by kernel_rfl) (fun hc12 => ?_) (fun hc12 => ?_)
             · rw [if_pos hc12] at hm
               refine W_seq <| W_q [] (.n 6 (.b ((decide (r_31.2.1 = r_32.2.1)) && (decide (r_31.1 = r_32.1)))) .z) qe (by kernel_rfl) ?_
               refine At_go <| W_ret (At_tr ?_)
               obtain rfl := Option.some.inj hm
               refine At_rt [.b ((decide (r_31.2.1 = r_32.2.1)) && (decide (r_31.1 = r_32.1)))] qe (by kernel_rfl) ?_
               have k_110 := k_109.sel .z
               exact ⟨rfl, k_110⟩
             rw [if_neg (by rw [hc12]; decide)] at hm
             refine W_skip <| At_go <| W_seq <| W_reg <| WLs 9 [] (.n 134 (.b ((decide (r_31.2.1 = r_32.2.1)) && (decide (r_31.1 = r_32.1)))) (.ssss (.s .a))) qe (by kernel_rfl) ?_
             refine WL_sp 134 ((decide (r_31.2.1 = r_32.2.1)) && (decide (r_31.1 = r_32.1))) (.s .a) (by kernel_rfl) (fun hg6 => ?_) (fun hg6 => ?_)
             · rw [if_pos hg6] at hm
               refine WLs 1 [134] (.n 135 (pt g0 0) (.k .z)) qe (by kernel_rfl) ?_
               refine WL_op ?_
               obtain ⟨r_34, h_r_34, hm⟩ := ob hm
               have k_111 := (((((((((((k_109.pk (.t (.t (.t (.t (.t (.t (.t (.t (.t (.t (.t .h)))))))))))).pk (.t (.t (.t (.t (.t (.t (.t (.t (.t (.t (.t .h)))))))))))).pk (.t (.t (.t (.t (.t (.t (.t (.t (.t (.t (.t .h)))))))))))).pk (.t (.t (.t (.t (.t (.t (.t (.t (.t (.t (.t .h)))))))))))).pk (.t (.t (.t (.t (.t (.t (.t (.t (.t (.t (.t .h)))))))))))).pk (.t (.t (.t (.t (.t (.t .h))))))).pk (.t (.t (.t (.t (.t (.t .h))))))).pk (.t (.t (.t (.t (.t (.t (.t (.t (.t .h)))))))))).pk (.t (.t (.t (.t (.t (.t (.t (.t (.t .h)))))))))).pk (.t (.t (.t (.t (.t (.t (.t (.t (.t .h)))))))))).pk (.t (.t (.t (.t (.t (.t (.t (.t (.t (.t .h))))))))))).pk (.t (.t (.t (.t (.t (.t (.t (.t (.t (.t (.t .h)))))))))))
               obtain ⟨F120, O120, kin20, hO20, hre20, hF20, hb20⟩ := k_111.go (.i (.i (.i (.i (.i (.i (.i (.r (.r (.r (.r (.r .e))))))))))))
               refine Op_call [134] 136 _ ds_go6 (by kernel_rfl) (c_dice_Dice_Skip_k_s1 (F := F120) (O := O120) _ _ _ _ _ _ _ _ _ _ _ _ _ _ _ _ _ _ _ _ _ _ _ _ _ _ _ _ _ _ _ _ _ _ _ _ _ _ _ _ _ _ _ _ _ _ _ _ (Ro.of_sh kin20.off hre20 1 rfl) (k_111.shlen 8 rfl) (k_111.shlec 8 rfl) (Ro.of_sh kin20.off hre20 2 rfl) (k_111.shlen 9 rfl) (k_111.shlec 9 rfl) (Ro.of_sh kin20.off hre20 3 rfl) (k_111.shlen 10 rfl) (k_111.shlec 10 rfl) (Ro.of_sh kin20.off hre20 4 rfl) (k_111.shlen 11 rfl) (k_111.shlec 11 rfl) (Ro.of_sh kin20.off hre20 0 rfl) (k_111.shlen 7 rfl) (k_111.shlec 7 rfl) kin20 _ h_r_34) ?_
               rintro e_ w_34 ⟨A93, _, c94, A94, _, c95, A95, _, c96, rfl, rfl, rfl, rfl, k_112⟩
               have k_113 := hb20 w_34 _ _ k_112 (.c (.c (.c (.c (.c (.c (.c .n)))))))
               refine ⟨I r_34.1, rfl, ?_⟩
               have k_114 := k_113.sel .z
               refine WLs 3 [134] (.n 6 (.b (decide (r_34.1 = 1))) .z) qe (by kernel_rfl) ?_
               refine WL_nil <| At_go <| W_ret ?_
               obtain rfl := Option.some.inj hm
               refine At_rt [.b (decide (r_34.1 = 1))] qe (by kernel_rfl) ?_
               exact ⟨rfl, k_114⟩
             · rw [if_neg (by rw [hg6]; decide)] at hm
               refine WLs 5 [134] (.n 6 (.b false) .z) qe (by kernel_rfl) ?_
               refine WL_nil <| At_go <| W_ret ?_
               obtain rfl := Option.some.inj hm
               refine At_rt [.b false] qe (by kernel_rfl) ?_
               have k_115 := k_109.sel .z
               exact ⟨rfl, k_115⟩
end Go.Sx

