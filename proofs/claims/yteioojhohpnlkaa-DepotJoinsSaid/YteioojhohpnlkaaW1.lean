import Derived.Test.YteioojhohpnlkaaMM
import Derived.Test.YteioojhohpnlkaaSyR
import Derived.Test.YteioojhohpnlkaaProg
namespace Go.Sx
open Go.RowKit Go.Proofs
set_option linter.unusedVariables false
set_option linter.unusedSimpArgs false
set_option maxRecDepth 20000
theorem yd_go10 : IsGo Try.prog 10 := ⟨⟨Try.f10, _, Try.func10, rfl, by kernel_rfl⟩⟩
theorem yd_go12 : IsGo Try.prog 12 := ⟨⟨Try.f12, _, Try.func12, rfl, by kernel_rfl⟩⟩
theorem yd_go14 : IsGo Try.prog 14 := ⟨⟨Try.f14, _, Try.func14, rfl, by kernel_rfl⟩⟩
theorem yd_go15 : IsGo Try.prog 15 := ⟨⟨Try.f15, _, Try.func15, rfl, by kernel_rfl⟩⟩
theorem yd_go31 : IsGo Try.prog 31 := ⟨⟨Try.f31, _, Try.func31, rfl, by kernel_rfl⟩⟩
theorem yd_tf22 : TF Try.prog 22 5 [.int .u8 0] 1 := ⟨by kernel_rfl, by kernel_rfl, by decide, by decide⟩
theorem yd_tf24 : TF Try.prog 24 22 [.slice none 0 0] 24 := ⟨by kernel_rfl, by kernel_rfl, by decide, by decide⟩
theorem yd_mixed : Try.prog.follows .mixedOrders = true := by kernel_rfl

-- quern/depot.Chunks
theorem c_depot_Chunks {F O : Nat → Prop} {w : World} (data : List UInt8) (A_data : Option Addr) (n_data : Nat) (c_data : Nat) (h_data : Ro F w A_data (e8.all data)) (hn_data : data.length = n_data) (hc_data : n_data ≤ c_data) (k : Cx F O w w []) (r : (List (List UInt8) × Int)) (hm : m_depot_Chunks data = some r) :
    Calls Try.prog 10 (vals [sl A_data n_data c_data]) w (fun e w' => ∃ A n c hd, r.1.length = n ∧ e = .returned (SV.val (.tup [sl A n c, I r.2])) ∧ Cx F O w w' [O2 e8 A n c hd r.1]) := by
 unfold m_depot_Chunks at hm
 subst hn_data
 refine calls [sl A_data data.length c_data] Try.func10 rfl (of_decide_eq_true (by kernel_rfl)) ?_
 refine W_seq <| W_q [] .a qe (by kernel_rfl) ?_
 refine At_go <| W_seq <| W_seq <| W_q [] (.n 12 (.b (decide (1048576 < ((data.length : Nat) : Int)))) .a) qe (by kernel_rfl) ?_
 refine At_go <| W_condp (1048576 < ((data.length : Nat) : Int)) (by kernel_rfl) (fun hc => ?_) (fun hc => ?_)
 · rw [if_pos hc] at hm
   refine W_seq <| W_q [] (.n 2 (sl none 0 0) (.n 3 (I 2) .z)) qe (by kernel_rfl) ?_
   refine At_go <| W_ret (At_tr ?_)
   have k_ := k.nil2 e8
   obtain rfl := Option.some.inj hm
   refine At_rt [sl none 0 0, I 2] qe (by kernel_rfl) ?_
   exact ⟨none, 0, 0, ([] : List Hd), k_.len2 0 rfl, rfl, k_⟩
 rw [if_neg hc] at hm
 refine W_skip <| At_go <| W_seq <| W_q [] (.n 4 (sl none 0 0) (.s .a)) qe (by kernel_rfl) ?_
 refine At_go <| W_seq <| W_q [] (.n 5 (I 0) (.n 6 (.u64 0) .a)) qe (by kernel_rfl) ?_
 refine At_go <| W_seq <| W_seq <| W_q [] (.n 13 (sl A_data data.length c_data) (.n 14 (I ((data.length : Nat) : Int)) (.n 15 (I 0) .a))) qe (by kernel_rfl) ?_
 refine At_go <| W_block ?_
 have k_2 := k.nil2 e8
 refine W_lp (m_depot_Chunks_l0 data) (fun s L wr => ∃ (l : List (List UInt8)) (from_ : Int) (sum : UInt64) (x_0 : Int) (A0 : Option Addr) (n0 : Nat) (c0 : Nat) (hd0 : List Hd), (l, from_, sum, x_0) = s ∧ L = [(0, sl A_data data.length c_data), (4, sl A0 n0 c0), (5, I from_), (6, .u64 sum), (13, sl A_data data.length c_data), (14, I ((data.length : Nat) : Int)), (15, I x_0)] ∧ l.length = n0 ∧ Cx F O w wr [O2 e8 A0 n0 c0 hd0 l]) (([] : List (List UInt8)), (0 : Int), (0 : UInt64), (0 : Int)) r hm ⟨([] : List (List UInt8)), (0 : Int), (0 : UInt64), (0 : Int), none, 0, 0, ([] : List Hd), rfl, rfl, k_2.len2 0 rfl, k_2⟩ (by kernel_rfl) ?_
 intro s0_ L_ w_ y0 hrel hstep hr0
 obtain ⟨l, from_, sum, x_0, A0, _, c0, hd0, rfl, rfl, rfl, k_1⟩ := hrel
 have hm := hstep; simp only [m_depot_Chunks_l0] at hm
 clear hstep
 refine W_seq <| W_q [] (.n 16 (.b (decide (x_0 < ((data.length : Nat) : Int)))) .a) qe (by kernel_rfl) ?_
 refine At_go <| W_seq <| W_condp (x_0 < ((data.length : Nat) : Int)) (by kernel_rfl) (fun hc1 => ?_) (fun hc1 => ?_)
 · rw [if_pos hc1] at hm
   refine W_skip <| At_go <| W_cut (fun L wr => ∃ (l1 : List (List UInt8)) (from_1 : Int) (sum1 : UInt64) (A1 : Option Addr) (n1 : Nat) (c1 : Nat) (hd1 : List Hd), m_depot_Chunks_j0 x_0 l1 from_1 sum1 = some y0 ∧ L = [(0, sl A_data data.length c_data), (4, sl A1 n1 c1), (5, I from_1), (6, .u64 sum1), (13, sl A_data data.length c_data), (14, I ((data.length : Nat) : Int)), (15, I x_0)] ∧ l1.length = n1 ∧ Cx F O w wr [O2 e8 A1 n1 c1 hd1 l1]) ?_ ?_
   ·
    refine W_block <| W_seq ?_
    obtain ⟨x_2, h_x_2, hm⟩ := ob hm
    refine W_q [] (.n 7 (I x_0) (.n 8 (.u8 x_2) (.s .a))) (qW (h_data.cx k_1) h_x_2 rfl (.u8 x_2) rfl <| qe) (by kernel_rfl) ?_
    refine At_go <| W_seq <| W_q [] (.n 6 (.u64 ((shl64 sum ((1 : UInt64).toNat)) + (((UInt64.ofNat x_2.toNat) + 1) * 11400714819323198485))) (.k (.s (.kkk (.s .a))))) qe (by kernel_rfl) ?_
    refine At_go <| W_seq <| W_q [] (.n 9 (I (w64 ((w64 (x_0 + 1)) - from_))) .a) qe (by kernel_rfl) ?_
    refine At_go <| W_seq <| W_q [] (.n 48 (.b (((decide ((w64 ((w64 (x_0 + 1)) - from_)) = 1024)) || ((decide (64 ≤ (w64 ((w64 (x_0 + 1)) - from_)))) && (decide ((shr64 ((shl64 sum ((1 : UInt64).toNat)) + (((UInt64.ofNat x_2.toNat) + 1) * 11400714819323198485)) ((58 : UInt64).toNat)) = 0)))) || (decide (x_0 = (w64 (((data.length : Nat) : Int) - 1)))))) (.s .a)) qe (by kernel_rfl) ?_
    refine At_go <| W_cond (((decide ((w64 ((w64 (x_0 + 1)) - from_)) = 1024)) || ((decide (64 ≤ (w64 ((w64 (x_0 + 1)) - from_)))) && (decide ((shr64 ((shl64 sum ((1 : UInt64).toNat)) + (((UInt64.ofNat x_2.toNat) + 1) * 11400714819323198485)) ((58 : UInt64).toNat)) = 0)))) || (decide (x_0 = (w64 (((data.length : Nat) : Int) - 1))))) (by kernel_rfl) (fun hc2 => ?_) (fun hc2 => ?_)
    · rw [if_pos hc2] at hm
      refine W_seq <| W_reg ?_
      obtain ⟨b, h_b, hm⟩ := ob hm
      have hs := slc_some h_b
      have hl := slc_len h_b
      have hn : data.length = data.length := rfl
      have hc3 : data.length ≤ c_data := hc_data
      obtain ⟨A2, c2, e_, hc4, hA, hc5⟩ := slx A_data (Int.toNat from_) c_data 1 (Int.toNat (w64 (x_0 + 1)) - Int.toNat from_) b.length (by omega) (by omega)
      refine WLs 6 [] (.n 49 (sl A0 l.length c0) (.n 54 (sl A2 b.length c2) (.ss (.kkk (.s .a))))) (qp (0 ≤ w64 (x_0 + 1) ∧ w64 (x_0 + 1) ≤ ((c_data : Nat) : Int)) (by omega) <| qp (0 ≤ from_ ∧ from_ ≤ ((Int.toNat (w64 (x_0 + 1)) : Nat) : Int)) (by omega) <| qo (.v (.slice A2 b.length c2)) <| qp (Value.slice (slA A_data (Int.toNat from_) c_data 1) (Int.toNat (w64 (x_0 + 1)) - Int.toNat from_) (c_data - Int.toNat from_) = .slice A2 b.length c2) e_ <| qe) (by kernel_rfl) ?_
      refine WL_op ?_
      have k_3 := k_1.nil e8
      obtain ⟨b1, h_b1, hm⟩ := ob hm
      obtain ⟨hz, hl1⟩ := app_some h_b1
      refine Op_append (E := e8) (v := sl A2 b.length c2) (ys := b) yd_tf22 [] 55 1 (by kernel_rfl) k_3 rfl (Src.sl (Rd.cut (h_data.cx k_3) h_b rfl (by rfl) hA (by omega)) rfl (by rfl)) rfl (by have := k_3.len 1 rfl; have := hm; omega) ?_
      intro A3 c3 w_1 k_4
      rw [← hl1] at k_4
      refine WL_op ?_
      have k_5 := (k_4.pk .h).pk (.t .h)
      refine Op_mk2 (rest := [O2 e8 A0 l.length c0 hd0 l]) yd_tf24 e8 [] 56 ([(A3, 0 + b.length, c3)] : List Hd) ([b1] : List (List UInt8)) [(0, sl A3 (0 + b.length) c3)] [sl A3 (0 + b.length) c3] (by kernel_rfl) (by kernel_rfl) (by kernel_rfl) rfl k_5 ?_
      intro A4 w_2 k_6
      refine WL_op ?_
      have k_7 := (k_6.pk .h).pk (.t .h)
      obtain ⟨l2, h_l2, hm⟩ := ob hm
      obtain ⟨hz1, hl2⟩ := app_some h_l2
      refine Op_append2 yd_tf24 [] 57 (by kernel_rfl) k_7 (by have := k_7.len2 0 rfl; have := k_7.len2 1 rfl; omega) ?_
      intro A5 c4 w_3 k_8
      rw [← hl2] at k_8
      refine WLs 1 [] (.n 4 (sl A5 (l.length + 1) c4) (.ssss (.s (.kk (.s .a))))) qe (by kernel_rfl) ?_
      refine WL_nil <| At_go <| W_q [] (.n 5 (I (w64 (x_0 + 1))) (.n 6 (.u64 0) (.k (.s .a)))) qe (by kernel_rfl) ?_
      refine At_in ?_
      exact At_c ⟨l2, w64 (x_0 + 1), (0 : UInt64), A5, l.length + 1, c4, hd0 ++ ([(A3, 0 + b.length, c3)] : List Hd), hm, rfl, k_8.len2 0 rfl, k_8⟩ (by kernel_rfl)
    rw [if_neg (by rw [hc2]; decide)] at hm
    refine W_skip <| At_in ?_
    exact At_c ⟨l, from_, (shl64 sum ((1 : UInt64).toNat)) + (((UInt64.ofNat x_2.toNat) + 1) * 11400714819323198485), A0, l.length, c0, hd0, hm, rfl, k_1.len2 0 rfl, k_1⟩ (by kernel_rfl)
   rintro L_ w_4 ⟨l1, from_1, sum1, A1, _, c1, hd1, hm, rfl, rfl, k_9⟩
   simp only [m_depot_Chunks_j0] at hm
   refine W_q [] (.n 15 (I (w64 (x_0 + 1))) (.kkkk (.kk .z))) qe (by kernel_rfl) ?_
   exact At_rd (l1, from_1, sum1, w64 (x_0 + 1)) (Option.some.inj hm).symm ⟨l1, from_1, sum1, w64 (x_0 + 1), A1, l1.length, c1, hd1, rfl, rfl, k_9.len2 0 rfl, k_9⟩ (by kernel_rfl)
 rw [if_neg hc1] at hm
 refine W_exit (At_te (At_te (At_ie ?_)))
 have hm := exit_of hm hr0
 refine At_go <| W_seq <| W_q [] (.n 2 (sl A0 l.length c0) (.n 3 (I 0) .z)) qe (by kernel_rfl) ?_
 refine At_go <| W_ret ?_
 obtain rfl := Option.some.inj hm
 refine At_rt [sl A0 l.length c0, I 0] qe (by kernel_rfl) ?_
 exact ⟨A0, l.length, c0, hd0, k_1.len2 0 rfl, rfl, k_1⟩

-- quern/quernref01.Same
theorem c_r01_Same {F O : Nat → Prop} {w : World} (a_ : List UInt8) (b : List UInt8) (A_a_ : Option Addr) (n_a_ : Nat) (c_a_ : Nat) (A_b : Option Addr) (n_b : Nat) (c_b : Nat) (h_a_ : Ro F w A_a_ (e8.all a_)) (hn_a_ : a_.length = n_a_) (hc_a_ : n_a_ ≤ c_a_) (h_b : Ro F w A_b (e8.all b)) (hn_b : b.length = n_b) (hc_b : n_b ≤ c_b) (k : Cx F O w w []) (r : Bool) (hm : m_r01_Same a_ b = some r) :
    Calls Try.prog 31 (vals [sl A_a_ n_a_ c_a_, sl A_b n_b c_b]) w (fun e w' => e = .returned (SV.val (.b r)) ∧ Cx F O w w' []) := by
 unfold m_r01_Same at hm
 subst hn_a_
 subst hn_b
 refine calls [sl A_a_ a_.length c_a_, sl A_b b.length c_b] Try.func31 rfl (of_decide_eq_true (by kernel_rfl)) ?_
 refine W_seq <| W_q [] .a qe (by kernel_rfl) ?_
 refine At_go <| W_seq <| W_seq <| W_q [] (.n 10 (.b (decide (((a_.length : Nat) : Int) ≠ ((b.length : Nat) : Int)))) .a) qe (by kernel_rfl) ?_
 refine At_go <| W_condp (((a_.length : Nat) : Int) ≠ ((b.length : Nat) : Int)) (by kernel_rfl) (fun hc => ?_) (fun hc => ?_)
 · rw [if_pos hc] at hm
   refine W_seq <| W_q [] (.n 4 (.b false) .z) qe (by kernel_rfl) ?_
   refine At_go <| W_ret (At_tr ?_)
   obtain rfl := Option.some.inj hm
   refine At_rt [.b false] qe (by kernel_rfl) ?_
   exact ⟨rfl, k⟩
 rw [if_neg hc] at hm
 refine W_skip <| At_go <| W_seq <| W_seq <| W_q [] (.n 5 (I 0) (.s .a)) qe (by kernel_rfl) ?_
 refine At_go <| W_block <| W_lp (m_r01_Same_l0 a_ b) (fun s L wr => ∃ (i : Int), i = s ∧ L = [(0, sl A_a_ a_.length c_a_), (1, sl A_b b.length c_b), (5, I i)] ∧ Cx F O w wr []) (0 : Int) r hm ⟨(0 : Int), rfl, rfl, k⟩ (by kernel_rfl) ?_
 intro s0_ L_ w_ y0 hrel hstep hr0
 obtain ⟨i, rfl, rfl, k_⟩ := hrel
 have hm := hstep; simp only [m_r01_Same_l0] at hm
 clear hstep
 refine W_seq <| W_seq <| W_q [] (.n 14 (.b (decide (i < ((a_.length : Nat) : Int)))) .a) qe (by kernel_rfl) ?_
 refine At_go <| W_condp (i < ((a_.length : Nat) : Int)) (by kernel_rfl) (fun hc1 => ?_) (fun hc1 => ?_)
 · rw [if_pos hc1] at hm
   refine W_skip <| At_go <| W_seq <| W_block <| W_seq ?_
   obtain ⟨x_0, h_x_0, hm⟩ := ob hm
   obtain ⟨x_1, h_x_1, hm⟩ := ob hm
   refine W_d yd_mixed (by kernel_rfl) (.n 25 (.b (decide (x_0 ≠ x_1))) (.s .a)) (fun m => qW (h_a_.cx (k_.drew m)) h_x_0 rfl (.u8 x_0) rfl <| qW (h_b.cx (k_.drew m)) h_x_1 rfl (.u8 x_1) rfl <| qe) (by kernel_rfl) (fun m_ => ?_)
   have k_1 := k_.drew m_
   refine At_go <| W_condp (x_0 ≠ x_1) (by kernel_rfl) (fun hc2 => ?_) (fun hc2 => ?_)
   · rw [if_pos hc2] at hm
     refine W_seq <| W_q [] (.n 4 (.b false) .z) qe (by kernel_rfl) ?_
     refine At_go <| W_ret (At_ir (At_tr (At_tr (At_ir (At_tr ?_)))))
     have hm := exit_of hm hr0
     obtain rfl := Option.some.inj hm
     refine At_rt [.b false] qe (by kernel_rfl) ?_
     exact ⟨rfl, k_1⟩
   rw [if_neg hc2] at hm
   refine W_skip <| At_in <| At_go <| W_q [] (.n 5 (I (w64 (i + 1))) (.s (.kk .z))) qe (by kernel_rfl) ?_
   exact At_rd (w64 (i + 1)) (Option.some.inj hm).symm ⟨w64 (i + 1), rfl, rfl, k_1⟩ (by kernel_rfl)
 rw [if_neg hc1] at hm
 refine W_exit (At_te (At_te (At_ie ?_)))
 have hm := exit_of hm hr0
 refine At_go <| W_seq <| W_q [] (.n 4 (.b true) .z) qe (by kernel_rfl) ?_
 refine At_go <| W_ret ?_
 obtain rfl := Option.some.inj hm
 refine At_rt [.b true] qe (by kernel_rfl) ?_
 exact ⟨rfl, k_⟩

-- quern/quernlaw27.same
theorem c_l27_same {F O : Nat → Prop} {w : World} (a_ : List UInt8) (b : List UInt8) (A_a_ : Option Addr) (n_a_ : Nat) (c_a_ : Nat) (A_b : Option Addr) (n_b : Nat) (c_b : Nat) (h_a_ : Ro F w A_a_ (e8.all a_)) (hn_a_ : a_.length = n_a_) (hc_a_ : n_a_ ≤ c_a_) (h_b : Ro F w A_b (e8.all b)) (hn_b : b.length = n_b) (hc_b : n_b ≤ c_b) (k : Cx F O w w []) (r : Bool) (hm : m_l27_same a_ b = some r) :
    Calls Try.prog 14 (vals [sl A_a_ n_a_ c_a_, sl A_b n_b c_b]) w (fun e w' => e = .returned (SV.val (.b r)) ∧ Cx F O w w' []) := by
 unfold m_l27_same at hm
 subst hn_a_
 subst hn_b
 refine calls [sl A_a_ a_.length c_a_, sl A_b b.length c_b] Try.func14 rfl (of_decide_eq_true (by kernel_rfl)) ?_
 refine W_seq <| W_q [] .a qe (by kernel_rfl) ?_
 refine At_go <| W_seq <| W_reg <| WLs 2 [] (.n 5 (sl A_a_ a_.length c_a_) (.n 6 (sl A_b b.length c_b) .z)) qe (by kernel_rfl) ?_
 refine WL_op ?_
 obtain ⟨r_, h_r_, hm⟩ := ob hm
 refine Op_call [] 7 _ yd_go31 (by kernel_rfl) (c_r01_Same (F := N0) (O := N0) _ _ _ _ _ _ _ _ (Ro.n0 (h_a_.cx k)) rfl hc_a_ (Ro.n0 (h_b.cx k)) rfl hc_b (Cx.refl _) _ h_r_) ?_
 rintro e_ w_ ⟨rfl, k_⟩
 have k_1 := k.call k_
 refine ⟨.b r_, rfl, ?_⟩
 refine WLs 1 [] (.n 4 (.b r_) .z) qe (by kernel_rfl) ?_
 refine WL_nil <| At_go <| W_ret ?_
 obtain rfl := Option.some.inj hm
 refine At_rt [.b r_] qe (by kernel_rfl) ?_
 exact ⟨rfl, k_1⟩

-- quern/quernlaw27.awake
theorem c_l27_awake {F O : Nat → Prop} {w : World} (k : Cx F O w w []) (r : Bool) (hm : m_l27_awake = some r) :
    Calls Try.prog 15 (vals []) w (fun e w' => e = .returned (SV.val (.b r)) ∧ Cx F O w w' []) := by
 unfold m_l27_awake at hm
 refine calls [] Try.func15 rfl (of_decide_eq_true (by kernel_rfl)) ?_
 refine W_seq <| W_q [] .a qe (by kernel_rfl) ?_
 refine At_go <| W_seq <| W_reg <| WL_op <| Op_mk yd_tf22 e8 [] 4 ([(97 : UInt8), (98 : UInt8), (99 : UInt8)] : List UInt8) [(0, .u8 97), (1, .u8 98), (2, .u8 99)] [.u8 97, .u8 98, .u8 99] (by kernel_rfl) (by kernel_rfl) (by kernel_rfl) k ?_
 intro A w_ k_
 refine WL_op <| Op_cb 5 [] 5 0 (by kernel_rfl) k_ rfl (by omega) ?_
 intro w_1 k_1
 refine WL_op ?_
 obtain ⟨r_, h_r_, hm⟩ := ob hm
 refine Op_call [] 6 _ yd_go10 (by kernel_rfl) (c_depot_Chunks (F := N0) (O := N0) _ _ _ _ (Ro.n0 (k_1.rd 0 rfl)) (k_1.len 0 rfl) (k_1.lec 0 rfl) (Cx.refl _) _ h_r_) ?_
 rintro e_ w_2 ⟨A1, _, c, hd, rfl, rfl, k_2⟩
 have k_3 := k_1.call k_2
 refine ⟨.tup [sl A1 r_.1.length c, I r_.2], rfl, ?_⟩
 have k_4 := k_3.sel (.s (.k .e))
 refine WLs 5 [] (.n 1 (sl A1 r_.1.length c) (.n 2 (I r_.2) .z)) qe (by kernel_rfl) ?_
 refine WL_nil <| At_go <| W_seq <| W_reg <| WLs 8 [] (.n 16 (.b ((decide (r_.2 = 0)) && (decide (((r_.1.length : Nat) : Int) = 1)))) (.k .z)) qe (by kernel_rfl) ?_
 refine WL_sp 16 ((decide (r_.2 = 0)) && (decide (((r_.1.length : Nat) : Int) = 1))) (.s .a) (by kernel_rfl) (fun hg => ?_) (fun hg => ?_)
 · rw [if_pos hg] at hm
   obtain ⟨b, h_b, hm⟩ := ob hm
   obtain ⟨A_b, c_b, hh, hle⟩ := k_4.at2 0 rfl h_b
   refine WLs 3 [16] (.n 19 (sl A_b b.length c_b) (.k .z)) (qJ (k_4.hd2 0 rfl) hh (k_4.hlen2 0 rfl) <| qC (sl A_b b.length c_b) (Rd.el (k := 0) (k_4.hd2 0 rfl) hh (Pt.ix1 A1 (0 : Int) 1) rfl) <| qe) (by kernel_rfl) ?_
   refine WL_op <| Op_mk yd_tf22 e8 [16] 20 ([(97 : UInt8), (98 : UInt8), (99 : UInt8)] : List UInt8) [(0, .u8 97), (1, .u8 98), (2, .u8 99)] [.u8 97, .u8 98, .u8 99] (by kernel_rfl) (by kernel_rfl) (by kernel_rfl) k_4 ?_
   intro A2 w_3 k_5
   refine WL_op ?_
   have k_6 := k_5.sel (.kk .e)
   refine Op_cb 5 [16] 21 1 (by kernel_rfl) k_6 rfl (by omega) ?_
   intro w_4 k_7
   refine WL_op ?_
   obtain ⟨r_1, h_r_1, hm⟩ := ob hm
   refine Op_call [16] 22 _ yd_go14 (by kernel_rfl) (c_l27_same (F := N0) (O := N0) _ _ _ _ _ _ _ _ (Ro.n0 (k_7.in2 0 rfl h_b hh)) rfl hle (Ro.n0 (k_7.rd 1 rfl)) (k_7.len 1 rfl) (k_7.lec 1 rfl) (Cx.refl _) _ h_r_1) ?_
   rintro e_ w_5 ⟨rfl, k_8⟩
   have k_9 := k_7.call k_8
   refine ⟨.b r_1, rfl, ?_⟩
   have k_10 := k_9.sel .z
   refine WLs 2 [16] (.n 0 (.b r_1) .z) qe (by kernel_rfl) ?_
   refine WL_nil <| At_go <| W_ret ?_
   obtain rfl := Option.some.inj hm
   refine At_rt [.b r_1] qe (by kernel_rfl) ?_
   exact ⟨rfl, k_10⟩
 · rw [if_neg (by rw [hg]; decide)] at hm
   refine WLs 8 [16] (.n 0 (.b false) .z) qe (by kernel_rfl) ?_
   refine WL_nil <| At_go <| W_ret ?_
   obtain rfl := Option.some.inj hm
   refine At_rt [.b false] qe (by kernel_rfl) ?_
   have k_11 := k_4.sel .z
   exact ⟨rfl, k_11⟩

-- quern/quernlaw27.lists
theorem c_l27_lists {F O : Nat → Prop} {w : World} (a_ : List (List UInt8)) (b : List (List UInt8)) (A_a_ : Option Addr) (n_a_ : Nat) (c_a_ : Nat) (hd_a_ : List Hd) (A_b : Option Addr) (n_b : Nat) (c_b : Nat) (hd_b : List Hd) (h_a_ : Ro2 F w e8 A_a_ hd_a_ a_) (hn_a_ : a_.length = n_a_) (hc_a_ : n_a_ ≤ c_a_) (h_b : Ro2 F w e8 A_b hd_b b) (hn_b : b.length = n_b) (hc_b : n_b ≤ c_b) (k : Cx F O w w []) (r : Bool) (hm : m_l27_lists a_ b = some r) :
    Calls Try.prog 12 (vals [sl A_a_ n_a_ c_a_, sl A_b n_b c_b]) w (fun e w' => e = .returned (SV.val (.b r)) ∧ Cx F O w w' []) := by
 unfold m_l27_lists at hm
 subst hn_a_
 subst hn_b
 refine calls [sl A_a_ a_.length c_a_, sl A_b b.length c_b] Try.func12 rfl (of_decide_eq_true (by kernel_rfl)) ?_
 refine W_seq <| W_q [] .a qe (by kernel_rfl) ?_
 refine At_go <| W_seq <| W_seq <| W_q [] (.n 10 (.b (decide (((a_.length : Nat) : Int) ≠ ((b.length : Nat) : Int)))) .a) qe (by kernel_rfl) ?_
 refine At_go <| W_condp (((a_.length : Nat) : Int) ≠ ((b.length : Nat) : Int)) (by kernel_rfl) (fun hc => ?_) (fun hc => ?_)
 · rw [if_pos hc] at hm
   refine W_seq <| W_q [] (.n 4 (.b false) .z) qe (by kernel_rfl) ?_
   refine At_go <| W_ret (At_tr ?_)
   obtain rfl := Option.some.inj hm
   refine At_rt [.b false] qe (by kernel_rfl) ?_
   exact ⟨rfl, k⟩
 rw [if_neg hc] at hm
 refine W_skip <| At_go <| W_seq <| W_seq <| W_q [] (.n 5 (I 0) (.s .a)) qe (by kernel_rfl) ?_
 refine At_go <| W_block <| W_lp (m_l27_lists_l0 a_ b) (fun s L wr => ∃ (i : Int), i = s ∧ L = [(0, sl A_a_ a_.length c_a_), (1, sl A_b b.length c_b), (5, I i)] ∧ Cx F O w wr []) (0 : Int) r hm ⟨(0 : Int), rfl, rfl, k⟩ (by kernel_rfl) ?_
 intro s0_ L_ w_ y0 hrel hstep hr0
 obtain ⟨i, rfl, rfl, k_⟩ := hrel
 have hm := hstep; simp only [m_l27_lists_l0] at hm
 clear hstep
 refine W_seq <| W_seq <| W_q [] (.n 14 (.b (decide (i < ((a_.length : Nat) : Int)))) .a) qe (by kernel_rfl) ?_
 refine At_go <| W_condp (i < ((a_.length : Nat) : Int)) (by kernel_rfl) (fun hc1 => ?_) (fun hc1 => ?_)
 · rw [if_pos hc1] at hm
   refine W_skip <| At_go <| W_seq <| W_block <| W_seq ?_
   have k_1 := k_.drew 1
   refine W_m yd_mixed (.q 0 1 (.q 1 1 (.q 2 1 (.q 3 0 (.q 4 1 (.q 5 1 (.q 6 1 (.q 7 0 (.op 8 (.q 9 1 .nil)))))))))) [8] k_1 (.c (.e) .l) (by kernel_rfl) (fun _ => ?_)
   obtain ⟨b1, h_b1, hm⟩ := ob hm
   obtain ⟨A_b1, c_b1, hh, hle, hro⟩ := h_a_.at h_b1
   refine MXq 3 1 [] (.n 19 (.v (.pointer (ixA A_a_ i 1))) (.s .a)) (fun x hx => qJ (h_a_.ro.cx hx) hh h_a_.len <| qe) (by kernel_rfl) (fun _ => ?_)
   refine MXq 1 0 [] (.n 20 (sl A_b1 b1.length c_b1) (.s .a)) (fun x hx => qC (sl A_b1 b1.length c_b1) (Rd.el (k := 0) (h_a_.ro.cx hx) hh (Pt.ix1 A_a_ i 1) rfl) <| qe) (by kernel_rfl) (fun _ => ?_)
   obtain ⟨b2, h_b2, hm⟩ := ob hm
   obtain ⟨A_b2, c_b2, hh1, hle1, hro1⟩ := h_b.at h_b2
   refine MXq 3 1 [] (.n 23 (.v (.pointer (ixA A_b i 1))) .a) (fun x hx => qJ (h_b.ro.cx hx) hh1 h_b.len <| qe) (by kernel_rfl) (fun _ => ?_)
   refine MXq 1 0 [] (.n 24 (sl A_b2 b2.length c_b2) (.s .a)) (fun x hx => qC (sl A_b2 b2.length c_b2) (Rd.el (k := 0) (h_b.ro.cx hx) hh1 (Pt.ix1 A_b i 1) rfl) <| qe) (by kernel_rfl) (fun _ => ?_)
   refine MX_op (by kernel_rfl) rfl ?_
   obtain ⟨r_, h_r_, hm⟩ := ob hm
   refine Op_call [] 25 _ yd_go14 (by kernel_rfl) (c_l27_same (F := N0) (O := N0) _ _ _ _ _ _ _ _ (Ro.n0 (hro.cx k_1)) rfl hle (Ro.n0 (hro1.cx k_1)) rfl hle1 (Cx.refl _) _ h_r_) ?_
   rintro e_ w_1 ⟨rfl, k_2⟩
   have k_3 := k_1.call k_2
   refine ⟨.b r_, rfl, ?_⟩
   refine ⟨k_3, fun _ => ?_⟩
   refine MXq 1 1 [] (.n 26 (.b (!r_)) (.sss .a)) (fun x hx => qe) (by kernel_rfl) (fun _ => ?_)
   refine MX_nil <| At_go <| W_cond (!r_) (by kernel_rfl) (fun hc2 => ?_) (fun hc2 => ?_)
   · rw [if_pos hc2] at hm
     refine W_seq <| W_q [] (.n 4 (.b false) .z) qe (by kernel_rfl) ?_
     refine At_go <| W_ret (At_ir (At_tr (At_tr (At_ir (At_tr ?_)))))
     have hm := exit_of hm hr0
     obtain rfl := Option.some.inj hm
     refine At_rt [.b false] qe (by kernel_rfl) ?_
     exact ⟨rfl, k_3⟩
   rw [if_neg (by rw [hc2]; decide)] at hm
   refine W_skip <| At_in <| At_go <| W_q [] (.n 5 (I (w64 (i + 1))) (.s (.kk .z))) qe (by kernel_rfl) ?_
   exact At_rd (w64 (i + 1)) (Option.some.inj hm).symm ⟨w64 (i + 1), rfl, rfl, k_3⟩ (by kernel_rfl)
 rw [if_neg hc1] at hm
 refine W_exit (At_te (At_te (At_ie ?_)))
 have hm := exit_of hm hr0
 refine At_go <| W_seq <| W_q [] (.n 4 (.b true) .z) qe (by kernel_rfl) ?_
 refine At_go <| W_ret ?_
 obtain rfl := Option.some.inj hm
 refine At_rt [.b true] qe (by kernel_rfl) ?_
 exact ⟨rfl, k_⟩

-- quern/quernlaw27.DepotJoins
theorem c_l27_DepotJoins {F O : Nat → Prop} {w : World} (data : List UInt8) (which : UInt8) (A_data : Option Addr) (n_data : Nat) (c_data : Nat) (h_data : Ro F w A_data (e8.all data)) (hn_data : data.length = n_data) (hc_data : n_data ≤ c_data) (k : Cx F O w w []) (r : Bool) (hm : m_l27_DepotJoins data which = some r) :
    Calls Try.prog 4 (vals [sl A_data n_data c_data, .u8 which]) w (fun e w' => e = .returned (SV.val (.b r)) ∧ Cx F O w w' []) := by
 unfold m_l27_DepotJoins at hm
 subst hn_data
 refine calls [sl A_data data.length c_data, .u8 which] Try.func4 rfl (of_decide_eq_true (by kernel_rfl)) ?_
 refine W_seq <| W_q [] .a qe (by kernel_rfl) ?_
 refine At_go <| W_seq <| W_seq <| W_reg <| WL_op ?_
 obtain ⟨r_, h_r_, hm⟩ := ob hm
 refine Op_call [] 15 _ yd_go15 (by kernel_rfl) (c_l27_awake (F := N0) (O := N0)  (Cx.refl _) _ h_r_) ?_
 rintro e_ w_ ⟨rfl, k_⟩
 have k_1 := k.call k_
 refine ⟨.b r_, rfl, ?_⟩
 refine WLs 1 [] (.n 16 (.b (!r_)) (.s .a)) qe (by kernel_rfl) ?_
 refine WL_nil <| At_go <| W_cond (!r_) (by kernel_rfl) (fun hc => ?_) (fun hc => ?_)
 · rw [if_pos hc] at hm
   refine W_seq <| W_q [] (.n 4 (.b false) .z) qe (by kernel_rfl) ?_
   refine At_go <| W_ret (At_tr ?_)
   obtain rfl := Option.some.inj hm
   refine At_rt [.b false] qe (by kernel_rfl) ?_
   exact ⟨rfl, k_1⟩
 rw [if_neg (by rw [hc]; decide)] at hm
 refine W_skip <| At_go <| W_seq <| W_reg <| WLs 1 [] (.n 18 (sl A_data data.length c_data) (.s .a)) qe (by kernel_rfl) ?_
 refine WL_op ?_
 obtain ⟨r_1, h_r_1, hm⟩ := ob hm
 refine Op_call [] 19 _ yd_go10 (by kernel_rfl) (c_depot_Chunks (F := N0) (O := N0) _ _ _ _ (Ro.n0 (h_data.cx k_1)) rfl hc_data (Cx.refl _) _ h_r_1) ?_
 rintro e_ w_1 ⟨A, _, c, hd, rfl, rfl, k_2⟩
 have k_3 := k_1.call k_2
 refine ⟨.tup [sl A r_1.1.length c, I r_1.2], rfl, ?_⟩
 refine WLs 5 [] (.n 5 (sl A r_1.1.length c) (.n 6 (I r_1.2) (.ss .a))) qe (by kernel_rfl) ?_
 refine WL_nil <| At_go <| W_seq <| W_seq <| W_q [] (.n 24 (.b (decide (1048576 < ((data.length : Nat) : Int)))) .a) qe (by kernel_rfl) ?_
 refine At_go <| W_condp (1048576 < ((data.length : Nat) : Int)) (by kernel_rfl) (fun hc1 => ?_) (fun hc1 => ?_)
 · rw [if_pos hc1] at hm
   refine W_seq <| W_q [] (.n 4 (.b ((decide (r_1.2 = 2)) && (decide (((r_1.1.length : Nat) : Int) = 0)))) .z) qe (by kernel_rfl) ?_
   refine At_go <| W_ret (At_tr ?_)
   obtain rfl := Option.some.inj hm
   refine At_rt [.b ((decide (r_1.2 = 2)) && (decide (((r_1.1.length : Nat) : Int) = 0)))] qe (by kernel_rfl) ?_
   have k_4 := k_3.sel .z
   exact ⟨rfl, k_4⟩
 rw [if_neg hc1] at hm
 refine W_skip <| At_go <| W_seq <| W_q [] (.n 7 (sl none 0 0) (.s .a)) qe (by kernel_rfl) ?_
 refine At_go <| W_seq <| W_seq <| W_q [] (.n 32 (sl A r_1.1.length c) (.n 33 (I ((r_1.1.length : Nat) : Int)) (.n 34 (I 0) .a))) qe (by kernel_rfl) ?_
 refine At_go <| W_block ?_
 have k_6 := k_3.nil e8
 refine W_lp (m_l27_DepotJoins_l0 data which r_1) (fun s L wr => ∃ (all : List UInt8) (x_0 : Int) (A1 : Option Addr) (n : Nat) (c1 : Nat), (all, x_0) = s ∧ L = [(0, sl A_data data.length c_data), (1, .u8 which), (5, sl A r_1.1.length c), (6, I r_1.2), (7, sl A1 n c1), (32, sl A r_1.1.length c), (33, I ((r_1.1.length : Nat) : Int)), (34, I x_0)] ∧ all.length = n ∧ Cx F O w wr [O2 e8 A r_1.1.length c hd r_1.1, Ow e8 A1 n c1 all]) (([] : List UInt8), (0 : Int)) r hm ⟨([] : List UInt8), (0 : Int), none, 0, 0, rfl, rfl, k_6.len 1 rfl, k_6⟩ (by kernel_rfl) ?_
 intro s0_ L_ w_2 y0 hrel hstep hr0
 obtain ⟨all, x_0, A1, _, c1, rfl, rfl, rfl, k_5⟩ := hrel
 have hm := hstep; simp only [m_l27_DepotJoins_l0] at hm
 clear hstep
 refine W_seq <| W_q [] (.n 35 (.b (decide (x_0 < ((r_1.1.length : Nat) : Int)))) .a) qe (by kernel_rfl) ?_
 refine At_go <| W_seq <| W_condp (x_0 < ((r_1.1.length : Nat) : Int)) (by kernel_rfl) (fun hc2 => ?_) (fun hc2 => ?_)
 · rw [if_pos hc2] at hm
   refine W_skip <| At_go <| W_seq <| W_block <| W_seq ?_
   obtain ⟨b, h_b, hm⟩ := ob hm
   obtain ⟨A_b, c_b, hh, hle⟩ := k_5.at2 0 rfl h_b
   refine W_q [] (.n 8 (I x_0) (.n 9 (sl A_b b.length c_b) (.s .a))) (qJ (k_5.hd2 0 rfl) hh (k_5.hlen2 0 rfl) <| qC (sl A_b b.length c_b) (Rd.el (k := 0) (k_5.hd2 0 rfl) hh (Pt.ix1 A x_0 1) rfl) <| qe) (by kernel_rfl) ?_
   refine At_go <| W_seq <| W_reg <| WLs 2 [] (.n 39 (sl A1 all.length c1) (.n 40 (sl A_b b.length c_b) .a)) qe (by kernel_rfl) ?_
   refine WL_op ?_
   obtain ⟨all1, h_all1, hm⟩ := ob hm
   obtain ⟨hz, hl⟩ := app_some h_all1
   refine Op_append (E := e8) (v := sl A_b b.length c_b) (ys := b) yd_tf22 [] 41 1 (by kernel_rfl) k_5 rfl (Src.sl (k_5.in2 0 rfl h_b hh) rfl (by rfl)) rfl (by have := k_5.len 1 rfl; have := hm; omega) ?_
   intro A2 c2 w_3 k_7
   rw [← hl] at k_7
   refine WLs 1 [] (.n 7 (sl A2 (all.length + b.length) c2) (.sss (.kkkk (.kk (.s .a))))) qe (by kernel_rfl) ?_
   refine WL_nil <| At_go <| W_seq <| W_q [] (.n 61 (.b (((decide (((b.length : Nat) : Int) < 1)) || (decide (1024 < ((b.length : Nat) : Int)))) || ((decide (x_0 < (w64 (((r_1.1.length : Nat) : Int) - 1)))) && (decide (((b.length : Nat) : Int) < 64))))) (.k (.ss .a))) qe (by kernel_rfl) ?_
   refine At_go <| W_cond (((decide (((b.length : Nat) : Int) < 1)) || (decide (1024 < ((b.length : Nat) : Int)))) || ((decide (x_0 < (w64 (((r_1.1.length : Nat) : Int) - 1)))) && (decide (((b.length : Nat) : Int) < 64)))) (by kernel_rfl) (fun hc3 => ?_) (fun hc3 => ?_)
   · rw [if_pos hc3] at hm
     refine W_seq <| W_q [] (.n 4 (.b false) .z) qe (by kernel_rfl) ?_
     refine At_go <| W_ret (At_ir (At_tr (At_tr (At_ir (At_tr ?_)))))
     have hm := exit_of hm hr0
     obtain rfl := Option.some.inj hm
     refine At_rt [.b false] qe (by kernel_rfl) ?_
     have k_8 := k_7.sel .z
     exact ⟨rfl, k_8⟩
   rw [if_neg (by rw [hc3]; decide)] at hm
   refine W_skip <| At_in <| At_go <| W_q [] (.n 34 (I (w64 (x_0 + 1))) (.s (.kkkk (.kkk .z)))) qe (by kernel_rfl) ?_
   exact At_rd (all1, w64 (x_0 + 1)) (Option.some.inj hm).symm ⟨all1, w64 (x_0 + 1), A2, all.length + b.length, c2, rfl, rfl, k_7.len 1 rfl, k_7⟩ (by kernel_rfl)
 rw [if_neg hc2] at hm
 refine W_exit (At_te (At_te (At_ie ?_)))
 have hm := exit_of hm hr0
 refine At_go <| W_seq <| W_seq <| W_reg <| WLs 3 [] (.n 65 (.b (decide (r_1.2 ≠ 0))) (.s (.kkk (.s (.k .z))))) qe (by kernel_rfl) ?_
 refine WL_sp 65 (decide (r_1.2 ≠ 0)) (.s .a) (by kernel_rfl) (fun hg => ?_) (fun hg => ?_)
 · rw [if_pos (of_decide_eq_true hg)] at hm
   refine WLs 5 [65] (.n 70 (.b true) (.s (.kkk .z))) qe (by kernel_rfl) ?_
   refine WL_nil <| At_go <| W_cond true (by kernel_rfl) (fun _ => ?_) (fun h => by cases h)
   refine W_seq <| W_q [] (.n 4 (.b false) .z) qe (by kernel_rfl) ?_
   refine At_go <| W_ret (At_tr ?_)
   obtain rfl := Option.some.inj hm
   refine At_rt [.b false] qe (by kernel_rfl) ?_
   have k_9 := k_5.sel .z
   exact ⟨rfl, k_9⟩
 · rw [if_neg (of_decide_eq_false hg)] at hm
   refine WLs 2 [65] (.n 66 (sl A1 all.length c1) (.n 67 (sl A_data data.length c_data) (.kkkk .z))) qe (by kernel_rfl) ?_
   refine WL_op ?_
   obtain ⟨r_2, h_r_2, hm⟩ := ob hm
   refine Op_call [65] 68 _ yd_go14 (by kernel_rfl) (c_l27_same (F := N0) (O := N0) _ _ _ _ _ _ _ _ (Ro.n0 (k_5.rd 1 rfl)) (k_5.len 1 rfl) (k_5.lec 1 rfl) (Ro.n0 (h_data.cx k_5)) rfl hc_data (Cx.refl _) _ h_r_2) ?_
   rintro e_ w_4 ⟨rfl, k_10⟩
   have k_11 := k_5.call k_10
   refine ⟨.b r_2, rfl, ?_⟩
   have k_12 := k_11.sel (.k .z)
   refine WLs 2 [65] (.n 70 (.b (!r_2)) (.ssss .a)) qe (by kernel_rfl) ?_
   refine WL_nil <| At_go <| W_cond (!r_2) (by kernel_rfl) (fun hc4 => ?_) (fun hc4 => ?_)
   · rw [if_pos hc4] at hm
     refine W_seq <| W_q [] (.n 4 (.b false) .z) qe (by kernel_rfl) ?_
     refine At_go <| W_ret (At_tr ?_)
     obtain rfl := Option.some.inj hm
     refine At_rt [.b false] qe (by kernel_rfl) ?_
     have k_13 := k_12.sel .z
     exact ⟨rfl, k_13⟩
   rw [if_neg (by rw [hc4]; decide)] at hm
   refine W_skip <| At_go <| W_seq <| W_seq <| W_q [] (.n 73 (.b (decide (((r_1.1.length : Nat) : Int) = 0))) (.s .a)) qe (by kernel_rfl) ?_
   refine At_go <| W_condp (((r_1.1.length : Nat) : Int) = 0) (by kernel_rfl) (fun hc5 => ?_) (fun hc5 => ?_)
   · rw [if_pos hc5] at hm
     refine W_seq <| W_q [] (.n 4 (.b (decide (((data.length : Nat) : Int) = 0))) .z) qe (by kernel_rfl) ?_
     refine At_go <| W_ret (At_tr ?_)
     obtain rfl := Option.some.inj hm
     refine At_rt [.b (decide (((data.length : Nat) : Int) = 0))] qe (by kernel_rfl) ?_
     have k_14 := k_12.sel .z
     exact ⟨rfl, k_14⟩
   rw [if_neg hc5] at hm
   refine W_skip <| At_go <| W_seq ?_
   obtain ⟨u, h_u, hm⟩ := ob hm
   refine W_q [] (.n 10 (I (Int.tmod (which.toNat : Int) ((r_1.1.length : Nat) : Int))) (.s (.k (.s .a)))) (qp (((r_1.1.length : Nat) : Int) ≠ 0) (need_some h_u) <| qe) (by kernel_rfl) ?_
   refine At_go <| W_seq <| W_q [] (.n 11 (I 0) .a) qe (by kernel_rfl) ?_
   refine At_go <| W_seq <| W_seq <| W_q [] (.n 12 (I 0) .a) qe (by kernel_rfl) ?_
   refine At_go <| W_block <| W_lp (m_l27_DepotJoins_l1 data which r_1) (fun s L wr => ∃ (from_ : Int) (i : Int), (from_, i) = s ∧ L = [(0, sl A_data data.length c_data), (5, sl A r_1.1.length c), (10, I (Int.tmod (which.toNat : Int) ((r_1.1.length : Nat) : Int))), (11, I from_), (12, I i)] ∧ Cx F O w wr [O2 e8 A r_1.1.length c hd r_1.1]) ((0 : Int), (0 : Int)) r hm ⟨(0 : Int), (0 : Int), rfl, rfl, k_12⟩ (by kernel_rfl) ?_
   intro s0_ L_ w_5 y0 hrel hstep hr0
   obtain ⟨from_, i, rfl, rfl, k_15⟩ := hrel
   have hm := hstep; simp only [m_l27_DepotJoins_l1] at hm
   clear hstep
   refine W_seq <| W_seq <| W_q [] (.n 84 (.b (decide (i < (Int.tmod (which.toNat : Int) ((r_1.1.length : Nat) : Int))))) .a) qe (by kernel_rfl) ?_
   refine At_go <| W_condp (i < (Int.tmod (which.toNat : Int) ((r_1.1.length : Nat) : Int))) (by kernel_rfl) (fun hc6 => ?_) (fun hc6 => ?_)
   · rw [if_pos hc6] at hm
     refine W_skip <| At_go <| W_seq <| W_block ?_
     obtain ⟨b1, h_b1, hm⟩ := ob hm
     obtain ⟨A_b1, c_b1, hh1, hle1⟩ := k_15.at2 0 rfl h_b1
     refine W_q [] (.n 11 (I (w64 (from_ + ((b1.length : Nat) : Int)))) (.s (.kkk (.s .a)))) (qJ (k_15.hd2 0 rfl) hh1 (k_15.hlen2 0 rfl) <| qC (sl A_b1 b1.length c_b1) (Rd.el (k := 0) (k_15.hd2 0 rfl) hh1 (Pt.ix1 A i 1) rfl) <| qe) (by kernel_rfl) ?_
     refine At_in <| At_go <| W_q [] (.n 12 (I (w64 (i + 1))) (.kkkk .z)) qe (by kernel_rfl) ?_
     exact At_rd (w64 (from_ + ((b1.length : Nat) : Int)), w64 (i + 1)) (Option.some.inj hm).symm ⟨w64 (from_ + ((b1.length : Nat) : Int)), w64 (i + 1), rfl, rfl, k_15⟩ (by kernel_rfl)
   rw [if_neg hc6] at hm
   refine W_exit (At_te (At_te (At_ie ?_)))
   have hm := exit_of hm hr0
   refine At_go <| W_seq <| W_reg ?_
   obtain ⟨b2, h_b2, hm⟩ := ob hm
   have hs := slc_some h_b2
   have hl1 := slc_len h_b2
   have hn : data.length = data.length := rfl
   have hc7 : data.length ≤ c_data := hc_data
   obtain ⟨A3, c3, e_, hc8, hA, hc9⟩ := slx A_data (Int.toNat from_) c_data 1 (data.length - Int.toNat from_) b2.length (by omega) (by omega)
   refine WLs 3 [] (.n 97 (sl A3 b2.length c3) (.ss (.kk .z))) (qp (0 ≤ from_ ∧ from_ ≤ ((data.length : Nat) : Int)) (by omega) <| qo (.v (.slice A3 b2.length c3)) <| qp (Value.slice (slA A_data (Int.toNat from_) c_data 1) (data.length - Int.toNat from_) (c_data - Int.toNat from_) = .slice A3 b2.length c3) e_ <| qe) (by kernel_rfl) ?_
   refine WL_op ?_
   obtain ⟨r_3, h_r_3, hm⟩ := ob hm
   refine Op_call [] 98 _ yd_go10 (by kernel_rfl) (c_depot_Chunks (F := N0) (O := N0) _ _ _ _ (Ro.n0 (Rd.cut (h_data.cx k_15) h_b2 rfl (by rfl) hA (by omega))) rfl hc8 (Cx.refl _) _ h_r_3) ?_
   rintro e_ w_6 ⟨A4, _, c4, hd1, rfl, rfl, k_16⟩
   have k_17 := k_15.call k_16
   refine ⟨.tup [sl A4 r_3.1.length c4, I r_3.2], rfl, ?_⟩
   refine WLs 5 [] (.n 13 (sl A4 r_3.1.length c4) (.n 14 (I r_3.2) (.ss .a))) qe (by kernel_rfl) ?_
   refine WL_nil <| At_go <| W_seq <| W_reg <| WLs 3 [] (.n 103 (.b (decide (r_3.2 = 0))) (.k (.s .a))) qe (by kernel_rfl) ?_
   refine WL_sp 103 (decide (r_3.2 = 0)) (.s .a) (by kernel_rfl) (fun hg1 => ?_) (fun hg1 => ?_)
   · rw [if_pos (of_decide_eq_true hg1)] at hm
     obtain ⟨b3, h_b3, hm⟩ := ob hm
     have hs1 := slc_some h_b3
     have hl2 := slc_len h_b3
     have hn1 : r_1.1.length = r_1.1.length := (k_17.len2 0 rfl)
     have hc10 : r_1.1.length ≤ c := (k_17.lec2 0 rfl)
     obtain ⟨A5, c5, e_1, hc11, hA1, hc12⟩ := slx A (Int.toNat (Int.tmod (which.toNat : Int) ((r_1.1.length : Nat) : Int))) c 1 (r_1.1.length - Int.toNat (Int.tmod (which.toNat : Int) ((r_1.1.length : Nat) : Int))) b3.length (by omega) (by omega)
     refine WLs 4 [103] (.n 104 (sl A4 r_3.1.length c4) (.n 107 (sl A5 b3.length c5) (.k .z))) (qp (0 ≤ Int.tmod (which.toNat : Int) ((r_1.1.length : Nat) : Int) ∧ Int.tmod (which.toNat : Int) ((r_1.1.length : Nat) : Int) ≤ ((r_1.1.length : Nat) : Int)) (by omega) <| qo (.v (.slice A5 b3.length c5)) <| qp (Value.slice (slA A (Int.toNat (Int.tmod (which.toNat : Int) ((r_1.1.length : Nat) : Int))) c 1) (r_1.1.length - Int.toNat (Int.tmod (which.toNat : Int) ((r_1.1.length : Nat) : Int))) (c - Int.toNat (Int.tmod (which.toNat : Int) ((r_1.1.length : Nat) : Int))) = .slice A5 b3.length c5) e_1 <| qe) (by kernel_rfl) ?_
     refine WL_op ?_
     obtain ⟨r_4, h_r_4, hm⟩ := ob hm
     refine Op_call [103] 108 _ yd_go12 (by kernel_rfl) (c_l27_lists (F := N0) (O := N0) _ _ _ _ _ _ _ _ _ _ (k_17.ro2 1 rfl) (k_17.len2 1 rfl) (k_17.lec2 1 rfl) (Ro2.cut (k_17.ro2 0 rfl) h_b3 rfl hA1 (by omega)) rfl hc11 (Cx.refl _) _ h_r_4) ?_
     rintro e_ w_7 ⟨rfl, k_18⟩
     have k_19 := k_17.call k_18
     refine ⟨.b r_4, rfl, ?_⟩
     have k_20 := k_19.sel .z
     refine WLs 2 [103] (.n 4 (.b r_4) .z) qe (by kernel_rfl) ?_
     refine WL_nil <| At_go <| W_ret ?_
     obtain rfl := Option.some.inj hm
     refine At_rt [.b r_4] qe (by kernel_rfl) ?_
     exact ⟨rfl, k_20⟩
   · rw [if_neg (of_decide_eq_false hg1)] at hm
     refine WLs 7 [103] (.n 4 (.b false) .z) qe (by kernel_rfl) ?_
     refine WL_nil <| At_go <| W_ret ?_
     obtain rfl := Option.some.inj hm
     refine At_rt [.b false] qe (by kernel_rfl) ?_
     have k_21 := k_17.sel .z
     exact ⟨rfl, k_21⟩
end Go.Sx
